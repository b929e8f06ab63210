/- Part 3 of the proof of TwiceMoved: what the functions compute as plain Lean functions, that the machine comes to just these answers, and that the answer is true; no conditions. -/
import Derived.Test.YtjjnfobeeflnhaaTwiceMovedZ0
import Derived.Test.YtjjnfobeeflnhaaTwiceMovedZ1
import Derived.Test.YtjjnfobeeflnhaaTwiceMovedZ2
set_option maxHeartbeats 8000000
set_option maxRecDepth 100000
namespace Go.Proofs.Ytjjnfobeeflnhaa.J
open Go.RowKit Go.Proofs.YtjjnfobeeflnhaaW.PrintWords Go.Proofs.YtjjnfobeeflnhaaW.PrintLast Go.Proofs.YtjjnfobeeflnhaaW.PrintMore
attribute [local go_sem] max2_int min2_int max_two min_two max_three min_three max_four min_four   -- for this text's walks alone
set_option linter.unusedVariables false
set_option linter.unusedSimpArgs false
def qfb.l0 : Nat → List Int → List Int → List (List Int) → List (List Int) → Int → Int → Int → Int → Int → Option ((List (List Int)) × Int)
 | 0, _, _, _, _, _, _, _, _, _ => none
 | k + 1, x2, x3, x14, x47, x48, x49, x484000, x484001, x484002 => if x49 < x48 then (if 0 ≤ x49 then (if x49 < (x47.length : Int) then (if x49 < (x3.length : Int) then ((poly_By.f k x484000 x2 (rd x3 x49)).bind fun t490 => ((poly_Minus.f k x484000 (rd_L3 x47 x49) t490).bind fun t493 => (if x49 < (x14.length : Int) then (qfb.l0 k x2 x3 (x14.set (x49 : Int).toNat t493) x47 x48 (wrap64 (x49 + 1)) x484000 x484001 x484002) else (none)))) else ((poly_By.f k x484000 x2 0).bind fun t497 => ((poly_Minus.f k x484000 (rd_L3 x47 x49) t497).bind fun t500 => (if x49 < (x14.length : Int) then (qfb.l0 k x2 x3 (x14.set (x49 : Int).toNat t500) x47 x48 (wrap64 (x49 + 1)) x484000 x484001 x484002) else (none))))) else (none)) else (none)) else (some (x14, 0))
def qfb.pre (k : Nat) (p t : Int) (l : List Int) (c : Option ((List (List Int)) × Int)) : Option ((List (List Int)) × Int) := if (l.length : Int) > wrap64 (t + 1) then some ([], 3) else (qjb.f k p l).bind fun e => if e = 0 then c else some ([], e)
def qfb.f (k : Nat) (a0_0 : Int) (a0_1 : Int) (a0_2 : Int) (l1 : List (List Int)) (l2 : List Int) (l3 : List Int) : Option ((List (List Int)) × Int) := (qgb.f k a0_0 a0_1 a0_2 l1).bind fun t484 => (if t484 = 0 then (qfb.pre k a0_0 a0_2 l2 (qfb.pre k a0_0 a0_2 l3 (if 0 ≤ (l1.length : Int) then (if ((l1.length : Int) : Int).toNat ≤ 11728124029610 then (qfb.l0 k l2 l3 (List.replicate ((l1.length : Int) : Int).toNat []) l1 (l1.length : Int) 0 a0_0 a0_1 a0_2) else (none)) else (none)))) else (some (([] : List (List Int)), t484)))
def qfb.T20 : Bool × List (List Nat × List Nat) := (true, [([], []), ([], []), ([], []), ([2], [2]), ([], []), ([], []), ([5], [5]), ([], []), ([], []), ([6, 7, 8], [6, 7, 8]), ([3, 4, 9, 9], [3, 4, 9]), ([0, 1, 0, 1, 2, 3, 4, 5, 6, 7, 8, 9, 10], [0, 1]), ([11, 10, 10, 0, 1, 2, 3, 4, 5, 6, 7, 8, 9, 10], [10, 11])])
def qfb.B20 : List Nat := [0, 0, 0, 4, 0, 0, 32, 0, 0, 480, 1020, 2047, 4095]
theorem qfb.tab20 : rtab .any (opsOf Try.f62 20) = qfb.T20 := by kernel_rfl
theorem qfb.bits20 : waitsOk qfb.T20.2 qfb.B20 = true := by kernel_rfl
theorem qfb.calls (k : Nat) (a0_0 : Int) (a0_1 : Int) (a0_2 : Int) (A1 : Option Addr) (c1 : Nat) (l1 : List (List Int)) (A2 : Option Addr) (c2 : Nat) (l2 : List Int) (A3 : Option Addr) (c3 : Nat) (l3 : List Int) (r1 : List (List Int)) (r2 : Int) (w : World) (hr1 : Kd.C (Kd.slice 22 (Kd.int .u64)) w A1 l1.length l1) (hc1 : l1.length ≤ c1) (hr2 : Kd.C (Kd.int .u64) w A2 l2.length l2) (hc2 : l2.length ≤ c2) (hr3 : Kd.C (Kd.int .u64) w A3 l3.length l3) (hc3 : l3.length ≤ c3) (h : qfb.f k a0_0 a0_1 a0_2 l1 l2 l3 = some (r1, r2)) :
  Calls Try.prog 62 #[.agg #[.int .u64 a0_0, .int .i64 a0_1, .int .i64 a0_2], .slice A1 l1.length c1, .slice A2 l2.length c2, .slice A3 l3.length c3] w fun e w' => ∃ v0_ : Value, e = .returned (.tuple #[v0_, .int .i64 r2]) ∧ Kd.N (Kd.slice 22 (Kd.int .u64)) 31 w' w.heap.size (fun k_ => (w.heap.size ≤ k_)) v0_ r1 ∧ Below w.heap.size w w' := by
 have hu24 := Try.underlying24
 have HR1 := Aside0.mk hr1
 have HC1 := Aside0.mk hc1
 clear hr1 hc1
 have HR2 := Aside0.mk hr2
 have HC2 := Aside0.mk hc2
 clear hr2 hc2
 have HR3 := Aside0.mk hr3
 have HC3 := Aside0.mk hc3
 clear hr3 hc3
 have HB := Aside0.mk (Below.refl w.heap.size w)
 have H : ((qgb.f k a0_0 a0_1 a0_2 l1).bind fun t484 => (if t484 = 0 then (qfb.pre k a0_0 a0_2 l2 (qfb.pre k a0_0 a0_2 l3 (if 0 ≤ (l1.length : Int) then (if ((l1.length : Int) : Int).toNat ≤ 11728124029610 then (qfb.l0 k l2 l3 (List.replicate ((l1.length : Int) : Int).toNat []) l1 (l1.length : Int) 0 a0_0 a0_1 a0_2) else (none)) else (none)))) else (some (([] : List (List Int)), t484)))) = some (r1, r2) := h
 clear h
 replace H := Option.bind_eq_some_iff.mp H
 obtain ⟨t484, A50, H⟩ := H
 try dsimp only at H
 have A5 := Aside0.mk A50
 clear A50
 by_cases c6 : t484 = 0
 ·rw [if_pos c6] at H
  have c6b0 : (t484 == 0) = true := beq_iff_eq.mpr c6
  have c6b1 : (t484 != 0) = false := bne_eq_false_iff_eq.mpr c6
  clear c6
  have HP := Aside0.mk H
  clear H
  go_enter Try.func62, Try.ntmps62
  go_wp2_with (first | ((with_reducible refine gate_dst (N := 4) rfl ?_); refine box_event ?hg (N := 4) ?hd (cs := #[.int .u64 a0_0, .int .i64 a0_1, .int .i64 a0_2]) (t := 24) ?hr ?_; (case hd => rfl); (case hg => rfl); (case hr => first | (go_simp; done) | (go_simp; rfl)); intro gb483 hg w9 hbox hb; have n0_ := Aside0.mk (qla (by with_reducible repeat first | exact HB.out | apply qca | apply qba | apply qda) hb); have n1_ := Aside0.mk (hbox); have n2_ := Aside0.mk ((by rw [hg]; exact (qka (by with_reducible repeat first | exact HB.out | apply qca | apply qba | apply qda)) : w.heap.size ≤ gb483)); have n3_ := Aside0.mk ((by rw [hg]; exact (qka (by with_reducible repeat first | exact HB.out | apply qca | apply qba | apply qda)) : w.heap.size ≤ gb483)); clear HB; have HB := n0_; have BK483 := n1_; have GW483 := n2_; have GE483 := n3_; clear n0_ n1_ n2_ n3_; clear hb hbox hg; have hcz10_0 : w9.cell? ⟨gb483, 0, none⟩ = some (.int .u64 a0_0) := (qfa BK483.out 0).trans rfl; have hcz10_1 : w9.cell? ⟨gb483, 1, none⟩ = some (.int .i64 a0_1) := (qfa BK483.out 1).trans rfl; have hcz10_2 : w9.cell? ⟨gb483, 2, none⟩ = some (.int .i64 a0_2) := (qfa BK483.out 2).trans rfl; have hfz10_0 := qga BK483.out 0; have hfz10_1 := qga BK483.out 1; have hfz10_2 := qga BK483.out 2) | ((with_reducible refine qoa (f := 36) rfl ?_); refine goesL_ (some 20) rfl rfl Try.func36 (by kernel_rfl) rfl #[.agg #[.int .u64 a0_0, .int .i64 a0_1, .int .i64 a0_2], .slice A1 l1.length c1] rfl (by (try simp only [qM1, qM2, qM3]); first | done | rfl) ?_; (with_reducible refine (qgb.calls k a0_0 a0_1 a0_2 _ _ l1 t484 _ ?side1 ?side2 A5.out).mono ?_); (case side1 => repeat (first | exact (Kd.C_below HR1.out HB.out) | (with_reducible first | refine Kd.C_alloc ?_ _ | refine Kd.C_drewN ?_ _ | refine Kd.C_drew ?_))); (case side2 => exact HC1.out); rintro e w11 ⟨rfl, hb⟩; refine ⟨_, rfl, ?_⟩; have n0_ := Aside0.mk (blk_below (g := gb483) (o := .cells #[.int .u64 a0_0, .int .i64 a0_1, .int .i64 a0_2] 24 (0, 0)) (by (with_reducible repeat first | refine qma ?_ _ | refine qpa ?_ | refine qna ?_ _); exact BK483.out) hb); have n1_ := Aside0.mk (qla (by with_reducible repeat first | exact HB.out | apply qca | apply qba | apply qda | refine qha ?_ GE483.out) hb); clear BK483; clear HB; have BK483 := n0_; have HB := n1_; clear n0_ n1_; (try clear hb); (try clear hb2); (try clear hk); (try clear hi)))
  go_loopw [27] (fun v27 w' => ∃ x : Int, v27 = .int .i64 x ∧ Aside0 ((x = 0 ∧ (qfb.pre k a0_0 a0_2 l2 (qfb.pre k a0_0 a0_2 l3 (if 0 ≤ (l1.length : Int) then (if ((l1.length : Int) : Int).toNat ≤ 11728124029610 then (qfb.l0 k l2 l3 (List.replicate ((l1.length : Int) : Int).toNat []) l1 (l1.length : Int) 0 a0_0 a0_1 a0_2) else (none)) else (none)))) = some (r1, r2)) ∨ (x = 1 ∧ (qfb.pre k a0_0 a0_2 l3 (if 0 ≤ (l1.length : Int) then (if ((l1.length : Int) : Int).toNat ≤ 11728124029610 then (qfb.l0 k l2 l3 (List.replicate ((l1.length : Int) : Int).toNat []) l1 (l1.length : Int) 0 a0_0 a0_1 a0_2) else (none)) else (none))) = some (r1, r2)) ∨ (x = 2 ∧ (if 0 ≤ (l1.length : Int) then (if ((l1.length : Int) : Int).toNat ≤ 11728124029610 then (qfb.l0 k l2 l3 (List.replicate ((l1.length : Int) : Int).toNat []) l1 (l1.length : Int) 0 a0_0 a0_1 a0_2) else (none)) else (none)) = some (r1, r2))) ∧ Aside0 (w'.heap[gb483]? = some (.cells #[.int .u64 a0_0, .int .i64 a0_1, .int .i64 a0_2] 24 (0, 0))) ∧ Aside0 (Below w.heap.size w w')) (fun v27 _ => (2 - intOf v27).toNat)
  case atStart => exact ⟨0, rfl, ⟨.inl ⟨rfl, HP.out⟩⟩, BK483, HB⟩
  case round =>
   clear HP; (try clear hcz10_0); (try clear hcz10_1); (try clear hcz10_2); (try clear hfz10_0); (try clear hfz10_1); (try clear hfz10_2)
   obtain ⟨x, rfl, HX, BK483, HB⟩ := hrel
   rcases HX.out with ⟨rfl, hx⟩ | ⟨rfl, hx⟩ | ⟨rfl, H⟩
   ·clear HX
    rw [qfb.pre] at hx
    have hcz_0 : wr.cell? ⟨gb483, 0, none⟩ = some (.int .u64 a0_0) := (qfa BK483.out 0).trans rfl
    have hcz_2 : wr.cell? ⟨gb483, 2, none⟩ = some (.int .i64 a0_2) := (qfa BK483.out 2).trans rfl
    have hix : ∀ w : World, (Instr.index 90 (.agg #[.slice A2 l2.length c2, .slice A3 l3.length c3]) (.int .i64 0)).run Try.prog w = .ok (.slice A2 l2.length c2) w := fun w => by kernel_rfl
    by_cases ho : (l2.length : Int) > wrap64 (a0_2 + 1)
    ·rw [if_pos ho] at hx
     have hob := decide_eq_true ho
     simp only [Option.some.injEq, Prod.mk.injEq] at hx
     obtain ⟨rfl, rfl⟩ := hx
     clear ho
     go_wp2
     go_ret2
     exact ⟨_, by first | rfl | (simp [errW_none, errW_some] <;> rfl) | (simp [*, errW_none, errW_some] <;> rfl), by exact Kd.N_nil _ _ _ _ _, by repeat (first | (with_reducible first | exact HB.out | apply qca | apply qba | apply qda) | exact HB.out)⟩
    ·rw [if_neg ho] at hx
     have hob := decide_eq_false ho
     clear ho
     replace hx := Option.bind_eq_some_iff.mp hx
     obtain ⟨e, he, hx⟩ := hx
     have HE := Aside0.mk he
     clear he
     by_cases h3 : e = 0
     ·subst h3
      rw [if_pos rfl] at hx
      have HX := Aside0.mk hx
      clear hx
      go_wp2_with (go_at_call 123; refine (qjb.calls k a0_0 _ _ l2 0 _ (by repeat (first | exact (Kd.C_below HR2.out HB.out) | (with_reducible refine Kd.C_drewN ?_ _) | (with_reducible refine Kd.C_drew ?_))) HC2.out HE.out).mono ?_; rintro e w' ⟨rfl, ⟨nd2, rfl⟩⟩)
      go_roundw
      case rel => exact ⟨1, by first | rfl | go_num, ⟨.inr (.inl ⟨rfl, HX.out⟩)⟩, ⟨by (with_reducible repeat first | refine qma ?_ _ | refine qpa ?_); exact BK483.out⟩, ⟨by repeat (first | (with_reducible first | exact HB.out | apply qba | apply qda) | exact HB.out)⟩⟩
      case measure => simp [intOf]
     ·rw [if_neg h3] at hx
      have hb : (e != 0) = true := bne_iff_ne.mpr h3
      simp only [Option.some.injEq, Prod.mk.injEq] at hx
      obtain ⟨rfl, rfl⟩ := hx
      clear h3
      go_wp2_with (go_at_call 123; refine (qjb.calls k a0_0 _ _ l2 e _ (by repeat (first | exact (Kd.C_below HR2.out HB.out) | (with_reducible refine Kd.C_drewN ?_ _) | (with_reducible refine Kd.C_drew ?_))) HC2.out HE.out).mono ?_; rintro e w' ⟨rfl, ⟨nd2, rfl⟩⟩)
      go_ret2
      exact ⟨_, by first | rfl | (simp [errW_none, errW_some] <;> rfl) | (simp [*, errW_none, errW_some] <;> rfl), by exact Kd.N_nil _ _ _ _ _, by repeat (first | (with_reducible first | exact HB.out | apply qca | apply qba | apply qda) | exact HB.out)⟩
   ·clear HX
    rw [qfb.pre] at hx
    have hcz_0 : wr.cell? ⟨gb483, 0, none⟩ = some (.int .u64 a0_0) := (qfa BK483.out 0).trans rfl
    have hcz_2 : wr.cell? ⟨gb483, 2, none⟩ = some (.int .i64 a0_2) := (qfa BK483.out 2).trans rfl
    have hix : ∀ w : World, (Instr.index 90 (.agg #[.slice A2 l2.length c2, .slice A3 l3.length c3]) (.int .i64 1)).run Try.prog w = .ok (.slice A3 l3.length c3) w := fun w => by kernel_rfl
    by_cases ho : (l3.length : Int) > wrap64 (a0_2 + 1)
    ·rw [if_pos ho] at hx
     have hob := decide_eq_true ho
     simp only [Option.some.injEq, Prod.mk.injEq] at hx
     obtain ⟨rfl, rfl⟩ := hx
     clear ho
     go_wp2
     go_ret2
     exact ⟨_, by first | rfl | (simp [errW_none, errW_some] <;> rfl) | (simp [*, errW_none, errW_some] <;> rfl), by exact Kd.N_nil _ _ _ _ _, by repeat (first | (with_reducible first | exact HB.out | apply qca | apply qba | apply qda) | exact HB.out)⟩
    ·rw [if_neg ho] at hx
     have hob := decide_eq_false ho
     clear ho
     replace hx := Option.bind_eq_some_iff.mp hx
     obtain ⟨e, he, hx⟩ := hx
     have HE := Aside0.mk he
     clear he
     by_cases h3 : e = 0
     ·subst h3
      rw [if_pos rfl] at hx
      have HX := Aside0.mk hx
      clear hx
      go_wp2_with (go_at_call 123; refine (qjb.calls k a0_0 _ _ l3 0 _ (by repeat (first | exact (Kd.C_below HR3.out HB.out) | (with_reducible refine Kd.C_drewN ?_ _) | (with_reducible refine Kd.C_drew ?_))) HC3.out HE.out).mono ?_; rintro e w' ⟨rfl, ⟨nd2, rfl⟩⟩)
      go_roundw
      case rel => exact ⟨2, by first | rfl | go_num, ⟨.inr (.inr ⟨rfl, HX.out⟩)⟩, ⟨by (with_reducible repeat first | refine qma ?_ _ | refine qpa ?_); exact BK483.out⟩, ⟨by repeat (first | (with_reducible first | exact HB.out | apply qba | apply qda) | exact HB.out)⟩⟩
      case measure => simp [intOf]
     ·rw [if_neg h3] at hx
      have hb : (e != 0) = true := bne_iff_ne.mpr h3
      simp only [Option.some.injEq, Prod.mk.injEq] at hx
      obtain ⟨rfl, rfl⟩ := hx
      clear h3
      go_wp2_with (go_at_call 123; refine (qjb.calls k a0_0 _ _ l3 e _ (by repeat (first | exact (Kd.C_below HR3.out HB.out) | (with_reducible refine Kd.C_drewN ?_ _) | (with_reducible refine Kd.C_drew ?_))) HC3.out HE.out).mono ?_; rintro e w' ⟨rfl, ⟨nd2, rfl⟩⟩)
      go_ret2
      exact ⟨_, by first | rfl | (simp [errW_none, errW_some] <;> rfl) | (simp [*, errW_none, errW_some] <;> rfl), by exact Kd.N_nil _ _ _ _ _, by repeat (first | (with_reducible first | exact HB.out | apply qca | apply qba | apply qda) | exact HB.out)⟩
   ·clear HX
    by_cases c7 : 0 ≤ (l1.length : Int)
    ·rw [if_pos c7] at H
     have c7b0 := eq_true c7
     have c7b1 : decide (0 ≤ (l1.length : Int)) = true := decide_eq_true c7
     clear c7
     by_cases c8 : ((l1.length : Int) : Int).toNat ≤ 11728124029610
     ·rw [if_pos c8] at H
      have c8b0 := eq_true c8
      have c8b1 : decide (((l1.length : Int) : Int).toNat ≤ 11728124029610) = true := decide_eq_true c8
      clear c8
      obtain ⟨y485, hy485⟩ : ∃ y_ : List (List Int), y_ = (List.replicate ((l1.length : Int) : Int).toNat []) := ⟨_, rfl⟩
      replace H : (qfb.l0 k l2 l3 y485 l1 (l1.length : Int) 0 a0_0 a0_1 a0_2) = some (r1, r2) := by first | (rw [hy485]; with_reducible exact H) | (have H2_ := (Option.bind_some _ _).symm.trans H; rw [hy485]; with_reducible exact H2_) | (have H2_ := (Option.bind_some _ _).symm.trans H; with_reducible exact H2_) | with_reducible exact H | (rw [hy485]; exact H) | exact H
      have Ny485 := Aside0.mk hy485
      clear hy485
      have H' := Aside0.mk H
      clear H
      go_wp2_with (first | ((with_reducible refine gate_dst (N := 46) rfl ?_); refine Kd.N_make (Kd.slice 22 (Kd.int .u64)) _ 31 rfl (N' := 46) rfl 25 _ _ rfl (l1.length : Int) rfl rfl Try.underlying25 (.slice none 0 0) 24 info31 rfl (by decide) (by omega) [] (ok := fun k_ => wr.heap.size ≤ k_) (okp := fun _ => False) (Kd.FK_slice_mk (Nat.le_refl _) (Kd.F_nil _ _ _)) (fun _ hk => hk.elim) (Nat.le_refl _) (of_decide_eq_true (by first | (with_reducible assumption) | assumption)) (Nat.le_trans (Nat.mul_le_mul_right _ (of_decide_eq_true (by first | (with_reducible assumption) | assumption) : (l1.length : Int).toNat ≤ 11728124029610)) (by omega)) (Below.refl _ _) (Nat.le_refl _) ?_; intro v486 w12 ho13 hb hg_ hnew_; clear hg_ hnew_; (first | rw [← Ny485.out] at ho13 | (simp only [Int.reduceToNat] at ho13; rw [← Ny485.out] at ho13)); have n0_ := Aside0.mk (Kd.N_lower (Kd.N_mono (ok' := fun k_ => (w.heap.size ≤ k_) ∧ k_ ≠ gb483) ho13 (fun k_ hk_ => ⟨(Nat.le_trans (qka (by with_reducible repeat first | exact HB.out | apply qca | apply qba | apply qda | refine qha ?_ GE483.out)) hk_), (Kd.freshB (g := gb483) (o := .cells #[.int .u64 a0_0, .int .i64 a0_1, .int .i64 a0_2] 24 (0, 0)) (by (with_reducible repeat first | refine qma ?_ _ | refine qpa ?_ | refine qna ?_ _); exact BK483.out) k_ hk_)⟩)) (qka (by with_reducible repeat first | exact HB.out | apply qca | apply qba | apply qda | refine qha ?_ GE483.out))); have n1_ := Aside0.mk (blk_below (g := gb483) (o := .cells #[.int .u64 a0_0, .int .i64 a0_1, .int .i64 a0_2] 24 (0, 0)) (by (with_reducible repeat first | refine qma ?_ _ | refine qpa ?_ | refine qna ?_ _); exact BK483.out) hb); have n2_ := Aside0.mk (qla (by with_reducible repeat first | exact HB.out | apply qca | apply qba | apply qda | refine qha ?_ GE483.out) hb); clear BK483; clear HB; have HO487 := n0_; have BK483 := n1_; have HB := n2_; clear n0_ n1_ n2_; clear hb ho13))
      go_loopg [49] k (fun kq v49 w' => ∃ (x14_1 : List (List Int)) (x49_1 : Int), v49 = .int .i64 x49_1 ∧ Aside0 (qfb.l0 kq l2 l3 x14_1 l1 (l1.length : Int) x49_1 a0_0 a0_1 a0_2 = some (r1, r2)) ∧ Aside0 (kq ≤ k) ∧ Aside0 (Kd.N (Kd.slice 22 (Kd.int .u64)) 31 w' w.heap.size (fun k_ => (w.heap.size ≤ k_) ∧ k_ ≠ gb483) v486 x14_1) ∧ Aside0 (w'.heap[gb483]? = some (.cells #[.int .u64 a0_0, .int .i64 a0_1, .int .i64 a0_2] 24 (0, 0))) ∧ Aside0 (Below w.heap.size w w'))
      case atStart => exact ⟨(y485), (0), (by first | rfl | (simp; done) | (simp [*]; done)), H', ⟨Nat.le_refl _⟩, ⟨by (with_reducible repeat first | apply Kd.N_alloc | apply Kd.N_drewN | apply Kd.N_drew); exact HO487.out⟩, ⟨by (with_reducible repeat first | refine qma ?_ _ | refine qpa ?_ | refine qna ?_ _); exact BK483.out⟩, ⟨by repeat (first | (with_reducible first | exact HB.out | apply qca | apply qba | apply qda | refine qha ?_ GE483.out) | exact HB.out)⟩⟩
      case round =>
       clear H'; (try clear c1); (try clear c2); (try clear p2); (try clear c3); (try clear c6); (try clear c6b0); (try clear c6b1); (try clear c7); (try clear c7b0); (try clear c7b1); (try clear c8); (try clear c8b0); (try clear c8b1); (try clear hcz10_0); (try clear hcz10_1); (try clear hcz10_2); (try clear hfz10_0); (try clear hfz10_1); (try clear hfz10_2)
       obtain ⟨x14_1, x49_1, rfl, HA, HK1, HO_14, BK483, HB⟩ := hrel
       cases gk with
       | zero => exact absurd HA.out (by simp [qfb.l0])
       | succ k1 =>
        have H := HA.out
        clear HA
        simp only [qfb.l0] at H
        by_cases c14 : x49_1 < (l1.length : Int)
        ·rw [if_pos c14] at H
         have c14b0 : decide (x49_1 < (l1.length : Int)) = true := decide_eq_true c14
         clear c14
         by_cases c15 : 0 ≤ x49_1
         ·rw [if_pos c15] at H
          have c15b0 : decide (0 ≤ x49_1) = true := decide_eq_true c15
          clear c15
          by_cases c16 : x49_1 < (l1.length : Int)
          ·rw [if_pos c16] at H
           have c16b0 : decide (x49_1 < (l1.length : Int)) = true := decide_eq_true c16
           clear c16
           by_cases c17 : x49_1 < (l3.length : Int)
           ·rw [if_pos c17] at H
            have c17b0 : decide (x49_1 < (l3.length : Int)) = true := decide_eq_true c17
            clear c17
            replace H := Option.bind_eq_some_iff.mp H
            obtain ⟨t490, A180, H⟩ := H
            try dsimp only at H
            have A18 := Aside0.mk A180
            clear A180
            replace H := Option.bind_eq_some_iff.mp H
            obtain ⟨t493, A190, H⟩ := H
            try dsimp only at H
            have A19 := Aside0.mk A190
            clear A190
            by_cases c20 : x49_1 < (x14_1.length : Int)
            ·rw [if_pos c20] at H
             have c20b0 : decide (x49_1 < (x14_1.length : Int)) = true := decide_eq_true c20
             clear c20
             obtain ⟨y496, hy496⟩ : ∃ y_ : List (List Int), y_ = (x14_1.set (x49_1 : Int).toNat t493) := ⟨_, rfl⟩
             replace H : (qfb.l0 k1 l2 l3 y496 l1 (l1.length : Int) (wrap64 (x49_1 + 1)) a0_0 a0_1 a0_2) = some (r1, r2) := by first | (rw [hy496]; with_reducible exact H) | (have H2_ := (Option.bind_some _ _).symm.trans H; rw [hy496]; with_reducible exact H2_) | (have H2_ := (Option.bind_some _ _).symm.trans H; with_reducible exact H2_) | with_reducible exact H | (rw [hy496]; exact H) | exact H
             have Ny496 := Aside0.mk hy496
             clear hy496
             have H' := Aside0.mk H
             clear H
             have p488 : 0 ≤ (x49_1 : Int) := of_decide_eq_true (by first | (with_reducible assumption) | assumption)
             have q488 : x49_1 < (l1.length : Int) := of_decide_eq_true (by first | (with_reducible assumption) | assumption)
             obtain ⟨ad488, A488_0, c488_0, e488, hx488_0, hl488_0, hi488_0⟩ := at_L3 HR1.out x49_1 p488 q488
             cases e488
             replace hx488_0 := (HB.out.cell (World.block_lt_of_cell? w _ hx488_0)).trans hx488_0
             have HR488_0 := Aside0.mk hi488_0
             have HC488_0 := Aside0.mk hl488_0
             clear hi488_0 hl488_0; replace p488 := eq_true p488; replace q488 := eq_true q488
             have p489 : 0 ≤ (x49_1 : Int) := of_decide_eq_true (by first | (with_reducible assumption) | assumption)
             have q489 : x49_1 < (l3.length : Int) := of_decide_eq_true (by first | (with_reducible assumption) | assumption)
             obtain ⟨ad489, e489, hx489_0⟩ := Kd.at_int HR3.out x49_1 p489 q489
             cases e489
             replace hx489_0 := (HB.out.cell (World.block_lt_of_cell? w _ hx489_0)).trans hx489_0
             replace p489 := eq_true p489; replace q489 := eq_true q489
             try go_wp2
             have n0_ := Aside0.mk (Kd.N_drew HO_14.out)
             have n1_ := Aside0.mk (qpa BK483.out)
             have n2_ := Aside0.mk (qda HB.out)
             clear HO_14 BK483 HB; have HO_14 := n0_; have BK483 := n1_; have HB := n2_; clear n0_ n1_ n2_
             refine start_ (n := 13) (S := fun w' => w'.cell? ⟨gb483, 0, none⟩ = some (.int .u64 a0_0) ∧ w'.cell? ⟨gb483, 1, none⟩ = some (.int .i64 a0_1) ∧ w'.cell? ⟨gb483, 2, none⟩ = some (.int .i64 a0_2)) (ds := [12]) #[false, false, false, false, false, false, false, false, false, false, false, false, false] (by kernel_rfl) rfl rfl ⟨(qfa BK483.out 0).trans rfl, (qfa BK483.out 1).trans rfl, (qfa BK483.out 2).trans rfl⟩ (fun hHeld => ?_); refine with_tabW qfb.tab20 qfb.bits20 (fun HT_ HW_ => ?_)
             generalize wr.drew = w22 at HO_14 BK483 HB hHeld ⊢
             refine pure_ (i := 0) (N := some 62) (v := ?_) (a' := ?_) #[true, false, false, false, false, false, false, false, false, false, false, false, false] rfl rfl (any_of HT_.out (by kernel_rfl)) (fun _ _ _ h => h) (Or.inl ⟨by rfl, ?_⟩) ?_ ?_
             rotate_left; (intro w'; go_simp; with_reducible rfl); rotate_left; (simp only [Act.put, qS1, qS2, qS3, i64_w, i32_w]; rfl)
             refine pure_ (i := 1) (N := some 63) (v := ?_) (a' := ?_) #[true, true, false, false, false, false, false, false, false, false, false, false, false] rfl rfl (any_of HT_.out (by kernel_rfl)) (fun _ _ _ h => h) (Or.inl ⟨by rfl, ?_⟩) ?_ ?_
             rotate_left; (intro w'; go_simp; with_reducible rfl); rotate_left; (simp only [Act.put, qS1, qS2, qS3, i64_w, i32_w]; rfl)
             refine pure_ (i := 2) (N := some 64) (v := ?_) (a' := ?_) #[true, true, true, false, false, false, false, false, false, false, false, false, false] rfl rfl (any_of HT_.out (by kernel_rfl)) (fun _ _ _ h => h) (Or.inl ⟨by rfl, ?_⟩) ?_ ?_
             rotate_left; (intro w'; go_simp; with_reducible rfl); rotate_left; (simp only [Act.put, qS1, qS2, qS3, i64_w, i32_w]; rfl)
             refine pure_ (i := 4) (N := some 66) (v := ?_) (a' := ?_) #[true, true, true, false, true, false, false, false, false, false, false, false, false] rfl rfl (any_of HT_.out (by kernel_rfl)) (fun _ _ _ h => h) (Or.inl ⟨by rfl, ?_⟩) ?_ ?_
             rotate_left; (intro w'; go_simp; with_reducible rfl); rotate_left; (simp only [Act.put, qS1, qS2, qS3, i64_w, i32_w]; rfl)
             refine pure_ (i := 5) (N := some 67) (v := ?_) (a' := ?_) #[true, true, true, false, true, true, false, false, false, false, false, false, false] rfl rfl (any_of HT_.out (by kernel_rfl)) (fun _ _ _ h => h) (Or.inl ⟨by rfl, ?_⟩) ?_ ?_
             rotate_left; (intro w'; go_simp; with_reducible rfl); rotate_left; (simp only [Act.put, qS1, qS2, qS3, i64_w, i32_w]; rfl)
             refine pure_ (i := 7) (N := some 69) (v := ?_) (a' := ?_) #[true, true, true, false, true, true, false, true, false, false, false, false, false] rfl rfl (any_of HT_.out (by kernel_rfl)) (fun _ _ _ h => h) (Or.inl ⟨by rfl, ?_⟩) ?_ ?_
             rotate_left; (intro w'; go_simp; with_reducible rfl); rotate_left; (simp only [Act.put, qS1, qS2, qS3, i64_w, i32_w]; rfl)
             refine pure_ (i := 8) (N := some 70) (v := ?_) (a' := ?_) #[true, true, true, false, true, true, false, true, true, false, false, false, false] rfl rfl (any_of HT_.out (by kernel_rfl)) (fun _ _ _ h => h) (Or.inl ⟨by rfl, ?_⟩) ?_ ?_
             rotate_left; (intro w'; go_simp; with_reducible rfl); rotate_left; (simp only [Act.put, qS1, qS2, qS3, i64_w, i32_w]; rfl)
             refine take_ (i := 3) (N := some 65) (v := ?_) (a' := ?_) #[true, true, true, true, true, true, false, true, true, false, false, false, false] rfl rfl (take_ofW HT_.out HW_.out (by kernel_rfl)) (fun _ _ _ h => h) (Or.inl ⟨by rfl, ?_⟩) hHeld ?_ ?_
             rotate_left; (rintro w' ⟨s0, s1, s2⟩; go_simp; with_reducible rfl); rotate_left; (simp only [Act.put, qS1, qS2, qS3, i64_w, i32_w]; rfl)
             refine take_ (i := 6) (N := some 68) (v := ?_) (a' := ?_) #[true, true, true, true, true, true, true, true, true, false, false, false, false] rfl rfl (take_ofW HT_.out HW_.out (by kernel_rfl)) (fun _ _ _ h => h) (Or.inl ⟨by rfl, ?_⟩) hHeld ?_ ?_
             rotate_left; (rintro w' ⟨s0, s1, s2⟩; go_simp; with_reducible rfl); rotate_left; (simp only [Act.put, qS1, qS2, qS3, i64_w, i32_w]; rfl)
             refine one_ (i := 9) (N := some 71) #[true, true, true, true, true, true, true, true, true, true, false, false, false] rfl rfl (one_of HT_.out (by kernel_rfl)) (by decide) (fun K hK => ?_)
             refine goes_ Try.func136 (by kernel_rfl) rfl #[.int .u64 a0_0, .slice A2 l2.length c2, .int .u64 (rd l3 x49_1)] (by rfl) rfl rfl (by (try simp only [qM1, qM2, qM3]); first | done | rfl | (simp only [List.length_drop, List.length_take]; rfl)) ?_
             with_reducible refine (poly_By.calls k1 a0_0 _ _ l2 (rd l3 x49_1) t490 _ ?side1 ?side2 A18.out).mono ?_
             (case side1 => repeat (first | exact (Kd.C_below HR2.out HB.out) | (with_reducible first | refine Kd.C_alloc ?_ _ | refine Kd.C_drewN ?_ _ | refine Kd.C_drew ?_)))
             (case side2 => exact HC2.out)
             rintro e w23 ⟨v491, rfl, ho0, hb⟩
             refine ⟨_, rfl, ?_⟩
             have n0_ := Aside0.mk (Kd.N_elder' (by (with_reducible repeat first | apply Kd.N_alloc | apply Kd.N_drewN | apply Kd.N_drew); exact HO_14.out) (Kd.R_base ho0) hb)
             have n1_ := Aside0.mk (Kd.R_lower (Kd.R_newM (M := fun k_ => (w.heap.size ≤ k_)) ho0 (qka (by with_reducible repeat first | exact HB.out | apply qca | apply qba | apply qda | refine qha ?_ GE483.out)) (fun k_ h_ => h_)) (qka (by with_reducible repeat first | exact HB.out | apply qca | apply qba | apply qda | refine qha ?_ GE483.out)))
             have n2_ := Aside0.mk (blk_below (g := gb483) (o := .cells #[.int .u64 a0_0, .int .i64 a0_1, .int .i64 a0_2] 24 (0, 0)) (by (with_reducible repeat first | refine qma ?_ _ | refine qpa ?_ | refine qna ?_ _); exact BK483.out) hb)
             have n3_ := Aside0.mk (qla (by with_reducible repeat first | exact HB.out | apply qca | apply qba | apply qda | refine qha ?_ GE483.out) hb)
             clear HO_14 BK483 HB; have HO_14 := n0_; have HO492 := n1_; have BK483 := n2_; have HB := n3_; clear n0_ n1_ n2_ n3_; (try clear hb); (try clear hb2); (try clear hk); (try clear hi); (try clear ho0)
             obtain ⟨Ao24, co24, eo24⟩ := Kd.R_slice HO492.out
             (first | subst eo24 | (injection eo24 with f1_ f2_ f3_; have f4_ := f1_.symm; have f5_ := f3_.symm; clear f1_ f2_ f3_; subst f4_; subst f5_))
             refine hK.out _ _ ⟨(qfa BK483.out 0).trans rfl, (qfa BK483.out 1).trans rfl, (qfa BK483.out 2).trans rfl⟩ (fun hHeld => ?_)
             clear hK K
             refine norm_ (a' := ?_) ?_ ?_
             rotate_left
             ·show Act.put _ (some 71) _ = _
              simp only [Act.put, qS1, qS2, qS3, i64_w, i32_w]
              rfl
             refine one_ (i := 10) (N := some 72) #[true, true, true, true, true, true, true, true, true, true, true, false, false] rfl rfl (one_of HT_.out (by kernel_rfl)) (by decide) (fun K hK => ?_)
             refine goes_ Try.func135 (by kernel_rfl) rfl #[.int .u64 a0_0, .slice A488_0 (rd_L3 l1 x49_1).length c488_0, .slice Ao24 t490.length co24] (by rfl) rfl rfl (by (try simp only [qM1, qM2, qM3]); first | done | rfl | (simp only [List.length_drop, List.length_take]; rfl)) ?_
             with_reducible refine (poly_Minus.calls k1 a0_0 _ _ (rd_L3 l1 x49_1) _ _ t490 t493 _ ?side1 ?side2 ?side3 ?side4 A19.out).mono ?_
             (case side1 => repeat (first | exact (Kd.C_below HR488_0.out HB.out) | (with_reducible first | refine Kd.C_alloc ?_ _ | refine Kd.C_drewN ?_ _ | refine Kd.C_drew ?_)))
             (case side2 => exact HC488_0.out)
             (case side3 => repeat (first | exact (Kd.R_reads' HO492.out).2.2 | (with_reducible first | refine Kd.C_alloc ?_ _ | refine Kd.C_drewN ?_ _ | refine Kd.C_drew ?_)))
             (case side4 => exact (Kd.R_reads' HO492.out).2.1)
             rintro e w25 ⟨v494, rfl, ho0, hb⟩
             refine ⟨_, rfl, ?_⟩
             have n0_ := Aside0.mk (Kd.N_elder' (by (with_reducible repeat first | apply Kd.N_alloc | apply Kd.N_drewN | apply Kd.N_drew); exact HO_14.out) (Kd.R_base ho0) hb)
             have n1_ := Aside0.mk (Kd.R_elder' (by (with_reducible repeat first | apply Kd.qja | apply Kd.qia | apply Kd.R_drew); exact HO492.out) (Kd.R_base ho0) hb)
             have n2_ := Aside0.mk (Kd.R_lower (Kd.R_new' (Kd.R_newM (M := fun k_ => (w.heap.size ≤ k_)) ho0 (qka (by with_reducible repeat first | exact HB.out | apply qca | apply qba | apply qda | refine qha ?_ GE483.out)) (fun k_ h_ => h_)) (Kd.R_lt (by (with_reducible repeat first | apply Kd.qja | apply Kd.qia | apply Kd.R_drew); exact HO492.out))) (qka (by with_reducible repeat first | exact HB.out | apply qca | apply qba | apply qda | refine qha ?_ GE483.out)))
             have n3_ := Aside0.mk (blk_below (g := gb483) (o := .cells #[.int .u64 a0_0, .int .i64 a0_1, .int .i64 a0_2] 24 (0, 0)) (by (with_reducible repeat first | refine qma ?_ _ | refine qpa ?_ | refine qna ?_ _); exact BK483.out) hb)
             have n4_ := Aside0.mk (qla (by with_reducible repeat first | exact HB.out | apply qca | apply qba | apply qda | refine qha ?_ GE483.out) hb)
             clear HO_14 HO492 BK483 HB; have HO_14 := n0_; have HO492 := n1_; have HO495 := n2_; have BK483 := n3_; have HB := n4_; clear n0_ n1_ n2_ n3_ n4_; (try clear hb); (try clear hb2); (try clear hk); (try clear hi); (try clear ho0)
             have p21 : 0 ≤ (x49_1 : Int) := of_decide_eq_true (by first | (with_reducible assumption) | assumption)
             have q21 : (x49_1 : Int) < ((x14_1.length : Int) : Int) := of_decide_eq_true (by first | (with_reducible assumption) | assumption)
             obtain ⟨go21, co21, eo21, gb21, gl21, cl21, HG21⟩ := Kd.N_form HO_14.out (by omega)
             (first | cases eo21 | (injection eo21 with ea_ en_ ec_; (first | subst ea_ | (injection ea_ with ea_; subst ea_)); subst ec_; clear en_))
             have GB21 := Aside0.mk gb21
             have GG21 := Aside0.mk HG21
             clear gb21 gl21 HG21
             obtain ⟨ce21, hcl21, hM21, hcc21, hfr21⟩ := Kd.N_elem HO_14.out [] (x49_1 : Int) p21 q21
             obtain ⟨ua21_0, uc21_0, rfl, ul21_0, ge21_0⟩ := Kd.FK_slice_open hM21
             have hx21_0 := hcc21 0 _ rfl
             have hf21_0 := hfr21 0
             (try simp only [show ((Kd.slice 22 (Kd.int .u64))).sz = 1 from rfl, Nat.mul_one, Nat.add_zero] at hx21_0)
             (try simp only [show ((Kd.slice 22 (Kd.int .u64))).sz = 1 from rfl, Nat.mul_one, Nat.add_zero] at hf21_0)
             clear hcl21 hcc21 hfr21 hM21; replace p21 := eq_true p21; replace q21 := eq_true q21
             obtain ⟨Ao_v494, co_v494, rfl⟩ := Kd.R_slice HO495.out
             have HX26 := Aside0.mk (show Kd.N (Kd.slice 22 (Kd.int .u64)) 31 _ w.heap.size (fun k_ => (w.heap.size ≤ k_) ∧ some k_ ≠ (.slice Ao24 t490.length co24 : Value).ownBlock ∧ some k_ ≠ (.slice Ao_v494 t493.length co_v494 : Value).ownBlock ∧ k_ ≠ gb483) (.slice (some ⟨go21, 0, none⟩) x14_1.length co21) x14_1 from (Kd.N_mono (HO_14.out) (fun k_ hk => ⟨hk.1.1.1, ⟨hk.1.2, ⟨hk.2, hk.1.1.2⟩⟩⟩)))
             replace HX26 := Aside0.mk (show Kd.N (Kd.slice 22 (Kd.int .u64)) 31 _ w.heap.size (fun k_ => (w.heap.size ≤ k_) ∧ some k_ ≠ (.slice Ao24 t490.length co24 : Value).ownBlock ∧ k_ ≠ gb483) (.slice (some ⟨go21, 0, none⟩) x14_1.length co21) x14_1 from Kd.N_mono HX26.out (fun k_ hk => ⟨hk.1, ⟨hk.2.1, hk.2.2.2⟩⟩))
             obtain ⟨ce26, hcl26, hM26, hcc26, hfr26⟩ := Kd.N_elem HX26.out [] (x49_1 : Int) (of_decide_eq_true (by first | (with_reducible assumption) | assumption)) (by have h_ : (x49_1 : Int) < ((x14_1.length : Int) : Int) := of_decide_eq_true (by first | (with_reducible assumption) | assumption); first | exact h_ | (have e_ := (Kd.N_reads' HO_14.out).1; omega) | simpa using h_)
             obtain ⟨ua26_0, uc26_0, rfl, ul26_0, ge26_0⟩ := Kd.FK_slice_open hM26
             have HP26 := (Kd.N_seg HX26.out (x49_1 : Int) (of_decide_eq_true (by first | (with_reducible assumption) | assumption)) (by have h_ : (x49_1 : Int) < ((x14_1.length : Int) : Int) := of_decide_eq_true (by first | (with_reducible assumption) | assumption); first | exact h_ | (have e_ := (Kd.N_reads' HO_14.out).1; omega) | simpa using h_) (seg := [.slice Ao_v494 t493.length co_v494]) (j := 0) hcl26 hcc26 (show 1 ≤ 1 from by decide) (x' := t493) (Kd.FK_slice_mk (Kd.R_reads' (Kd.R_mono (ok' := (fun k_ => ((fun k_ => (w.heap.size ≤ k_) ∧ some k_ ≠ (.slice Ao24 t490.length co24 : Value).ownBlock ∧ k_ ≠ gb483)) k_ ∧ k_ ≠ go21)) (Kd.R_types (Kd.R_apart' (HO495.out) (Kd.N_typed HO_14.out) (by decide)) BK483.out (by decide)) (by intro k_ hk; exact ⟨⟨hk.1.1.1.1, ⟨hk.1.1.2, hk.2⟩⟩, fun e_ => (hk.1.2) (by rw [e_]; rfl)⟩))).2.1 (Kd.R_F (Kd.R_mono (ok' := (fun k_ => ((fun k_ => (w.heap.size ≤ k_) ∧ some k_ ≠ (.slice Ao24 t490.length co24 : Value).ownBlock ∧ k_ ≠ gb483)) k_ ∧ k_ ≠ go21)) (Kd.R_types (Kd.R_apart' (HO495.out) (Kd.N_typed HO_14.out) (by decide)) BK483.out (by decide)) (by intro k_ hk; exact ⟨⟨hk.1.1.1.1, ⟨hk.1.1.2, hk.2⟩⟩, fun e_ => (hk.1.2) (by rw [e_]; rfl)⟩)))) (fun _ hk => hk)).1
             (try simp only [show ((Kd.slice 22 (Kd.int .u64))).sz = 1 from rfl, Nat.mul_one, Nat.add_zero] at HP26)
             rw [← Ny496.out] at HP26
             have HQ26 := Aside0.mk HP26
             clear hcl26 hcc26 hfr26 hM26 HP26
             refine hK.out _ _ ⟨(qfa BK483.out 0).trans rfl, (qfa BK483.out 1).trans rfl, (qfa BK483.out 2).trans rfl⟩ (fun hHeld => ?_)
             clear hK K
             refine norm_ (a' := ?_) ?_ ?_
             rotate_left
             ·show Act.put _ (some 72) _ = _
              simp only [Act.put, qS1, qS2, qS3, i64_w, i32_w]
              rfl
             refine pure_ (i := 11) (N := some 73) (v := ?_) (a' := ?_) #[true, true, true, true, true, true, true, true, true, true, true, true, false] rfl rfl (any_of HT_.out (by kernel_rfl)) (fun _ _ _ h => h) (Or.inl ⟨by rfl, ?_⟩) ?_ ?_
             rotate_left; (intro w'; go_simp; with_reducible rfl); rotate_left; (simp only [Act.put, qS1, qS2, qS3, i64_w, i32_w]; rfl)
             refine last_ (i := 12) (N := none) #[true, true, true, true, true, true, true, true, true, true, true, true, true] rfl rfl (one_of HT_.out (by kernel_rfl)) (by decide) (fun K hK => ?_)
             refine skip_ (w1 := ?_) (by rfl) rfl ?_ ?_
             rotate_left
             ·go_simp
              rfl
             refine hK.out _ _ ?_
             clear hK K
             refine done_ (done_of HT_.out (by kernel_rfl)) ?_
             try go_wp2
             go_roundg k1
             case measure => have := HK1.out; omega
             case rel => exact ⟨(y496), (wrap64 (x49_1 + 1)), (by first | rfl | (simp; done) | (simp [*]; done)), H', ⟨by have := HK1.out; omega⟩, ⟨by (with_reducible repeat first | apply Kd.N_alloc | apply Kd.N_drewN | apply Kd.N_drew); exact Kd.N_mono HQ26.out (fun _ hk => ⟨hk.1, hk.2.2⟩)⟩, ⟨by (with_reducible repeat first | refine qma ?_ _ | refine qpa ?_ | refine qna ?_ _); refine blk_far ?_ (by have h_ := Kd.N_away HO_14.out (fun _ hk => by first | exact hk.2.2 | exact hk.1.1.2 | exact hk.1.2); intro e_; exact h_ (by rw [e_]; rfl)) _; (with_reducible repeat first | refine qma ?_ _ | refine qpa ?_ | refine qna ?_ _); exact BK483.out⟩, ⟨by repeat (first | (with_reducible first | exact HB.out | apply qca | apply qba | apply qda | refine qha ?_ GB21.out | refine qha ?_ GE483.out) | exact HB.out)⟩⟩
            ·rw [if_neg c20] at H
             exact absurd H (by simp)
           ·rw [if_neg c17] at H
            have c17b0 : decide (x49_1 < (l3.length : Int)) = false := decide_eq_false c17
            clear c17
            replace H := Option.bind_eq_some_iff.mp H
            obtain ⟨t497, A270, H⟩ := H
            try dsimp only at H
            have A27 := Aside0.mk A270
            clear A270
            replace H := Option.bind_eq_some_iff.mp H
            obtain ⟨t500, A280, H⟩ := H
            try dsimp only at H
            have A28 := Aside0.mk A280
            clear A280
            by_cases c29 : x49_1 < (x14_1.length : Int)
            ·rw [if_pos c29] at H
             have c29b0 : decide (x49_1 < (x14_1.length : Int)) = true := decide_eq_true c29
             clear c29
             obtain ⟨y503, hy503⟩ : ∃ y_ : List (List Int), y_ = (x14_1.set (x49_1 : Int).toNat t500) := ⟨_, rfl⟩
             replace H : (qfb.l0 k1 l2 l3 y503 l1 (l1.length : Int) (wrap64 (x49_1 + 1)) a0_0 a0_1 a0_2) = some (r1, r2) := by first | (rw [hy503]; with_reducible exact H) | (have H2_ := (Option.bind_some _ _).symm.trans H; rw [hy503]; with_reducible exact H2_) | (have H2_ := (Option.bind_some _ _).symm.trans H; with_reducible exact H2_) | with_reducible exact H | (rw [hy503]; exact H) | exact H
             have Ny503 := Aside0.mk hy503
             clear hy503
             have H' := Aside0.mk H
             clear H
             have p488 : 0 ≤ (x49_1 : Int) := of_decide_eq_true (by first | (with_reducible assumption) | assumption)
             have q488 : x49_1 < (l1.length : Int) := of_decide_eq_true (by first | (with_reducible assumption) | assumption)
             obtain ⟨ad488, A488_0, c488_0, e488, hx488_0, hl488_0, hi488_0⟩ := at_L3 HR1.out x49_1 p488 q488
             cases e488
             replace hx488_0 := (HB.out.cell (World.block_lt_of_cell? w _ hx488_0)).trans hx488_0
             have HR488_0 := Aside0.mk hi488_0
             have HC488_0 := Aside0.mk hl488_0
             clear hi488_0 hl488_0; replace p488 := eq_true p488; replace q488 := eq_true q488
             try go_wp2
             have n0_ := Aside0.mk (Kd.N_drew HO_14.out)
             have n1_ := Aside0.mk (qpa BK483.out)
             have n2_ := Aside0.mk (qda HB.out)
             clear HO_14 BK483 HB; have HO_14 := n0_; have BK483 := n1_; have HB := n2_; clear n0_ n1_ n2_
             refine start_ (n := 13) (S := fun w' => w'.cell? ⟨gb483, 0, none⟩ = some (.int .u64 a0_0) ∧ w'.cell? ⟨gb483, 1, none⟩ = some (.int .i64 a0_1) ∧ w'.cell? ⟨gb483, 2, none⟩ = some (.int .i64 a0_2)) (ds := [12]) #[false, false, false, false, false, false, false, false, false, false, false, false, false] (by kernel_rfl) rfl rfl ⟨(qfa BK483.out 0).trans rfl, (qfa BK483.out 1).trans rfl, (qfa BK483.out 2).trans rfl⟩ (fun hHeld => ?_); refine with_tabW qfb.tab20 qfb.bits20 (fun HT_ HW_ => ?_)
             generalize wr.drew = w31 at HO_14 BK483 HB hHeld ⊢
             refine pure_ (i := 0) (N := some 62) (v := ?_) (a' := ?_) #[true, false, false, false, false, false, false, false, false, false, false, false, false] rfl rfl (any_of HT_.out (by kernel_rfl)) (fun _ _ _ h => h) (Or.inl ⟨by rfl, ?_⟩) ?_ ?_
             rotate_left; (intro w'; go_simp; with_reducible rfl); rotate_left; (simp only [Act.put, qS1, qS2, qS3, i64_w, i32_w]; rfl)
             refine pure_ (i := 1) (N := some 63) (v := ?_) (a' := ?_) #[true, true, false, false, false, false, false, false, false, false, false, false, false] rfl rfl (any_of HT_.out (by kernel_rfl)) (fun _ _ _ h => h) (Or.inl ⟨by rfl, ?_⟩) ?_ ?_
             rotate_left; (intro w'; go_simp; with_reducible rfl); rotate_left; (simp only [Act.put, qS1, qS2, qS3, i64_w, i32_w]; rfl)
             refine pure_ (i := 2) (N := some 64) (v := ?_) (a' := ?_) #[true, true, true, false, false, false, false, false, false, false, false, false, false] rfl rfl (any_of HT_.out (by kernel_rfl)) (fun _ _ _ h => h) (Or.inl ⟨by rfl, ?_⟩) ?_ ?_
             rotate_left; (intro w'; go_simp; with_reducible rfl); rotate_left; (simp only [Act.put, qS1, qS2, qS3, i64_w, i32_w]; rfl)
             refine pure_ (i := 4) (N := some 66) (v := ?_) (a' := ?_) #[true, true, true, false, true, false, false, false, false, false, false, false, false] rfl rfl (any_of HT_.out (by kernel_rfl)) (fun _ _ _ h => h) (Or.inl ⟨by rfl, ?_⟩) ?_ ?_
             rotate_left; (intro w'; go_simp; with_reducible rfl); rotate_left; (simp only [Act.put, qS1, qS2, qS3, i64_w, i32_w]; rfl)
             refine pure_ (i := 5) (N := some 67) (v := ?_) (a' := ?_) #[true, true, true, false, true, true, false, false, false, false, false, false, false] rfl rfl (any_of HT_.out (by kernel_rfl)) (fun _ _ _ h => h) (Or.inl ⟨by rfl, ?_⟩) ?_ ?_
             rotate_left; (intro w'; go_simp; with_reducible rfl); rotate_left; (simp only [Act.put, qS1, qS2, qS3, i64_w, i32_w]; rfl)
             refine pure_ (i := 7) (N := some 69) (v := ?_) (a' := ?_) #[true, true, true, false, true, true, false, true, false, false, false, false, false] rfl rfl (any_of HT_.out (by kernel_rfl)) (fun _ _ _ h => h) (Or.inl ⟨by rfl, ?_⟩) ?_ ?_
             rotate_left; (intro w'; go_simp; with_reducible rfl); rotate_left; (simp only [Act.put, qS1, qS2, qS3, i64_w, i32_w]; rfl)
             refine pure_ (i := 8) (N := some 70) (v := ?_) (a' := ?_) #[true, true, true, false, true, true, false, true, true, false, false, false, false] rfl rfl (any_of HT_.out (by kernel_rfl)) (fun _ _ _ h => h) (Or.inl ⟨by rfl, ?_⟩) ?_ ?_
             rotate_left; (intro w'; go_simp; with_reducible rfl); rotate_left; (simp only [Act.put, qS1, qS2, qS3, i64_w, i32_w]; rfl)
             refine take_ (i := 3) (N := some 65) (v := ?_) (a' := ?_) #[true, true, true, true, true, true, false, true, true, false, false, false, false] rfl rfl (take_ofW HT_.out HW_.out (by kernel_rfl)) (fun _ _ _ h => h) (Or.inl ⟨by rfl, ?_⟩) hHeld ?_ ?_
             rotate_left; (rintro w' ⟨s0, s1, s2⟩; go_simp; with_reducible rfl); rotate_left; (simp only [Act.put, qS1, qS2, qS3, i64_w, i32_w]; rfl)
             refine take_ (i := 6) (N := some 68) (v := ?_) (a' := ?_) #[true, true, true, true, true, true, true, true, true, false, false, false, false] rfl rfl (take_ofW HT_.out HW_.out (by kernel_rfl)) (fun _ _ _ h => h) (Or.inl ⟨by rfl, ?_⟩) hHeld ?_ ?_
             rotate_left; (rintro w' ⟨s0, s1, s2⟩; go_simp; with_reducible rfl); rotate_left; (simp only [Act.put, qS1, qS2, qS3, i64_w, i32_w]; rfl)
             refine one_ (i := 9) (N := some 71) #[true, true, true, true, true, true, true, true, true, true, false, false, false] rfl rfl (one_of HT_.out (by kernel_rfl)) (by decide) (fun K hK => ?_)
             refine goes_ Try.func136 (by kernel_rfl) rfl #[.int .u64 a0_0, .slice A2 l2.length c2, .int .u64 0] (by rfl) rfl rfl (by (try simp only [qM1, qM2, qM3]); first | done | rfl | (simp only [List.length_drop, List.length_take]; rfl)) ?_
             with_reducible refine (poly_By.calls k1 a0_0 _ _ l2 0 t497 _ ?side1 ?side2 A27.out).mono ?_
             (case side1 => repeat (first | exact (Kd.C_below HR2.out HB.out) | (with_reducible first | refine Kd.C_alloc ?_ _ | refine Kd.C_drewN ?_ _ | refine Kd.C_drew ?_)))
             (case side2 => exact HC2.out)
             rintro e w32 ⟨v498, rfl, ho0, hb⟩
             refine ⟨_, rfl, ?_⟩
             have n0_ := Aside0.mk (Kd.N_elder' (by (with_reducible repeat first | apply Kd.N_alloc | apply Kd.N_drewN | apply Kd.N_drew); exact HO_14.out) (Kd.R_base ho0) hb)
             have n1_ := Aside0.mk (Kd.R_lower (Kd.R_newM (M := fun k_ => (w.heap.size ≤ k_)) ho0 (qka (by with_reducible repeat first | exact HB.out | apply qca | apply qba | apply qda | refine qha ?_ GE483.out)) (fun k_ h_ => h_)) (qka (by with_reducible repeat first | exact HB.out | apply qca | apply qba | apply qda | refine qha ?_ GE483.out)))
             have n2_ := Aside0.mk (blk_below (g := gb483) (o := .cells #[.int .u64 a0_0, .int .i64 a0_1, .int .i64 a0_2] 24 (0, 0)) (by (with_reducible repeat first | refine qma ?_ _ | refine qpa ?_ | refine qna ?_ _); exact BK483.out) hb)
             have n3_ := Aside0.mk (qla (by with_reducible repeat first | exact HB.out | apply qca | apply qba | apply qda | refine qha ?_ GE483.out) hb)
             clear HO_14 BK483 HB; have HO_14 := n0_; have HO499 := n1_; have BK483 := n2_; have HB := n3_; clear n0_ n1_ n2_ n3_; (try clear hb); (try clear hb2); (try clear hk); (try clear hi); (try clear ho0)
             obtain ⟨Ao33, co33, eo33⟩ := Kd.R_slice HO499.out
             (first | subst eo33 | (injection eo33 with f1_ f2_ f3_; have f4_ := f1_.symm; have f5_ := f3_.symm; clear f1_ f2_ f3_; subst f4_; subst f5_))
             refine hK.out _ _ ⟨(qfa BK483.out 0).trans rfl, (qfa BK483.out 1).trans rfl, (qfa BK483.out 2).trans rfl⟩ (fun hHeld => ?_)
             clear hK K
             refine norm_ (a' := ?_) ?_ ?_
             rotate_left
             ·show Act.put _ (some 71) _ = _
              simp only [Act.put, qS1, qS2, qS3, i64_w, i32_w]
              rfl
             refine one_ (i := 10) (N := some 72) #[true, true, true, true, true, true, true, true, true, true, true, false, false] rfl rfl (one_of HT_.out (by kernel_rfl)) (by decide) (fun K hK => ?_)
             refine goes_ Try.func135 (by kernel_rfl) rfl #[.int .u64 a0_0, .slice A488_0 (rd_L3 l1 x49_1).length c488_0, .slice Ao33 t497.length co33] (by rfl) rfl rfl (by (try simp only [qM1, qM2, qM3]); first | done | rfl | (simp only [List.length_drop, List.length_take]; rfl)) ?_
             with_reducible refine (poly_Minus.calls k1 a0_0 _ _ (rd_L3 l1 x49_1) _ _ t497 t500 _ ?side1 ?side2 ?side3 ?side4 A28.out).mono ?_
             (case side1 => repeat (first | exact (Kd.C_below HR488_0.out HB.out) | (with_reducible first | refine Kd.C_alloc ?_ _ | refine Kd.C_drewN ?_ _ | refine Kd.C_drew ?_)))
             (case side2 => exact HC488_0.out)
             (case side3 => repeat (first | exact (Kd.R_reads' HO499.out).2.2 | (with_reducible first | refine Kd.C_alloc ?_ _ | refine Kd.C_drewN ?_ _ | refine Kd.C_drew ?_)))
             (case side4 => exact (Kd.R_reads' HO499.out).2.1)
             rintro e w34 ⟨v501, rfl, ho0, hb⟩
             refine ⟨_, rfl, ?_⟩
             have n0_ := Aside0.mk (Kd.N_elder' (by (with_reducible repeat first | apply Kd.N_alloc | apply Kd.N_drewN | apply Kd.N_drew); exact HO_14.out) (Kd.R_base ho0) hb)
             have n1_ := Aside0.mk (Kd.R_elder' (by (with_reducible repeat first | apply Kd.qja | apply Kd.qia | apply Kd.R_drew); exact HO499.out) (Kd.R_base ho0) hb)
             have n2_ := Aside0.mk (Kd.R_lower (Kd.R_new' (Kd.R_newM (M := fun k_ => (w.heap.size ≤ k_)) ho0 (qka (by with_reducible repeat first | exact HB.out | apply qca | apply qba | apply qda | refine qha ?_ GE483.out)) (fun k_ h_ => h_)) (Kd.R_lt (by (with_reducible repeat first | apply Kd.qja | apply Kd.qia | apply Kd.R_drew); exact HO499.out))) (qka (by with_reducible repeat first | exact HB.out | apply qca | apply qba | apply qda | refine qha ?_ GE483.out)))
             have n3_ := Aside0.mk (blk_below (g := gb483) (o := .cells #[.int .u64 a0_0, .int .i64 a0_1, .int .i64 a0_2] 24 (0, 0)) (by (with_reducible repeat first | refine qma ?_ _ | refine qpa ?_ | refine qna ?_ _); exact BK483.out) hb)
             have n4_ := Aside0.mk (qla (by with_reducible repeat first | exact HB.out | apply qca | apply qba | apply qda | refine qha ?_ GE483.out) hb)
             clear HO_14 HO499 BK483 HB; have HO_14 := n0_; have HO499 := n1_; have HO502 := n2_; have BK483 := n3_; have HB := n4_; clear n0_ n1_ n2_ n3_ n4_; (try clear hb); (try clear hb2); (try clear hk); (try clear hi); (try clear ho0)
             have p30 : 0 ≤ (x49_1 : Int) := of_decide_eq_true (by first | (with_reducible assumption) | assumption)
             have q30 : (x49_1 : Int) < ((x14_1.length : Int) : Int) := of_decide_eq_true (by first | (with_reducible assumption) | assumption)
             obtain ⟨go30, co30, eo30, gb30, gl30, cl30, HG30⟩ := Kd.N_form HO_14.out (by omega)
             (first | cases eo30 | (injection eo30 with ea_ en_ ec_; (first | subst ea_ | (injection ea_ with ea_; subst ea_)); subst ec_; clear en_))
             have GB30 := Aside0.mk gb30
             have GG30 := Aside0.mk HG30
             clear gb30 gl30 HG30
             obtain ⟨ce30, hcl30, hM30, hcc30, hfr30⟩ := Kd.N_elem HO_14.out [] (x49_1 : Int) p30 q30
             obtain ⟨ua30_0, uc30_0, rfl, ul30_0, ge30_0⟩ := Kd.FK_slice_open hM30
             have hx30_0 := hcc30 0 _ rfl
             have hf30_0 := hfr30 0
             (try simp only [show ((Kd.slice 22 (Kd.int .u64))).sz = 1 from rfl, Nat.mul_one, Nat.add_zero] at hx30_0)
             (try simp only [show ((Kd.slice 22 (Kd.int .u64))).sz = 1 from rfl, Nat.mul_one, Nat.add_zero] at hf30_0)
             clear hcl30 hcc30 hfr30 hM30; replace p30 := eq_true p30; replace q30 := eq_true q30
             obtain ⟨Ao_v501, co_v501, rfl⟩ := Kd.R_slice HO502.out
             have HX35 := Aside0.mk (show Kd.N (Kd.slice 22 (Kd.int .u64)) 31 _ w.heap.size (fun k_ => (w.heap.size ≤ k_) ∧ some k_ ≠ (.slice Ao33 t497.length co33 : Value).ownBlock ∧ some k_ ≠ (.slice Ao_v501 t500.length co_v501 : Value).ownBlock ∧ k_ ≠ gb483) (.slice (some ⟨go30, 0, none⟩) x14_1.length co30) x14_1 from (Kd.N_mono (HO_14.out) (fun k_ hk => ⟨hk.1.1.1, ⟨hk.1.2, ⟨hk.2, hk.1.1.2⟩⟩⟩)))
             replace HX35 := Aside0.mk (show Kd.N (Kd.slice 22 (Kd.int .u64)) 31 _ w.heap.size (fun k_ => (w.heap.size ≤ k_) ∧ some k_ ≠ (.slice Ao33 t497.length co33 : Value).ownBlock ∧ k_ ≠ gb483) (.slice (some ⟨go30, 0, none⟩) x14_1.length co30) x14_1 from Kd.N_mono HX35.out (fun k_ hk => ⟨hk.1, ⟨hk.2.1, hk.2.2.2⟩⟩))
             obtain ⟨ce35, hcl35, hM35, hcc35, hfr35⟩ := Kd.N_elem HX35.out [] (x49_1 : Int) (of_decide_eq_true (by first | (with_reducible assumption) | assumption)) (by have h_ : (x49_1 : Int) < ((x14_1.length : Int) : Int) := of_decide_eq_true (by first | (with_reducible assumption) | assumption); first | exact h_ | (have e_ := (Kd.N_reads' HO_14.out).1; omega) | simpa using h_)
             obtain ⟨ua35_0, uc35_0, rfl, ul35_0, ge35_0⟩ := Kd.FK_slice_open hM35
             have HP35 := (Kd.N_seg HX35.out (x49_1 : Int) (of_decide_eq_true (by first | (with_reducible assumption) | assumption)) (by have h_ : (x49_1 : Int) < ((x14_1.length : Int) : Int) := of_decide_eq_true (by first | (with_reducible assumption) | assumption); first | exact h_ | (have e_ := (Kd.N_reads' HO_14.out).1; omega) | simpa using h_) (seg := [.slice Ao_v501 t500.length co_v501]) (j := 0) hcl35 hcc35 (show 1 ≤ 1 from by decide) (x' := t500) (Kd.FK_slice_mk (Kd.R_reads' (Kd.R_mono (ok' := (fun k_ => ((fun k_ => (w.heap.size ≤ k_) ∧ some k_ ≠ (.slice Ao33 t497.length co33 : Value).ownBlock ∧ k_ ≠ gb483)) k_ ∧ k_ ≠ go30)) (Kd.R_types (Kd.R_apart' (HO502.out) (Kd.N_typed HO_14.out) (by decide)) BK483.out (by decide)) (by intro k_ hk; exact ⟨⟨hk.1.1.1.1, ⟨hk.1.1.2, hk.2⟩⟩, fun e_ => (hk.1.2) (by rw [e_]; rfl)⟩))).2.1 (Kd.R_F (Kd.R_mono (ok' := (fun k_ => ((fun k_ => (w.heap.size ≤ k_) ∧ some k_ ≠ (.slice Ao33 t497.length co33 : Value).ownBlock ∧ k_ ≠ gb483)) k_ ∧ k_ ≠ go30)) (Kd.R_types (Kd.R_apart' (HO502.out) (Kd.N_typed HO_14.out) (by decide)) BK483.out (by decide)) (by intro k_ hk; exact ⟨⟨hk.1.1.1.1, ⟨hk.1.1.2, hk.2⟩⟩, fun e_ => (hk.1.2) (by rw [e_]; rfl)⟩)))) (fun _ hk => hk)).1
             (try simp only [show ((Kd.slice 22 (Kd.int .u64))).sz = 1 from rfl, Nat.mul_one, Nat.add_zero] at HP35)
             rw [← Ny503.out] at HP35
             have HQ35 := Aside0.mk HP35
             clear hcl35 hcc35 hfr35 hM35 HP35
             refine hK.out _ _ ⟨(qfa BK483.out 0).trans rfl, (qfa BK483.out 1).trans rfl, (qfa BK483.out 2).trans rfl⟩ (fun hHeld => ?_)
             clear hK K
             refine norm_ (a' := ?_) ?_ ?_
             rotate_left
             ·show Act.put _ (some 72) _ = _
              simp only [Act.put, qS1, qS2, qS3, i64_w, i32_w]
              rfl
             refine pure_ (i := 11) (N := some 73) (v := ?_) (a' := ?_) #[true, true, true, true, true, true, true, true, true, true, true, true, false] rfl rfl (any_of HT_.out (by kernel_rfl)) (fun _ _ _ h => h) (Or.inl ⟨by rfl, ?_⟩) ?_ ?_
             rotate_left; (intro w'; go_simp; with_reducible rfl); rotate_left; (simp only [Act.put, qS1, qS2, qS3, i64_w, i32_w]; rfl)
             refine last_ (i := 12) (N := none) #[true, true, true, true, true, true, true, true, true, true, true, true, true] rfl rfl (one_of HT_.out (by kernel_rfl)) (by decide) (fun K hK => ?_)
             refine skip_ (w1 := ?_) (by rfl) rfl ?_ ?_
             rotate_left
             ·go_simp
              rfl
             refine hK.out _ _ ?_
             clear hK K
             refine done_ (done_of HT_.out (by kernel_rfl)) ?_
             try go_wp2
             go_roundg k1
             case measure => have := HK1.out; omega
             case rel => exact ⟨(y503), (wrap64 (x49_1 + 1)), (by first | rfl | (simp; done) | (simp [*]; done)), H', ⟨by have := HK1.out; omega⟩, ⟨by (with_reducible repeat first | apply Kd.N_alloc | apply Kd.N_drewN | apply Kd.N_drew); exact Kd.N_mono HQ35.out (fun _ hk => ⟨hk.1, hk.2.2⟩)⟩, ⟨by (with_reducible repeat first | refine qma ?_ _ | refine qpa ?_ | refine qna ?_ _); refine blk_far ?_ (by have h_ := Kd.N_away HO_14.out (fun _ hk => by first | exact hk.2.2 | exact hk.1.1.2 | exact hk.1.2); intro e_; exact h_ (by rw [e_]; rfl)) _; (with_reducible repeat first | refine qma ?_ _ | refine qpa ?_ | refine qna ?_ _); exact BK483.out⟩, ⟨by repeat (first | (with_reducible first | exact HB.out | apply qca | apply qba | apply qda | refine qha ?_ GB30.out | refine qha ?_ GE483.out) | exact HB.out)⟩⟩
            ·rw [if_neg c29] at H
             exact absurd H (by simp)
          ·rw [if_neg c16] at H
           exact absurd H (by simp)
         ·rw [if_neg c15] at H
          exact absurd H (by simp)
        ·rw [if_neg c14] at H
         have c14b0 : decide (x49_1 < (l1.length : Int)) = false := decide_eq_false c14
         clear c14
         simp only [Option.some.injEq, Prod.mk.injEq] at H
         obtain ⟨rfl, rfl⟩ := H
         go_wp2
         go_ret2
         exact ⟨_, by first | rfl | (simp [errW_none, errW_some] <;> rfl) | (simp [*, errW_none, errW_some] <;> rfl), by (with_reducible repeat first | apply Kd.N_alloc | apply Kd.N_drewN | apply Kd.N_drew); exact Kd.N_mono HO_14.out (fun _ hk => hk.1), by repeat (first | (with_reducible first | exact HB.out | apply qca | apply qba | apply qda | refine qha ?_ GE483.out) | exact HB.out)⟩
     ·rw [if_neg c8] at H
      exact absurd H (by simp)
    ·rw [if_neg c7] at H
     exact absurd H (by simp)
 ·rw [if_neg c6] at H
  have c6b0 : (t484 == 0) = false := beq_eq_false_iff_ne.mpr c6
  have c6b1 : (t484 != 0) = true := bne_iff_ne.mpr c6
  simp only [Option.some.injEq, Prod.mk.injEq] at H
  obtain ⟨rfl, rfl⟩ := H
  go_enter Try.func62, Try.ntmps62
  go_wp2_with (first | ((with_reducible refine gate_dst (N := 4) rfl ?_); refine box_event ?hg (N := 4) ?hd (cs := #[.int .u64 a0_0, .int .i64 a0_1, .int .i64 a0_2]) (t := 24) ?hr ?_; (case hd => rfl); (case hg => rfl); (case hr => first | (go_simp; done) | (go_simp; rfl)); intro gb483 hg w36 hbox hb; have n0_ := Aside0.mk (qla (by with_reducible repeat first | exact HB.out | apply qca | apply qba | apply qda) hb); have n1_ := Aside0.mk (hbox); have n2_ := Aside0.mk ((by rw [hg]; exact (qka (by with_reducible repeat first | exact HB.out | apply qca | apply qba | apply qda)) : w.heap.size ≤ gb483)); have n3_ := Aside0.mk ((by rw [hg]; exact (qka (by with_reducible repeat first | exact HB.out | apply qca | apply qba | apply qda)) : w.heap.size ≤ gb483)); clear HB; have HB := n0_; have BK483 := n1_; have GW483 := n2_; have GE483 := n3_; clear n0_ n1_ n2_ n3_; clear hb hbox hg; have hcz37_0 : w36.cell? ⟨gb483, 0, none⟩ = some (.int .u64 a0_0) := (qfa BK483.out 0).trans rfl; have hcz37_1 : w36.cell? ⟨gb483, 1, none⟩ = some (.int .i64 a0_1) := (qfa BK483.out 1).trans rfl; have hcz37_2 : w36.cell? ⟨gb483, 2, none⟩ = some (.int .i64 a0_2) := (qfa BK483.out 2).trans rfl; have hfz37_0 := qga BK483.out 0; have hfz37_1 := qga BK483.out 1; have hfz37_2 := qga BK483.out 2) | ((with_reducible refine qoa (f := 36) rfl ?_); refine goesL_ (some 20) rfl rfl Try.func36 (by kernel_rfl) rfl #[.agg #[.int .u64 a0_0, .int .i64 a0_1, .int .i64 a0_2], .slice A1 l1.length c1] rfl (by (try simp only [qM1, qM2, qM3]); first | done | rfl) ?_; (with_reducible refine (qgb.calls k a0_0 a0_1 a0_2 _ _ l1 t484 _ ?side1 ?side2 A5.out).mono ?_); (case side1 => repeat (first | exact (Kd.C_below HR1.out HB.out) | (with_reducible first | refine Kd.C_alloc ?_ _ | refine Kd.C_drewN ?_ _ | refine Kd.C_drew ?_))); (case side2 => exact HC1.out); rintro e w38 ⟨rfl, hb⟩; refine ⟨_, rfl, ?_⟩; have n0_ := Aside0.mk (blk_below (g := gb483) (o := .cells #[.int .u64 a0_0, .int .i64 a0_1, .int .i64 a0_2] 24 (0, 0)) (by (with_reducible repeat first | refine qma ?_ _ | refine qpa ?_ | refine qna ?_ _); exact BK483.out) hb); have n1_ := Aside0.mk (qla (by with_reducible repeat first | exact HB.out | apply qca | apply qba | apply qda | refine qha ?_ GE483.out) hb); clear BK483; clear HB; have BK483 := n0_; have HB := n1_; clear n0_ n1_; (try clear hb); (try clear hb2); (try clear hk); (try clear hi)))
  go_ret2
  exact ⟨_, by first | rfl | (simp [errW_none, errW_some] <;> rfl) | (simp [*, errW_none, errW_some] <;> rfl), by first | exact Kd.S_nil _ _ _ _ _ | exact Kd.N_nil _ _ _ _ _ | exact Kd.V_nil _ _ _ _ _ | exact Kd.Q_nil _ _ _ _ _ | exact Kd.R_nil _ _ _ _ _, by repeat (first | (with_reducible first | exact HB.out | apply qca | apply qba | apply qda | refine qha ?_ GE483.out) | exact HB.out)⟩
def qlb.l0 : Nat → Int → List Int → Int → Int → Int → Int → Int → Option (Int)
 | 0, _, _, _, _, _, _, _ => none
 | k + 1, x6, x19, x20, x21, x505000, x505001, x505002 => if x21 < x20 then (if 0 ≤ x21 then (if x21 < (x19.length : Int) then (if (rd x19 x21) ≤ x6 then (some 2) else (if (rd x19 x21) > x505001 then (some 2) else (qlb.l0 k (rd x19 x21) x19 x20 (wrap64 (x21 + 1)) x505000 x505001 x505002))) else (none)) else (none)) else (some 0)
def qlb.f (k : Nat) (a0_0 : Int) (a0_1 : Int) (a0_2 : Int) (l1 : List Int) : Option (Int) := (qvb.f k a0_0 a0_1 a0_2).bind fun t505 => (if t505 = 0 then (if (l1.length : Int) > a0_2 then (some 2) else (qlb.l0 k 0 l1 (l1.length : Int) 0 a0_0 a0_1 a0_2)) else (some t505))
theorem qlb.calls (k : Nat) (a0_0 : Int) (a0_1 : Int) (a0_2 : Int) (A1 : Option Addr) (c1 : Nat) (l1 : List Int) (r : Int) (w : World) (hr1 : Kd.C (Kd.int .i64) w A1 l1.length l1) (hc1 : l1.length ≤ c1) (h : qlb.f k a0_0 a0_1 a0_2 l1 = some r) :
  Calls Try.prog 65 #[.agg #[.int .u64 a0_0, .int .i64 a0_1, .int .i64 a0_2], .slice A1 l1.length c1] w fun e w' => e = .returned (.int .i64 r) ∧ Below w.heap.size w w' := by
 have hu24 := Try.underlying24
 have HR1 := Aside0.mk hr1
 have HC1 := Aside0.mk hc1
 clear hr1 hc1
 have HB := Aside0.mk (Below.refl w.heap.size w)
 have H : ((qvb.f k a0_0 a0_1 a0_2).bind fun t505 => (if t505 = 0 then (if (l1.length : Int) > a0_2 then (some 2) else (qlb.l0 k 0 l1 (l1.length : Int) 0 a0_0 a0_1 a0_2)) else (some t505))) = some r := h
 clear h
 replace H := Option.bind_eq_some_iff.mp H
 obtain ⟨t505, A30, H⟩ := H
 try dsimp only at H
 have A3 := Aside0.mk A30
 clear A30
 by_cases c4 : t505 = 0
 ·rw [if_pos c4] at H
  have c4b0 : (t505 == 0) = true := beq_iff_eq.mpr c4
  have c4b1 : (t505 != 0) = false := bne_eq_false_iff_eq.mpr c4
  clear c4
  by_cases c5 : (l1.length : Int) > a0_2
  ·rw [if_pos c5] at H
   have c5b0 : decide (a0_2 < (l1.length : Int)) = true := decide_eq_true c5
   clear c5
   obtain rfl := Option.some.inj H
   go_enter Try.func65, Try.ntmps65
   go_wp2_with (first | ((with_reducible refine gate_dst (N := 2) rfl ?_); refine box_event ?hg (N := 2) ?hd (cs := #[.int .u64 a0_0, .int .i64 a0_1, .int .i64 a0_2]) (t := 24) ?hr ?_; (case hd => rfl); (case hg => rfl); (case hr => first | (go_simp; done) | (go_simp; rfl)); intro gb504 hg w6 hbox hb; have n0_ := Aside0.mk (qla (by with_reducible repeat first | exact HB.out | apply qca | apply qba | apply qda) hb); have n1_ := Aside0.mk (hbox); have n2_ := Aside0.mk ((by rw [hg]; exact (qka (by with_reducible repeat first | exact HB.out | apply qca | apply qba | apply qda)) : w.heap.size ≤ gb504)); have n3_ := Aside0.mk ((by rw [hg]; exact (qka (by with_reducible repeat first | exact HB.out | apply qca | apply qba | apply qda)) : w.heap.size ≤ gb504)); clear HB; have HB := n0_; have BK504 := n1_; have GW504 := n2_; have GE504 := n3_; clear n0_ n1_ n2_ n3_; clear hb hbox hg; have hcz7_0 : w6.cell? ⟨gb504, 0, none⟩ = some (.int .u64 a0_0) := (qfa BK504.out 0).trans rfl; have hcz7_1 : w6.cell? ⟨gb504, 1, none⟩ = some (.int .i64 a0_1) := (qfa BK504.out 1).trans rfl; have hcz7_2 : w6.cell? ⟨gb504, 2, none⟩ = some (.int .i64 a0_2) := (qfa BK504.out 2).trans rfl; have hfz7_0 := qga BK504.out 0; have hfz7_1 := qga BK504.out 1; have hfz7_2 := qga BK504.out 2) | ((with_reducible refine qoa (f := 64) rfl ?_); refine goesL_ (some 10) rfl rfl Try.func64 (by kernel_rfl) rfl #[.agg #[.int .u64 a0_0, .int .i64 a0_1, .int .i64 a0_2]] rfl (by (try simp only [qM1, qM2, qM3]); first | done | rfl) ?_; (with_reducible refine (qvb.calls k a0_0 a0_1 a0_2 t505 _ A3.out).mono ?_); rintro e w8 ⟨rfl, hb⟩; refine ⟨_, rfl, ?_⟩; have n0_ := Aside0.mk (blk_below (g := gb504) (o := .cells #[.int .u64 a0_0, .int .i64 a0_1, .int .i64 a0_2] 24 (0, 0)) (by (with_reducible repeat first | refine qma ?_ _ | refine qpa ?_ | refine qna ?_ _); exact BK504.out) hb); have n1_ := Aside0.mk (qla (by with_reducible repeat first | exact HB.out | apply qca | apply qba | apply qda | refine qha ?_ GE504.out) hb); clear BK504; clear HB; have BK504 := n0_; have HB := n1_; clear n0_ n1_; (try clear hb); (try clear hb2); (try clear hk); (try clear hi); have hcz9_0 : w8.cell? ⟨gb504, 0, none⟩ = some (.int .u64 a0_0) := (qfa BK504.out 0).trans rfl; have hcz9_1 : w8.cell? ⟨gb504, 1, none⟩ = some (.int .i64 a0_1) := (qfa BK504.out 1).trans rfl; have hcz9_2 : w8.cell? ⟨gb504, 2, none⟩ = some (.int .i64 a0_2) := (qfa BK504.out 2).trans rfl; have hfz9_0 := qga BK504.out 0; have hfz9_1 := qga BK504.out 1; have hfz9_2 := qga BK504.out 2))
   go_ret
   exact ⟨by first | rfl | (simp [errW_none, errW_some] <;> rfl) | (simp [*, errW_none, errW_some] <;> rfl), by repeat (first | (with_reducible first | exact HB.out | apply qca | apply qba | apply qda | refine qha ?_ GE504.out) | exact HB.out)⟩
  ·rw [if_neg c5] at H
   have c5b0 : decide (a0_2 < (l1.length : Int)) = false := decide_eq_false c5
   clear c5
   have H' := Aside0.mk H
   clear H
   go_enter Try.func65, Try.ntmps65
   go_wp2_with (first | ((with_reducible refine gate_dst (N := 2) rfl ?_); refine box_event ?hg (N := 2) ?hd (cs := #[.int .u64 a0_0, .int .i64 a0_1, .int .i64 a0_2]) (t := 24) ?hr ?_; (case hd => rfl); (case hg => rfl); (case hr => first | (go_simp; done) | (go_simp; rfl)); intro gb504 hg w10 hbox hb; have n0_ := Aside0.mk (qla (by with_reducible repeat first | exact HB.out | apply qca | apply qba | apply qda) hb); have n1_ := Aside0.mk (hbox); have n2_ := Aside0.mk ((by rw [hg]; exact (qka (by with_reducible repeat first | exact HB.out | apply qca | apply qba | apply qda)) : w.heap.size ≤ gb504)); have n3_ := Aside0.mk ((by rw [hg]; exact (qka (by with_reducible repeat first | exact HB.out | apply qca | apply qba | apply qda)) : w.heap.size ≤ gb504)); clear HB; have HB := n0_; have BK504 := n1_; have GW504 := n2_; have GE504 := n3_; clear n0_ n1_ n2_ n3_; clear hb hbox hg; have hcz11_0 : w10.cell? ⟨gb504, 0, none⟩ = some (.int .u64 a0_0) := (qfa BK504.out 0).trans rfl; have hcz11_1 : w10.cell? ⟨gb504, 1, none⟩ = some (.int .i64 a0_1) := (qfa BK504.out 1).trans rfl; have hcz11_2 : w10.cell? ⟨gb504, 2, none⟩ = some (.int .i64 a0_2) := (qfa BK504.out 2).trans rfl; have hfz11_0 := qga BK504.out 0; have hfz11_1 := qga BK504.out 1; have hfz11_2 := qga BK504.out 2) | ((with_reducible refine qoa (f := 64) rfl ?_); refine goesL_ (some 10) rfl rfl Try.func64 (by kernel_rfl) rfl #[.agg #[.int .u64 a0_0, .int .i64 a0_1, .int .i64 a0_2]] rfl (by (try simp only [qM1, qM2, qM3]); first | done | rfl) ?_; (with_reducible refine (qvb.calls k a0_0 a0_1 a0_2 t505 _ A3.out).mono ?_); rintro e w12 ⟨rfl, hb⟩; refine ⟨_, rfl, ?_⟩; have n0_ := Aside0.mk (blk_below (g := gb504) (o := .cells #[.int .u64 a0_0, .int .i64 a0_1, .int .i64 a0_2] 24 (0, 0)) (by (with_reducible repeat first | refine qma ?_ _ | refine qpa ?_ | refine qna ?_ _); exact BK504.out) hb); have n1_ := Aside0.mk (qla (by with_reducible repeat first | exact HB.out | apply qca | apply qba | apply qda | refine qha ?_ GE504.out) hb); clear BK504; clear HB; have BK504 := n0_; have HB := n1_; clear n0_ n1_; (try clear hb); (try clear hb2); (try clear hk); (try clear hi); have hcz13_0 : w12.cell? ⟨gb504, 0, none⟩ = some (.int .u64 a0_0) := (qfa BK504.out 0).trans rfl; have hcz13_1 : w12.cell? ⟨gb504, 1, none⟩ = some (.int .i64 a0_1) := (qfa BK504.out 1).trans rfl; have hcz13_2 : w12.cell? ⟨gb504, 2, none⟩ = some (.int .i64 a0_2) := (qfa BK504.out 2).trans rfl; have hfz13_0 := qga BK504.out 0; have hfz13_1 := qga BK504.out 1; have hfz13_2 := qga BK504.out 2))
   go_loopg [6, 21] k (fun kq v6 v21 w' => ∃ (x6_1 : Int) (x21_1 : Int), v6 = .int .i64 x6_1 ∧ v21 = .int .i64 x21_1 ∧ Aside0 (qlb.l0 kq x6_1 l1 (l1.length : Int) x21_1 a0_0 a0_1 a0_2 = some r) ∧ Aside0 (kq ≤ k) ∧ Aside0 (w'.heap[gb504]? = some (.cells #[.int .u64 a0_0, .int .i64 a0_1, .int .i64 a0_2] 24 (0, 0))) ∧ Aside0 (Below w.heap.size w w'))
   case atStart => exact ⟨(0), (0), (by first | rfl | (simp; done) | (simp [*]; done)), (by first | rfl | (simp; done) | (simp [*]; done)), H', ⟨Nat.le_refl _⟩, ⟨by (with_reducible repeat first | refine qma ?_ _ | refine qpa ?_ | refine qna ?_ _); exact BK504.out⟩, ⟨by repeat (first | (with_reducible first | exact HB.out | apply qca | apply qba | apply qda | refine qha ?_ GE504.out) | exact HB.out)⟩⟩
   case round =>
    clear H'; (try clear c1); (try clear p2); (try clear c4); (try clear c4b0); (try clear c4b1); (try clear c5); (try clear c5b0); (try clear c6); (try clear hcz11_0); (try clear hcz11_1); (try clear hcz11_2); (try clear hcz13_0); (try clear hcz13_1); (try clear hcz13_2); (try clear hcz7_0); (try clear hcz7_1); (try clear hcz7_2); (try clear hcz9_0); (try clear hcz9_1); (try clear hcz9_2); (try clear hfz11_0); (try clear hfz11_1); (try clear hfz11_2); (try clear hfz13_0); (try clear hfz13_1); (try clear hfz13_2); (try clear hfz7_0); (try clear hfz7_1); (try clear hfz7_2); (try clear hfz9_0); (try clear hfz9_1); (try clear hfz9_2)
    obtain ⟨x6_1, x21_1, rfl, rfl, HA, HK1, BK504, HB⟩ := hrel
    cases gk with
    | zero => exact absurd HA.out (by simp [qlb.l0])
    | succ k1 =>
     have H := HA.out
     clear HA
     simp only [qlb.l0] at H
     by_cases c14 : x21_1 < (l1.length : Int)
     ·rw [if_pos c14] at H
      have c14b0 : decide (x21_1 < (l1.length : Int)) = true := decide_eq_true c14
      clear c14
      by_cases c15 : 0 ≤ x21_1
      ·rw [if_pos c15] at H
       have c15b0 : decide (0 ≤ x21_1) = true := decide_eq_true c15
       clear c15
       by_cases c16 : x21_1 < (l1.length : Int)
       ·rw [if_pos c16] at H
        have c16b0 : decide (x21_1 < (l1.length : Int)) = true := decide_eq_true c16
        clear c16
        by_cases c17 : (rd l1 x21_1) ≤ x6_1
        ·rw [if_pos c17] at H
         have c17b0 : decide ((rd l1 x21_1) ≤ x6_1) = true := decide_eq_true c17
         clear c17
         obtain rfl := Option.some.inj H
         have p506 : 0 ≤ (x21_1 : Int) := of_decide_eq_true (by first | (with_reducible assumption) | assumption)
         have q506 : x21_1 < (l1.length : Int) := of_decide_eq_true (by first | (with_reducible assumption) | assumption)
         obtain ⟨ad506, e506, hx506_0⟩ := Kd.at_int HR1.out x21_1 p506 q506
         cases e506
         replace hx506_0 := (HB.out.cell (World.block_lt_of_cell? w _ hx506_0)).trans hx506_0
         replace p506 := eq_true p506; replace q506 := eq_true q506
         go_wp2
         go_ret
         exact ⟨by first | rfl | (simp [errW_none, errW_some] <;> rfl) | (simp [*, errW_none, errW_some] <;> rfl), by repeat (first | (with_reducible first | exact HB.out | apply qca | apply qba | apply qda | refine qha ?_ GE504.out) | exact HB.out)⟩
        ·rw [if_neg c17] at H
         have c17b0 : decide ((rd l1 x21_1) ≤ x6_1) = false := decide_eq_false c17
         clear c17
         by_cases c18 : (rd l1 x21_1) > a0_1
         ·rw [if_pos c18] at H
          have c18b0 : decide (a0_1 < (rd l1 x21_1)) = true := decide_eq_true c18
          clear c18
          obtain rfl := Option.some.inj H
          have p506 : 0 ≤ (x21_1 : Int) := of_decide_eq_true (by first | (with_reducible assumption) | assumption)
          have q506 : x21_1 < (l1.length : Int) := of_decide_eq_true (by first | (with_reducible assumption) | assumption)
          obtain ⟨ad506, e506, hx506_0⟩ := Kd.at_int HR1.out x21_1 p506 q506
          cases e506
          replace hx506_0 := (HB.out.cell (World.block_lt_of_cell? w _ hx506_0)).trans hx506_0
          replace p506 := eq_true p506; replace q506 := eq_true q506
          have hcz19_0 : wr.cell? ⟨gb504, 0, none⟩ = some (.int .u64 a0_0) := (qfa BK504.out 0).trans rfl
          have hcz19_1 : wr.cell? ⟨gb504, 1, none⟩ = some (.int .i64 a0_1) := (qfa BK504.out 1).trans rfl
          have hcz19_2 : wr.cell? ⟨gb504, 2, none⟩ = some (.int .i64 a0_2) := (qfa BK504.out 2).trans rfl
          have hfz19_0 := qga BK504.out 0
          have hfz19_1 := qga BK504.out 1
          have hfz19_2 := qga BK504.out 2
          go_wp2
          go_ret
          exact ⟨by first | rfl | (simp [errW_none, errW_some] <;> rfl) | (simp [*, errW_none, errW_some] <;> rfl), by repeat (first | (with_reducible first | exact HB.out | apply qca | apply qba | apply qda | refine qha ?_ GE504.out) | exact HB.out)⟩
         ·rw [if_neg c18] at H
          have c18b0 : decide (a0_1 < (rd l1 x21_1)) = false := decide_eq_false c18
          clear c18
          have H' := Aside0.mk H
          clear H
          have p506 : 0 ≤ (x21_1 : Int) := of_decide_eq_true (by first | (with_reducible assumption) | assumption)
          have q506 : x21_1 < (l1.length : Int) := of_decide_eq_true (by first | (with_reducible assumption) | assumption)
          obtain ⟨ad506, e506, hx506_0⟩ := Kd.at_int HR1.out x21_1 p506 q506
          cases e506
          replace hx506_0 := (HB.out.cell (World.block_lt_of_cell? w _ hx506_0)).trans hx506_0
          replace p506 := eq_true p506; replace q506 := eq_true q506
          have hcz20_0 : wr.cell? ⟨gb504, 0, none⟩ = some (.int .u64 a0_0) := (qfa BK504.out 0).trans rfl
          have hcz20_1 : wr.cell? ⟨gb504, 1, none⟩ = some (.int .i64 a0_1) := (qfa BK504.out 1).trans rfl
          have hcz20_2 : wr.cell? ⟨gb504, 2, none⟩ = some (.int .i64 a0_2) := (qfa BK504.out 2).trans rfl
          have hfz20_0 := qga BK504.out 0
          have hfz20_1 := qga BK504.out 1
          have hfz20_2 := qga BK504.out 2
          go_wp2
          go_roundg k1
          case measure => have := HK1.out; omega
          case rel => exact ⟨(rd l1 x21_1), (wrap64 (x21_1 + 1)), (by first | rfl | (simp; done) | (simp [*]; done)), (by first | rfl | (simp; done) | (simp [*]; done)), H', ⟨by have := HK1.out; omega⟩, ⟨by (with_reducible repeat first | refine qma ?_ _ | refine qpa ?_ | refine qna ?_ _); exact BK504.out⟩, ⟨by repeat (first | (with_reducible first | exact HB.out | apply qca | apply qba | apply qda | refine qha ?_ GE504.out) | exact HB.out)⟩⟩
       ·rw [if_neg c16] at H
        exact absurd H (by simp)
      ·rw [if_neg c15] at H
       exact absurd H (by simp)
     ·rw [if_neg c14] at H
      have c14b0 : decide (x21_1 < (l1.length : Int)) = false := decide_eq_false c14
      clear c14
      obtain rfl := Option.some.inj H
      go_wp2
      go_ret
      exact ⟨by first | rfl | (simp [errW_none, errW_some] <;> rfl) | (simp [*, errW_none, errW_some] <;> rfl), by repeat (first | (with_reducible first | exact HB.out | apply qca | apply qba | apply qda | refine qha ?_ GE504.out) | exact HB.out)⟩
 ·rw [if_neg c4] at H
  have c4b0 : (t505 == 0) = false := beq_eq_false_iff_ne.mpr c4
  have c4b1 : (t505 != 0) = true := bne_iff_ne.mpr c4
  obtain rfl := Option.some.inj H
  go_enter Try.func65, Try.ntmps65
  go_wp2_with (first | ((with_reducible refine gate_dst (N := 2) rfl ?_); refine box_event ?hg (N := 2) ?hd (cs := #[.int .u64 a0_0, .int .i64 a0_1, .int .i64 a0_2]) (t := 24) ?hr ?_; (case hd => rfl); (case hg => rfl); (case hr => first | (go_simp; done) | (go_simp; rfl)); intro gb504 hg w21 hbox hb; have n0_ := Aside0.mk (qla (by with_reducible repeat first | exact HB.out | apply qca | apply qba | apply qda) hb); have n1_ := Aside0.mk (hbox); have n2_ := Aside0.mk ((by rw [hg]; exact (qka (by with_reducible repeat first | exact HB.out | apply qca | apply qba | apply qda)) : w.heap.size ≤ gb504)); have n3_ := Aside0.mk ((by rw [hg]; exact (qka (by with_reducible repeat first | exact HB.out | apply qca | apply qba | apply qda)) : w.heap.size ≤ gb504)); clear HB; have HB := n0_; have BK504 := n1_; have GW504 := n2_; have GE504 := n3_; clear n0_ n1_ n2_ n3_; clear hb hbox hg; have hcz22_0 : w21.cell? ⟨gb504, 0, none⟩ = some (.int .u64 a0_0) := (qfa BK504.out 0).trans rfl; have hcz22_1 : w21.cell? ⟨gb504, 1, none⟩ = some (.int .i64 a0_1) := (qfa BK504.out 1).trans rfl; have hcz22_2 : w21.cell? ⟨gb504, 2, none⟩ = some (.int .i64 a0_2) := (qfa BK504.out 2).trans rfl; have hfz22_0 := qga BK504.out 0; have hfz22_1 := qga BK504.out 1; have hfz22_2 := qga BK504.out 2) | ((with_reducible refine qoa (f := 64) rfl ?_); refine goesL_ (some 10) rfl rfl Try.func64 (by kernel_rfl) rfl #[.agg #[.int .u64 a0_0, .int .i64 a0_1, .int .i64 a0_2]] rfl (by (try simp only [qM1, qM2, qM3]); first | done | rfl) ?_; (with_reducible refine (qvb.calls k a0_0 a0_1 a0_2 t505 _ A3.out).mono ?_); rintro e w23 ⟨rfl, hb⟩; refine ⟨_, rfl, ?_⟩; have n0_ := Aside0.mk (blk_below (g := gb504) (o := .cells #[.int .u64 a0_0, .int .i64 a0_1, .int .i64 a0_2] 24 (0, 0)) (by (with_reducible repeat first | refine qma ?_ _ | refine qpa ?_ | refine qna ?_ _); exact BK504.out) hb); have n1_ := Aside0.mk (qla (by with_reducible repeat first | exact HB.out | apply qca | apply qba | apply qda | refine qha ?_ GE504.out) hb); clear BK504; clear HB; have BK504 := n0_; have HB := n1_; clear n0_ n1_; (try clear hb); (try clear hb2); (try clear hk); (try clear hi)))
  go_ret
  exact ⟨by first | rfl | (simp [errW_none, errW_some] <;> rfl) | (simp [*, errW_none, errW_some] <;> rfl), by repeat (first | (with_reducible first | exact HB.out | apply qca | apply qba | apply qda | refine qha ?_ GE504.out) | exact HB.out)⟩
def qeb.l0 : Nat → Int → List Int → List Int → Int → Int → Option (Bool)
 | 0, _, _, _, _, _ => none
 | k + 1, x0, x1, x7, x8, x9 => if x9 < x8 then (if 0 ≤ x9 then (if x9 < (x7.length : Int) then (if (rd x7 x9) < 1 then (some false) else (if (rd x7 x9) > x0 then (some false) else (if x9 > 0 then (if 0 ≤ (wrap64 (x9 - 1)) then (if (wrap64 (x9 - 1)) < (x1.length : Int) then (if (rd x1 (wrap64 (x9 - 1))) ≥ (rd x7 x9) then (some false) else (qeb.l0 k x0 x1 x7 x8 (wrap64 (x9 + 1)))) else (none)) else (none)) else (qeb.l0 k x0 x1 x7 x8 (wrap64 (x9 + 1)))))) else (none)) else (none)) else (some true)
def qeb.f (k : Nat) (a0 : Int) (l1 : List Int) : Option (Bool) := qeb.l0 k a0 l1 l1 (l1.length : Int) 0
theorem qeb.calls (k : Nat) (a0 : Int) (A1 : Option Addr) (c1 : Nat) (l1 : List Int) (r : Bool) (w : World) (hr1 : Kd.C (Kd.int .i64) w A1 l1.length l1) (hc1 : l1.length ≤ c1) (h : qeb.f k a0 l1 = some r) :
  Calls Try.prog 76 #[.int .i64 a0, .slice A1 l1.length c1] w fun e w' => e = .returned (.bool r) ∧ Drawn0 w w' := by
 have HR1 := Aside0.mk hr1
 have HC1 := Aside0.mk hc1
 clear hr1 hc1
 have H : (qeb.l0 k a0 l1 l1 (l1.length : Int) 0) = some r := h
 clear h
 have H' := Aside0.mk H
 clear H
 go_enter Try.func76, Try.ntmps76
 go_wp2
 go_loopg [9] k (fun kq v9 w' => ∃ (x9_1 : Int), v9 = .int .i64 x9_1 ∧ Aside0 (qeb.l0 kq a0 l1 l1 (l1.length : Int) x9_1 = some r) ∧ Aside0 (kq ≤ k) ∧ Drawn0 w w')
 case atStart => exact ⟨(0), (by first | rfl | (simp; done) | (simp [*]; done)), H', ⟨Nat.le_refl _⟩, by repeat (first | exact Drawn0.refl _ | apply Drawn0.step)⟩
 case round =>
  clear H'; (try clear c1); (try clear p2)
  obtain ⟨x9_1, rfl, HA, HK1, ⟨m1, rfl⟩⟩ := hrel
  cases gk with
  | zero => exact absurd HA.out (by simp [qeb.l0])
  | succ k1 =>
   have H := HA.out
   clear HA
   simp only [qeb.l0] at H
   by_cases c3 : x9_1 < (l1.length : Int)
   ·rw [if_pos c3] at H
    have c3b0 : decide (x9_1 < (l1.length : Int)) = true := decide_eq_true c3
    clear c3
    by_cases c4 : 0 ≤ x9_1
    ·rw [if_pos c4] at H
     have c4b0 : decide (0 ≤ x9_1) = true := decide_eq_true c4
     clear c4
     by_cases c5 : x9_1 < (l1.length : Int)
     ·rw [if_pos c5] at H
      have c5b0 : decide (x9_1 < (l1.length : Int)) = true := decide_eq_true c5
      clear c5
      by_cases c6 : (rd l1 x9_1) < 1
      ·rw [if_pos c6] at H
       have c6b0 : decide ((rd l1 x9_1) < 1) = true := decide_eq_true c6
       clear c6
       obtain rfl := Option.some.inj H
       have p507 : 0 ≤ (x9_1 : Int) := of_decide_eq_true (by first | (with_reducible assumption) | assumption)
       have q507 : x9_1 < (l1.length : Int) := of_decide_eq_true (by first | (with_reducible assumption) | assumption)
       obtain ⟨ad507, e507, hx507_0⟩ := Kd.at_int HR1.out x9_1 p507 q507
       cases e507
       replace p507 := eq_true p507; replace q507 := eq_true q507
       go_wp2
       go_ret
       exact ⟨by first | rfl | (simp; done) | (simp [*]; done), by repeat (first | exact Drawn0.refl _ | apply Drawn0.step)⟩
      ·rw [if_neg c6] at H
       have c6b0 : decide ((rd l1 x9_1) < 1) = false := decide_eq_false c6
       clear c6
       by_cases c7 : (rd l1 x9_1) > a0
       ·rw [if_pos c7] at H
        have c7b0 : decide (a0 < (rd l1 x9_1)) = true := decide_eq_true c7
        clear c7
        obtain rfl := Option.some.inj H
        have p507 : 0 ≤ (x9_1 : Int) := of_decide_eq_true (by first | (with_reducible assumption) | assumption)
        have q507 : x9_1 < (l1.length : Int) := of_decide_eq_true (by first | (with_reducible assumption) | assumption)
        obtain ⟨ad507, e507, hx507_0⟩ := Kd.at_int HR1.out x9_1 p507 q507
        cases e507
        replace p507 := eq_true p507; replace q507 := eq_true q507
        go_wp2
        go_ret
        exact ⟨by first | rfl | (simp; done) | (simp [*]; done), by repeat (first | exact Drawn0.refl _ | apply Drawn0.step)⟩
       ·rw [if_neg c7] at H
        have c7b0 : decide (a0 < (rd l1 x9_1)) = false := decide_eq_false c7
        clear c7
        by_cases c8 : x9_1 > 0
        ·rw [if_pos c8] at H
         have c8b0 : decide (0 < x9_1) = true := decide_eq_true c8
         clear c8
         obtain ⟨ji9, hji9⟩ : ∃ j_ : Int, (wrap64 (x9_1 - 1)) = j_ := ⟨_, rfl⟩
         replace H : (if 0 ≤ (ji9) then (if (ji9) < (l1.length : Int) then (if (rd l1 (ji9)) ≥ (rd l1 x9_1) then (some false) else (qeb.l0 k1 a0 l1 l1 (l1.length : Int) (wrap64 (x9_1 + 1)))) else (none)) else (none)) = some r := by first | (rw [hji9] at H; exact H) | (simp only [hji9] at H ⊢; exact H)
         have hji9w : (IntKind.i64.wrap (x9_1 - 1)) = ji9 := (i64_w _).trans hji9
         by_cases c10 : 0 ≤ (ji9)
         ·rw [if_pos c10] at H
          have c10b0 : decide (0 ≤ (ji9)) = true := decide_eq_true c10
          clear c10
          by_cases c11 : (ji9) < (l1.length : Int)
          ·rw [if_pos c11] at H
           have c11b0 : decide ((ji9) < (l1.length : Int)) = true := decide_eq_true c11
           clear c11
           by_cases c12 : (rd l1 (ji9)) ≥ (rd l1 x9_1)
           ·rw [if_pos c12] at H
            have c12b0 : decide ((rd l1 x9_1) ≤ (rd l1 (ji9))) = true := decide_eq_true c12
            clear c12
            obtain rfl := Option.some.inj H
            have p507 : 0 ≤ (x9_1 : Int) := of_decide_eq_true (by first | (with_reducible assumption) | assumption)
            have q507 : x9_1 < (l1.length : Int) := of_decide_eq_true (by first | (with_reducible assumption) | assumption)
            obtain ⟨ad507, e507, hx507_0⟩ := Kd.at_int HR1.out x9_1 p507 q507
            cases e507
            replace p507 := eq_true p507; replace q507 := eq_true q507
            have p508 : 0 ≤ ((ji9) : Int) := of_decide_eq_true (by first | (with_reducible assumption) | assumption)
            have q508 : (ji9) < (l1.length : Int) := of_decide_eq_true (by first | (with_reducible assumption) | assumption)
            obtain ⟨ad508, e508, hx508_0⟩ := Kd.at_int HR1.out (ji9) p508 q508
            obtain rfl : ad507 = ad508 := (by injection e508)
            replace p508 := eq_true p508; replace q508 := eq_true q508
            go_wp2
            go_ret
            exact ⟨by first | rfl | (simp; done) | (simp only [← hji9] <;> (first | rfl | simp)) | (simp [*]; done), by repeat (first | exact Drawn0.refl _ | apply Drawn0.step)⟩
           ·rw [if_neg c12] at H
            have c12b0 : decide ((rd l1 x9_1) ≤ (rd l1 (ji9))) = false := decide_eq_false c12
            clear c12
            have H' := Aside0.mk H
            clear H
            have p507 : 0 ≤ (x9_1 : Int) := of_decide_eq_true (by first | (with_reducible assumption) | assumption)
            have q507 : x9_1 < (l1.length : Int) := of_decide_eq_true (by first | (with_reducible assumption) | assumption)
            obtain ⟨ad507, e507, hx507_0⟩ := Kd.at_int HR1.out x9_1 p507 q507
            cases e507
            replace p507 := eq_true p507; replace q507 := eq_true q507
            have p508 : 0 ≤ ((ji9) : Int) := of_decide_eq_true (by first | (with_reducible assumption) | assumption)
            have q508 : (ji9) < (l1.length : Int) := of_decide_eq_true (by first | (with_reducible assumption) | assumption)
            obtain ⟨ad508, e508, hx508_0⟩ := Kd.at_int HR1.out (ji9) p508 q508
            obtain rfl : ad507 = ad508 := (by injection e508)
            replace p508 := eq_true p508; replace q508 := eq_true q508
            go_wp2
            go_roundg k1
            case measure => have := HK1.out; omega
            case rel => exact ⟨(wrap64 (x9_1 + 1)), (by first | rfl | (simp; done) | (simp [*]; done)), H', ⟨by have := HK1.out; omega⟩, by repeat (first | exact Drawn0.refl _ | apply Drawn0.step)⟩
          ·rw [if_neg c11] at H
           exact absurd H (by simp)
         ·rw [if_neg c10] at H
          exact absurd H (by simp)
        ·rw [if_neg c8] at H
         have c8b0 : decide (0 < x9_1) = false := decide_eq_false c8
         clear c8
         have H' := Aside0.mk H
         clear H
         have p507 : 0 ≤ (x9_1 : Int) := of_decide_eq_true (by first | (with_reducible assumption) | assumption)
         have q507 : x9_1 < (l1.length : Int) := of_decide_eq_true (by first | (with_reducible assumption) | assumption)
         obtain ⟨ad507, e507, hx507_0⟩ := Kd.at_int HR1.out x9_1 p507 q507
         cases e507
         replace p507 := eq_true p507; replace q507 := eq_true q507
         go_wp2
         go_roundg k1
         case measure => have := HK1.out; omega
         case rel => exact ⟨(wrap64 (x9_1 + 1)), (by first | rfl | (simp; done) | (simp [*]; done)), H', ⟨by have := HK1.out; omega⟩, by repeat (first | exact Drawn0.refl _ | apply Drawn0.step)⟩
     ·rw [if_neg c5] at H
      exact absurd H (by simp)
    ·rw [if_neg c4] at H
     exact absurd H (by simp)
   ·rw [if_neg c3] at H
    have c3b0 : decide (x9_1 < (l1.length : Int)) = false := decide_eq_false c3
    clear c3
    obtain rfl := Option.some.inj H
    go_wp2
    go_ret
    exact ⟨by first | rfl | (simp; done) | (simp [*]; done), by repeat (first | exact Drawn0.refl _ | apply Drawn0.step)⟩
def qtb.f (k : Nat) (a0_0 : Int) (a0_1 : Int) (a0_2 : Int) (l1 : List Int) : Option (Int) := (qxb.f k a0_0 a0_1 a0_2).bind fun t510 => (if t510 = 0 then (if (l1.length : Int) > a0_2 then (some 2) else ((qeb.f k a0_1 l1).bind fun t511 => (if t511 = true then (some 0) else (some 2)))) else (some t510))
theorem qtb.calls (k : Nat) (a0_0 : Int) (a0_1 : Int) (a0_2 : Int) (A1 : Option Addr) (c1 : Nat) (l1 : List Int) (r : Int) (w : World) (hr1 : Kd.C (Kd.int .i64) w A1 l1.length l1) (hc1 : l1.length ≤ c1) (h : qtb.f k a0_0 a0_1 a0_2 l1 = some r) :
  Calls Try.prog 66 #[.agg #[.int .u64 a0_0, .int .i64 a0_1, .int .i64 a0_2], .slice A1 l1.length c1] w fun e w' => e = .returned (.int .i64 r) ∧ Below w.heap.size w w' := by
 have hu24 := Try.underlying24
 have HR1 := Aside0.mk hr1
 have HC1 := Aside0.mk hc1
 clear hr1 hc1
 have HB := Aside0.mk (Below.refl w.heap.size w)
 have H : ((qxb.f k a0_0 a0_1 a0_2).bind fun t510 => (if t510 = 0 then (if (l1.length : Int) > a0_2 then (some 2) else ((qeb.f k a0_1 l1).bind fun t511 => (if t511 = true then (some 0) else (some 2)))) else (some t510))) = some r := h
 clear h
 replace H := Option.bind_eq_some_iff.mp H
 obtain ⟨t510, A30, H⟩ := H
 try dsimp only at H
 have A3 := Aside0.mk A30
 clear A30
 by_cases c4 : t510 = 0
 ·rw [if_pos c4] at H
  have c4b0 : (t510 == 0) = true := beq_iff_eq.mpr c4
  have c4b1 : (t510 != 0) = false := bne_eq_false_iff_eq.mpr c4
  clear c4
  by_cases c5 : (l1.length : Int) > a0_2
  ·rw [if_pos c5] at H
   have c5b0 : decide (a0_2 < (l1.length : Int)) = true := decide_eq_true c5
   clear c5
   obtain rfl := Option.some.inj H
   go_enter Try.func66, Try.ntmps66
   go_wp2_with (first | ((with_reducible refine gate_dst (N := 2) rfl ?_); refine box_event ?hg (N := 2) ?hd (cs := #[.int .u64 a0_0, .int .i64 a0_1, .int .i64 a0_2]) (t := 24) ?hr ?_; (case hd => rfl); (case hg => rfl); (case hr => first | (go_simp; done) | (go_simp; rfl)); intro gb509 hg w6 hbox hb; have n0_ := Aside0.mk (qla (by with_reducible repeat first | exact HB.out | apply qca | apply qba | apply qda) hb); have n1_ := Aside0.mk (hbox); have n2_ := Aside0.mk ((by rw [hg]; exact (qka (by with_reducible repeat first | exact HB.out | apply qca | apply qba | apply qda)) : w.heap.size ≤ gb509)); have n3_ := Aside0.mk ((by rw [hg]; exact (qka (by with_reducible repeat first | exact HB.out | apply qca | apply qba | apply qda)) : w.heap.size ≤ gb509)); clear HB; have HB := n0_; have BK509 := n1_; have GW509 := n2_; have GE509 := n3_; clear n0_ n1_ n2_ n3_; clear hb hbox hg; have hcz7_0 : w6.cell? ⟨gb509, 0, none⟩ = some (.int .u64 a0_0) := (qfa BK509.out 0).trans rfl; have hcz7_1 : w6.cell? ⟨gb509, 1, none⟩ = some (.int .i64 a0_1) := (qfa BK509.out 1).trans rfl; have hcz7_2 : w6.cell? ⟨gb509, 2, none⟩ = some (.int .i64 a0_2) := (qfa BK509.out 2).trans rfl; have hfz7_0 := qga BK509.out 0; have hfz7_1 := qga BK509.out 1; have hfz7_2 := qga BK509.out 2) | ((with_reducible refine qoa (f := 42) rfl ?_); refine goesL_ (some 7) rfl rfl Try.func42 (by kernel_rfl) rfl #[.agg #[.int .u64 a0_0, .int .i64 a0_1, .int .i64 a0_2]] rfl (by (try simp only [qM1, qM2, qM3]); first | done | rfl) ?_; (with_reducible refine (qxb.calls k a0_0 a0_1 a0_2 t510 _ A3.out).mono ?_); rintro e w8 ⟨rfl, hb⟩; refine ⟨_, rfl, ?_⟩; have n0_ := Aside0.mk (blk_below (g := gb509) (o := .cells #[.int .u64 a0_0, .int .i64 a0_1, .int .i64 a0_2] 24 (0, 0)) (by (with_reducible repeat first | refine qma ?_ _ | refine qpa ?_ | refine qna ?_ _); exact BK509.out) hb); have n1_ := Aside0.mk (qla (by with_reducible repeat first | exact HB.out | apply qca | apply qba | apply qda | refine qha ?_ GE509.out) hb); clear BK509; clear HB; have BK509 := n0_; have HB := n1_; clear n0_ n1_; (try clear hb); (try clear hb2); (try clear hk); (try clear hi); have hcz9_0 : w8.cell? ⟨gb509, 0, none⟩ = some (.int .u64 a0_0) := (qfa BK509.out 0).trans rfl; have hcz9_1 : w8.cell? ⟨gb509, 1, none⟩ = some (.int .i64 a0_1) := (qfa BK509.out 1).trans rfl; have hcz9_2 : w8.cell? ⟨gb509, 2, none⟩ = some (.int .i64 a0_2) := (qfa BK509.out 2).trans rfl; have hfz9_0 := qga BK509.out 0; have hfz9_1 := qga BK509.out 1; have hfz9_2 := qga BK509.out 2))
   go_ret
   exact ⟨by first | rfl | (simp [errW_none, errW_some] <;> rfl) | (simp [*, errW_none, errW_some] <;> rfl), by repeat (first | (with_reducible first | exact HB.out | apply qca | apply qba | apply qda | refine qha ?_ GE509.out) | exact HB.out)⟩
  ·rw [if_neg c5] at H
   have c5b0 : decide (a0_2 < (l1.length : Int)) = false := decide_eq_false c5
   clear c5
   replace H := Option.bind_eq_some_iff.mp H
   obtain ⟨t511, A100, H⟩ := H
   try dsimp only at H
   have A10 := Aside0.mk A100
   clear A100
   by_cases c11 : t511 = true
   ·subst c11
    have H1 : (some 0) = some r := by rw [if_pos rfl] at H; exact H
    clear H; have H := H1; clear H1
    obtain rfl := Option.some.inj H
    go_enter Try.func66, Try.ntmps66
    go_wp2_with (first | ((with_reducible refine gate_dst (N := 2) rfl ?_); refine box_event ?hg (N := 2) ?hd (cs := #[.int .u64 a0_0, .int .i64 a0_1, .int .i64 a0_2]) (t := 24) ?hr ?_; (case hd => rfl); (case hg => rfl); (case hr => first | (go_simp; done) | (go_simp; rfl)); intro gb509 hg w12 hbox hb; have n0_ := Aside0.mk (qla (by with_reducible repeat first | exact HB.out | apply qca | apply qba | apply qda) hb); have n1_ := Aside0.mk (hbox); have n2_ := Aside0.mk ((by rw [hg]; exact (qka (by with_reducible repeat first | exact HB.out | apply qca | apply qba | apply qda)) : w.heap.size ≤ gb509)); have n3_ := Aside0.mk ((by rw [hg]; exact (qka (by with_reducible repeat first | exact HB.out | apply qca | apply qba | apply qda)) : w.heap.size ≤ gb509)); clear HB; have HB := n0_; have BK509 := n1_; have GW509 := n2_; have GE509 := n3_; clear n0_ n1_ n2_ n3_; clear hb hbox hg; have hcz13_0 : w12.cell? ⟨gb509, 0, none⟩ = some (.int .u64 a0_0) := (qfa BK509.out 0).trans rfl; have hcz13_1 : w12.cell? ⟨gb509, 1, none⟩ = some (.int .i64 a0_1) := (qfa BK509.out 1).trans rfl; have hcz13_2 : w12.cell? ⟨gb509, 2, none⟩ = some (.int .i64 a0_2) := (qfa BK509.out 2).trans rfl; have hfz13_0 := qga BK509.out 0; have hfz13_1 := qga BK509.out 1; have hfz13_2 := qga BK509.out 2) | ((with_reducible refine qoa (f := 42) rfl ?_); refine goesL_ (some 7) rfl rfl Try.func42 (by kernel_rfl) rfl #[.agg #[.int .u64 a0_0, .int .i64 a0_1, .int .i64 a0_2]] rfl (by (try simp only [qM1, qM2, qM3]); first | done | rfl) ?_; (with_reducible refine (qxb.calls k a0_0 a0_1 a0_2 t510 _ A3.out).mono ?_); rintro e w14 ⟨rfl, hb⟩; refine ⟨_, rfl, ?_⟩; have n0_ := Aside0.mk (blk_below (g := gb509) (o := .cells #[.int .u64 a0_0, .int .i64 a0_1, .int .i64 a0_2] 24 (0, 0)) (by (with_reducible repeat first | refine qma ?_ _ | refine qpa ?_ | refine qna ?_ _); exact BK509.out) hb); have n1_ := Aside0.mk (qla (by with_reducible repeat first | exact HB.out | apply qca | apply qba | apply qda | refine qha ?_ GE509.out) hb); clear BK509; clear HB; have BK509 := n0_; have HB := n1_; clear n0_ n1_; (try clear hb); (try clear hb2); (try clear hk); (try clear hi); have hcz15_0 : w14.cell? ⟨gb509, 0, none⟩ = some (.int .u64 a0_0) := (qfa BK509.out 0).trans rfl; have hcz15_1 : w14.cell? ⟨gb509, 1, none⟩ = some (.int .i64 a0_1) := (qfa BK509.out 1).trans rfl; have hcz15_2 : w14.cell? ⟨gb509, 2, none⟩ = some (.int .i64 a0_2) := (qfa BK509.out 2).trans rfl; have hfz15_0 := qga BK509.out 0; have hfz15_1 := qga BK509.out 1; have hfz15_2 := qga BK509.out 2) | (go_at_call 76; (with_reducible refine (qeb.calls k a0_1 _ _ l1 true _ ?side1 ?side2 A10.out).mono ?_); (case side1 => repeat (first | exact (Kd.C_below HR1.out HB.out) | (with_reducible first | refine Kd.C_alloc ?_ _ | refine Kd.C_drewN ?_ _ | refine Kd.C_drew ?_))); (case side2 => exact HC1.out); rintro e w' ⟨rfl, ⟨nd, rfl⟩⟩))
    go_ret
    exact ⟨by first | rfl | (simp [errW_none, errW_some] <;> rfl) | (simp [*, errW_none, errW_some] <;> rfl), by repeat (first | (with_reducible first | exact HB.out | apply qca | apply qba | apply qda | refine qha ?_ GE509.out) | exact HB.out)⟩
   ·replace c11 := Bool.eq_false_iff.mpr c11
    subst c11
    have H1 : (some 2) = some r := by rw [if_neg (show ¬ (false = true) by decide)] at H; exact H
    clear H; have H := H1; clear H1
    obtain rfl := Option.some.inj H
    go_enter Try.func66, Try.ntmps66
    go_wp2_with (first | ((with_reducible refine gate_dst (N := 2) rfl ?_); refine box_event ?hg (N := 2) ?hd (cs := #[.int .u64 a0_0, .int .i64 a0_1, .int .i64 a0_2]) (t := 24) ?hr ?_; (case hd => rfl); (case hg => rfl); (case hr => first | (go_simp; done) | (go_simp; rfl)); intro gb509 hg w16 hbox hb; have n0_ := Aside0.mk (qla (by with_reducible repeat first | exact HB.out | apply qca | apply qba | apply qda) hb); have n1_ := Aside0.mk (hbox); have n2_ := Aside0.mk ((by rw [hg]; exact (qka (by with_reducible repeat first | exact HB.out | apply qca | apply qba | apply qda)) : w.heap.size ≤ gb509)); have n3_ := Aside0.mk ((by rw [hg]; exact (qka (by with_reducible repeat first | exact HB.out | apply qca | apply qba | apply qda)) : w.heap.size ≤ gb509)); clear HB; have HB := n0_; have BK509 := n1_; have GW509 := n2_; have GE509 := n3_; clear n0_ n1_ n2_ n3_; clear hb hbox hg; have hcz17_0 : w16.cell? ⟨gb509, 0, none⟩ = some (.int .u64 a0_0) := (qfa BK509.out 0).trans rfl; have hcz17_1 : w16.cell? ⟨gb509, 1, none⟩ = some (.int .i64 a0_1) := (qfa BK509.out 1).trans rfl; have hcz17_2 : w16.cell? ⟨gb509, 2, none⟩ = some (.int .i64 a0_2) := (qfa BK509.out 2).trans rfl; have hfz17_0 := qga BK509.out 0; have hfz17_1 := qga BK509.out 1; have hfz17_2 := qga BK509.out 2) | ((with_reducible refine qoa (f := 42) rfl ?_); refine goesL_ (some 7) rfl rfl Try.func42 (by kernel_rfl) rfl #[.agg #[.int .u64 a0_0, .int .i64 a0_1, .int .i64 a0_2]] rfl (by (try simp only [qM1, qM2, qM3]); first | done | rfl) ?_; (with_reducible refine (qxb.calls k a0_0 a0_1 a0_2 t510 _ A3.out).mono ?_); rintro e w18 ⟨rfl, hb⟩; refine ⟨_, rfl, ?_⟩; have n0_ := Aside0.mk (blk_below (g := gb509) (o := .cells #[.int .u64 a0_0, .int .i64 a0_1, .int .i64 a0_2] 24 (0, 0)) (by (with_reducible repeat first | refine qma ?_ _ | refine qpa ?_ | refine qna ?_ _); exact BK509.out) hb); have n1_ := Aside0.mk (qla (by with_reducible repeat first | exact HB.out | apply qca | apply qba | apply qda | refine qha ?_ GE509.out) hb); clear BK509; clear HB; have BK509 := n0_; have HB := n1_; clear n0_ n1_; (try clear hb); (try clear hb2); (try clear hk); (try clear hi); have hcz19_0 : w18.cell? ⟨gb509, 0, none⟩ = some (.int .u64 a0_0) := (qfa BK509.out 0).trans rfl; have hcz19_1 : w18.cell? ⟨gb509, 1, none⟩ = some (.int .i64 a0_1) := (qfa BK509.out 1).trans rfl; have hcz19_2 : w18.cell? ⟨gb509, 2, none⟩ = some (.int .i64 a0_2) := (qfa BK509.out 2).trans rfl; have hfz19_0 := qga BK509.out 0; have hfz19_1 := qga BK509.out 1; have hfz19_2 := qga BK509.out 2) | (go_at_call 76; (with_reducible refine (qeb.calls k a0_1 _ _ l1 false _ ?side1 ?side2 A10.out).mono ?_); (case side1 => repeat (first | exact (Kd.C_below HR1.out HB.out) | (with_reducible first | refine Kd.C_alloc ?_ _ | refine Kd.C_drewN ?_ _ | refine Kd.C_drew ?_))); (case side2 => exact HC1.out); rintro e w' ⟨rfl, ⟨nd, rfl⟩⟩))
    go_ret
    exact ⟨by first | rfl | (simp [errW_none, errW_some] <;> rfl) | (simp [*, errW_none, errW_some] <;> rfl), by repeat (first | (with_reducible first | exact HB.out | apply qca | apply qba | apply qda | refine qha ?_ GE509.out) | exact HB.out)⟩
 ·rw [if_neg c4] at H
  have c4b0 : (t510 == 0) = false := beq_eq_false_iff_ne.mpr c4
  have c4b1 : (t510 != 0) = true := bne_iff_ne.mpr c4
  obtain rfl := Option.some.inj H
  go_enter Try.func66, Try.ntmps66
  go_wp2_with (first | ((with_reducible refine gate_dst (N := 2) rfl ?_); refine box_event ?hg (N := 2) ?hd (cs := #[.int .u64 a0_0, .int .i64 a0_1, .int .i64 a0_2]) (t := 24) ?hr ?_; (case hd => rfl); (case hg => rfl); (case hr => first | (go_simp; done) | (go_simp; rfl)); intro gb509 hg w20 hbox hb; have n0_ := Aside0.mk (qla (by with_reducible repeat first | exact HB.out | apply qca | apply qba | apply qda) hb); have n1_ := Aside0.mk (hbox); have n2_ := Aside0.mk ((by rw [hg]; exact (qka (by with_reducible repeat first | exact HB.out | apply qca | apply qba | apply qda)) : w.heap.size ≤ gb509)); have n3_ := Aside0.mk ((by rw [hg]; exact (qka (by with_reducible repeat first | exact HB.out | apply qca | apply qba | apply qda)) : w.heap.size ≤ gb509)); clear HB; have HB := n0_; have BK509 := n1_; have GW509 := n2_; have GE509 := n3_; clear n0_ n1_ n2_ n3_; clear hb hbox hg; have hcz21_0 : w20.cell? ⟨gb509, 0, none⟩ = some (.int .u64 a0_0) := (qfa BK509.out 0).trans rfl; have hcz21_1 : w20.cell? ⟨gb509, 1, none⟩ = some (.int .i64 a0_1) := (qfa BK509.out 1).trans rfl; have hcz21_2 : w20.cell? ⟨gb509, 2, none⟩ = some (.int .i64 a0_2) := (qfa BK509.out 2).trans rfl; have hfz21_0 := qga BK509.out 0; have hfz21_1 := qga BK509.out 1; have hfz21_2 := qga BK509.out 2) | ((with_reducible refine qoa (f := 42) rfl ?_); refine goesL_ (some 7) rfl rfl Try.func42 (by kernel_rfl) rfl #[.agg #[.int .u64 a0_0, .int .i64 a0_1, .int .i64 a0_2]] rfl (by (try simp only [qM1, qM2, qM3]); first | done | rfl) ?_; (with_reducible refine (qxb.calls k a0_0 a0_1 a0_2 t510 _ A3.out).mono ?_); rintro e w22 ⟨rfl, hb⟩; refine ⟨_, rfl, ?_⟩; have n0_ := Aside0.mk (blk_below (g := gb509) (o := .cells #[.int .u64 a0_0, .int .i64 a0_1, .int .i64 a0_2] 24 (0, 0)) (by (with_reducible repeat first | refine qma ?_ _ | refine qpa ?_ | refine qna ?_ _); exact BK509.out) hb); have n1_ := Aside0.mk (qla (by with_reducible repeat first | exact HB.out | apply qca | apply qba | apply qda | refine qha ?_ GE509.out) hb); clear BK509; clear HB; have BK509 := n0_; have HB := n1_; clear n0_ n1_; (try clear hb); (try clear hb2); (try clear hk); (try clear hi)))
  go_ret
  exact ⟨by first | rfl | (simp [errW_none, errW_some] <;> rfl) | (simp [*, errW_none, errW_some] <;> rfl), by repeat (first | (with_reducible first | exact HB.out | apply qca | apply qba | apply qda | refine qha ?_ GE509.out) | exact HB.out)⟩
def poly_Is.l0 : Nat → Int → List (List Int) → Int → Int → Option (Int)
 | 0, _, _, _, _ => none
 | k + 1, x0, x11, x12, x13 => if x13 < x12 then (if 0 ≤ x13 then (if x13 < (x11.length : Int) then (if ((rd_L3 x11 x13).length : Int) > 201 then (some 3) else ((qjb.f k x0 (rd_L3 x11 x13)).bind fun t522 => (if t522 = 0 then (poly_Is.l0 k x0 x11 x12 (wrap64 (x13 + 1))) else (some t522)))) else (none)) else (none)) else (some 0)
def poly_Is.f (k : Nat) (a0 : Int) (l1 : List (List Int)) : Option (Int) := (qmb.f k a0).bind fun t520 => (if t520 = true then (poly_Is.l0 k a0 l1 (l1.length : Int) 0) else (some 2))
theorem poly_Is.calls (k : Nat) (a0 : Int) (A1 : Option Addr) (c1 : Nat) (l1 : List (List Int)) (r : Int) (w : World) (hr1 : Kd.C (Kd.slice 22 (Kd.int .u64)) w A1 l1.length l1) (hc1 : l1.length ≤ c1) (h : poly_Is.f k a0 l1 = some r) :
  Calls Try.prog 138 #[.int .u64 a0, .slice A1 l1.length c1] w fun e w' => e = .returned (.int .i64 r) ∧ Drawn0 w w' := by
 have HR1 := Aside0.mk hr1
 have HC1 := Aside0.mk hc1
 clear hr1 hc1
 have H : ((qmb.f k a0).bind fun t520 => (if t520 = true then (poly_Is.l0 k a0 l1 (l1.length : Int) 0) else (some 2))) = some r := h
 clear h
 replace H := Option.bind_eq_some_iff.mp H
 obtain ⟨t520, A30, H⟩ := H
 try dsimp only at H
 have A3 := Aside0.mk A30
 clear A30
 by_cases c4 : t520 = true
 ·subst c4
  have H1 : (poly_Is.l0 k a0 l1 (l1.length : Int) 0) = some r := by rw [if_pos rfl] at H; exact H
  clear H; have H := H1; clear H1
  have H' := Aside0.mk H
  clear H
  go_enter Try.func138, Try.ntmps138
  go_wp2_with (first | ((with_reducible refine qoa (f := 137) rfl ?_); refine goesL_ (some 9) rfl rfl Try.func137 (by kernel_rfl) rfl #[.int .u64 a0] rfl (by (try simp only [qM1, qM2, qM3]); first | done | rfl) ?_; (with_reducible refine (qmb.calls k a0 true _ A3.out).mono ?_); rintro e w' ⟨rfl, ⟨nd, rfl⟩⟩; refine ⟨_, rfl, ?_⟩))
  go_loopg [13] k (fun kq v13 w' => ∃ (x13_1 : Int), v13 = .int .i64 x13_1 ∧ Aside0 (poly_Is.l0 kq a0 l1 (l1.length : Int) x13_1 = some r) ∧ Aside0 (kq ≤ k) ∧ Drawn0 w w')
  case atStart => exact ⟨(0), (by first | rfl | (simp; done) | (simp [*]; done)), H', ⟨Nat.le_refl _⟩, by repeat (first | exact Drawn0.refl _ | apply Drawn0.step)⟩
  case round =>
   clear H'; (try clear c1); (try clear p2); (try clear c4)
   obtain ⟨x13_1, rfl, HA, HK1, ⟨m1, rfl⟩⟩ := hrel
   cases gk with
   | zero => exact absurd HA.out (by simp [poly_Is.l0])
   | succ k1 =>
    have H := HA.out
    clear HA
    simp only [poly_Is.l0] at H
    by_cases c5 : x13_1 < (l1.length : Int)
    ·rw [if_pos c5] at H
     have c5b0 : decide (x13_1 < (l1.length : Int)) = true := decide_eq_true c5
     clear c5
     by_cases c6 : 0 ≤ x13_1
     ·rw [if_pos c6] at H
      have c6b0 : decide (0 ≤ x13_1) = true := decide_eq_true c6
      clear c6
      by_cases c7 : x13_1 < (l1.length : Int)
      ·rw [if_pos c7] at H
       have c7b0 : decide (x13_1 < (l1.length : Int)) = true := decide_eq_true c7
       clear c7
       by_cases c8 : ((rd_L3 l1 x13_1).length : Int) > 201
       ·rw [if_pos c8] at H
        have c8b0 : decide (201 < ((rd_L3 l1 x13_1).length : Int)) = true := decide_eq_true c8
        have c8b1 : decide (201 < (rd_L3 l1 x13_1).length) = true := decide_eq_true (by omega)
        clear c8
        obtain rfl := Option.some.inj H
        have p521 : 0 ≤ (x13_1 : Int) := of_decide_eq_true (by first | (with_reducible assumption) | assumption)
        have q521 : x13_1 < (l1.length : Int) := of_decide_eq_true (by first | (with_reducible assumption) | assumption)
        obtain ⟨ad521, A521_0, c521_0, e521, hx521_0, hl521_0, hi521_0⟩ := at_L3 HR1.out x13_1 p521 q521
        cases e521
        have HR521_0 := Aside0.mk hi521_0
        have HC521_0 := Aside0.mk hl521_0
        clear hi521_0 hl521_0; replace p521 := eq_true p521; replace q521 := eq_true q521
        go_wp2
        go_ret
        exact ⟨by first | rfl | (simp; done) | (simp [*]; done), by repeat (first | exact Drawn0.refl _ | apply Drawn0.step)⟩
       ·rw [if_neg c8] at H
        have c8b0 : decide (201 < ((rd_L3 l1 x13_1).length : Int)) = false := decide_eq_false c8
        have c8b1 : decide (201 < (rd_L3 l1 x13_1).length) = false := decide_eq_false (by omega)
        clear c8
        replace H := Option.bind_eq_some_iff.mp H
        obtain ⟨t522, A90, H⟩ := H
        try dsimp only at H
        have A9 := Aside0.mk A90
        clear A90
        by_cases c10 : t522 = 0
        ·rw [if_pos c10] at H
         have c10b0 : (t522 == 0) = true := beq_iff_eq.mpr c10
         have c10b1 : (t522 != 0) = false := bne_eq_false_iff_eq.mpr c10
         clear c10
         have H' := Aside0.mk H
         clear H
         have p521 : 0 ≤ (x13_1 : Int) := of_decide_eq_true (by first | (with_reducible assumption) | assumption)
         have q521 : x13_1 < (l1.length : Int) := of_decide_eq_true (by first | (with_reducible assumption) | assumption)
         obtain ⟨ad521, A521_0, c521_0, e521, hx521_0, hl521_0, hi521_0⟩ := at_L3 HR1.out x13_1 p521 q521
         cases e521
         have HR521_0 := Aside0.mk hi521_0
         have HC521_0 := Aside0.mk hl521_0
         clear hi521_0 hl521_0; replace p521 := eq_true p521; replace q521 := eq_true q521
         go_wp2_with (first | ((with_reducible refine qoa (f := 123) rfl ?_); refine goesL_ (some 22) rfl rfl Try.func123 (by kernel_rfl) rfl #[.int .u64 a0, .slice A521_0 (rd_L3 l1 x13_1).length c521_0] rfl (by (try simp only [qM1, qM2, qM3]); first | done | rfl) ?_; (with_reducible refine (qjb.calls k1 a0 _ _ (rd_L3 l1 x13_1) t522 _ ?side1 ?side2 A9.out).mono ?_); (case side1 => repeat (first | exact HR521_0.out | (with_reducible first | refine Kd.C_alloc ?_ _ | refine Kd.C_drewN ?_ _ | refine Kd.C_drew ?_))); (case side2 => exact HC521_0.out); rintro e w' ⟨rfl, ⟨nd, rfl⟩⟩; refine ⟨_, rfl, ?_⟩))
         go_roundg k1
         case measure => have := HK1.out; omega
         case rel => exact ⟨(wrap64 (x13_1 + 1)), (by first | rfl | (simp; done) | (simp [*]; done)), H', ⟨by have := HK1.out; omega⟩, by repeat (first | exact Drawn0.refl _ | apply Drawn0.step)⟩
        ·rw [if_neg c10] at H
         have c10b0 : (t522 == 0) = false := beq_eq_false_iff_ne.mpr c10
         have c10b1 : (t522 != 0) = true := bne_iff_ne.mpr c10
         obtain rfl := Option.some.inj H
         have p521 : 0 ≤ (x13_1 : Int) := of_decide_eq_true (by first | (with_reducible assumption) | assumption)
         have q521 : x13_1 < (l1.length : Int) := of_decide_eq_true (by first | (with_reducible assumption) | assumption)
         obtain ⟨ad521, A521_0, c521_0, e521, hx521_0, hl521_0, hi521_0⟩ := at_L3 HR1.out x13_1 p521 q521
         cases e521
         have HR521_0 := Aside0.mk hi521_0
         have HC521_0 := Aside0.mk hl521_0
         clear hi521_0 hl521_0; replace p521 := eq_true p521; replace q521 := eq_true q521
         go_wp2_with (first | ((with_reducible refine qoa (f := 123) rfl ?_); refine goesL_ (some 22) rfl rfl Try.func123 (by kernel_rfl) rfl #[.int .u64 a0, .slice A521_0 (rd_L3 l1 x13_1).length c521_0] rfl (by (try simp only [qM1, qM2, qM3]); first | done | rfl) ?_; (with_reducible refine (qjb.calls k1 a0 _ _ (rd_L3 l1 x13_1) t522 _ ?side1 ?side2 A9.out).mono ?_); (case side1 => repeat (first | exact HR521_0.out | (with_reducible first | refine Kd.C_alloc ?_ _ | refine Kd.C_drewN ?_ _ | refine Kd.C_drew ?_))); (case side2 => exact HC521_0.out); rintro e w' ⟨rfl, ⟨nd, rfl⟩⟩; refine ⟨_, rfl, ?_⟩))
         go_ret
         exact ⟨by first | rfl | (simp; done) | (simp [*]; done), by repeat (first | exact Drawn0.refl _ | apply Drawn0.step)⟩
      ·rw [if_neg c7] at H
       exact absurd H (by simp)
     ·rw [if_neg c6] at H
      exact absurd H (by simp)
    ·rw [if_neg c5] at H
     have c5b0 : decide (x13_1 < (l1.length : Int)) = false := decide_eq_false c5
     clear c5
     obtain rfl := Option.some.inj H
     go_wp2
     go_ret
     exact ⟨by first | rfl | (simp; done) | (simp [*]; done), by repeat (first | exact Drawn0.refl _ | apply Drawn0.step)⟩
 ·replace c4 := Bool.eq_false_iff.mpr c4
  subst c4
  have H1 : (some 2) = some r := by rw [if_neg (show ¬ (false = true) by decide)] at H; exact H
  clear H; have H := H1; clear H1
  obtain rfl := Option.some.inj H
  go_enter Try.func138, Try.ntmps138
  go_wp2_with (first | ((with_reducible refine qoa (f := 137) rfl ?_); refine goesL_ (some 9) rfl rfl Try.func137 (by kernel_rfl) rfl #[.int .u64 a0] rfl (by (try simp only [qM1, qM2, qM3]); first | done | rfl) ?_; (with_reducible refine (qmb.calls k a0 false _ A3.out).mono ?_); rintro e w' ⟨rfl, ⟨nd, rfl⟩⟩; refine ⟨_, rfl, ?_⟩))
  go_ret
  exact ⟨by first | rfl | (simp; done) | (simp [*]; done), by repeat (first | exact Drawn0.refl _ | apply Drawn0.step)⟩
mutual
def qcb.j0 : Nat → Int → List Int → List Int → Bool → Option (List Int)
 | 0, _, _, _, _ => none
 | k + 1, x0, x1, x2, x19 => if x19 = true then (some ([] : List Int)) else (if 0 ≤ (wrap64 ((wrap64 ((x1.length : Int) + (x2.length : Int))) - 1)) then (if (wrap64 ((wrap64 ((x1.length : Int) + (x2.length : Int))) - 1) : Int).toNat ≤ 35184372088832 then (qcb.l0 k x0 x2 (List.replicate (wrap64 ((wrap64 ((x1.length : Int) + (x2.length : Int))) - 1) : Int).toNat 0) x1 (x1.length : Int) 0) else (none)) else (none))
def qcb.l0 : Nat → Int → List Int → List Int → List Int → Int → Int → Option (List Int)
 | 0, _, _, _, _, _, _ => none
 | k + 1, x0, x2, x7, x27, x28, x29 => if x29 < x28 then (if 0 ≤ x29 then (if x29 < (x27.length : Int) then (qcb.l1 k x0 x2 x7 x29 (rd x27 x29) x27 x28 x29 x2 (x2.length : Int) 0) else (none)) else (none)) else ((qwa.f k x7).bind fun t541 => (some t541))
def qcb.l1 : Nat → Int → List Int → List Int → Int → Int → List Int → Int → Int → List Int → Int → Int → Option (List Int)
 | 0, _, _, _, _, _, _, _, _, _, _, _ => none
 | k + 1, x0, x2, x7, x8, x9, x27, x28, x29, x34, x35, x36 => if x36 < x35 then (if 0 ≤ x36 then (if x36 < (x34.length : Int) then (if 0 ≤ (wrap64 (x8 + x36)) then (if (wrap64 (x8 + x36)) < (x7.length : Int) then ((field_Times.f x0 x9 (rd x34 x36)).bind fun t547 => ((field_Plus.f x0 (rd x7 (wrap64 (x8 + x36))) t547).bind fun t548 => (qcb.l1 k x0 x2 (x7.set ((wrap64 (x8 + x36)) : Int).toNat t548) x8 x9 x27 x28 x29 x34 x35 (wrap64 (x36 + 1))))) else (none)) else (none)) else (none)) else (none)) else (qcb.l0 k x0 x2 x7 x27 x28 (wrap64 (x29 + 1)))
end
def qcb.f (k : Nat) (a0 : Int) (l1 : List Int) (l2 : List Int) : Option (List Int) := if (l1.length : Int) = 0 then (qcb.j0 k a0 l1 l2 true) else (qcb.j0 k a0 l1 l2 ((l2.length : Int) == 0))
def qcb.T10 : Bool × List (List Nat × List Nat) := (true, [([], []), ([], []), ([], []), ([1, 2], [1, 2]), ([], []), ([], []), ([], []), ([], []), ([6, 7], [6, 7]), ([5, 8], [5, 8]), ([9], [9]), ([], []), ([], []), ([], []), ([11, 12, 13], [11, 12, 13]), ([4, 10, 14, 14], [4, 10, 14]), ([0, 3, 0, 1, 2, 3, 4, 5, 6, 7, 8, 9, 10, 11, 12, 13, 14, 15], [0, 3]), ([16, 15, 15, 0, 1, 2, 3, 4, 5, 6, 7, 8, 9, 10, 11, 12, 13, 14, 15], [15, 16])])
def qcb.B10 : List Nat := [0, 0, 0, 6, 0, 0, 0, 0, 192, 480, 992, 0, 0, 0, 14336, 32752, 65535, 131071]
theorem qcb.tab10 : rtab .any (opsOf Try.f157 10) = qcb.T10 := by kernel_rfl
theorem qcb.bits10 : waitsOk qcb.T10.2 qcb.B10 = true := by kernel_rfl
theorem qcb.calls (k : Nat) (a0 : Int) (A1 : Option Addr) (c1 : Nat) (l1 : List Int) (A2 : Option Addr) (c2 : Nat) (l2 : List Int) (r : List Int) (w : World) (hr1 : Kd.C (Kd.int .u64) w A1 l1.length l1) (hc1 : l1.length ≤ c1) (hr2 : Kd.C (Kd.int .u64) w A2 l2.length l2) (hc2 : l2.length ≤ c2) (h : qcb.f k a0 l1 l2 = some r) :
  Calls Try.prog 157 #[.int .u64 a0, .slice A1 l1.length c1, .slice A2 l2.length c2] w fun e w' => ∃ v0_ : Value, e = .returned (v0_) ∧ Kd.R (Kd.int .u64) 22 w' w.heap.size (fun _ => True) v0_ r ∧ Below w.heap.size w w' := by
 have HR1 := Aside0.mk hr1
 have HC1 := Aside0.mk hc1
 clear hr1 hc1
 have HR2 := Aside0.mk hr2
 have HC2 := Aside0.mk hc2
 clear hr2 hc2
 have HB := Aside0.mk (Below.refl w.heap.size w)
 have H : (if (l1.length : Int) = 0 then (qcb.j0 k a0 l1 l2 true) else (qcb.j0 k a0 l1 l2 ((l2.length : Int) == 0))) = some r := h
 clear h
 have HC4 := Aside0.mk H
 clear H
 go_enter Try.func157, Try.ntmps157
 go_upto_region 1 with (fail)
 go_cut [19] (fun v19 wc => ∃ (kq : Nat) (x19_3 : Bool), v19 = .bool x19_3 ∧ Aside0 (qcb.j0 kq a0 l1 l2 x19_3 = some r) ∧ Aside0 (kq ≤ k) ∧ Aside0 (Below w.heap.size w wc))
 case first =>
  have H := HC4.out
  clear HC4
  by_cases c5 : (l1.length : Int) = 0
  ·rw [if_pos c5] at H
   have c5b0 : ((l1.length : Int) == 0) = true := beq_iff_eq.mpr c5
   have c5b1 : ((l1.length : Int) != 0) = false := bne_eq_false_iff_eq.mpr c5
   clear c5
   (first | rw [c5b0] | (simp only [i64_w, i32_w]; rw [c5b0]) | skip)
   have H' := Aside0.mk H
   clear H
   go_wp2
   go_meet
   case rel => exact ⟨_, (true), (by first | rfl | (simp; done) | (simp [*]; done)), H', ⟨by first | omega | exact Nat.le_refl _⟩, ⟨by repeat (first | (with_reducible first | exact HB.out | apply qca | apply qba | apply qda) | exact HB.out)⟩⟩
  ·rw [if_neg c5] at H
   have c5b0 : ((l1.length : Int) == 0) = false := beq_eq_false_iff_ne.mpr c5
   have c5b1 : ((l1.length : Int) != 0) = true := bne_iff_ne.mpr c5
   have c5b2 : ¬ (l1 = []) := fun h_ => c5 (by rw [h_]; rfl)
   (first | rw [c5b0] | (simp only [i64_w, i32_w]; rw [c5b0]) | skip)
   have H' := Aside0.mk H
   clear H
   go_wp2
   go_meet
   case rel => exact ⟨_, (((l2.length : Int) == 0)), (by first | rfl | (simp; done) | (simp [*]; done)), H', ⟨by first | omega | exact Nat.le_refl _⟩, ⟨by repeat (first | (with_reducible first | exact HB.out | apply qca | apply qba | apply qda) | exact HB.out)⟩⟩
 case rest =>
  clear HC4; (try clear c1); (try clear c2); (try clear p2); (try clear c5); (try clear c5b0); (try clear c5b1); (try clear c5b2)
  obtain ⟨kq, x19_3, rfl, HA, HJ3, HB⟩ := hcut
  cases kq with
  | zero => exact absurd HA.out (by simp [qcb.j0])
  | succ kj3 =>
   have H := HA.out
   clear HA
   simp only [qcb.j0] at H
   by_cases c6 : x19_3 = true
   ·subst c6
    have H1 : (some ([] : List Int)) = some r := by rw [if_pos rfl] at H; exact H
    clear H; have H := H1; clear H1
    obtain rfl := Option.some.inj H
    go_wp2
    go_ret
    exact ⟨_, by first | rfl | (simp [errW_none, errW_some] <;> rfl) | (simp [*, errW_none, errW_some] <;> rfl), by first | exact Kd.R_nil _ _ _ _ _ | exact Kd.N_nil _ _ _ _ _ | exact Kd.V_nil _ _ _ _ _ | exact Kd.Q_nil _ _ _ _ _ | exact Kd.S_nil _ _ _ _ _, by repeat (first | (with_reducible first | exact HB.out | apply qca | apply qba | apply qda) | exact HB.out)⟩
   ·replace c6 := Bool.eq_false_iff.mpr c6
    subst c6
    have H1 : (if 0 ≤ (wrap64 ((wrap64 ((l1.length : Int) + (l2.length : Int))) - 1)) then (if (wrap64 ((wrap64 ((l1.length : Int) + (l2.length : Int))) - 1) : Int).toNat ≤ 35184372088832 then (qcb.l0 kj3 a0 l2 (List.replicate (wrap64 ((wrap64 ((l1.length : Int) + (l2.length : Int))) - 1) : Int).toNat 0) l1 (l1.length : Int) 0) else (none)) else (none)) = some r := by rw [if_neg (show ¬ (false = true) by decide)] at H; exact H
    clear H; have H := H1; clear H1
    obtain ⟨ji7, hji7⟩ : ∃ j_ : Int, (wrap64 ((wrap64 ((l1.length : Int) + (l2.length : Int))) - 1)) = j_ := ⟨_, rfl⟩
    replace H : (if 0 ≤ (ji7) then (if (ji7 : Int).toNat ≤ 35184372088832 then (qcb.l0 kj3 a0 l2 (List.replicate (ji7 : Int).toNat 0) l1 (l1.length : Int) 0) else (none)) else (none)) = some r := by first | (rw [hji7] at H; exact H) | (simp only [hji7] at H ⊢; exact H)
    have hji7w : (IntKind.i64.wrap ((wrap64 ((l1.length : Int) + (l2.length : Int))) - 1)) = ji7 := (i64_w _).trans hji7
    by_cases c8 : 0 ≤ (ji7)
    ·rw [if_pos c8] at H
     have c8b0 := eq_true c8
     have c8b1 : decide (0 ≤ (ji7)) = true := decide_eq_true c8
     clear c8
     by_cases c9 : (ji7 : Int).toNat ≤ 35184372088832
     ·rw [if_pos c9] at H
      have c9b0 := eq_true c9
      have c9b1 : decide ((ji7 : Int).toNat ≤ 35184372088832) = true := decide_eq_true c9
      clear c9
      obtain ⟨y538, hy538⟩ : ∃ y_ : List Int, y_ = (List.replicate (ji7 : Int).toNat 0) := ⟨_, rfl⟩
      replace H : (qcb.l0 kj3 a0 l2 y538 l1 (l1.length : Int) 0) = some r := by first | (rw [hy538]; with_reducible exact H) | (have H2_ := (Option.bind_some _ _).symm.trans H; rw [hy538]; with_reducible exact H2_) | (have H2_ := (Option.bind_some _ _).symm.trans H; with_reducible exact H2_) | with_reducible exact H | (rw [hy538]; exact H) | exact H
      have Ny538 := Aside0.mk hy538
      clear hy538
      have H' := Aside0.mk H
      clear H
      go_wp2_with (first | ((with_reducible refine gate_dst (N := 26) rfl ?_); (try (refine gate_guard (by rfl) ?_; dsimp only)); refine Kd.R_make (Kd.int .u64) _ 22 rfl (N := 26) rfl 31 _ _ rfl ji7 rfl rfl Try.underlying31 (.int .u64 0) 8 info22 rfl (by decide) (by omega) 0 (ok := fun _ => True) (okp := fun _ => True) rfl (fun _ hk => hk) trivial (of_decide_eq_true (by first | (with_reducible assumption) | assumption)) (Nat.le_trans (Nat.mul_le_mul_right _ (of_decide_eq_true (by first | (with_reducible assumption) | assumption) : ji7.toNat ≤ 35184372088832)) (by omega)) (Below.refl _ _) (Nat.le_refl _) ?_; intro v539 w10 ho11 hb hg_ hnew_; clear hg_ hnew_; (first | rw [← Ny538.out] at ho11 | (simp only [Int.reduceToNat] at ho11; rw [← Ny538.out] at ho11)); have n0_ := Aside0.mk (Kd.R_lower ho11 (qka (by with_reducible repeat first | exact HB.out | apply qca | apply qba | apply qda))); have n1_ := Aside0.mk (qla (by with_reducible repeat first | exact HB.out | apply qca | apply qba | apply qda) hb); clear HB; have HO540 := n0_; have HB := n1_; clear n0_ n1_; clear hb ho11))
      go_loopg [29] kj3 (fun kq v29 w' => ∃ (x7_2 : List Int) (x29_2 : Int), v29 = .int .i64 x29_2 ∧ Aside0 (qcb.l0 kq a0 l2 x7_2 l1 (l1.length : Int) x29_2 = some r) ∧ Aside0 (kq ≤ kj3) ∧ Aside0 (Kd.R (Kd.int .u64) 22 w' w.heap.size (fun _ => True) v539 x7_2) ∧ Aside0 (Below w.heap.size w w'))
      case atStart => exact ⟨(y538), (0), (by first | rfl | (simp; done) | (simp [*]; done)), H', ⟨Nat.le_refl _⟩, ⟨by (with_reducible repeat first | apply Kd.qja | apply Kd.qia | apply Kd.R_drew); exact HO540.out⟩, ⟨by repeat (first | (with_reducible first | exact HB.out | apply qca | apply qba | apply qda) | exact HB.out)⟩⟩
      case round =>
       clear H'; (try clear c1); (try clear c2); (try clear p2); (try clear c5); (try clear c5b0); (try clear c5b1); (try clear c5b2); (try clear c6); (try clear p6); (try clear c8); (try clear c8b0); (try clear c8b1); (try clear c9); (try clear c9b0); (try clear c9b1); (try clear p2)
       obtain ⟨x7_2, x29_2, rfl, HA, HK2, HO_7, HB⟩ := hrel
       cases gk with
       | zero => exact absurd HA.out (by simp [qcb.l0])
       | succ k2 =>
        have H := HA.out
        clear HA
        simp only [qcb.l0] at H
        by_cases c12 : x29_2 < (l1.length : Int)
        ·rw [if_pos c12] at H
         have c12b0 : decide (x29_2 < (l1.length : Int)) = true := decide_eq_true c12
         clear c12
         by_cases c13 : 0 ≤ x29_2
         ·rw [if_pos c13] at H
          have c13b0 : decide (0 ≤ x29_2) = true := decide_eq_true c13
          clear c13
          by_cases c14 : x29_2 < (l1.length : Int)
          ·rw [if_pos c14] at H
           have c14b0 : decide (x29_2 < (l1.length : Int)) = true := decide_eq_true c14
           clear c14
           have H' := Aside0.mk H
           clear H
           have p544 : 0 ≤ (x29_2 : Int) := of_decide_eq_true (by first | (with_reducible assumption) | assumption)
           have q544 : x29_2 < (l1.length : Int) := of_decide_eq_true (by first | (with_reducible assumption) | assumption)
           obtain ⟨ad544, e544, hx544_0⟩ := Kd.at_int HR1.out x29_2 p544 q544
           cases e544
           replace hx544_0 := (HB.out.cell (World.block_lt_of_cell? w _ hx544_0)).trans hx544_0
           replace p544 := eq_true p544; replace q544 := eq_true q544
           go_wp2
           go_loopg [36] k2 (fun kq v36 w' => ∃ (x7_3 : List Int) (x36_3 : Int), v36 = .int .i64 x36_3 ∧ Aside0 (qcb.l1 kq a0 l2 x7_3 x29_2 (rd l1 x29_2) l1 (l1.length : Int) x29_2 l2 (l2.length : Int) x36_3 = some r) ∧ Aside0 (kq ≤ k2) ∧ Aside0 (Kd.R (Kd.int .u64) 22 w' w.heap.size (fun _ => True) v539 x7_3) ∧ Aside0 (Below w.heap.size w w'))
           case atStart => exact ⟨(x7_2), (0), (by first | rfl | (simp; done) | (simp [*]; done)), H', ⟨Nat.le_refl _⟩, ⟨by (with_reducible repeat first | apply Kd.qja | apply Kd.qia | apply Kd.R_drew); exact HO_7.out⟩, ⟨by repeat (first | (with_reducible first | exact HB.out | apply qca | apply qba | apply qda) | exact HB.out)⟩⟩
           case round =>
            clear H'; (try clear c1); (try clear c2); (try clear p2); (try clear c5); (try clear c5b0); (try clear c5b1); (try clear c5b2); (try clear p5); (try clear q5); (try clear hx5); (try clear c6); (try clear p6); (try clear c8); (try clear c8b0); (try clear c8b1); (try clear c9); (try clear c9b0); (try clear c9b1); (try clear c12); (try clear c12b0); (try clear c13); (try clear c13b0); (try clear c14); (try clear c14b0); (try clear hx544_0); (try clear p2); (try clear p544); (try clear p6); (try clear q544)
            obtain ⟨x7_3, x36_3, rfl, HA, HK3, HO_7, HB⟩ := hrel
            cases gk with
            | zero => exact absurd HA.out (by simp [qcb.l1])
            | succ k3 =>
             have H := HA.out
             clear HA
             simp only [qcb.l1] at H
             by_cases c15 : x36_3 < (l2.length : Int)
             ·rw [if_pos c15] at H
              have c15b0 : decide (x36_3 < (l2.length : Int)) = true := decide_eq_true c15
              clear c15
              by_cases c16 : 0 ≤ x36_3
              ·rw [if_pos c16] at H
               have c16b0 : decide (0 ≤ x36_3) = true := decide_eq_true c16
               clear c16
               by_cases c17 : x36_3 < (l2.length : Int)
               ·rw [if_pos c17] at H
                have c17b0 : decide (x36_3 < (l2.length : Int)) = true := decide_eq_true c17
                clear c17
                obtain ⟨ji18, hji18⟩ : ∃ j_ : Int, (wrap64 (x29_2 + x36_3)) = j_ := ⟨_, rfl⟩
                replace H : (if 0 ≤ (ji18) then (if (ji18) < (x7_3.length : Int) then ((field_Times.f a0 (rd l1 x29_2) (rd l2 x36_3)).bind fun t547 => ((field_Plus.f a0 (rd x7_3 (ji18)) t547).bind fun t548 => (qcb.l1 k3 a0 l2 (x7_3.set ((ji18) : Int).toNat t548) x29_2 (rd l1 x29_2) l1 (l1.length : Int) x29_2 l2 (l2.length : Int) (wrap64 (x36_3 + 1))))) else (none)) else (none)) = some r := by first | (rw [hji18] at H; exact H) | (simp only [hji18] at H ⊢; exact H)
                have hji18w : (IntKind.i64.wrap (x29_2 + x36_3)) = ji18 := (i64_w _).trans hji18
                by_cases c19 : 0 ≤ (ji18)
                ·rw [if_pos c19] at H
                 have c19b0 : decide (0 ≤ (ji18)) = true := decide_eq_true c19
                 clear c19
                 by_cases c20 : (ji18) < (x7_3.length : Int)
                 ·rw [if_pos c20] at H
                  have c20b0 : decide ((ji18) < (x7_3.length : Int)) = true := decide_eq_true c20
                  clear c20
                  replace H := Option.bind_eq_some_iff.mp H
                  obtain ⟨t547, A210, H⟩ := H
                  try dsimp only at H
                  have A21 := Aside0.mk A210
                  clear A210
                  replace H := Option.bind_eq_some_iff.mp H
                  obtain ⟨t548, A220, H⟩ := H
                  try dsimp only at H
                  have A22 := Aside0.mk A220
                  clear A220
                  obtain ⟨y549, hy549⟩ : ∃ y_ : List Int, y_ = (x7_3.set ((ji18) : Int).toNat t548) := ⟨_, rfl⟩
                  replace H : (qcb.l1 k3 a0 l2 y549 x29_2 (rd l1 x29_2) l1 (l1.length : Int) x29_2 l2 (l2.length : Int) (wrap64 (x36_3 + 1))) = some r := by first | (rw [hy549]; with_reducible exact H) | (have H2_ := (Option.bind_some _ _).symm.trans H; rw [hy549]; with_reducible exact H2_) | (have H2_ := (Option.bind_some _ _).symm.trans H; with_reducible exact H2_) | with_reducible exact H | (rw [hy549]; exact H) | exact H
                  have Ny549 := Aside0.mk hy549
                  clear hy549
                  have H' := Aside0.mk H
                  clear H
                  have p545 : 0 ≤ (x36_3 : Int) := of_decide_eq_true (by first | (with_reducible assumption) | assumption)
                  have q545 : x36_3 < (l2.length : Int) := of_decide_eq_true (by first | (with_reducible assumption) | assumption)
                  obtain ⟨ad545, e545, hx545_0⟩ := Kd.at_int HR2.out x36_3 p545 q545
                  cases e545
                  replace hx545_0 := (HB.out.cell (World.block_lt_of_cell? w _ hx545_0)).trans hx545_0
                  replace p545 := eq_true p545; replace q545 := eq_true q545
                  try go_wp2
                  have n0_ := Aside0.mk (Kd.R_drew HO_7.out)
                  have n1_ := Aside0.mk (qda HB.out)
                  clear HO_7 HB; have HO_7 := n0_; have HB := n1_; clear n0_ n1_
                  obtain ⟨Ao25, co25, eo25⟩ := Kd.R_slice HO_7.out
                  (first | subst eo25 | (injection eo25 with f1_ f2_ f3_; have f4_ := f1_.symm; have f5_ := f3_.symm; clear f1_ f2_ f3_; subst f4_; subst f5_))
                  have p546 : 0 ≤ ((ji18) : Int) := of_decide_eq_true (by first | (with_reducible assumption) | assumption)
                  have q546 : (ji18) < (x7_3.length : Int) := of_decide_eq_true (by first | (with_reducible assumption) | assumption)
                  obtain ⟨ad546, e546, hx546_0⟩ := Kd.at_int (Kd.R_reads' HO_7.out).2.2 (ji18) p546 q546
                  cases e546
                  replace p546 := eq_true p546; replace q546 := eq_true q546
                  refine start_ (n := 18) (S := fun w' => w'.cell? (ad546.add ((ji18)).toNat) = some (.int .u64 (rd x7_3 (ji18)))) (ds := [17]) #[false, false, false, false, false, false, false, false, false, false, false, false, false, false, false, false, false, false] (by kernel_rfl) rfl rfl (hx546_0) (fun hHeld => ?_); refine with_tabW qcb.tab10 qcb.bits10 (fun HT_ HW_ => ?_)
                  generalize wr.drew = w24 at HO_7 HB hx546_0 hHeld ⊢
                  refine pure_ (i := 0) (N := some 41) (v := ?_) (a' := ?_) #[true, false, false, false, false, false, false, false, false, false, false, false, false, false, false, false, false, false] rfl rfl (any_of HT_.out (by kernel_rfl)) (fun _ _ _ h => h) (Or.inl ⟨by rfl, ?_⟩) ?_ ?_
                  rotate_left; (intro w'; go_simp; with_reducible rfl); rotate_left; (simp only [Act.put, qS1, qS2, qS3, i64_w, i32_w]; rfl)
                  refine pure_ (i := 1) (N := some 42) (v := ?_) (a' := ?_) #[true, true, false, false, false, false, false, false, false, false, false, false, false, false, false, false, false, false] rfl rfl (any_of HT_.out (by kernel_rfl)) (fun _ _ _ h => h) (Or.inl ⟨by rfl, ?_⟩) ?_ ?_
                  rotate_left; (intro w'; go_simp; with_reducible rfl); rotate_left; (simp only [Act.put, qS1, qS2, qS3, i64_w, i32_w]; rfl)
                  refine pure_ (i := 2) (N := some 43) (v := ?_) (a' := ?_) #[true, true, true, false, false, false, false, false, false, false, false, false, false, false, false, false, false, false] rfl rfl (any_of HT_.out (by kernel_rfl)) (fun _ _ _ h => h) (Or.inl ⟨by rfl, ?_⟩) ?_ ?_
                  rotate_left; (intro w'; go_simp; with_reducible rfl); rotate_left; (simp only [Act.put, qS1, qS2, qS3, i64_w, i32_w]; rfl)
                  refine pure_ (i := 3) (N := some 44) (v := ?_) (a' := ?_) #[true, true, true, true, false, false, false, false, false, false, false, false, false, false, false, false, false, false] rfl rfl (any_of HT_.out (by kernel_rfl)) (fun _ _ _ h => h) (Or.inl ⟨by rfl, ?_⟩) ?_ ?_
                  rotate_left; (intro w'; go_simp; with_reducible rfl); rotate_left; (simp only [Act.put, qS1, qS2, qS3, i64_w, i32_w]; rfl)
                  refine pure_ (i := 4) (N := some 45) (v := ?_) (a' := ?_) #[true, true, true, true, true, false, false, false, false, false, false, false, false, false, false, false, false, false] rfl rfl (any_of HT_.out (by kernel_rfl)) (fun _ _ _ h => h) (Or.inl ⟨by rfl, ?_⟩) ?_ ?_
                  rotate_left; (intro w'; go_simp; with_reducible rfl); rotate_left; (simp only [Act.put, qS1, qS2, qS3, i64_w, i32_w]; rfl)
                  refine pure_ (i := 5) (N := some 46) (v := ?_) (a' := ?_) #[true, true, true, true, true, true, false, false, false, false, false, false, false, false, false, false, false, false] rfl rfl (any_of HT_.out (by kernel_rfl)) (fun _ _ _ h => h) (Or.inl ⟨by rfl, ?_⟩) ?_ ?_
                  rotate_left; (intro w'; go_simp; with_reducible rfl); rotate_left; (simp only [Act.put, qS1, qS2, qS3, i64_w, i32_w]; rfl)
                  refine pure_ (i := 6) (N := some 47) (v := ?_) (a' := ?_) #[true, true, true, true, true, true, true, false, false, false, false, false, false, false, false, false, false, false] rfl rfl (any_of HT_.out (by kernel_rfl)) (fun _ _ _ h => h) (Or.inl ⟨by rfl, ?_⟩) ?_ ?_
                  rotate_left; (intro w'; go_simp; with_reducible rfl); rotate_left; (simp only [Act.put, qS1, qS2, qS3, i64_w, i32_w]; rfl)
                  refine pure_ (i := 7) (N := some 48) (v := ?_) (a' := ?_) #[true, true, true, true, true, true, true, true, false, false, false, false, false, false, false, false, false, false] rfl rfl (any_of HT_.out (by kernel_rfl)) (fun _ _ _ h => h) (Or.inl ⟨by rfl, ?_⟩) ?_ ?_
                  rotate_left; (intro w'; go_simp; with_reducible rfl); rotate_left; (simp only [Act.put, qS1, qS2, qS3, i64_w, i32_w]; rfl)
                  refine pure_ (i := 8) (N := some 49) (v := ?_) (a' := ?_) #[true, true, true, true, true, true, true, true, true, false, false, false, false, false, false, false, false, false] rfl rfl (any_of HT_.out (by kernel_rfl)) (fun _ _ _ h => h) (Or.inl ⟨by rfl, ?_⟩) ?_ ?_
                  rotate_left; (intro w'; go_simp; with_reducible rfl); rotate_left; (simp only [Act.put, qS1, qS2, qS3, i64_w, i32_w]; rfl)
                  refine pure_ (i := 9) (N := some 50) (v := ?_) (a' := ?_) #[true, true, true, true, true, true, true, true, true, true, false, false, false, false, false, false, false, false] rfl rfl (any_of HT_.out (by kernel_rfl)) (fun _ _ _ h => h) (Or.inl ⟨by rfl, ?_⟩) ?_ ?_
                  rotate_left; (intro w'; go_simp; with_reducible rfl); rotate_left; (simp only [Act.put, qS1, qS2, qS3, i64_w, i32_w]; rfl)
                  refine pure_ (i := 11) (N := some 52) (v := ?_) (a' := ?_) #[true, true, true, true, true, true, true, true, true, true, false, true, false, false, false, false, false, false] rfl rfl (any_of HT_.out (by kernel_rfl)) (fun _ _ _ h => h) (Or.inl ⟨by rfl, ?_⟩) ?_ ?_
                  rotate_left; (intro w'; go_simp; with_reducible rfl); rotate_left; (simp only [Act.put, qS1, qS2, qS3, i64_w, i32_w]; rfl)
                  refine pure_ (i := 12) (N := some 53) (v := ?_) (a' := ?_) #[true, true, true, true, true, true, true, true, true, true, false, true, true, false, false, false, false, false] rfl rfl (any_of HT_.out (by kernel_rfl)) (fun _ _ _ h => h) (Or.inl ⟨by rfl, ?_⟩) ?_ ?_
                  rotate_left; (intro w'; go_simp; with_reducible rfl); rotate_left; (simp only [Act.put, qS1, qS2, qS3, i64_w, i32_w]; rfl)
                  refine pure_ (i := 13) (N := some 54) (v := ?_) (a' := ?_) #[true, true, true, true, true, true, true, true, true, true, false, true, true, true, false, false, false, false] rfl rfl (any_of HT_.out (by kernel_rfl)) (fun _ _ _ h => h) (Or.inl ⟨by rfl, ?_⟩) ?_ ?_
                  rotate_left; (intro w'; go_simp; with_reducible rfl); rotate_left; (simp only [Act.put, qS1, qS2, qS3, i64_w, i32_w]; rfl)
                  refine take_ (i := 10) (N := some 51) (v := ?_) (a' := ?_) #[true, true, true, true, true, true, true, true, true, true, true, true, true, true, false, false, false, false] rfl rfl (take_ofW HT_.out HW_.out (by kernel_rfl)) (fun _ _ _ h => h) (Or.inl ⟨by rfl, ?_⟩) hHeld ?_ ?_
                  rotate_left
                  ·intro w' s0
                   go_simp
                   with_reducible rfl
                  rotate_left
                  ·simp only [Act.put, qS1, qS2, qS3, i64_w, i32_w]
                   rfl
                  refine one_ (i := 14) (N := some 55) #[true, true, true, true, true, true, true, true, true, true, true, true, true, true, true, false, false, false] rfl rfl (one_of HT_.out (by kernel_rfl)) (by decide) (fun K hK => ?_)
                  refine goes_ Try.func148 (by kernel_rfl) rfl #[.int .u64 a0, .int .u64 (rd l1 x29_2), .int .u64 (rd l2 x36_3)] (by rfl) rfl rfl (by (try simp only [qM1, qM2, qM3]); first | done | rfl | (simp only [List.length_drop, List.length_take]; rfl)) ?_
                  with_reducible refine (field_Times.calls a0 (rd l1 x29_2) (rd l2 x36_3) t547 _ A21.out).mono ?_
                  rintro e w' ⟨rfl, ⟨nd, rfl⟩⟩
                  refine ⟨_, rfl, ?_⟩
                  refine hK.out _ _ (hHeld) (fun hHeld => ?_)
                  clear hK K
                  refine norm_ (a' := ?_) ?_ ?_
                  rotate_left
                  ·show Act.put _ (some 55) _ = _
                   simp only [Act.put, qS1, qS2, qS3, i64_w, i32_w]
                   rfl
                  refine one_ (i := 15) (N := some 56) #[true, true, true, true, true, true, true, true, true, true, true, true, true, true, true, true, false, false] rfl rfl (one_of HT_.out (by kernel_rfl)) (by decide) (fun K hK => ?_)
                  refine goes_ Try.func147 (by kernel_rfl) rfl #[.int .u64 a0, .int .u64 (rd x7_3 (ji18)), .int .u64 t547] (by rfl) rfl rfl (by (try simp only [qM1, qM2, qM3]); first | done | (simp only [hji18]; rfl) | rfl | (simp only [List.length_drop, List.length_take]; rfl)) ?_
                  with_reducible refine (field_Plus.calls a0 (rd x7_3 (ji18)) t547 t548 _ A22.out).mono ?_
                  rintro e w' ⟨rfl, ⟨nd, rfl⟩⟩
                  refine ⟨_, rfl, ?_⟩
                  have p23 : 0 ≤ ((ji18) : Int) := of_decide_eq_true (by first | (with_reducible assumption) | assumption)
                  have q23 : ((ji18) : Int) < ((x7_3.length : Int) : Int) := of_decide_eq_true (by first | (with_reducible assumption) | assumption)
                  obtain ⟨go23, co23, eo23, gb23, gl23, cl23, HG23⟩ := Kd.R_form HO_7.out (by omega)
                  (first | cases eo23 | (injection eo23 with ea_ en_ ec_; (first | subst ea_ | (injection ea_ with ea_; subst ea_)); subst ec_; clear en_))
                  have GB23 := Aside0.mk gb23
                  have GG23 := Aside0.mk HG23
                  clear gb23 gl23 HG23
                  (first | simp only [add_plain] at hx546_0 | skip)
                  obtain ⟨hx23_0, hf23_0⟩ := Kd.R_celln 0 HO_7.out ((ji18) : Int) p23 q23
                  replace p23 := eq_true p23; replace q23 := eq_true q23
                  have HP26 := Kd.R_putn HO_7.out ((ji18) : Int) t548
                  rw [← Ny549.out] at HP26
                  have HQ26 := Aside0.mk HP26
                  clear HP26
                  refine hK.out _ _ (hHeld) (fun hHeld => ?_)
                  clear hK K
                  refine norm_ (a' := ?_) ?_ ?_
                  rotate_left
                  ·show Act.put _ (some 56) _ = _
                   simp only [Act.put, qS1, qS2, qS3, i64_w, i32_w]
                   rfl
                  refine pure_ (i := 16) (N := some 57) (v := ?_) (a' := ?_) #[true, true, true, true, true, true, true, true, true, true, true, true, true, true, true, true, true, false] rfl rfl (any_of HT_.out (by kernel_rfl)) (fun _ _ _ h => h) (Or.inl ⟨by rfl, ?_⟩) ?_ ?_
                  rotate_left; (intro w'; go_simp; with_reducible rfl); rotate_left; (simp only [Act.put, qS1, qS2, qS3, i64_w, i32_w]; rfl)
                  refine last_ (i := 17) (N := none) #[true, true, true, true, true, true, true, true, true, true, true, true, true, true, true, true, true, true] rfl rfl (one_of HT_.out (by kernel_rfl)) (by decide) (fun K hK => ?_)
                  refine skip_ (w1 := ?_) (by rfl) rfl ?_ ?_
                  rotate_left
                  ·go_simp
                   rfl
                  refine hK.out _ _ ?_
                  clear hK K
                  refine done_ (done_of HT_.out (by kernel_rfl)) ?_
                  try go_wp2
                  go_roundg k3
                  case measure => have := HJ3.out; have := HK2.out; have := HK3.out; omega
                  case rel => exact ⟨(y549), (wrap64 (x36_3 + 1)), (by first | rfl | (simp; done) | (simp [*]; done)), H', ⟨by have := HJ3.out; have := HK2.out; have := HK3.out; omega⟩, ⟨by (with_reducible repeat first | apply Kd.qja | apply Kd.qia | apply Kd.R_drew); exact HQ26.out⟩, ⟨by repeat (first | (with_reducible first | exact HB.out | apply qca | apply qba | apply qda | refine qha ?_ GB23.out) | exact HB.out)⟩⟩
                 ·rw [if_neg c20] at H
                  exact absurd H (by simp)
                ·rw [if_neg c19] at H
                 exact absurd H (by simp)
               ·rw [if_neg c17] at H
                exact absurd H (by simp)
              ·rw [if_neg c16] at H
               exact absurd H (by simp)
             ·rw [if_neg c15] at H
              have c15b0 : decide (x36_3 < (l2.length : Int)) = false := decide_eq_false c15
              clear c15
              have H' := Aside0.mk H
              clear H
              go_wp2
              go_roundg k3
              case measure => have := HJ3.out; have := HK2.out; have := HK3.out; omega
              case rel => exact ⟨(x7_3), (wrap64 (x29_2 + 1)), (by first | rfl | (simp; done) | (simp [*]; done)), H', ⟨by have := HJ3.out; have := HK2.out; have := HK3.out; omega⟩, ⟨by (with_reducible repeat first | apply Kd.qja | apply Kd.qia | apply Kd.R_drew); exact HO_7.out⟩, ⟨by repeat (first | (with_reducible first | exact HB.out | apply qca | apply qba | apply qda) | exact HB.out)⟩⟩
          ·rw [if_neg c14] at H
           exact absurd H (by simp)
         ·rw [if_neg c13] at H
          exact absurd H (by simp)
        ·rw [if_neg c12] at H
         have c12b0 : decide (x29_2 < (l1.length : Int)) = false := decide_eq_false c12
         clear c12
         replace H := Option.bind_eq_some_iff.mp H
         obtain ⟨t541, A270, H⟩ := H
         try dsimp only at H
         have A27 := Aside0.mk A270
         clear A270
         obtain rfl := Option.some.inj H
         obtain ⟨Ao28, co28, eo28⟩ := Kd.R_slice HO_7.out
         subst eo28
         go_wp2_with (first | ((with_reducible refine qoa (f := 127) rfl ?_); refine goesL_ (some 61) rfl rfl Try.func127 (by kernel_rfl) rfl #[.slice Ao28 x7_2.length co28] rfl (by (try simp only [qM1, qM2, qM3]); first | done | rfl) ?_; (with_reducible refine (qwa.calls k2 _ _ x7_2 t541 _ ?side1 ?side2 A27.out).mono ?_); (case side1 => repeat (first | exact (Kd.R_reads' HO_7.out).2.2 | (with_reducible first | refine Kd.C_alloc ?_ _ | refine Kd.C_drewN ?_ _ | refine Kd.C_drew ?_))); (case side2 => exact (Kd.R_reads' HO_7.out).2.1); rintro e w29 ⟨v542, rfl, ho0, hb⟩; refine ⟨_, rfl, ?_⟩; have n0_ := Aside0.mk (Kd.R_elder' (by (with_reducible repeat first | apply Kd.qja | apply Kd.qia | apply Kd.R_drew); exact HO_7.out) (Kd.R_base ho0) hb); have n1_ := Aside0.mk (Kd.R_lower (Kd.R_new' ho0 (Kd.R_lt (by (with_reducible repeat first | apply Kd.qja | apply Kd.qia | apply Kd.R_drew); exact HO_7.out))) (qka (by with_reducible repeat first | exact HB.out | apply qca | apply qba | apply qda))); have n2_ := Aside0.mk (qla (by with_reducible repeat first | exact HB.out | apply qca | apply qba | apply qda) hb); clear HO_7; clear HB; have HO_7 := n0_; have HO543 := n1_; have HB := n2_; clear n0_ n1_ n2_; (try clear hb); (try clear hb2); (try clear hk); (try clear hi); (try clear ho0)))
         go_ret
         exact ⟨_, by first | rfl | (simp [errW_none, errW_some] <;> rfl) | (simp only [← hji7]; first | rfl | (simp [errW_none, errW_some] <;> rfl)) | (simp [*, errW_none, errW_some] <;> rfl), by (with_reducible repeat first | apply Kd.qja | apply Kd.qia | apply Kd.R_drew); exact Kd.R_mono HO543.out (fun _ hk => trivial), by repeat (first | (with_reducible first | exact HB.out | apply qca | apply qba | apply qda) | exact HB.out)⟩
     ·rw [if_neg c9] at H
      exact absurd H (by simp)
    ·rw [if_neg c8] at H
     exact absurd H (by simp)
def field_pow.l0 : Nat → Int → Int → Int → Int → Option (Int)
 | 0, _, _, _, _ => none
 | k + 1, x0, x1, x2, x7 => if x2 > 0 then (if (Go.bits .and .u64 x2 1) = 1 then ((field_mul.f x0 x7 x1).bind fun t550 => ((field_mul.f x0 x1 x1).bind fun t551 => (field_pow.l0 k x0 t551 (x2 / 2) t550))) else ((field_mul.f x0 x1 x1).bind fun t552 => (field_pow.l0 k x0 t552 (x2 / 2) x7))) else (some x7)
def field_pow.f (k : Nat) (a0 : Int) (a1 : Int) (a2 : Int) : Option (Int) := if a0 = 0 then (none) else (field_pow.l0 k a0 a1 a2 ((1 : Int) % a0))
theorem field_pow.calls (k : Nat) (a0 : Int) (a1 : Int) (a2 : Int) (r : Int) (w : World) (h : field_pow.f k a0 a1 a2 = some r) :
  Calls Try.prog 171 #[.int .u64 a0, .int .u64 a1, .int .u64 a2] w fun e w' => e = .returned (.int .u64 r) ∧ Drawn0 w w' := by
 have H : (if a0 = 0 then (none) else (field_pow.l0 k a0 a1 a2 ((1 : Int) % a0))) = some r := h
 clear h
 by_cases c4 : a0 = 0
 ·rw [if_pos c4] at H
  exact absurd H (by simp)
 ·rw [if_neg c4] at H
  have c4b0 : (a0 == 0) = false := beq_eq_false_iff_ne.mpr c4
  have c4b1 : (a0 != 0) = true := bne_iff_ne.mpr c4
  have H' := Aside0.mk H
  clear H
  go_enter Try.func171, Try.ntmps171
  go_wp2
  go_loopg [1, 2, 7] k (fun kq v1 v2 v7 w' => ∃ (x1_1 : Int) (x2_1 : Int) (x7_1 : Int), v1 = .int .u64 x1_1 ∧ v2 = .int .u64 x2_1 ∧ v7 = .int .u64 x7_1 ∧ Aside0 (field_pow.l0 kq a0 x1_1 x2_1 x7_1 = some r) ∧ Aside0 (kq ≤ k) ∧ Drawn0 w w')
  case atStart => exact ⟨(a1), (a2), ((1 : Int) % a0), (by first | rfl | (simp; done) | (simp [*]; done)), (by first | rfl | (simp; done) | (simp [*]; done)), (by first | rfl | (simp; done) | (simp [*]; done)), H', ⟨Nat.le_refl _⟩, by repeat (first | exact Drawn0.refl _ | apply Drawn0.step)⟩
  case round =>
   clear H'; (try clear c1); (try clear p2); (try clear c4); (try clear c4b0); (try clear c4b1)
   obtain ⟨x1_1, x2_1, x7_1, rfl, rfl, rfl, HA, HK1, ⟨m1, rfl⟩⟩ := hrel
   cases gk with
   | zero => exact absurd HA.out (by simp [field_pow.l0])
   | succ k1 =>
    have H := HA.out
    clear HA
    simp only [field_pow.l0] at H
    by_cases c5 : x2_1 > 0
    ·rw [if_pos c5] at H
     have c5b0 : decide (0 < x2_1) = true := decide_eq_true c5
     clear c5
     by_cases c6 : (Go.bits .and .u64 x2_1 1) = 1
     ·rw [if_pos c6] at H
      have c6b0 : ((Go.bits .and .u64 x2_1 1) == 1) = true := beq_iff_eq.mpr c6
      have c6b1 : ((Go.bits .and .u64 x2_1 1) != 1) = false := bne_eq_false_iff_eq.mpr c6
      clear c6
      replace H := Option.bind_eq_some_iff.mp H
      obtain ⟨t550, A70, H⟩ := H
      try dsimp only at H
      have A7 := Aside0.mk A70
      clear A70
      replace H := Option.bind_eq_some_iff.mp H
      obtain ⟨t551, A80, H⟩ := H
      try dsimp only at H
      have A8 := Aside0.mk A80
      clear A80
      have H' := Aside0.mk H
      clear H
      go_wp2_with (first | ((with_reducible refine qoa (f := 165) rfl ?_); refine goesL_ (some 20) rfl rfl Try.func165 (by kernel_rfl) rfl #[.int .u64 a0, .int .u64 x7_1, .int .u64 x1_1] rfl (by (try simp only [qM1, qM2, qM3]); first | done | rfl) ?_; (with_reducible refine (field_mul.calls a0 x7_1 x1_1 t550 _ A7.out).mono ?_); rintro e w' ⟨rfl, ⟨nd, rfl⟩⟩; refine ⟨_, rfl, ?_⟩) | ((with_reducible refine qoa (f := 165) rfl ?_); refine goesL_ (some 24) rfl rfl Try.func165 (by kernel_rfl) rfl #[.int .u64 a0, .int .u64 x1_1, .int .u64 x1_1] rfl (by (try simp only [qM1, qM2, qM3]); first | done | rfl) ?_; (with_reducible refine (field_mul.calls a0 x1_1 x1_1 t551 _ A8.out).mono ?_); rintro e w' ⟨rfl, ⟨nd, rfl⟩⟩; refine ⟨_, rfl, ?_⟩))
      go_roundg k1
      case measure => have := HK1.out; omega
      case rel => exact ⟨(t551), (x2_1 / 2), (t550), (by first | rfl | (simp; done) | (simp [*]; done)), (by first | rfl | (simp; done) | (simp [*]; done)), (by first | rfl | (simp; done) | (simp [*]; done)), H', ⟨by have := HK1.out; omega⟩, by repeat (first | exact Drawn0.refl _ | apply Drawn0.step)⟩
     ·rw [if_neg c6] at H
      have c6b0 : ((Go.bits .and .u64 x2_1 1) == 1) = false := beq_eq_false_iff_ne.mpr c6
      have c6b1 : ((Go.bits .and .u64 x2_1 1) != 1) = true := bne_iff_ne.mpr c6
      replace H := Option.bind_eq_some_iff.mp H
      obtain ⟨t552, A90, H⟩ := H
      try dsimp only at H
      have A9 := Aside0.mk A90
      clear A90
      have H' := Aside0.mk H
      clear H
      go_wp2_with (first | ((with_reducible refine qoa (f := 165) rfl ?_); refine goesL_ (some 24) rfl rfl Try.func165 (by kernel_rfl) rfl #[.int .u64 a0, .int .u64 x1_1, .int .u64 x1_1] rfl (by (try simp only [qM1, qM2, qM3]); first | done | rfl) ?_; (with_reducible refine (field_mul.calls a0 x1_1 x1_1 t552 _ A9.out).mono ?_); rintro e w' ⟨rfl, ⟨nd, rfl⟩⟩; refine ⟨_, rfl, ?_⟩))
      go_roundg k1
      case measure => have := HK1.out; omega
      case rel => exact ⟨(t552), (x2_1 / 2), (x7_1), (by first | rfl | (simp; done) | (simp [*]; done)), (by first | rfl | (simp; done) | (simp [*]; done)), (by first | rfl | (simp; done) | (simp [*]; done)), H', ⟨by have := HK1.out; omega⟩, by repeat (first | exact Drawn0.refl _ | apply Drawn0.step)⟩
    ·rw [if_neg c5] at H
     have c5b0 : decide (0 < x2_1) = false := decide_eq_false c5
     clear c5
     obtain rfl := Option.some.inj H
     go_wp2
     go_ret
     exact ⟨by first | rfl | (simp; done) | (simp [*]; done), by repeat (first | exact Drawn0.refl _ | apply Drawn0.step)⟩
def field_Over.f (k : Nat) (a0 : Int) (a1 : Int) : Option (Int) := (field_pow.f k a0 a1 (IntKind.u64.wrap (a0 - 2))).bind fun t553 => (some t553)
theorem field_Over.calls (k : Nat) (a0 : Int) (a1 : Int) (r : Int) (w : World) (h : field_Over.f k a0 a1 = some r) :
  Calls Try.prog 159 #[.int .u64 a0, .int .u64 a1] w fun e w' => e = .returned (.int .u64 r) ∧ Drawn0 w w' := by
 have H : ((field_pow.f k a0 a1 (IntKind.u64.wrap (a0 - 2))).bind fun t553 => (some t553)) = some r := h
 clear h
 replace H := Option.bind_eq_some_iff.mp H
 obtain ⟨t553, A30, H⟩ := H
 try dsimp only at H
 have A3 := Aside0.mk A30
 clear A30
 obtain rfl := Option.some.inj H
 go_enter Try.func159, Try.ntmps159
 go_wp2_with (first | ((with_reducible refine qoa (f := 171) rfl ?_); refine goesL_ (some 9) rfl rfl Try.func171 (by kernel_rfl) rfl #[.int .u64 a0, .int .u64 a1, .int .u64 (IntKind.u64.wrap (a0 - 2))] rfl (by (try simp only [qM1, qM2, qM3]); first | done | rfl) ?_; (with_reducible refine (field_pow.calls k a0 a1 (IntKind.u64.wrap (a0 - 2)) t553 _ A3.out).mono ?_); rintro e w' ⟨rfl, ⟨nd, rfl⟩⟩; refine ⟨_, rfl, ?_⟩))
 go_ret
 exact ⟨by first | rfl | (simp; done) | (simp [*]; done), by repeat (first | exact Drawn0.refl _ | apply Drawn0.step)⟩
def poly_Gone.l0 : Nat → Int → List Int → List Int → Int → Int → Option (List Int)
 | 0, _, _, _, _, _ => none
 | k + 1, x0, x5, x9, x10, x11 => if x11 < x10 then (if 0 ≤ x11 then (if x11 < (x9.length : Int) then ((field_Over.f k x0 (rd x9 x11)).bind fun t558 => ((field_Minus.f x0 0 t558).bind fun t559 => ((qcb.f k x0 x5 (([1, t559] : List Int))).bind fun t563 => (poly_Gone.l0 k x0 t563 x9 x10 (wrap64 (x11 + 1)))))) else (none)) else (none)) else (some x5)
def poly_Gone.f (k : Nat) (a0 : Int) (l1 : List Int) : Option (List Int) := poly_Gone.l0 k a0 (([1] : List Int)) l1 (l1.length : Int) 0
theorem poly_Gone.calls (k : Nat) (a0 : Int) (A1 : Option Addr) (c1 : Nat) (l1 : List Int) (r : List Int) (w : World) (hr1 : Kd.C (Kd.int .u64) w A1 l1.length l1) (hc1 : l1.length ≤ c1) (h : poly_Gone.f k a0 l1 = some r) :
  Calls Try.prog 140 #[.int .u64 a0, .slice A1 l1.length c1] w fun e w' => ∃ v0_ : Value, e = .returned (v0_) ∧ Kd.R (Kd.int .u64) 22 w' w.heap.size (fun _ => True) v0_ r ∧ Below w.heap.size w w' := by
 have HR1 := Aside0.mk hr1
 have HC1 := Aside0.mk hc1
 clear hr1 hc1
 have HB := Aside0.mk (Below.refl w.heap.size w)
 have H : (poly_Gone.l0 k a0 (([1] : List Int)) l1 (l1.length : Int) 0) = some r := h
 clear h
 obtain ⟨y554, hy554⟩ : ∃ y_ : List Int, y_ = (([1] : List Int)) := ⟨_, rfl⟩
 replace H : (poly_Gone.l0 k a0 y554 l1 (l1.length : Int) 0) = some r := by first | (rw [hy554]; with_reducible exact H) | (have H2_ := (Option.bind_some _ _).symm.trans H; rw [hy554]; with_reducible exact H2_) | (have H2_ := (Option.bind_some _ _).symm.trans H; with_reducible exact H2_) | with_reducible exact H | (rw [hy554]; exact H) | exact H
 have Ny554 := Aside0.mk hy554
 clear hy554
 have H' := Aside0.mk H
 clear H
 go_enter Try.func140, Try.ntmps140
 go_wp2_with (first | ((with_reducible refine gate_dst (N := 8) rfl ?_); refine Kd.R_lit (Kd.int .u64) _ 22 ?hg (N := 8) ?hd (xs := ([1] : List Int)) (inner := [.int .u64 1]) (ok := fun _ => True) (okp := fun _ => True) ?hr ?hp (fun _ hk => hk) trivial (Below.refl _ _) (Nat.le_refl _) (by simp) ?_; (case hd => rfl); (case hg => rfl); (case hr => first | (go_simp; done) | (go_simp; rfl)); (case hp => exact (Reps.one (show Kd.M (Kd.int .u64) _ _ _ 1 [.int .u64 1] from rfl) (Reps.none _ _))); intro v555 w3 ho4 hb hg_ hnew_; clear hg_ hnew_; (first | rw [← Ny554.out] at ho4 | (simp only [Int.reduceToNat] at ho4; rw [← Ny554.out] at ho4)); have n0_ := Aside0.mk (Kd.R_lower ho4 (qka (by with_reducible repeat first | exact HB.out | apply qca | apply qba | apply qda))); have n1_ := Aside0.mk (qla (by with_reducible repeat first | exact HB.out | apply qca | apply qba | apply qda) hb); clear HB; have HO556 := n0_; have HB := n1_; clear n0_ n1_; clear hb ho4))
 go_loopg [5, 11] k (fun kq v5 v11 w' => ∃ (x5_1 : List Int) (x11_1 : Int), v11 = .int .i64 x11_1 ∧ Aside0 (poly_Gone.l0 kq a0 x5_1 l1 (l1.length : Int) x11_1 = some r) ∧ Aside0 (kq ≤ k) ∧ Aside0 (Kd.R (Kd.int .u64) 22 w' w.heap.size (fun _ => True) v5 x5_1) ∧ Aside0 (Below w.heap.size w w'))
 case atStart => exact ⟨(y554), (0), (by first | rfl | (simp; done) | (simp [*]; done)), H', ⟨Nat.le_refl _⟩, ⟨by (with_reducible repeat first | apply Kd.qja | apply Kd.qia | apply Kd.R_drew); exact HO556.out⟩, ⟨by repeat (first | (with_reducible first | exact HB.out | apply qca | apply qba | apply qda) | exact HB.out)⟩⟩
 case round =>
  clear H'; (try clear c1); (try clear p2)
  obtain ⟨x5_1, x11_1, rfl, HA, HK1, HO_5, HB⟩ := hrel
  cases gk with
  | zero => exact absurd HA.out (by simp [poly_Gone.l0])
  | succ k1 =>
   have H := HA.out
   clear HA
   simp only [poly_Gone.l0] at H
   by_cases c5 : x11_1 < (l1.length : Int)
   ·rw [if_pos c5] at H
    have c5b0 : decide (x11_1 < (l1.length : Int)) = true := decide_eq_true c5
    clear c5
    by_cases c6 : 0 ≤ x11_1
    ·rw [if_pos c6] at H
     have c6b0 : decide (0 ≤ x11_1) = true := decide_eq_true c6
     clear c6
     by_cases c7 : x11_1 < (l1.length : Int)
     ·rw [if_pos c7] at H
      have c7b0 : decide (x11_1 < (l1.length : Int)) = true := decide_eq_true c7
      clear c7
      replace H := Option.bind_eq_some_iff.mp H
      obtain ⟨t558, A80, H⟩ := H
      try dsimp only at H
      have A8 := Aside0.mk A80
      clear A80
      replace H := Option.bind_eq_some_iff.mp H
      obtain ⟨t559, A90, H⟩ := H
      try dsimp only at H
      have A9 := Aside0.mk A90
      clear A90
      obtain ⟨y560, hy560⟩ : ∃ y_ : List Int, y_ = (([1, t559] : List Int)) := ⟨_, rfl⟩
      replace H : ((qcb.f k1 a0 x5_1 y560).bind fun t563 => (poly_Gone.l0 k1 a0 t563 l1 (l1.length : Int) (wrap64 (x11_1 + 1)))) = some r := by first | (rw [hy560]; with_reducible exact H) | (have H2_ := (Option.bind_some _ _).symm.trans H; rw [hy560]; with_reducible exact H2_) | (have H2_ := (Option.bind_some _ _).symm.trans H; with_reducible exact H2_) | with_reducible exact H | (rw [hy560]; exact H) | exact H
      have Ny560 := Aside0.mk hy560
      clear hy560
      replace H := Option.bind_eq_some_iff.mp H
      obtain ⟨t563, A100, H⟩ := H
      try dsimp only at H
      have A10 := Aside0.mk A100
      clear A100
      have H' := Aside0.mk H
      clear H
      have p557 : 0 ≤ (x11_1 : Int) := of_decide_eq_true (by first | (with_reducible assumption) | assumption)
      have q557 : x11_1 < (l1.length : Int) := of_decide_eq_true (by first | (with_reducible assumption) | assumption)
      obtain ⟨ad557, e557, hx557_0⟩ := Kd.at_int HR1.out x11_1 p557 q557
      cases e557
      replace hx557_0 := (HB.out.cell (World.block_lt_of_cell? w _ hx557_0)).trans hx557_0
      replace p557 := eq_true p557; replace q557 := eq_true q557
      go_wp2_with (first | ((with_reducible refine qoa (f := 159) rfl ?_); refine goesL_ (some 20) rfl rfl Try.func159 (by kernel_rfl) rfl #[.int .u64 a0, .int .u64 (rd l1 x11_1)] rfl (by (try simp only [qM1, qM2, qM3]); first | done | rfl) ?_; (with_reducible refine (field_Over.calls k1 a0 (rd l1 x11_1) t558 _ A8.out).mono ?_); rintro e w' ⟨rfl, ⟨nd, rfl⟩⟩; refine ⟨_, rfl, ?_⟩) | ((with_reducible refine qoa (f := 142) rfl ?_); refine goesL_ (some 21) rfl rfl Try.func142 (by kernel_rfl) rfl #[.int .u64 a0, .int .u64 0, .int .u64 t558] rfl (by (try simp only [qM1, qM2, qM3]); first | done | rfl) ?_; (with_reducible refine (field_Minus.calls a0 0 t558 t559 _ A9.out).mono ?_); rintro e w' ⟨rfl, ⟨nd, rfl⟩⟩; refine ⟨_, rfl, ?_⟩) | ((with_reducible refine gate_dst (N := 22) rfl ?_); refine Kd.R_lit (Kd.int .u64) _ 22 ?hg (N := 22) ?hd (xs := ([1, t559] : List Int)) (inner := [.int .u64 1, .int .u64 t559]) (ok := fun _ => True) (okp := fun _ => True) ?hr ?hp (fun _ hk => hk) trivial (Below.refl _ _) (Nat.le_refl _) (by simp) ?_; (case hd => rfl); (case hg => rfl); (case hr => first | (go_simp; done) | (go_simp; rfl)); (case hp => exact (Reps.one (show Kd.M (Kd.int .u64) _ _ _ 1 [.int .u64 1] from rfl) (Reps.one (show Kd.M (Kd.int .u64) _ _ _ t559 [.int .u64 t559] from rfl) (Reps.none _ _)))); intro v561 w11 ho12 hb hg_ hnew_; clear hg_ hnew_; (first | rw [← Ny560.out] at ho12 | (simp only [Int.reduceToNat] at ho12; rw [← Ny560.out] at ho12)); have n0_ := Aside0.mk (Kd.R_elder' (by (with_reducible repeat first | apply Kd.qja | apply Kd.qia | apply Kd.R_drew); exact HO_5.out) (Kd.R_base ho12) hb); have n1_ := Aside0.mk (Kd.R_lower (Kd.R_new' ho12 (Kd.R_lt (by (with_reducible repeat first | apply Kd.qja | apply Kd.qia | apply Kd.R_drew); exact HO_5.out))) (qka (by with_reducible repeat first | exact HB.out | apply qca | apply qba | apply qda))); have n2_ := Aside0.mk (qla (by with_reducible repeat first | exact HB.out | apply qca | apply qba | apply qda) hb); clear HO_5; clear HB; have HO_5 := n0_; have HO562 := n1_; have HB := n2_; clear n0_ n1_ n2_; clear hb ho12; obtain ⟨Ao13, co13, eo13⟩ := Kd.R_slice HO_5.out; subst eo13; obtain ⟨Ao14, co14, eo14⟩ := Kd.R_slice HO562.out; subst eo14) | ((with_reducible refine qoa (f := 157) rfl ?_); refine goesL_ (some 23) rfl rfl Try.func157 (by kernel_rfl) rfl #[.int .u64 a0, .slice Ao13 x5_1.length co13, .slice Ao14 y560.length co14] rfl (by (try simp only [qM1, qM2, qM3]); first | done | rfl) ?_; (with_reducible refine (qcb.calls k1 a0 _ _ x5_1 _ _ y560 t563 _ ?side1 ?side2 ?side3 ?side4 A10.out).mono ?_); (case side1 => repeat (first | exact (Kd.R_reads' HO_5.out).2.2 | (with_reducible first | refine Kd.C_alloc ?_ _ | refine Kd.C_drewN ?_ _ | refine Kd.C_drew ?_))); (case side2 => exact (Kd.R_reads' HO_5.out).2.1); (case side3 => repeat (first | exact (Kd.R_reads' HO562.out).2.2 | (with_reducible first | refine Kd.C_alloc ?_ _ | refine Kd.C_drewN ?_ _ | refine Kd.C_drew ?_))); (case side4 => exact (Kd.R_reads' HO562.out).2.1); rintro e w15 ⟨v564, rfl, ho0, hb⟩; refine ⟨_, rfl, ?_⟩; have n0_ := Aside0.mk (Kd.R_elder' (by (with_reducible repeat first | apply Kd.qja | apply Kd.qia | apply Kd.R_drew); exact HO_5.out) (Kd.R_base ho0) hb); have n1_ := Aside0.mk (Kd.R_elder' (by (with_reducible repeat first | apply Kd.qja | apply Kd.qia | apply Kd.R_drew); exact HO562.out) (Kd.R_base ho0) hb); have n2_ := Aside0.mk (Kd.R_lower (Kd.R_new' (Kd.R_new' ho0 (Kd.R_lt (by (with_reducible repeat first | apply Kd.qja | apply Kd.qia | apply Kd.R_drew); exact HO_5.out))) (Kd.R_lt (by (with_reducible repeat first | apply Kd.qja | apply Kd.qia | apply Kd.R_drew); exact HO562.out))) (qka (by with_reducible repeat first | exact HB.out | apply qca | apply qba | apply qda))); have n3_ := Aside0.mk (qla (by with_reducible repeat first | exact HB.out | apply qca | apply qba | apply qda) hb); clear HO_5; clear HO562; clear HB; have HO_5 := n0_; have HO562 := n1_; have HO565 := n2_; have HB := n3_; clear n0_ n1_ n2_ n3_; (try clear hb); (try clear hb2); (try clear hk); (try clear hi); (try clear ho0)))
      go_roundg k1
      case measure => have := HK1.out; omega
      case rel => exact ⟨(t563), (wrap64 (x11_1 + 1)), (by first | rfl | (simp; done) | (simp [*]; done)), H', ⟨by have := HK1.out; omega⟩, ⟨by (with_reducible repeat first | apply Kd.qja | apply Kd.qia | apply Kd.R_drew); exact Kd.R_mono HO565.out (fun _ hk => trivial)⟩, ⟨by repeat (first | (with_reducible first | exact HB.out | apply qca | apply qba | apply qda) | exact HB.out)⟩⟩
     ·rw [if_neg c7] at H
      exact absurd H (by simp)
    ·rw [if_neg c6] at H
     exact absurd H (by simp)
   ·rw [if_neg c5] at H
    have c5b0 : decide (x11_1 < (l1.length : Int)) = false := decide_eq_false c5
    clear c5
    obtain rfl := Option.some.inj H
    go_wp2
    go_ret
    exact ⟨_, by first | rfl | (simp [errW_none, errW_some] <;> rfl) | (simp [*, errW_none, errW_some] <;> rfl), by (with_reducible repeat first | apply Kd.qja | apply Kd.qia | apply Kd.R_drew); exact HO_5.out, by repeat (first | (with_reducible first | exact HB.out | apply qca | apply qba | apply qda) | exact HB.out)⟩
def share_Places.l0 : Nat → List Int → List Int → Int → Int → Option (List Int)
 | 0, _, _, _, _ => none
 | k + 1, x3, x6, x7, x8 => if x8 < x7 then (if 0 ≤ x8 then (if x8 < (x6.length : Int) then (if x3.length < 17592186044416 then (share_Places.l0 k (x3 ++ [IntKind.u64.wrap (rd x6 x8)]) x6 x7 (wrap64 (x8 + 1))) else (none)) else (none)) else (none)) else (some x3)
def share_Places.f (k : Nat) (l0 : List Int) : Option (List Int) := share_Places.l0 k ([] : List Int) l0 (l0.length : Int) 0
theorem share_Places.calls (k : Nat) (A0 : Option Addr) (c0 : Nat) (l0 : List Int) (r : List Int) (w : World) (hr0 : Kd.C (Kd.int .i64) w A0 l0.length l0) (hc0 : l0.length ≤ c0) (h : share_Places.f k l0 = some r) :
  Calls Try.prog 141 #[.slice A0 l0.length c0] w fun e w' => ∃ v0_ : Value, e = .returned (v0_) ∧ Kd.R (Kd.int .u64) 22 w' w.heap.size (fun _ => True) v0_ r ∧ Below w.heap.size w w' := by
 have HR0 := Aside0.mk hr0
 have HC0 := Aside0.mk hc0
 clear hr0 hc0
 have HB := Aside0.mk (Below.refl w.heap.size w)
 have H : (share_Places.l0 k ([] : List Int) l0 (l0.length : Int) 0) = some r := h
 clear h
 have H' := Aside0.mk H
 clear H
 go_enter Try.func141, Try.ntmps141
 go_wp2
 go_loopg [3, 8] k (fun kq v3 v8 w' => ∃ (x3_1 : List Int) (x8_1 : Int), v8 = .int .i64 x8_1 ∧ Aside0 (share_Places.l0 kq x3_1 l0 (l0.length : Int) x8_1 = some r) ∧ Aside0 (kq ≤ k) ∧ Aside0 (Kd.R (Kd.int .u64) 22 w' w.heap.size (fun _ => True) v3 x3_1) ∧ Aside0 (Below w.heap.size w w'))
 case atStart => exact ⟨(([] : List Int)), (0), (by first | rfl | (simp; done) | (simp [*]; done)), H', ⟨Nat.le_refl _⟩, ⟨by first | exact Kd.R_nil _ _ _ _ _ | exact Kd.N_nil _ _ _ _ _ | exact Kd.V_nil _ _ _ _ _ | exact Kd.Q_nil _ _ _ _ _ | exact Kd.S_nil _ _ _ _ _⟩, ⟨by repeat (first | (with_reducible first | exact HB.out | apply qca | apply qba | apply qda) | exact HB.out)⟩⟩
 case round =>
  clear H'; (try clear c1)
  obtain ⟨x3_1, x8_1, rfl, HA, HK1, HO_3, HB⟩ := hrel
  cases gk with
  | zero => exact absurd HA.out (by simp [share_Places.l0])
  | succ k1 =>
   have H := HA.out
   clear HA
   simp only [share_Places.l0] at H
   by_cases c2 : x8_1 < (l0.length : Int)
   ·rw [if_pos c2] at H
    have c2b0 : decide (x8_1 < (l0.length : Int)) = true := decide_eq_true c2
    clear c2
    by_cases c3 : 0 ≤ x8_1
    ·rw [if_pos c3] at H
     have c3b0 : decide (0 ≤ x8_1) = true := decide_eq_true c3
     clear c3
     by_cases c4 : x8_1 < (l0.length : Int)
     ·rw [if_pos c4] at H
      have c4b0 : decide (x8_1 < (l0.length : Int)) = true := decide_eq_true c4
      clear c4
      by_cases c5 : x3_1.length < 17592186044416
      ·rw [if_pos c5] at H
       have LMc5 := Aside0.mk c5
       clear c5
       obtain ⟨y567, hy567⟩ : ∃ y_ : List Int, y_ = (x3_1 ++ [IntKind.u64.wrap (rd l0 x8_1)]) := ⟨_, rfl⟩
       replace H : (share_Places.l0 k1 y567 l0 (l0.length : Int) (wrap64 (x8_1 + 1))) = some r := by first | (rw [hy567]; with_reducible exact H) | (have H2_ := (Option.bind_some _ _).symm.trans H; rw [hy567]; with_reducible exact H2_) | (have H2_ := (Option.bind_some _ _).symm.trans H; with_reducible exact H2_) | with_reducible exact H | (rw [hy567]; exact H) | exact H
       have Ny567 := Aside0.mk hy567
       clear hy567
       have H' := Aside0.mk H
       clear H
       have p566 : 0 ≤ (x8_1 : Int) := of_decide_eq_true (by first | (with_reducible assumption) | assumption)
       have q566 : x8_1 < (l0.length : Int) := of_decide_eq_true (by first | (with_reducible assumption) | assumption)
       obtain ⟨ad566, e566, hx566_0⟩ := Kd.at_int HR0.out x8_1 p566 q566
       cases e566
       replace hx566_0 := (HB.out.cell (World.block_lt_of_cell? w _ hx566_0)).trans hx566_0
       replace p566 := eq_true p566; replace q566 := eq_true q566
       go_wp2_with (first | ((with_reducible refine gate_builtin (b := .append) (xs := #[.tmp 12, .tmp 15]) rfl ?_); at_builtin; refine Kd.R_append (Kd.int .u64) (w0 := w) w.heap.size rfl (.tmp 12) (.tmp 15) 31 22 (.int .u64 0) 8 rfl Try.underlying31 info22 rfl (by decide) (by omega) u3 x3_1 (IntKind.u64.wrap (rd l0 x8_1)) [.int .u64 (IntKind.u64.wrap (rd l0 x8_1))] (fun _ => True) (fun _ => False) rfl rfl ?aP (fun _ hk => hk.elim) ?aF ?aO ?aB ?aS ?aL ?_; (case aP => exact rfl); (case aB => exact (by with_reducible repeat first | exact HB.out | apply qca | apply qba | apply qda)); (case aF => exact (fun _ _ => trivial)); (case aO => exact (by (with_reducible repeat first | apply Kd.qja | apply Kd.qia | apply Kd.R_drew); exact HO_3.out)); (case aS => exact (qka (by with_reducible repeat first | exact HB.out | apply qca | apply qba | apply qda))); (case aL => have := LMc5.out; omega); intro v568 w6 ho hb hg hat; rw [← Ny567.out] at ho; have n0_ := Aside0.mk (hb); have n1_ := Aside0.mk (ho); clear HB; clear HO_3; have HB := n0_; have HO569 := n1_; clear n0_ n1_; clear ho hb hg hat))
       go_roundg k1
       case measure => have := HK1.out; omega
       case rel => exact ⟨(y567), (wrap64 (x8_1 + 1)), (by first | rfl | (simp; done) | (simp [*]; done)), H', ⟨by have := HK1.out; omega⟩, ⟨by (with_reducible repeat first | apply Kd.qja | apply Kd.qia | apply Kd.R_drew); exact HO569.out⟩, ⟨by repeat (first | (with_reducible first | exact HB.out | apply qca | apply qba | apply qda) | exact HB.out)⟩⟩
      ·rw [if_neg c5] at H
       exact absurd H (by simp)
     ·rw [if_neg c4] at H
      exact absurd H (by simp)
    ·rw [if_neg c3] at H
     exact absurd H (by simp)
   ·rw [if_neg c2] at H
    have c2b0 : decide (x8_1 < (l0.length : Int)) = false := decide_eq_false c2
    clear c2
    obtain rfl := Option.some.inj H
    go_wp2
    go_ret
    exact ⟨_, by first | rfl | (simp [errW_none, errW_some] <;> rfl) | (simp [*, errW_none, errW_some] <;> rfl), by (with_reducible repeat first | apply Kd.qja | apply Kd.qia | apply Kd.R_drew); exact HO_3.out, by repeat (first | (with_reducible first | exact HB.out | apply qca | apply qba | apply qda) | exact HB.out)⟩
def juntoref01_Sub.f (a0 : Int) (a1 : Int) (a2 : Int) : Option (Int) := if a0 = 0 then (none) else (some (Int.tmod (IntKind.u64.wrap ((IntKind.u64.wrap (a1 + a0)) - a2)) a0))
theorem juntoref01_Sub.calls (a0 : Int) (a1 : Int) (a2 : Int) (r : Int) (w : World) (h : juntoref01_Sub.f a0 a1 a2 = some r) :
  Calls Try.prog 114 #[.int .u64 a0, .int .u64 a1, .int .u64 a2] w fun e w' => e = .returned (.int .u64 r) ∧ Drawn0 w w' := by
 have H : (if a0 = 0 then (none) else (some (Int.tmod (IntKind.u64.wrap ((IntKind.u64.wrap (a1 + a0)) - a2)) a0))) = some r := h
 clear h
 by_cases c4 : a0 = 0
 ·rw [if_pos c4] at H
  exact absurd H (by simp)
 ·rw [if_neg c4] at H
  have c4b0 : (a0 == 0) = false := beq_eq_false_iff_ne.mpr c4
  have c4b1 : (a0 != 0) = true := bne_iff_ne.mpr c4
  obtain rfl := Option.some.inj H
  go_enter Try.func114, Try.ntmps114
  go_wp2
  go_ret
  exact ⟨by first | rfl | (simp; done) | (simp [*]; done), by repeat (first | exact Drawn0.refl _ | apply Drawn0.step)⟩
theorem juntoref01_Sub.callsB (a0 : Int) (a1 : Int) (a2 : Int) (r : Int) (w : World) (h : juntoref01_Sub.f a0 a1 a2 = some r) :
  Calls Try.prog 114 #[.int .u64 a0, .int .u64 a1, .int .u64 a2] w fun e w' => e = .returned (.int .u64 r) ∧ Below w.heap.size w w' := (juntoref01_Sub.calls a0 a1 a2 r w h).mono fun _ _ h_ => ⟨h_.1, h_.2.below⟩
def juntoref01_Pow.f : Nat → Int → Int → Int → Option (Int)
 | 0, _, _, _ => none
 | k + 1, a0, a1, a2 => if a2 = 0 then (some 1) else ((juntoref01_Pow.f k a0 a1 (IntKind.u64.wrap (Int.tdiv a2 2))).bind fun t693 => ((qpb.f a0 t693 t693).bind fun t694 => (if (Int.tmod a2 2) = 1 then ((qpb.f a0 t694 a1).bind fun t695 => (some t695)) else (some t694))))
theorem juntoref01_Pow.calls (k : Nat) : ∀ (a0 : Int) (a1 : Int) (a2 : Int) (r : Int) (w : World) (h : juntoref01_Pow.f k a0 a1 a2 = some r),
  Calls Try.prog 166 #[.int .u64 a0, .int .u64 a1, .int .u64 a2] w fun e w' => e = .returned (.int .u64 r) ∧ Drawn0 w w' := by
 induction k using Nat.strongRecOn with
 | _ k ih =>
 intro a0 a1 a2 r w h
 cases k with
 | zero => exact absurd h (by simp [juntoref01_Pow.f])
 | succ k =>
 simp only [juntoref01_Pow.f] at h
 have H : (if a2 = 0 then (some 1) else ((juntoref01_Pow.f k a0 a1 (IntKind.u64.wrap (Int.tdiv a2 2))).bind fun t693 => ((qpb.f a0 t693 t693).bind fun t694 => (if (Int.tmod a2 2) = 1 then ((qpb.f a0 t694 a1).bind fun t695 => (some t695)) else (some t694))))) = some r := h
 clear h
 by_cases c4 : a2 = 0
 ·rw [if_pos c4] at H
  have c4b0 : (a2 == 0) = true := beq_iff_eq.mpr c4
  have c4b1 : (a2 != 0) = false := bne_eq_false_iff_eq.mpr c4
  clear c4
  obtain rfl := Option.some.inj H
  go_enter Try.func166, Try.ntmps166
  go_wp2
  go_ret
  exact ⟨by first | rfl | (simp; done) | (simp [*]; done), by repeat (first | exact Drawn0.refl _ | apply Drawn0.step)⟩
 ·rw [if_neg c4] at H
  have c4b0 : (a2 == 0) = false := beq_eq_false_iff_ne.mpr c4
  have c4b1 : (a2 != 0) = true := bne_iff_ne.mpr c4
  replace H := Option.bind_eq_some_iff.mp H
  obtain ⟨t693, A50, H⟩ := H
  try dsimp only at H
  have A5 := Aside0.mk A50
  clear A50
  replace H := Option.bind_eq_some_iff.mp H
  obtain ⟨t694, A60, H⟩ := H
  try dsimp only at H
  have A6 := Aside0.mk A60
  clear A60
  by_cases c7 : (Int.tmod a2 2) = 1
  ·rw [if_pos c7] at H
   have c7b0 : ((Int.tmod a2 2) == 1) = true := beq_iff_eq.mpr c7
   have c7b1 : ((Int.tmod a2 2) != 1) = false := bne_eq_false_iff_eq.mpr c7
   clear c7
   replace H := Option.bind_eq_some_iff.mp H
   obtain ⟨t695, A80, H⟩ := H
   try dsimp only at H
   have A8 := Aside0.mk A80
   clear A80
   obtain rfl := Option.some.inj H
   go_enter Try.func166, Try.ntmps166
   go_wp2_with (first | ((with_reducible refine qoa (f := 166) rfl ?_); refine goesL_ (some 14) rfl rfl Try.func166 (by kernel_rfl) rfl #[.int .u64 a0, .int .u64 a1, .int .u64 (IntKind.u64.wrap (Int.tdiv a2 2))] rfl (by (try simp only [qM1, qM2, qM3]); first | done | rfl) ?_; (with_reducible refine (ih k (by omega) a0 a1 (IntKind.u64.wrap (Int.tdiv a2 2)) t693 _ A5.out).mono ?_); rintro e w' ⟨rfl, ⟨nd, rfl⟩⟩; refine ⟨_, rfl, ?_⟩) | ((with_reducible refine qoa (f := 59) rfl ?_); refine goesL_ (some 18) rfl rfl Try.func59 (by kernel_rfl) rfl #[.int .u64 a0, .int .u64 t693, .int .u64 t693] rfl (by (try simp only [qM1, qM2, qM3]); first | done | rfl) ?_; (with_reducible refine (qpb.calls a0 t693 t693 t694 _ A6.out).mono ?_); rintro e w' ⟨rfl, ⟨nd, rfl⟩⟩; refine ⟨_, rfl, ?_⟩) | ((with_reducible refine qoa (f := 59) rfl ?_); refine goesL_ (some 25) rfl rfl Try.func59 (by kernel_rfl) rfl #[.int .u64 a0, .int .u64 t694, .int .u64 a1] rfl (by (try simp only [qM1, qM2, qM3]); first | done | rfl) ?_; (with_reducible refine (qpb.calls a0 t694 a1 t695 _ A8.out).mono ?_); rintro e w' ⟨rfl, ⟨nd, rfl⟩⟩; refine ⟨_, rfl, ?_⟩))
   go_ret
   exact ⟨by first | rfl | (simp; done) | (simp [*]; done), by repeat (first | exact Drawn0.refl _ | apply Drawn0.step)⟩
  ·rw [if_neg c7] at H
   have c7b0 : ((Int.tmod a2 2) == 1) = false := beq_eq_false_iff_ne.mpr c7
   have c7b1 : ((Int.tmod a2 2) != 1) = true := bne_iff_ne.mpr c7
   obtain rfl := Option.some.inj H
   go_enter Try.func166, Try.ntmps166
   go_wp2_with (first | ((with_reducible refine qoa (f := 166) rfl ?_); refine goesL_ (some 14) rfl rfl Try.func166 (by kernel_rfl) rfl #[.int .u64 a0, .int .u64 a1, .int .u64 (IntKind.u64.wrap (Int.tdiv a2 2))] rfl (by (try simp only [qM1, qM2, qM3]); first | done | rfl) ?_; (with_reducible refine (ih k (by omega) a0 a1 (IntKind.u64.wrap (Int.tdiv a2 2)) t693 _ A5.out).mono ?_); rintro e w' ⟨rfl, ⟨nd, rfl⟩⟩; refine ⟨_, rfl, ?_⟩) | ((with_reducible refine qoa (f := 59) rfl ?_); refine goesL_ (some 18) rfl rfl Try.func59 (by kernel_rfl) rfl #[.int .u64 a0, .int .u64 t693, .int .u64 t693] rfl (by (try simp only [qM1, qM2, qM3]); first | done | rfl) ?_; (with_reducible refine (qpb.calls a0 t693 t693 t694 _ A6.out).mono ?_); rintro e w' ⟨rfl, ⟨nd, rfl⟩⟩; refine ⟨_, rfl, ?_⟩))
   go_ret
   exact ⟨by first | rfl | (simp; done) | (simp [*]; done), by repeat (first | exact Drawn0.refl _ | apply Drawn0.step)⟩
def juntoref01_Inv.f (k : Nat) (a0 : Int) (a1 : Int) : Option (Int) := (juntoref01_Pow.f k a0 a1 (IntKind.u64.wrap (a0 - 2))).bind fun t696 => (some t696)
theorem juntoref01_Inv.calls (k : Nat) (a0 : Int) (a1 : Int) (r : Int) (w : World) (h : juntoref01_Inv.f k a0 a1 = some r) :
  Calls Try.prog 152 #[.int .u64 a0, .int .u64 a1] w fun e w' => e = .returned (.int .u64 r) ∧ Drawn0 w w' := by
 have H : ((juntoref01_Pow.f k a0 a1 (IntKind.u64.wrap (a0 - 2))).bind fun t696 => (some t696)) = some r := h
 clear h
 replace H := Option.bind_eq_some_iff.mp H
 obtain ⟨t696, A30, H⟩ := H
 try dsimp only at H
 have A3 := Aside0.mk A30
 clear A30
 obtain rfl := Option.some.inj H
 go_enter Try.func152, Try.ntmps152
 go_wp2_with (first | ((with_reducible refine qoa (f := 166) rfl ?_); refine goesL_ (some 9) rfl rfl Try.func166 (by kernel_rfl) rfl #[.int .u64 a0, .int .u64 a1, .int .u64 (IntKind.u64.wrap (a0 - 2))] rfl (by (try simp only [qM1, qM2, qM3]); first | done | rfl) ?_; (with_reducible refine (juntoref01_Pow.calls k a0 a1 (IntKind.u64.wrap (a0 - 2)) t696 _ A3.out).mono ?_); rintro e w' ⟨rfl, ⟨nd, rfl⟩⟩; refine ⟨_, rfl, ?_⟩))
 go_ret
 exact ⟨by first | rfl | (simp; done) | (simp [*]; done), by repeat (first | exact Drawn0.refl _ | apply Drawn0.step)⟩
def qsb.l0 : Nat → Int → List Int → List Int → Int → Int → Option (List Int)
 | 0, _, _, _, _, _ => none
 | k + 1, x0, x5, x9, x10, x11 => if x11 < x10 then (if 0 ≤ x11 then (if x11 < (x9.length : Int) then ((juntoref01_Inv.f k x0 (rd x9 x11)).bind fun t701 => ((juntoref01_Sub.f x0 0 t701).bind fun t702 => ((qra.f k x0 x5 (([1, t702] : List Int))).bind fun t706 => (qsb.l0 k x0 t706 x9 x10 (wrap64 (x11 + 1)))))) else (none)) else (none)) else (some x5)
def qsb.f (k : Nat) (a0 : Int) (l1 : List Int) : Option (List Int) := qsb.l0 k a0 (([1] : List Int)) l1 (l1.length : Int) 0
theorem qsb.calls (k : Nat) (a0 : Int) (A1 : Option Addr) (c1 : Nat) (l1 : List Int) (r : List Int) (w : World) (hr1 : Kd.C (Kd.int .u64) w A1 l1.length l1) (hc1 : l1.length ≤ c1) (h : qsb.f k a0 l1 = some r) :
  Calls Try.prog 88 #[.int .u64 a0, .slice A1 l1.length c1] w fun e w' => ∃ v0_ : Value, e = .returned (v0_) ∧ Kd.R (Kd.int .u64) 22 w' w.heap.size (fun _ => True) v0_ r ∧ Below w.heap.size w w' := by
 have HR1 := Aside0.mk hr1
 have HC1 := Aside0.mk hc1
 clear hr1 hc1
 have HB := Aside0.mk (Below.refl w.heap.size w)
 have H : (qsb.l0 k a0 (([1] : List Int)) l1 (l1.length : Int) 0) = some r := h
 clear h
 obtain ⟨y697, hy697⟩ : ∃ y_ : List Int, y_ = (([1] : List Int)) := ⟨_, rfl⟩
 replace H : (qsb.l0 k a0 y697 l1 (l1.length : Int) 0) = some r := by first | (rw [hy697]; with_reducible exact H) | (have H2_ := (Option.bind_some _ _).symm.trans H; rw [hy697]; with_reducible exact H2_) | (have H2_ := (Option.bind_some _ _).symm.trans H; with_reducible exact H2_) | with_reducible exact H | (rw [hy697]; exact H) | exact H
 have Ny697 := Aside0.mk hy697
 clear hy697
 have H' := Aside0.mk H
 clear H
 go_enter Try.func88, Try.ntmps88
 go_wp2_with (first | ((with_reducible refine gate_dst (N := 8) rfl ?_); refine Kd.R_lit (Kd.int .u64) _ 22 ?hg (N := 8) ?hd (xs := ([1] : List Int)) (inner := [.int .u64 1]) (ok := fun _ => True) (okp := fun _ => True) ?hr ?hp (fun _ hk => hk) trivial (Below.refl _ _) (Nat.le_refl _) (by simp) ?_; (case hd => rfl); (case hg => rfl); (case hr => first | (go_simp; done) | (go_simp; rfl)); (case hp => exact (Reps.one (show Kd.M (Kd.int .u64) _ _ _ 1 [.int .u64 1] from rfl) (Reps.none _ _))); intro v698 w3 ho4 hb hg_ hnew_; clear hg_ hnew_; (first | rw [← Ny697.out] at ho4 | (simp only [Int.reduceToNat] at ho4; rw [← Ny697.out] at ho4)); have n0_ := Aside0.mk (Kd.R_lower ho4 (qka (by with_reducible repeat first | exact HB.out | apply qca | apply qba | apply qda))); have n1_ := Aside0.mk (qla (by with_reducible repeat first | exact HB.out | apply qca | apply qba | apply qda) hb); clear HB; have HO699 := n0_; have HB := n1_; clear n0_ n1_; clear hb ho4))
 go_loopg [5, 11] k (fun kq v5 v11 w' => ∃ (x5_1 : List Int) (x11_1 : Int), v11 = .int .i64 x11_1 ∧ Aside0 (qsb.l0 kq a0 x5_1 l1 (l1.length : Int) x11_1 = some r) ∧ Aside0 (kq ≤ k) ∧ Aside0 (Kd.R (Kd.int .u64) 22 w' w.heap.size (fun _ => True) v5 x5_1) ∧ Aside0 (Below w.heap.size w w'))
 case atStart => exact ⟨(y697), (0), (by first | rfl | (simp; done) | (simp [*]; done)), H', ⟨Nat.le_refl _⟩, ⟨by (with_reducible repeat first | apply Kd.qja | apply Kd.qia | apply Kd.R_drew); exact HO699.out⟩, ⟨by repeat (first | (with_reducible first | exact HB.out | apply qca | apply qba | apply qda) | exact HB.out)⟩⟩
 case round =>
  clear H'; (try clear c1); (try clear p2)
  obtain ⟨x5_1, x11_1, rfl, HA, HK1, HO_5, HB⟩ := hrel
  cases gk with
  | zero => exact absurd HA.out (by simp [qsb.l0])
  | succ k1 =>
   have H := HA.out
   clear HA
   simp only [qsb.l0] at H
   by_cases c5 : x11_1 < (l1.length : Int)
   ·rw [if_pos c5] at H
    have c5b0 : decide (x11_1 < (l1.length : Int)) = true := decide_eq_true c5
    clear c5
    by_cases c6 : 0 ≤ x11_1
    ·rw [if_pos c6] at H
     have c6b0 : decide (0 ≤ x11_1) = true := decide_eq_true c6
     clear c6
     by_cases c7 : x11_1 < (l1.length : Int)
     ·rw [if_pos c7] at H
      have c7b0 : decide (x11_1 < (l1.length : Int)) = true := decide_eq_true c7
      clear c7
      replace H := Option.bind_eq_some_iff.mp H
      obtain ⟨t701, A80, H⟩ := H
      try dsimp only at H
      have A8 := Aside0.mk A80
      clear A80
      replace H := Option.bind_eq_some_iff.mp H
      obtain ⟨t702, A90, H⟩ := H
      try dsimp only at H
      have A9 := Aside0.mk A90
      clear A90
      obtain ⟨y703, hy703⟩ : ∃ y_ : List Int, y_ = (([1, t702] : List Int)) := ⟨_, rfl⟩
      replace H : ((qra.f k1 a0 x5_1 y703).bind fun t706 => (qsb.l0 k1 a0 t706 l1 (l1.length : Int) (wrap64 (x11_1 + 1)))) = some r := by first | (rw [hy703]; with_reducible exact H) | (have H2_ := (Option.bind_some _ _).symm.trans H; rw [hy703]; with_reducible exact H2_) | (have H2_ := (Option.bind_some _ _).symm.trans H; with_reducible exact H2_) | with_reducible exact H | (rw [hy703]; exact H) | exact H
      have Ny703 := Aside0.mk hy703
      clear hy703
      replace H := Option.bind_eq_some_iff.mp H
      obtain ⟨t706, A100, H⟩ := H
      try dsimp only at H
      have A10 := Aside0.mk A100
      clear A100
      have H' := Aside0.mk H
      clear H
      have p700 : 0 ≤ (x11_1 : Int) := of_decide_eq_true (by first | (with_reducible assumption) | assumption)
      have q700 : x11_1 < (l1.length : Int) := of_decide_eq_true (by first | (with_reducible assumption) | assumption)
      obtain ⟨ad700, e700, hx700_0⟩ := Kd.at_int HR1.out x11_1 p700 q700
      cases e700
      replace hx700_0 := (HB.out.cell (World.block_lt_of_cell? w _ hx700_0)).trans hx700_0
      replace p700 := eq_true p700; replace q700 := eq_true q700
      go_wp2_with (first | ((with_reducible refine qoa (f := 152) rfl ?_); refine goesL_ (some 20) rfl rfl Try.func152 (by kernel_rfl) rfl #[.int .u64 a0, .int .u64 (rd l1 x11_1)] rfl (by (try simp only [qM1, qM2, qM3]); first | done | rfl) ?_; (with_reducible refine (juntoref01_Inv.calls k1 a0 (rd l1 x11_1) t701 _ A8.out).mono ?_); rintro e w' ⟨rfl, ⟨nd, rfl⟩⟩; refine ⟨_, rfl, ?_⟩) | ((with_reducible refine qoa (f := 114) rfl ?_); refine goesL_ (some 21) rfl rfl Try.func114 (by kernel_rfl) rfl #[.int .u64 a0, .int .u64 0, .int .u64 t701] rfl (by (try simp only [qM1, qM2, qM3]); first | done | rfl) ?_; (with_reducible refine (juntoref01_Sub.calls a0 0 t701 t702 _ A9.out).mono ?_); rintro e w' ⟨rfl, ⟨nd, rfl⟩⟩; refine ⟨_, rfl, ?_⟩) | ((with_reducible refine gate_dst (N := 22) rfl ?_); refine Kd.R_lit (Kd.int .u64) _ 22 ?hg (N := 22) ?hd (xs := ([1, t702] : List Int)) (inner := [.int .u64 1, .int .u64 t702]) (ok := fun _ => True) (okp := fun _ => True) ?hr ?hp (fun _ hk => hk) trivial (Below.refl _ _) (Nat.le_refl _) (by simp) ?_; (case hd => rfl); (case hg => rfl); (case hr => first | (go_simp; done) | (go_simp; rfl)); (case hp => exact (Reps.one (show Kd.M (Kd.int .u64) _ _ _ 1 [.int .u64 1] from rfl) (Reps.one (show Kd.M (Kd.int .u64) _ _ _ t702 [.int .u64 t702] from rfl) (Reps.none _ _)))); intro v704 w11 ho12 hb hg_ hnew_; clear hg_ hnew_; (first | rw [← Ny703.out] at ho12 | (simp only [Int.reduceToNat] at ho12; rw [← Ny703.out] at ho12)); have n0_ := Aside0.mk (Kd.R_elder' (by (with_reducible repeat first | apply Kd.qja | apply Kd.qia | apply Kd.R_drew); exact HO_5.out) (Kd.R_base ho12) hb); have n1_ := Aside0.mk (Kd.R_lower (Kd.R_new' ho12 (Kd.R_lt (by (with_reducible repeat first | apply Kd.qja | apply Kd.qia | apply Kd.R_drew); exact HO_5.out))) (qka (by with_reducible repeat first | exact HB.out | apply qca | apply qba | apply qda))); have n2_ := Aside0.mk (qla (by with_reducible repeat first | exact HB.out | apply qca | apply qba | apply qda) hb); clear HO_5; clear HB; have HO_5 := n0_; have HO705 := n1_; have HB := n2_; clear n0_ n1_ n2_; clear hb ho12; obtain ⟨Ao13, co13, eo13⟩ := Kd.R_slice HO_5.out; subst eo13; obtain ⟨Ao14, co14, eo14⟩ := Kd.R_slice HO705.out; subst eo14) | ((with_reducible refine qoa (f := 56) rfl ?_); refine goesL_ (some 23) rfl rfl Try.func56 (by kernel_rfl) rfl #[.int .u64 a0, .slice Ao13 x5_1.length co13, .slice Ao14 y703.length co14] rfl (by (try simp only [qM1, qM2, qM3]); first | done | rfl) ?_; (with_reducible refine (qra.calls k1 a0 _ _ x5_1 _ _ y703 t706 _ ?side1 ?side2 ?side3 ?side4 A10.out).mono ?_); (case side1 => repeat (first | exact (Kd.R_reads' HO_5.out).2.2 | (with_reducible first | refine Kd.C_alloc ?_ _ | refine Kd.C_drewN ?_ _ | refine Kd.C_drew ?_))); (case side2 => exact (Kd.R_reads' HO_5.out).2.1); (case side3 => repeat (first | exact (Kd.R_reads' HO705.out).2.2 | (with_reducible first | refine Kd.C_alloc ?_ _ | refine Kd.C_drewN ?_ _ | refine Kd.C_drew ?_))); (case side4 => exact (Kd.R_reads' HO705.out).2.1); rintro e w15 ⟨v707, rfl, ho0, hb⟩; refine ⟨_, rfl, ?_⟩; have n0_ := Aside0.mk (Kd.R_elder' (by (with_reducible repeat first | apply Kd.qja | apply Kd.qia | apply Kd.R_drew); exact HO_5.out) (Kd.R_base ho0) hb); have n1_ := Aside0.mk (Kd.R_elder' (by (with_reducible repeat first | apply Kd.qja | apply Kd.qia | apply Kd.R_drew); exact HO705.out) (Kd.R_base ho0) hb); have n2_ := Aside0.mk (Kd.R_lower (Kd.R_new' (Kd.R_new' ho0 (Kd.R_lt (by (with_reducible repeat first | apply Kd.qja | apply Kd.qia | apply Kd.R_drew); exact HO_5.out))) (Kd.R_lt (by (with_reducible repeat first | apply Kd.qja | apply Kd.qia | apply Kd.R_drew); exact HO705.out))) (qka (by with_reducible repeat first | exact HB.out | apply qca | apply qba | apply qda))); have n3_ := Aside0.mk (qla (by with_reducible repeat first | exact HB.out | apply qca | apply qba | apply qda) hb); clear HO_5; clear HO705; clear HB; have HO_5 := n0_; have HO705 := n1_; have HO708 := n2_; have HB := n3_; clear n0_ n1_ n2_ n3_; (try clear hb); (try clear hb2); (try clear hk); (try clear hi); (try clear ho0)))
      go_roundg k1
      case measure => have := HK1.out; omega
      case rel => exact ⟨(t706), (wrap64 (x11_1 + 1)), (by first | rfl | (simp; done) | (simp [*]; done)), H', ⟨by have := HK1.out; omega⟩, ⟨by (with_reducible repeat first | apply Kd.qja | apply Kd.qia | apply Kd.R_drew); exact Kd.R_mono HO708.out (fun _ hk => trivial)⟩, ⟨by repeat (first | (with_reducible first | exact HB.out | apply qca | apply qba | apply qda) | exact HB.out)⟩⟩
     ·rw [if_neg c7] at H
      exact absurd H (by simp)
    ·rw [if_neg c6] at H
     exact absurd H (by simp)
   ·rw [if_neg c5] at H
    have c5b0 : decide (x11_1 < (l1.length : Int)) = false := decide_eq_false c5
    clear c5
    obtain rfl := Option.some.inj H
    go_wp2
    go_ret
    exact ⟨_, by first | rfl | (simp [errW_none, errW_some] <;> rfl) | (simp [*, errW_none, errW_some] <;> rfl), by (with_reducible repeat first | apply Kd.qja | apply Kd.qia | apply Kd.R_drew); exact HO_5.out, by repeat (first | (with_reducible first | exact HB.out | apply qca | apply qba | apply qda) | exact HB.out)⟩
def qhb.l0 : Nat → List Int → List Int → Int → Int → Option (List Int)
 | 0, _, _, _, _ => none
 | k + 1, x3, x6, x7, x8 => if x8 < x7 then (if 0 ≤ x8 then (if x8 < (x6.length : Int) then (if x3.length < 17592186044416 then (qhb.l0 k (x3 ++ [IntKind.u64.wrap (rd x6 x8)]) x6 x7 (wrap64 (x8 + 1))) else (none)) else (none)) else (none)) else (some x3)
def qhb.f (k : Nat) (l0 : List Int) : Option (List Int) := qhb.l0 k ([] : List Int) l0 (l0.length : Int) 0
theorem qhb.calls (k : Nat) (A0 : Option Addr) (c0 : Nat) (l0 : List Int) (r : List Int) (w : World) (hr0 : Kd.C (Kd.int .i64) w A0 l0.length l0) (hc0 : l0.length ≤ c0) (h : qhb.f k l0 = some r) :
  Calls Try.prog 89 #[.slice A0 l0.length c0] w fun e w' => ∃ v0_ : Value, e = .returned (v0_) ∧ Kd.R (Kd.int .u64) 22 w' w.heap.size (fun _ => True) v0_ r ∧ Below w.heap.size w w' := by
 have HR0 := Aside0.mk hr0
 have HC0 := Aside0.mk hc0
 clear hr0 hc0
 have HB := Aside0.mk (Below.refl w.heap.size w)
 have H : (qhb.l0 k ([] : List Int) l0 (l0.length : Int) 0) = some r := h
 clear h
 have H' := Aside0.mk H
 clear H
 go_enter Try.func89, Try.ntmps89
 go_wp2
 go_loopg [3, 8] k (fun kq v3 v8 w' => ∃ (x3_1 : List Int) (x8_1 : Int), v8 = .int .i64 x8_1 ∧ Aside0 (qhb.l0 kq x3_1 l0 (l0.length : Int) x8_1 = some r) ∧ Aside0 (kq ≤ k) ∧ Aside0 (Kd.R (Kd.int .u64) 22 w' w.heap.size (fun _ => True) v3 x3_1) ∧ Aside0 (Below w.heap.size w w'))
 case atStart => exact ⟨(([] : List Int)), (0), (by first | rfl | (simp; done) | (simp [*]; done)), H', ⟨Nat.le_refl _⟩, ⟨by first | exact Kd.R_nil _ _ _ _ _ | exact Kd.N_nil _ _ _ _ _ | exact Kd.V_nil _ _ _ _ _ | exact Kd.Q_nil _ _ _ _ _ | exact Kd.S_nil _ _ _ _ _⟩, ⟨by repeat (first | (with_reducible first | exact HB.out | apply qca | apply qba | apply qda) | exact HB.out)⟩⟩
 case round =>
  clear H'
  obtain ⟨x3_1, x8_1, rfl, HA, HK1, HO_3, HB⟩ := hrel
  cases gk with
  | zero => exact absurd HA.out (by simp [qhb.l0])
  | succ k1 =>
   have H := HA.out
   clear HA
   simp only [qhb.l0] at H
   by_cases c2 : x8_1 < (l0.length : Int)
   ·rw [if_pos c2] at H
    have c2b0 : decide (x8_1 < (l0.length : Int)) = true := decide_eq_true c2
    clear c2
    by_cases c3 : 0 ≤ x8_1
    ·rw [if_pos c3] at H
     have c3b0 : decide (0 ≤ x8_1) = true := decide_eq_true c3
     clear c3
     by_cases c4 : x8_1 < (l0.length : Int)
     ·rw [if_pos c4] at H
      have c4b0 : decide (x8_1 < (l0.length : Int)) = true := decide_eq_true c4
      clear c4
      by_cases c5 : x3_1.length < 17592186044416
      ·rw [if_pos c5] at H
       have LMc5 := Aside0.mk c5
       clear c5
       obtain ⟨y710, hy710⟩ : ∃ y_ : List Int, y_ = (x3_1 ++ [IntKind.u64.wrap (rd l0 x8_1)]) := ⟨_, rfl⟩
       replace H : (qhb.l0 k1 y710 l0 (l0.length : Int) (wrap64 (x8_1 + 1))) = some r := by first | (rw [hy710]; with_reducible exact H) | (have H2_ := (Option.bind_some _ _).symm.trans H; rw [hy710]; with_reducible exact H2_) | (have H2_ := (Option.bind_some _ _).symm.trans H; with_reducible exact H2_) | with_reducible exact H | (rw [hy710]; exact H) | exact H
       have Ny710 := Aside0.mk hy710
       clear hy710
       have H' := Aside0.mk H
       clear H
       have p709 : 0 ≤ (x8_1 : Int) := of_decide_eq_true (by first | (with_reducible assumption) | assumption)
       have q709 : x8_1 < (l0.length : Int) := of_decide_eq_true (by first | (with_reducible assumption) | assumption)
       obtain ⟨ad709, e709, hx709_0⟩ := Kd.at_int HR0.out x8_1 p709 q709
       cases e709
       replace hx709_0 := (HB.out.cell (World.block_lt_of_cell? w _ hx709_0)).trans hx709_0
       replace p709 := eq_true p709; replace q709 := eq_true q709
       go_wp2_with (first | ((with_reducible refine gate_builtin (b := .append) (xs := #[.tmp 12, .tmp 15]) rfl ?_); at_builtin; refine Kd.R_append (Kd.int .u64) (w0 := w) w.heap.size rfl (.tmp 12) (.tmp 15) 31 22 (.int .u64 0) 8 rfl Try.underlying31 info22 rfl (by decide) (by omega) u3 x3_1 (IntKind.u64.wrap (rd l0 x8_1)) [.int .u64 (IntKind.u64.wrap (rd l0 x8_1))] (fun _ => True) (fun _ => False) rfl rfl ?aP (fun _ hk => hk.elim) ?aF ?aO ?aB ?aS ?aL ?_; (case aP => exact rfl); (case aB => exact (by with_reducible repeat first | exact HB.out | apply qca | apply qba | apply qda)); (case aF => exact (fun _ _ => trivial)); (case aO => exact (by (with_reducible repeat first | apply Kd.qja | apply Kd.qia | apply Kd.R_drew); exact HO_3.out)); (case aS => exact (qka (by with_reducible repeat first | exact HB.out | apply qca | apply qba | apply qda))); (case aL => have := LMc5.out; omega); intro v711 w6 ho hb hg hat; rw [← Ny710.out] at ho; have n0_ := Aside0.mk (hb); have n1_ := Aside0.mk (ho); clear HB; clear HO_3; have HB := n0_; have HO712 := n1_; clear n0_ n1_; clear ho hb hg hat))
       go_roundg k1
       case measure => have := HK1.out; omega
       case rel => exact ⟨(y710), (wrap64 (x8_1 + 1)), (by first | rfl | (simp; done) | (simp [*]; done)), H', ⟨by have := HK1.out; omega⟩, ⟨by (with_reducible repeat first | apply Kd.qja | apply Kd.qia | apply Kd.R_drew); exact HO712.out⟩, ⟨by repeat (first | (with_reducible first | exact HB.out | apply qca | apply qba | apply qda) | exact HB.out)⟩⟩
      ·rw [if_neg c5] at H
       exact absurd H (by simp)
     ·rw [if_neg c4] at H
      exact absurd H (by simp)
    ·rw [if_neg c3] at H
     exact absurd H (by simp)
   ·rw [if_neg c2] at H
    have c2b0 : decide (x8_1 < (l0.length : Int)) = false := decide_eq_false c2
    clear c2
    obtain rfl := Option.some.inj H
    go_wp2
    go_ret
    exact ⟨_, by first | rfl | (simp [errW_none, errW_some] <;> rfl) | (simp [*, errW_none, errW_some] <;> rfl), by (with_reducible repeat first | apply Kd.qja | apply Kd.qia | apply Kd.R_drew); exact HO_3.out, by repeat (first | (with_reducible first | exact HB.out | apply qca | apply qba | apply qda) | exact HB.out)⟩
end Go.Proofs.Ytjjnfobeeflnhaa.J
