/- Part 3 of the proof of TuneShares: what the functions compute as plain Lean functions, that the machine comes to just these answers, and that the answer is true; no conditions. -/
import Derived.Test.YtmlbliggbkfjnaaTuneSharesZ0
import Derived.Test.YtmlbliggbkfjnaaTuneSharesZ1
import Derived.Test.YtmlbliggbkfjnaaTuneSharesZ2
import Derived.RangeFuncBox
import Derived.RangeFuncLeaves
import Derived.RangeFuncCalls
import Derived.RangeFuncWrites
import Derived.Shelf.Abstract
import Derived.OwnWalkIn
import Derived.TacticsInMore
import Derived.LoopNIn
import Derived.LoopIn
set_option linter.unusedSimpArgs false
set_option linter.unusedVariables false
set_option maxHeartbeats 8000000
set_option maxRecDepth 100000
namespace Go.Proofs.Ytmlbliggbkfjnaa.J
open Go.RowKit Go.Proofs.YtmlbliggbkfjnaaW.PrintWords Go.Proofs.YtmlbliggbkfjnaaW.PrintLast Go.Proofs.YtmlbliggbkfjnaaW.PrintMore
attribute [local go_sem] max2_int min2_int max_two min_two max_three min_three max_four min_four
theorem rdOf_set_ (xs : List Int) (i v : Int) (h0 : 0 ≤ i) (h1 : i < xs.length) : rdOf 0 (xs.set i.toNat v) i = v := by
 unfold rdOf;rw [List.getD_eq_getElem?_getD, List.getElem?_set_self (by omega)]
 rfl
mutual
def tune_Levels.l0 : Nat → List Int → List (S61) → Int → Int → Option (List Int)
 | 0, _, _, _, _ => none
 | k + 1, x3, x12, x13, x14 => if x14 < x13 then (if 0 ≤ x14 then (if x14 < (x12.length : Int) then (if ((rd_T61 x12 x14).f0) = 3 then (tune_Levels.j1 k x3 x14 true x12 x13 x14 ((rd_T61 x12 x14).f0) ((rd_T61 x12 x14).f1) ((rd_T61 x12 x14).f2) ((rd_T61 x12 x14).f3)) else (if ((rd_T61 x12 x14).f0) = 4 then (tune_Levels.j1 k x3 x14 true x12 x13 x14 ((rd_T61 x12 x14).f0) ((rd_T61 x12 x14).f1) ((rd_T61 x12 x14).f2) ((rd_T61 x12 x14).f3)) else (tune_Levels.j1 k x3 x14 (((rd_T61 x12 x14).f0) == 5) x12 x13 x14 ((rd_T61 x12 x14).f0) ((rd_T61 x12 x14).f1) ((rd_T61 x12 x14).f2) ((rd_T61 x12 x14).f3)))) else (none)) else (none)) else (some x3)
def tune_Levels.j1 : Nat → List Int → Int → Bool → List (S61) → Int → Int → Int → Int → Int → Int → Option (List Int)
 | 0, _, _, _, _, _, _, _, _, _, _ => none
 | k + 1, x3, x4, x6, x12, x13, x14, ae, aa, ab, af => if x6 = true then (if aa < 0 then (tune_Levels.j2 k x3 x4 x6 x12 x13 x14 true ae aa ab af) else (if aa ≥ x4 then (tune_Levels.j2 k x3 x4 x6 x12 x13 x14 true ae aa ab af) else (if ab < 0 then (tune_Levels.j2 k x3 x4 x6 x12 x13 x14 true ae aa ab af) else (tune_Levels.j2 k x3 x4 x6 x12 x13 x14 (decide (ab ≥ x4)) ae aa ab af)))) else (if ae = 6 then (if aa < 0 then (tune_Levels.j2 k x3 x4 x6 x12 x13 x14 true ae aa ab af) else (if aa ≥ x4 then (tune_Levels.j2 k x3 x4 x6 x12 x13 x14 true ae aa ab af) else (tune_Levels.j2 k x3 x4 x6 x12 x13 x14 false ae aa ab af))) else (tune_Levels.j2 k x3 x4 x6 x12 x13 x14 false ae aa ab af))
def tune_Levels.j2 : Nat → List Int → Int → Bool → List (S61) → Int → Int → Bool → Int → Int → Int → Int → Option (List Int)
 | 0, _, _, _, _, _, _, _, _, _, _, _ => none
 | k + 1, x3, x4, x6, x12, x13, x14, x62, ae, aa, ab, af => if x62 = true then (some ([] : List Int)) else (if x6 = true then (if 0 ≤ aa then (if aa < (x3.length : Int) then (if 0 ≤ ab then (if ab < (x3.length : Int) then (if 0 ≤ x4 then (if x4 < (x3.length : Int) then ((some (x3.set (x4 : Int).toNat (mx (rd x3 aa) (rd x3 ab)) : List Int)).bind fun ah => (if ae = 5 then (tune_Levels.l0 k (ah.set (x4 : Int).toNat (wrap64 ((mx (rd x3 aa) (rd x3 ab)) + 1))) x12 x13 (wrap64 (x14 + 1))) else (tune_Levels.l0 k ah x12 x13 (wrap64 (x14 + 1))))) else (none)) else (none)) else (none)) else (none)) else (none)) else (none)) else (if ae = 6 then (if 0 ≤ aa then (if aa < (x3.length : Int) then (if 0 ≤ x4 then (if x4 < (x3.length : Int) then ((some (x3.set (x4 : Int).toNat (rd x3 aa) : List Int)).bind fun ag => (if ae = 5 then (tune_Levels.l0 k (ag.set (x4 : Int).toNat (wrap64 ((rd ag x4) + 1))) x12 x13 (wrap64 (x14 + 1))) else (tune_Levels.l0 k ag x12 x13 (wrap64 (x14 + 1))))) else (none)) else (none)) else (none)) else (none)) else (if ae = 5 then (if 0 ≤ x4 then (if x4 < (x3.length : Int) then (tune_Levels.l0 k (x3.set (x4 : Int).toNat (wrap64 ((rd x3 x4) + 1))) x12 x13 (wrap64 (x14 + 1))) else (none)) else (none)) else (tune_Levels.l0 k x3 x12 x13 (wrap64 (x14 + 1))))))
end
def tune_Levels.f (k : Nat) (ab : List (S64)) (aa : List (S61)) (ae : List (S66)) : Option (List Int) := if 0 ≤ (aa.length : Int) then (if ((aa.length : Int) : Int).toNat ≤ 35184372088832 then (tune_Levels.l0 k (List.replicate ((aa.length : Int) : Int).toNat 0) aa (aa.length : Int) 0) else (none)) else (none)
theorem tune_Levels.mono_l : ∀ k, (∀ y0 y1 y2 y3, LeO (tune_Levels.l0 k y0 y1 y2 y3) (tune_Levels.l0 (k + 1) y0 y1 y2 y3)) ∧ (∀ y0 y1 y2 y3 y4 y5 y6 y7 y8 y9, LeO (tune_Levels.j1 k y0 y1 y2 y3 y4 y5 y6 y7 y8 y9) (tune_Levels.j1 (k + 1) y0 y1 y2 y3 y4 y5 y6 y7 y8 y9)) ∧ (∀ y0 y1 y2 y3 y4 y5 y6 y7 y8 y9 y10, LeO (tune_Levels.j2 k y0 y1 y2 y3 y4 y5 y6 y7 y8 y9 y10) (tune_Levels.j2 (k + 1) y0 y1 y2 y3 y4 y5 y6 y7 y8 y9 y10))
 | 0 => ⟨fun _ _ _ _ r h => by simp [tune_Levels.l0] at h, fun _ _ _ _ _ _ _ _ _ _ r h => by simp [tune_Levels.j1] at h, fun _ _ _ _ _ _ _ _ _ _ _ r h => by simp [tune_Levels.j2] at h⟩
 | k + 1 => by
  obtain ⟨ih0, ih1, ih2⟩ := tune_Levels.mono_l k;refine ⟨?_, ?_, ?_⟩
  ·intro y0 y1 y2 y3
   unfold tune_Levels.l0
   repeat' first
   | (with_reducible exact ih0 _ _ _ _)
   | (with_reducible exact ih1 _ _ _ _ _ _ _ _ _ _)
   | (with_reducible exact ih2 _ _ _ _ _ _ _ _ _ _ _)
   | (with_reducible exact LeO.refl _)
   | (with_reducible exact LeO.none _)
   | (with_reducible refine LeO.ite ?_ ?_)
   | (with_reducible refine LeO.bind ?_ (fun _ => ?_))
   | exact ih0 _ _ _ _
   | exact ih1 _ _ _ _ _ _ _ _ _ _
   | exact ih2 _ _ _ _ _ _ _ _ _ _ _
   | exact LeO.none _
   | refine LeO.ite ?_ ?_
   | refine LeO.bind ?_ (fun _ => ?_)
  ·intro y0 y1 y2 y3 y4 y5 y6 y7 y8 y9
   unfold tune_Levels.j1
   repeat' first
   | (with_reducible exact ih0 _ _ _ _)
   | (with_reducible exact ih1 _ _ _ _ _ _ _ _ _ _)
   | (with_reducible exact ih2 _ _ _ _ _ _ _ _ _ _ _)
   | (with_reducible exact LeO.refl _)
   | (with_reducible exact LeO.none _)
   | (with_reducible refine LeO.ite ?_ ?_)
   | (with_reducible refine LeO.bind ?_ (fun _ => ?_))
   | exact ih0 _ _ _ _
   | exact ih1 _ _ _ _ _ _ _ _ _ _
   | exact ih2 _ _ _ _ _ _ _ _ _ _ _
   | exact LeO.none _
   | refine LeO.ite ?_ ?_
   | refine LeO.bind ?_ (fun _ => ?_)
  ·intro y0 y1 y2 y3 y4 y5 y6 y7 y8 y9 y10
   unfold tune_Levels.j2
   repeat' first
   | (with_reducible exact ih0 _ _ _ _)
   | (with_reducible exact ih1 _ _ _ _ _ _ _ _ _ _)
   | (with_reducible exact ih2 _ _ _ _ _ _ _ _ _ _ _)
   | (with_reducible exact LeO.refl _)
   | (with_reducible exact LeO.none _)
   | (with_reducible refine LeO.ite ?_ ?_)
   | (with_reducible refine LeO.bind ?_ (fun _ => ?_))
   | exact ih0 _ _ _ _
   | exact ih1 _ _ _ _ _ _ _ _ _ _
   | exact ih2 _ _ _ _ _ _ _ _ _ _ _
   | exact LeO.none _
   | refine LeO.ite ?_ ?_
   | refine LeO.bind ?_ (fun _ => ?_)
theorem tune_Levels.mono : ∀ a0 a1 a2 k, LeO (tune_Levels.f k a0 a1 a2) (tune_Levels.f (k + 1) a0 a1 a2) := by
 intro a0 a1 a2 k;obtain ⟨ih0, ih1, ih2⟩ := tune_Levels.mono_l k;unfold tune_Levels.f
 repeat' first
   | (with_reducible exact ih0 _ _ _ _)
   | (with_reducible exact ih1 _ _ _ _ _ _ _ _ _ _)
   | (with_reducible exact ih2 _ _ _ _ _ _ _ _ _ _ _)
   | (with_reducible exact LeO.refl _)
   | (with_reducible exact LeO.none _)
   | (with_reducible refine LeO.ite ?_ ?_)
   | (with_reducible refine LeO.bind ?_ (fun _ => ?_))
   | exact ih0 _ _ _ _
   | exact ih1 _ _ _ _ _ _ _ _ _ _
   | exact ih2 _ _ _ _ _ _ _ _ _ _ _
   | exact LeO.none _
   | refine LeO.ite ?_ ?_
   | refine LeO.bind ?_ (fun _ => ?_)
def tune_Levels.T9 : Bool × List (List Nat × List Nat) := (true, [([], []), ([], []), ([], []), ([], []), ([3], [3]), ([2, 4], [2, 4]), ([5], [5]), ([], []), ([], []), ([8], [8]), ([7, 9], [7, 9]), ([10], [10]), ([6, 11], [6, 11]), ([0, 1, 0, 1, 2, 3, 4, 5, 6, 7, 8, 9, 10, 11, 12], [0, 1]), ([13, 12, 0, 1, 2, 3, 4, 5, 6, 7, 8, 9, 10, 11, 12], [12, 13])])
def tune_Levels.B9 : List Nat := [0, 0, 0, 0, 8, 28, 60, 0, 0, 256, 896, 1920, 4092, 8191, 16383]
theorem tune_Levels.tab9 : rtab .any (opsOf Try.f14 9) = tune_Levels.T9 := by kernel_rfl
theorem tune_Levels.bits9 : waitsOk tune_Levels.T9.2 tune_Levels.B9 = true := by kernel_rfl
theorem tune_Levels.calls (k : Nat) (aQ : Option Addr) (aR : Nat) (aB : List (S64)) (bp : Option Addr) (aS : Nat) (ab : List (S61)) (aT : Option Addr) (aU : Nat) (aC : List (S66)) (r : List Int) (w : World) (bv : Kd.C k64 w aQ aB.length aB) (bw : aB.length ≤ aR) (bx : Kd.C k61 w bp ab.length ab) (bz : ab.length ≤ aS) (bA : Kd.C k66 w aT aC.length aC) (bB : aC.length ≤ aU) (h : tune_Levels.f k aB ab aC = some r) :
  Calls Try.prog 14 #[.agg #[.slice aQ aB.length aR, .slice bp ab.length aS, .slice aT aC.length aU]] w fun e w' => ∃ v0_ : Value, e = .returned (v0_) ∧ Kd.R (Kd.int .i64) 3 w' w.heap.size (fun _ => True) v0_ r ∧ Below w.heap.size w w' := by
 have hu26 := Try.underlying26;have hu61 := Try.underlying61;have dx := Aside0.mk bv;have dy := Aside0.mk bw;clear bv bw;have cb := Aside0.mk bx;have dz := Aside0.mk bz;clear bx bz;have dA := Aside0.mk bA;have dB := Aside0.mk bB;clear bA bB;have HB := Aside0.mk (Below.refl w.heap.size w);have H : (if 0 ≤ (ab.length : Int) then (if ((ab.length : Int) : Int).toNat ≤ 35184372088832 then (tune_Levels.l0 k (List.replicate ((ab.length : Int) : Int).toNat 0) ab (ab.length : Int) 0) else (none)) else (none)) = some r := h;clear h
 by_cases c2 : 0 ≤ (ab.length : Int)
 rotate_left
 ·rw [if_neg c2] at H
  exact absurd H (by simp)
 rw [if_pos c2] at H;have cY := eq_true c2;have cZ := decide_eq_true c2;clear c2
 by_cases c3 : ((ab.length : Int) : Int).toNat ≤ 35184372088832
 rotate_left
 ·rw [if_neg c3] at H
  exact absurd H (by simp)
 rw [if_pos c3] at H;have da := eq_true c3;have db := decide_eq_true c3;clear c3;obtain ⟨cc, aI⟩ : ∃ y_ : List Int, y_ = (List.replicate ((ab.length : Int) : Int).toNat 0) := ⟨_, rfl⟩
 replace H : (tune_Levels.l0 k cc ab (ab.length : Int) 0) = some r := by first | (rw [aI]; with_reducible exact H) | (have H2_ := (Option.bind_some _ _).symm.trans H; rw [aI]; with_reducible exact H2_) | (have H2_ := (Option.bind_some _ _).symm.trans H; with_reducible exact H2_) | with_reducible exact H | (rw [aI]; exact H) | exact H
 have bC := Aside0.mk aI;clear aI;have H' := Aside0.mk H;clear H;go_enter Try.func14, Try.ntmps14;go_wp2_with (first | ((with_reducible refine qea (N := 1) rfl ?_); refine box_event ?hg (N := 1) ?hd (cs := #[.slice aQ aB.length aR, .slice bp ab.length aS, .slice aT aC.length aU]) (t := 26) ?hr ?_; (case hd => rfl); (case hg => rfl); (case hr => first | (go_simp; done) | (go_simp; rfl)); intro bd hg w4 hbox hb; have ag := am hbox; have dC := kG HB hg; have dD := kG HB hg; replace HB := kH HB hb; clear hb hbox hg; have Z5 := kz3 ag) | ((with_reducible refine qea (N := 10) rfl ?_); refine Kd.R_make (Kd.int .i64) _ 3 rfl (N := 10) rfl 27 _ _ rfl (ab.length : Int) rfl rfl Try.underlying27 (.int .i64 0) 8 info3 rfl (by decide) (by omega) 0 (ok := fun _ => True) (okp := fun _ => True) rfl (fun _ hk => hk) trivial od (Nat.le_trans (Nat.mul_le_mul_right _ (od : (ab.length : Int).toNat ≤ 35184372088832)) (by omega)) (Below.refl _ _) (Nat.le_refl _) ?_; intro bD w6 ho7 hb hg_ hnew_; clear hg_ hnew_; (first | rw [← bC.out] at ho7 | (simp only [Int.reduceToNat] at ho7; rw [← bC.out] at ho7)); have cd := kLR ho7 HB; replace ag := kU ag hb; replace HB := kH HB hb; clear hb ho7; have Z8 := kz3 ag));go_loopg [14] k (fun kq v14 w' => ∃ (aj : List Int) (aa : Int), v14 = .int .i64 aa ∧ Aside0 (tune_Levels.l0 kq aj ab (ab.length : Int) aa = some r) ∧ Aside0 (kq ≤ k) ∧ Aside0 (Kd.R (Kd.int .i64) 3 w' w.heap.size (fun _ => True) bD aj) ∧ Aside0 (w'.heap[bd]? = some (.cells #[(.slice aQ aB.length aR), (.slice bp ab.length aS), (.slice aT aC.length aU)] 26 (0, 0))) ∧ Aside0 (Below w.heap.size w w'))
 case atStart => exact ⟨(cc), (0), et, H', ⟨Nat.le_refl _⟩, ⟨krR cd⟩, ⟨kg ag⟩, ⟨kh HB⟩⟩
 case round =>
  clear H';(try clear cY cZ da db Z5 Z8);obtain ⟨aj, aa, rfl, HA, HK1, af, ag, HB⟩ := hrel
  cases gk with
  | zero => exact absurd HA.out (by simp [tune_Levels.l0])
  | succ k1 =>
   have H := HA.out;clear HA;simp only [tune_Levels.l0] at H
   by_cases c9 : aa < (ab.length : Int)
   rotate_left
   ·rw [if_neg c9] at H
    have ce := decide_eq_false c9;clear c9;obtain rfl := Option.some.inj H;go_wp2;go_ret;exact ⟨_, er, by (with_reducible repeat first | apply Kd.R_alloc | apply Kd.R_drewN | apply Kd.R_drew); exact af.out, kh HB⟩
   rw [if_pos c9] at H;have ce := decide_eq_true c9;clear c9
   by_cases c10 : 0 ≤ aa
   rotate_left
   ·rw [if_neg c10] at H
    exact absurd H (by simp)
   rw [if_pos c10] at H;have cf := decide_eq_true c10;clear c10
   by_cases c11 : aa < (ab.length : Int)
   rotate_left
   ·rw [if_neg c11] at H
    exact absurd H (by simp)
   rw [if_pos c11] at H;have cg := decide_eq_true c11;clear c11;have bE := Aside0.mk H;clear H;have bq : 0 ≤ (aa : Int) := od;have br : aa < (ab.length : Int) := od;obtain ⟨be, dc, av, aw, ax, ay⟩ := at_T61 cb.out aa bq br;cases dc;replace av := (HB.out.cell (World.block_lt_of_cell? w _ av)).trans av;replace aw := (HB.out.cell (World.block_lt_of_cell? w _ aw)).trans aw;replace ax := (HB.out.cell (World.block_lt_of_cell? w _ ax)).trans ax;replace ay := (HB.out.cell (World.block_lt_of_cell? w _ ay)).trans ay;replace bq := eq_true bq; replace br := eq_true br;go_upto_region 5 with (first | ((with_reducible refine qea (N := 5) rfl ?_); refine box_event ?hg (N := 5) ?hd (cs := #[.int .i64 0, .int .i64 0, .int .i64 0, .int .u64 0]) (t := 61) ?hr ?_; (case hd => rfl); (case hg => rfl); (case hr => first | (go_simp; done) | (go_simp; rfl)); intro ak hg w13 hbox hb; replace af := kR af hb; have ae := am hbox; have dE := kG HB hg; have dF := kG HB hg; replace HB := kH HB hb; have ah := kP ag hg; have ai := kQ ag hg; replace ag := kU ag hb; clear hb hbox hg; have dG := ai.out; have dH := ah.out; have Z15 := kz4 ae));(try simp only [Act.put, qS1, qS2, qS3]);go_cut [6] (fun v6 wc => ∃ (kq : Nat) (aD : Bool), v6 = .bool aD ∧ Aside0 (tune_Levels.j1 kq aj aa aD ab (ab.length : Int) aa ((rd_T61 ab aa).f0) ((rd_T61 ab aa).f1) ((rd_T61 ab aa).f2) ((rd_T61 ab aa).f3) = some r) ∧ Aside0 (kq ≤ k1) ∧ Aside0 (Kd.R (Kd.int .i64) 3 wc w.heap.size (fun _ => True) bD aj) ∧ Aside0 (wc.heap[bd]? = some (.cells #[(.slice aQ aB.length aR), (.slice (some be) ab.length aS), (.slice aT aC.length aU)] 26 (0, 0))) ∧ Aside0 (wc.heap[ak]? = some (.cells #[.int .i64 ((rd_T61 ab aa).f0), .int .i64 ((rd_T61 ab aa).f1), .int .i64 ((rd_T61 ab aa).f2), .int .u64 ((rd_T61 ab aa).f3)] 61 (0, 0))) ∧ Aside0 (Below w.heap.size w wc))
   case first =>
    have H := bE.out;clear bE
    by_cases c16 : ((rd_T61 ab aa).f0) = 3
    ·rw [if_pos c16] at H
     have aJ := beq_iff_eq.mpr c16;have ch := bne_eq_false_iff_eq.mpr c16;clear c16;(first | rw [aJ] | (simp only [i64_w, i32_w]; rw [aJ]) | skip);have H' := Aside0.mk H;clear H;have dI := ai.out;have dJ := ah.out;have Z18 := kz4 ae;go_wp2;go_meet
     case rel => exact ⟨_, (true), et, H', ⟨by have := HK1.out; first | omega | exact Nat.le_refl _⟩, ⟨by (with_reducible repeat first | apply Kd.R_alloc | apply Kd.R_drewN | apply Kd.R_drew); exact Kd.R_mono (Kd.R_far (p := ⟨ak, 3, none⟩) (Kd.R_far (p := ⟨ak, 2, none⟩) (Kd.R_far (p := ⟨ak, 1, none⟩) (Kd.R_far (p := ⟨ak, 0, none⟩) (Kd.R_types af.out ae.out (by decide)) (fun _ hk => hk.2) (.int .i64 ((rd_T61 ab aa).f0))) (fun _ hk => hk.2) (.int .i64 ((rd_T61 ab aa).f1))) (fun _ hk => hk.2) (.int .i64 ((rd_T61 ab aa).f2))) (fun _ hk => hk.2) (.int .u64 ((rd_T61 ab aa).f3))) (fun _ hk => trivial)⟩, ⟨kg ag⟩, ⟨kg ae⟩, ⟨kh HB⟩⟩
    rw [if_neg c16] at H;have aJ := beq_eq_false_iff_ne.mpr c16;have ch := bne_iff_ne.mpr c16;(first | rw [aJ] | (simp only [i64_w, i32_w]; rw [aJ]) | skip)
    by_cases c19 : ((rd_T61 ab aa).f0) = 4
    rotate_left
    ·rw [if_neg c19] at H
     have ci := beq_eq_false_iff_ne.mpr c19;have cj := bne_iff_ne.mpr c19;have H' := Aside0.mk H;clear H;have dK := ai.out;have dL := ah.out;have Z23 := kz4 ae;go_wp2;go_meet
     case rel => exact ⟨_, ((((rd_T61 ab aa).f0) == 5)), et, H', ⟨by have := HK1.out; first | omega | exact Nat.le_refl _⟩, ⟨by (with_reducible repeat first | apply Kd.R_alloc | apply Kd.R_drewN | apply Kd.R_drew); exact Kd.R_mono (Kd.R_far (p := ⟨ak, 3, none⟩) (Kd.R_far (p := ⟨ak, 2, none⟩) (Kd.R_far (p := ⟨ak, 1, none⟩) (Kd.R_far (p := ⟨ak, 0, none⟩) (Kd.R_types af.out ae.out (by decide)) (fun _ hk => hk.2) (.int .i64 ((rd_T61 ab aa).f0))) (fun _ hk => hk.2) (.int .i64 ((rd_T61 ab aa).f1))) (fun _ hk => hk.2) (.int .i64 ((rd_T61 ab aa).f2))) (fun _ hk => hk.2) (.int .u64 ((rd_T61 ab aa).f3))) (fun _ hk => trivial)⟩, ⟨kg ag⟩, ⟨kg ae⟩, ⟨kh HB⟩⟩
    rw [if_pos c19] at H;have ci := beq_iff_eq.mpr c19;have cj := bne_eq_false_iff_eq.mpr c19;clear c19;have H' := Aside0.mk H;clear H;have dM := ai.out;have dN := ah.out;have Z21 := kz4 ae;go_wp2;go_meet
    case rel => exact ⟨_, (true), et, H', ⟨by have := HK1.out; first | omega | exact Nat.le_refl _⟩, ⟨by (with_reducible repeat first | apply Kd.R_alloc | apply Kd.R_drewN | apply Kd.R_drew); exact Kd.R_mono (Kd.R_far (p := ⟨ak, 3, none⟩) (Kd.R_far (p := ⟨ak, 2, none⟩) (Kd.R_far (p := ⟨ak, 1, none⟩) (Kd.R_far (p := ⟨ak, 0, none⟩) (Kd.R_types af.out ae.out (by decide)) (fun _ hk => hk.2) (.int .i64 ((rd_T61 ab aa).f0))) (fun _ hk => hk.2) (.int .i64 ((rd_T61 ab aa).f1))) (fun _ hk => hk.2) (.int .i64 ((rd_T61 ab aa).f2))) (fun _ hk => hk.2) (.int .u64 ((rd_T61 ab aa).f3))) (fun _ hk => trivial)⟩, ⟨kg ag⟩, ⟨kg ae⟩, ⟨kh HB⟩⟩
   clear bE;(try clear ce cf cg Z15 av aw ax ay bq br);obtain ⟨kq, aD, rfl, HA, ao, af, ag, ae, HB⟩ := hcut
   cases kq with
   | zero => exact absurd HA.out (by simp [tune_Levels.j1])
   | succ dd =>
    have H := HA.out;clear HA;simp only [tune_Levels.j1] at H;have bF := Aside0.mk H;clear H;go_upto_region 6 with (fail);go_cut [62] (fun v62 wc => ∃ (kq : Nat) (aE : Bool), v62 = .bool aE ∧ Aside0 (tune_Levels.j2 kq aj aa aD ab (ab.length : Int) aa aE ((rd_T61 ab aa).f0) ((rd_T61 ab aa).f1) ((rd_T61 ab aa).f2) ((rd_T61 ab aa).f3) = some r) ∧ Aside0 (kq ≤ dd) ∧ Aside0 (Kd.R (Kd.int .i64) 3 wc w.heap.size (fun _ => True) bD aj) ∧ Aside0 (wc.heap[bd]? = some (.cells #[(.slice aQ aB.length aR), (.slice (some be) ab.length aS), (.slice aT aC.length aU)] 26 (0, 0))) ∧ Aside0 (wc.heap[ak]? = some (.cells #[.int .i64 ((rd_T61 ab aa).f0), .int .i64 ((rd_T61 ab aa).f1), .int .i64 ((rd_T61 ab aa).f2), .int .u64 ((rd_T61 ab aa).f3)] 61 (0, 0))) ∧ Aside0 (Below w.heap.size w wc))
    case first =>
     have H := bF.out;clear bF
     by_cases c25 : aD = true
     ·subst c25
      replace H := ifT H
      by_cases c26 : ((rd_T61 ab aa).f1) < 0
      ·rw [if_pos c26] at H
       have aK := decide_eq_true c26;clear c26;(first | rw [aK] | (simp only [i64_w, i32_w]; rw [aK]) | skip);have H' := Aside0.mk H;clear H;have dO := ai.out;have dP := ah.out;have Z28 := kz4 ae;go_wp2;go_meet
       case rel => exact ⟨_, (true), et, H', ⟨by have := HK1.out; have := ao.out; first | omega | exact Nat.le_refl _⟩, ⟨krR af⟩, ⟨kg ag⟩, ⟨kg ae⟩, ⟨kh HB⟩⟩
      rw [if_neg c26] at H;have aK := decide_eq_false c26;clear c26;(first | rw [aK] | (simp only [i64_w, i32_w]; rw [aK]) | skip)
      by_cases c29 : ((rd_T61 ab aa).f1) ≥ aa
      ·rw [if_pos c29] at H
       have ck := decide_eq_true c29;clear c29;have H' := Aside0.mk H;clear H;have dQ := ai.out;have dR := ah.out;have Z31 := kz4 ae;go_wp2;go_meet
       case rel => exact ⟨_, (true), et, H', ⟨by have := HK1.out; have := ao.out; first | omega | exact Nat.le_refl _⟩, ⟨krR af⟩, ⟨kg ag⟩, ⟨kg ae⟩, ⟨kh HB⟩⟩
      rw [if_neg c29] at H;have ck := decide_eq_false c29;clear c29
      by_cases c32 : ((rd_T61 ab aa).f2) < 0
      ·rw [if_pos c32] at H
       have cl := decide_eq_true c32;clear c32;have H' := Aside0.mk H;clear H;have dS := ai.out;have dT := ah.out;have Z34 := kz4 ae;go_wp2;go_meet
       case rel => exact ⟨_, (true), et, H', ⟨by have := HK1.out; have := ao.out; first | omega | exact Nat.le_refl _⟩, ⟨krR af⟩, ⟨kg ag⟩, ⟨kg ae⟩, ⟨kh HB⟩⟩
      rw [if_neg c32] at H;have cl := decide_eq_false c32;clear c32;have H' := Aside0.mk H;clear H;have dU := ai.out;have dV := ah.out;have Z36 := kz4 ae;go_wp2;go_meet
      case rel => exact ⟨_, (decide (((rd_T61 ab aa).f2) ≥ aa)), et, H', ⟨by have := HK1.out; have := ao.out; first | omega | exact Nat.le_refl _⟩, ⟨krR af⟩, ⟨kg ag⟩, ⟨kg ae⟩, ⟨kh HB⟩⟩
     replace c25 := Bool.eq_false_iff.mpr c25;subst c25;replace H := ifF H
     by_cases c37 : ((rd_T61 ab aa).f0) = 6
     rotate_left
     ·rw [if_neg c37] at H
      have cm := beq_eq_false_iff_ne.mpr c37;have cn := bne_iff_ne.mpr c37;have H' := Aside0.mk H;clear H;have dW := ai.out;have dX := ah.out;have Z47 := kz4 ae;go_wp2;go_meet
      case rel => exact ⟨_, (false), et, H', ⟨by have := HK1.out; have := ao.out; first | omega | exact Nat.le_refl _⟩, ⟨krR af⟩, ⟨kg ag⟩, ⟨kg ae⟩, ⟨kh HB⟩⟩
     rw [if_pos c37] at H;have cm := beq_iff_eq.mpr c37;have cn := bne_eq_false_iff_eq.mpr c37;clear c37
     by_cases c38 : ((rd_T61 ab aa).f1) < 0
     ·rw [if_pos c38] at H
      have co := decide_eq_true c38;clear c38;have H' := Aside0.mk H;clear H;have dY := ai.out;have dZ := ah.out;have Z40 := kz4 ae;go_wp2;go_meet
      case rel => exact ⟨_, (true), et, H', ⟨by have := HK1.out; have := ao.out; first | omega | exact Nat.le_refl _⟩, ⟨krR af⟩, ⟨kg ag⟩, ⟨kg ae⟩, ⟨kh HB⟩⟩
     rw [if_neg c38] at H;have co := decide_eq_false c38;clear c38
     by_cases c41 : ((rd_T61 ab aa).f1) ≥ aa
     ·rw [if_pos c41] at H
      have cp := decide_eq_true c41;clear c41;have H' := Aside0.mk H;clear H;have ea := ai.out;have eb := ah.out;have Z43 := kz4 ae;go_wp2;go_meet
      case rel => exact ⟨_, (true), et, H', ⟨by have := HK1.out; have := ao.out; first | omega | exact Nat.le_refl _⟩, ⟨krR af⟩, ⟨kg ag⟩, ⟨kg ae⟩, ⟨kh HB⟩⟩
     rw [if_neg c41] at H;have cp := decide_eq_false c41;clear c41;have H' := Aside0.mk H;clear H;have ec := ai.out;have ed := ah.out;have Z45 := kz4 ae;go_wp2;go_meet
     case rel => exact ⟨_, (false), et, H', ⟨by have := HK1.out; have := ao.out; first | omega | exact Nat.le_refl _⟩, ⟨krR af⟩, ⟨kg ag⟩, ⟨kg ae⟩, ⟨kh HB⟩⟩
    clear bF;obtain ⟨kq, aE, rfl, HA, au, af, ag, ae, HB⟩ := hcut
    cases kq with
    | zero => exact absurd HA.out (by simp [tune_Levels.j2])
    | succ ar =>
     have H := HA.out;clear HA;simp only [tune_Levels.j2] at H
     by_cases c48 : aE = true
     ·subst c48
      replace H := ifT H;obtain rfl := Option.some.inj H;go_wp2;go_ret;exact ⟨_, er, by first | exact Kd.R_nil _ _ _ _ _ | exact Kd.N_nil _ _ _ _ _ | exact Kd.V_nil _ _ _ _ _ | exact Kd.Q_nil _ _ _ _ _ | exact Kd.S_nil _ _ _ _ _, kh HB⟩
     replace c48 := Bool.eq_false_iff.mpr c48;subst c48;replace H := ifF H
     by_cases c49 : aD = true
     rotate_left
     ·replace c49 := Bool.eq_false_iff.mpr c49
      subst c49;replace H := ifF H
      by_cases c74 : ((rd_T61 ab aa).f0) = 6
      rotate_left
      ·rw [if_neg c74] at H
       have cq := beq_eq_false_iff_ne.mpr c74;have cr := bne_iff_ne.mpr c74
       by_cases c96 : ((rd_T61 ab aa).f0) = 5
       rotate_left
       ·rw [if_neg c96] at H
        have ct := beq_eq_false_iff_ne.mpr c96;have cu := bne_iff_ne.mpr c96;have H' := Aside0.mk H;clear H;have de := ai.out;have df := ah.out;have eF := kz4 ae;go_wp2;go_roundg ar
        case measure => have := HK1.out; have := ao.out; have := au.out; omega
        case rel => exact ⟨(aj), (wrap64 (aa + 1)), et, H', ⟨by have := HK1.out; have := ao.out; have := au.out; omega⟩, ⟨krR af⟩, ⟨kg ag⟩, ⟨kh HB⟩⟩
       rw [if_pos c96] at H;have ct := beq_iff_eq.mpr c96;have cu := bne_eq_false_iff_eq.mpr c96;clear c96
       by_cases c97 : 0 ≤ aa
       rotate_left
       ·rw [if_neg c97] at H
        exact absurd H (by simp)
       rw [if_pos c97] at H;have ee := decide_eq_true c97;clear c97
       by_cases c98 : aa < (aj.length : Int)
       rotate_left
       ·rw [if_neg c98] at H
        exact absurd H (by simp)
       rw [if_pos c98] at H;have ef := decide_eq_true c98;clear c98;obtain ⟨bG, aL⟩ : ∃ y_ : List Int, y_ = (aj.set (aa : Int).toNat (wrap64 ((rd aj aa) + 1))) := ⟨_, rfl⟩
       replace H : (tune_Levels.l0 ar bG ab (ab.length : Int) (wrap64 (aa + 1))) = some r := by first | (rw [aL]; with_reducible exact H) | (have H2_ := (Option.bind_some _ _).symm.trans H; rw [aL]; with_reducible exact H2_) | (have H2_ := (Option.bind_some _ _).symm.trans H; with_reducible exact H2_) | with_reducible exact H | (rw [aL]; exact H) | exact H
       have cv := Aside0.mk aL;clear aL;have H' := Aside0.mk H;clear H;have dg := ai.out;have dh := ah.out;have eG := kz4 ae;obtain ⟨eg, cw, cx⟩ := Kd.R_slice af.out;subst cx;have bH : 0 ≤ (aa : Int) := od;have bI : aa < (aj.length : Int) := od;obtain ⟨eh, di, bt⟩ := Kd.at_int (Kd.R_reads' af.out).2.2 aa bH bI;cases di;replace bH := eq_true bH; replace bI := eq_true bI;have p99 : 0 ≤ (aa : Int) := od;have q99 : (aa : Int) < ((aj.length : Int) : Int) := od;obtain ⟨bJ, eH, cy, cz, gl99, cl99, HG99⟩ := Kd.R_form af.out (by omega);(first | cases cy | (injection cy with ea_ en_ ec_; (first | subst ea_ | (injection ea_ with ea_; subst ea_)); subst ec_; clear en_));have dj := Aside0.mk cz;have eI := Aside0.mk HG99;clear cz gl99 HG99;(first | simp only [add_plain] at bt | skip);obtain ⟨dk, dl⟩ := Kd.R_celln 0 af.out (aa : Int) p99 q99;replace p99 := eq_true p99; replace q99 := eq_true q99;have bf := Kd.R_putg af.out (aa : Int) (wrap64 ((rd aj aa) + 1));go_wp2_with (first | ((with_reducible refine gate_store (t := 3) (p := 99) rfl ?_); refine store_event (t := 3) (p := 99) (v := ?vo_w104) (w1 := (wc.setCell ⟨bJ, (aa : Int).toNat, none⟩ (.int .i64 (wrap64 ((rd aj aa) + 1))))) ?hg ?ho ?hn ?hr ?_; (case ho => rfl); (case hg => rfl); (case hn => rfl); (case hr => first | (go_simp; done) | (go_simp; rfl)); intro bK hw; have hg : wc.grownBy bK (some bJ) := (by rw [hw]; exact bf.2); have hp_ : Kd.R (Kd.int .i64) 3 bK w.heap.size (fun _ => True) (.slice (some ⟨bJ, 0, none⟩) aj.length cw) bG := (by rw [hw, cv.out]; exact bf.1); clear bf; replace ag := kXR ag af hg; replace ae := kXR ae af hg; replace af := Aside0.mk (hp_); replace HB := Aside0.mk ((by rw [hw]; exact below_set (HB.out) dj.out : Below w.heap.size w bK)); clear hg hw hp_));go_roundg ar
       case measure => have := HK1.out; have := ao.out; have := au.out; omega
       case rel => exact ⟨(bG), (wrap64 (aa + 1)), et, H', ⟨by have := HK1.out; have := ao.out; have := au.out; omega⟩, ⟨krR af⟩, ⟨kg ag⟩, ⟨kh HB⟩⟩
      rw [if_pos c74] at H;have cq := beq_iff_eq.mpr c74;have cr := bne_eq_false_iff_eq.mpr c74;clear c74
      by_cases c75 : 0 ≤ ((rd_T61 ab aa).f1)
      rotate_left
      ·rw [if_neg c75] at H
       exact absurd H (by simp)
      rw [if_pos c75] at H;have ei := decide_eq_true c75;clear c75
      by_cases c76 : ((rd_T61 ab aa).f1) < (aj.length : Int)
      rotate_left
      ·rw [if_neg c76] at H
       exact absurd H (by simp)
      rw [if_pos c76] at H;have ej := decide_eq_true c76;clear c76
      by_cases c77 : 0 ≤ aa
      rotate_left
      ·rw [if_neg c77] at H
       exact absurd H (by simp)
      rw [if_pos c77] at H;have ek := decide_eq_true c77;clear c77
      by_cases c78 : aa < (aj.length : Int)
      rotate_left
      ·rw [if_neg c78] at H
       exact absurd H (by simp)
      rw [if_pos c78] at H;have el := decide_eq_true c78;clear c78;obtain ⟨az, aM⟩ : ∃ y_ : List Int, y_ = (aj.set (aa : Int).toNat (rd aj ((rd_T61 ab aa).f1))) := ⟨_, rfl⟩
      replace H : (if ((rd_T61 ab aa).f0) = 5 then (tune_Levels.l0 ar (az.set (aa : Int).toNat (wrap64 ((rd az aa) + 1))) ab (ab.length : Int) (wrap64 (aa + 1))) else (tune_Levels.l0 ar az ab (ab.length : Int) (wrap64 (aa + 1)))) = some r := by first | (rw [aM]; with_reducible exact H) | (have H2_ := (Option.bind_some _ _).symm.trans H; rw [aM]; with_reducible exact H2_) | (have H2_ := (Option.bind_some _ _).symm.trans H; with_reducible exact H2_) | with_reducible exact H | (rw [aM]; exact H) | exact H
      have bg := Aside0.mk aM;clear aM
      by_cases c80 : ((rd_T61 ab aa).f0) = 5
      rotate_left
      ·rw [if_neg c80] at H
       have cA := beq_eq_false_iff_ne.mpr c80;have cB := bne_iff_ne.mpr c80;have H' := Aside0.mk H;clear H;have em := ai.out;have en := ah.out;have Z91 := kz4 ae;obtain ⟨eJ, dm, dn⟩ := Kd.R_slice af.out;subst dn;have aV : 0 ≤ (((rd_T61 ab aa).f1) : Int) := od;have aW : ((rd_T61 ab aa).f1) < (aj.length : Int) := od;obtain ⟨cC, bL, aF⟩ := Kd.at_int (Kd.R_reads' af.out).2.2 ((rd_T61 ab aa).f1) aV aW;cases bL;replace aV := eq_true aV; replace aW := eq_true aW;have p79 : 0 ≤ (aa : Int) := od;have q79 : (aa : Int) < ((aj.length : Int) : Int) := od;obtain ⟨aA, dp, bh, bi, gl79, cl79, HG79⟩ := Kd.R_form af.out (by omega);(first | cases bh | (injection bh with ea_ en_ ec_; (first | subst ea_ | (injection ea_ with ea_; subst ea_)); subst ec_; clear en_));have bu := Aside0.mk bi;have dq := Aside0.mk HG79;clear bi gl79 HG79;(first | simp only [add_plain] at aF | skip);obtain ⟨bM, bN⟩ := Kd.R_celln 0 af.out (aa : Int) p79 q79;replace p79 := eq_true p79; replace q79 := eq_true q79;have bO := Kd.R_putg af.out (aa : Int) (rd aj ((rd_T61 ab aa).f1));go_wp2_with (first | ((with_reducible refine gate_store (t := 3) (p := 90) rfl ?_); refine store_event (t := 3) (p := 90) (v := ?vo_w94) (w1 := (wc.setCell ⟨aA, (aa : Int).toNat, none⟩ (.int .i64 (rd aj ((rd_T61 ab aa).f1))))) ?hg ?ho ?hn ?hr ?_; (case ho => rfl); (case hg => rfl); (case hn => rfl); (case hr => first | (go_simp; done) | (go_simp; rfl)); intro w94 hw; have hg : wc.grownBy w94 (some aA) := (by rw [hw]; exact bO.2); have hp_ : Kd.R (Kd.int .i64) 3 w94 w.heap.size (fun _ => True) (.slice (some ⟨aA, 0, none⟩) aj.length dm) az := (by rw [hw, bg.out]; exact bO.1); clear bO; replace ag := kXR ag af hg; replace ae := kXR ae af hg; replace af := Aside0.mk (hp_); replace HB := Aside0.mk ((by rw [hw]; exact below_set (HB.out) bu.out : Below w.heap.size w w94)); clear hg hw hp_; have Z95 := kz4 ae));go_roundg ar
       case measure => have := HK1.out; have := ao.out; have := au.out; omega
       case rel => exact ⟨(az), (wrap64 (aa + 1)), et, H', ⟨by have := HK1.out; have := ao.out; have := au.out; omega⟩, ⟨krR af⟩, ⟨kg ag⟩, ⟨kh HB⟩⟩
      rw [if_pos c80] at H;have cA := beq_iff_eq.mpr c80;have cB := bne_eq_false_iff_eq.mpr c80;clear c80;obtain ⟨bP, aN⟩ : ∃ y_ : List Int, y_ = (az.set (aa : Int).toNat (wrap64 ((rd az aa) + 1))) := ⟨_, rfl⟩
      replace H : (tune_Levels.l0 ar bP ab (ab.length : Int) (wrap64 (aa + 1))) = some r := by first | (rw [aN]; with_reducible exact H) | (have H2_ := (Option.bind_some _ _).symm.trans H; rw [aN]; with_reducible exact H2_) | (have H2_ := (Option.bind_some _ _).symm.trans H; with_reducible exact H2_) | with_reducible exact H | (rw [aN]; exact H) | exact H
      have cD := Aside0.mk aN;clear aN;have H' := Aside0.mk H;clear H;have eo := ai.out;have ep := ah.out;have Z83 := kz4 ae;obtain ⟨eK, cE, dr⟩ := Kd.R_slice af.out;subst dr;have aV : 0 ≤ (((rd_T61 ab aa).f1) : Int) := od;have aW : ((rd_T61 ab aa).f1) < (aj.length : Int) := od;obtain ⟨cC, bL, aF⟩ := Kd.at_int (Kd.R_reads' af.out).2.2 ((rd_T61 ab aa).f1) aV aW;cases bL;replace aV := eq_true aV; replace aW := eq_true aW;have p79 : 0 ≤ (aa : Int) := od;have q79 : (aa : Int) < ((aj.length : Int) : Int) := od;obtain ⟨aA, dp, bh, bi, gl79, cl79, HG79⟩ := Kd.R_form af.out (by omega);(first | cases bh | (injection bh with ea_ en_ ec_; (first | subst ea_ | (injection ea_ with ea_; subst ea_)); subst ec_; clear en_));have bu := Aside0.mk bi;have dq := Aside0.mk HG79;clear bi gl79 HG79;(first | simp only [add_plain] at aF | skip);obtain ⟨bM, bN⟩ := Kd.R_celln 0 af.out (aa : Int) p79 q79;replace p79 := eq_true p79; replace q79 := eq_true q79;have bQ := Kd.R_putg af.out (aa : Int) (rd aj ((rd_T61 ab aa).f1));go_wp2_with (first | ((with_reducible refine gate_store (t := 3) (p := 90) rfl ?_); refine store_event (t := 3) (p := 90) (v := ?vo_w86) (w1 := (wc.setCell ⟨aA, (aa : Int).toNat, none⟩ (.int .i64 (rd aj ((rd_T61 ab aa).f1))))) ?hg ?ho ?hn ?hr ?_; (case ho => rfl); (case hg => rfl); (case hn => rfl); (case hr => first | (go_simp; done) | (go_simp; rfl)); intro w86 hw; have hg : wc.grownBy w86 (some aA) := (by rw [hw]; exact bQ.2); have hp_ : Kd.R (Kd.int .i64) 3 w86 w.heap.size (fun _ => True) (.slice (some ⟨aA, 0, none⟩) aj.length cE) az := (by rw [hw, bg.out]; exact bQ.1); clear bQ; replace ag := kXR ag af hg; replace ae := kXR ae af hg; replace af := Aside0.mk (hp_); replace HB := Aside0.mk ((by rw [hw]; exact below_set (HB.out) bu.out : Below w.heap.size w w86)); clear hg hw hp_; have Z87 := kz4 ae; have bR : 0 ≤ (aa : Int) := od; have bS : aa < (az.length : Int) := (by have h_ : (aa : Int) < ((aj.length : Int) : Int) := od; first | (have e_ := (Kd.R_reads' af.out).1; omega) | simpa only [bg.out, List.length_set] using h_); have ql141 : ((aa : Int) < ((aj.length : Int) : Int)) = True := eq_true od; obtain ⟨cF, dt, aG⟩ := Kd.at_int (Kd.R_reads' af.out).2.2 aa bR bS; obtain rfl : (⟨aA, 0, none⟩ : Addr) = cF := (by injection dt); (first | simp only [add_plain] at aG | simp only [add_at] at aG | simp only [Addr.add, Nat.zero_add] at aG | skip); replace bR := eq_true bR; replace bS := eq_true bS; have p81 : 0 ≤ (aa : Int) := od; have q81 : (aa : Int) < ((aj.length : Int) : Int) := od; obtain ⟨du, dv⟩ := Kd.R_celln 0 af.out (aa : Int) p81 q81; replace p81 := eq_true p81; replace q81 := eq_true q81; obtain ⟨eq, es⟩ := Kd.R_celln 0 af.out (aa : Int) od od; have bT := Kd.R_putg af.out (aa : Int) (wrap64 ((rd az aa) + 1))) | ((with_reducible refine gate_store (t := 3) (p := 99) rfl ?_); refine store_event (t := 3) (p := 99) (v := ?vo_w89) (w1 := (w86.setCell ⟨aA, (aa : Int).toNat, none⟩ (.int .i64 (wrap64 ((rd az aa) + 1))))) ?hg ?ho ?hn ?hr ?_; (case ho => rfl); (case hg => rfl); (case hn => rfl); (case hr => first | (go_simp; done) | (go_simp; rfl)); intro w89 hw; have hg : w86.grownBy w89 (some aA) := (by rw [hw]; exact bT.2); have hp_ : Kd.R (Kd.int .i64) 3 w89 w.heap.size (fun _ => True) (.slice (some ⟨aA, 0, none⟩) aj.length cE) bP := (by rw [hw, cD.out]; exact bT.1); clear bT; replace ag := kXR ag af hg; replace ae := kXR ae af hg; replace af := Aside0.mk (hp_); replace HB := Aside0.mk ((by rw [hw]; exact below_set (HB.out) bu.out : Below w.heap.size w w89)); clear hg hw hp_));go_roundg ar
      case measure => have := HK1.out; have := ao.out; have := au.out; omega
      case rel => exact ⟨(bP), (wrap64 (aa + 1)), et, H', ⟨by have := HK1.out; have := ao.out; have := au.out; omega⟩, ⟨krR af⟩, ⟨kg ag⟩, ⟨kh HB⟩⟩
     subst c49;replace H := ifT H
     by_cases c50 : 0 ≤ ((rd_T61 ab aa).f1)
     rotate_left
     ·rw [if_neg c50] at H
      exact absurd H (by simp)
     rw [if_pos c50] at H;have eu := decide_eq_true c50;clear c50
     by_cases c51 : ((rd_T61 ab aa).f1) < (aj.length : Int)
     rotate_left
     ·rw [if_neg c51] at H
      exact absurd H (by simp)
     rw [if_pos c51] at H;have ev := decide_eq_true c51;clear c51
     by_cases c52 : 0 ≤ ((rd_T61 ab aa).f2)
     rotate_left
     ·rw [if_neg c52] at H
      exact absurd H (by simp)
     rw [if_pos c52] at H;have ew := decide_eq_true c52;clear c52
     by_cases c53 : ((rd_T61 ab aa).f2) < (aj.length : Int)
     rotate_left
     ·rw [if_neg c53] at H
      exact absurd H (by simp)
     rw [if_pos c53] at H;have ex := decide_eq_true c53;clear c53;obtain ⟨al, bj⟩ : ∃ j_ : Int, (mx (rd aj ((rd_T61 ab aa).f1)) (rd aj ((rd_T61 ab aa).f2))) = j_ := ⟨_, rfl⟩
     replace H : (if 0 ≤ aa then (if aa < (aj.length : Int) then ((some (aj.set (aa : Int).toNat (al) : List Int)).bind fun aH => (if ((rd_T61 ab aa).f0) = 5 then (tune_Levels.l0 ar (aH.set (aa : Int).toNat (wrap64 ((al) + 1))) ab (ab.length : Int) (wrap64 (aa + 1))) else (tune_Levels.l0 ar aH ab (ab.length : Int) (wrap64 (aa + 1))))) else (none)) else (none)) = some r := by first | (rw [bj] at H; exact H) | (simp only [bj] at H ⊢; exact H)
     have hji54_ : (if (rd aj ((rd_T61 ab aa).f1)) < (rd aj ((rd_T61 ab aa).f2)) then (rd aj ((rd_T61 ab aa).f2)) else (rd aj ((rd_T61 ab aa).f1))) = al := bj
     by_cases c55 : 0 ≤ aa
     rotate_left
     ·rw [if_neg c55] at H
      exact absurd H (by simp)
     rw [if_pos c55] at H;have ey := decide_eq_true c55;clear c55
     by_cases c56 : aa < (aj.length : Int)
     rotate_left
     ·rw [if_neg c56] at H
      exact absurd H (by simp)
     rw [if_pos c56] at H;have ez := decide_eq_true c56;clear c56;obtain ⟨aH, aO⟩ : ∃ y_ : List Int, y_ = (aj.set (aa : Int).toNat (al)) := ⟨_, rfl⟩
     replace H : (if ((rd_T61 ab aa).f0) = 5 then (tune_Levels.l0 ar (aH.set (aa : Int).toNat (wrap64 ((al) + 1))) ab (ab.length : Int) (wrap64 (aa + 1))) else (tune_Levels.l0 ar aH ab (ab.length : Int) (wrap64 (aa + 1)))) = some r := by first | (rw [aO]; with_reducible exact H) | (have H2_ := (Option.bind_some _ _).symm.trans H; rw [aO]; with_reducible exact H2_) | (have H2_ := (Option.bind_some _ _).symm.trans H; with_reducible exact H2_) | with_reducible exact H | (rw [aO]; exact H) | exact H
     have bk := Aside0.mk aO;clear aO
     by_cases c58 : ((rd_T61 ab aa).f0) = 5
     rotate_left
     ·rw [if_neg c58] at H
      have cG := beq_eq_false_iff_ne.mpr c58;have cH := bne_iff_ne.mpr c58;have H' := Aside0.mk H;clear H;(try go_wp2);replace af := kFR af; replace ag := kD ag; replace ae := kD ae; replace HB := kE HB;obtain ⟨eL, eM, cI⟩ := Kd.R_slice af.out;(first | subst cI | (injection cI with f1_ f2_ f3_; have f4_ := f1_.symm; have f5_ := f3_.symm; clear f1_ f2_ f3_; subst f4_; subst f5_));have aX : 0 ≤ (((rd_T61 ab aa).f1) : Int) := od;have aY : ((rd_T61 ab aa).f1) < (aj.length : Int) := od;obtain ⟨bl, bU, ap⟩ := Kd.at_int (Kd.R_reads' af.out).2.2 ((rd_T61 ab aa).f1) aX aY;cases bU;replace aX := eq_true aX; replace aY := eq_true aY;have aZ : 0 ≤ (((rd_T61 ab aa).f2) : Int) := od;have ba : ((rd_T61 ab aa).f2) < (aj.length : Int) := od;obtain ⟨bm, bV, aq⟩ := Kd.at_int (Kd.R_reads' af.out).2.2 ((rd_T61 ab aa).f2) aZ ba;obtain rfl : bl = bm := (by injection bV);replace aZ := eq_true aZ; replace ba := eq_true ba;have p57 : 0 ≤ (aa : Int) := od;have q57 : (aa : Int) < ((aj.length : Int) : Int) := od;obtain ⟨an, dw, bn, bo, gl57, cl57, HG57⟩ := Kd.R_form af.out (by omega);(first | cases bn | (injection bn with ea_ en_ ec_; (first | subst ea_ | (injection ea_ with ea_; subst ea_)); subst ec_; clear en_));have cJ := Aside0.mk bo;have bW := Aside0.mk HG57;clear bo gl57 HG57;(first | simp only [add_plain] at ap | skip);(first | simp only [add_plain] at aq | skip);obtain ⟨bb, bc⟩ := Kd.R_celln 0 af.out (aa : Int) p57 q57;replace p57 := eq_true p57; replace q57 := eq_true q57;have bX := Kd.R_putn af.out (aa : Int) al;rw [← bk.out] at bX;have cK := Aside0.mk bX;clear bX;refine start_ (n := 15) (S := fun w' => w'.cell? ⟨ak, 0, none⟩ = some (.int .i64 ((rd_T61 ab aa).f0)) ∧ w'.cell? ⟨ak, 1, none⟩ = some (.int .i64 ((rd_T61 ab aa).f1)) ∧ w'.cell? ⟨ak, 2, none⟩ = some (.int .i64 ((rd_T61 ab aa).f2)) ∧ w'.cell? ⟨ak, 3, none⟩ = some (.int .u64 ((rd_T61 ab aa).f3)) ∧ w'.cell? ⟨an, (((rd_T61 ab aa).f1)).toNat, none⟩ = some (.int .i64 (rd aj ((rd_T61 ab aa).f1))) ∧ w'.cell? ⟨an, (((rd_T61 ab aa).f2)).toNat, none⟩ = some (.int .i64 (rd aj ((rd_T61 ab aa).f2)))) (ds := [14]) (bs 15 0) (by kernel_rfl) rfl rfl ⟨kk ae 0, kk ae 1, kk ae 2, kk ae 3, ap, aq⟩ (fun hHeld => ?_); refine with_tabW tune_Levels.tab9 tune_Levels.bits9 (fun HT_ HW_ => ?_);generalize wc.drew = w69 at af ag ae HB bW cK bc ap aq bb hHeld ⊢;refine pu 0 (some 65) (bs 15 1) HT_ ?_;refine pu 1 (some 66) (bs 15 3) HT_ ?_;refine pu 2 (some 67) (bs 15 7) HT_ ?_;refine pu 3 (some 68) (bs 15 15) HT_ ?_;refine pu 7 (some 72) (bs 15 143) HT_ ?_;refine pu 8 (some 73) (bs 15 399) HT_ ?_;refine ta 4 (some 69) (bs 15 415) HT_ HW_ hHeld ?_;refine pu 5 (some 70) (bs 15 447) HT_ ?_;refine ta 6 (some 71) (bs 15 511) HT_ HW_ hHeld ?_;refine ta 9 (some 74) (bs 15 1023) HT_ HW_ hHeld ?_;refine pu 10 (some 75) (bs 15 2047) HT_ ?_;refine ta 11 (some 76) (bs 15 4095) HT_ HW_ hHeld ?_;refine pu 12 (some 77) (bs 15 8191) HT_ ?_;refine pu 13 (some 78) (bs 15 16383) HT_ ?_;refine last_ (i := 14) (N := none) (bs 15 32767) rfl rfl (one_of HT_.out (by kernel_rfl)) (by decide) (fun K hK => ?_);refine skip_ (w1 := ?_) (by rfl) rfl ?_ ?_
      rotate_left
      ·go_simp
       rfl
      refine hK.out _ _ ?_;clear hK K;refine done_ (done_of HT_.out (by kernel_rfl)) ?_;have eA := ai.out;have eB := ah.out;have cQ : (w69.setCell ⟨an, (aa : Int).toNat, none⟩ (.int .i64 al)).cell? ⟨ak, 0, none⟩ = some (.int .i64 ((rd_T61 ab aa).f0)) := (blk_cell (blk_far (p := ⟨an, (aa : Int).toNat, none⟩) ae.out (by have h_ := Kd.R_ne af.out ae.out (by decide); intro e_; exact h_ (by rw [e_]; rfl)) (.int .i64 al)) 0).trans rfl;have cR : (w69.setCell ⟨an, (aa : Int).toNat, none⟩ (.int .i64 al)).cell? ⟨ak, 1, none⟩ = some (.int .i64 ((rd_T61 ab aa).f1)) := (blk_cell (blk_far (p := ⟨an, (aa : Int).toNat, none⟩) ae.out (by have h_ := Kd.R_ne af.out ae.out (by decide); intro e_; exact h_ (by rw [e_]; rfl)) (.int .i64 al)) 1).trans rfl;have cS : (w69.setCell ⟨an, (aa : Int).toNat, none⟩ (.int .i64 al)).cell? ⟨ak, 2, none⟩ = some (.int .i64 ((rd_T61 ab aa).f2)) := (blk_cell (blk_far (p := ⟨an, (aa : Int).toNat, none⟩) ae.out (by have h_ := Kd.R_ne af.out ae.out (by decide); intro e_; exact h_ (by rw [e_]; rfl)) (.int .i64 al)) 2).trans rfl;have cT : (w69.setCell ⟨an, (aa : Int).toNat, none⟩ (.int .i64 al)).cell? ⟨ak, 3, none⟩ = some (.int .u64 ((rd_T61 ab aa).f3)) := (blk_cell (blk_far (p := ⟨an, (aa : Int).toNat, none⟩) ae.out (by have h_ := Kd.R_ne af.out ae.out (by decide); intro e_; exact h_ (by rw [e_]; rfl)) (.int .i64 al)) 3).trans rfl;have cU := blk_frozen ae.out 0;have cV := blk_frozen ae.out 1;have cW := blk_frozen ae.out 2;have cX := blk_frozen ae.out 3;(try go_wp2);go_roundg ar
      case measure => have := HK1.out; have := ao.out; have := au.out; omega
      case rel => exact ⟨(aH), (wrap64 (aa + 1)), et, H', ⟨by have := HK1.out; have := ao.out; have := au.out; omega⟩, ⟨krR cK⟩, ⟨by (with_reducible repeat first | refine blk_drewN ?_ _ | refine blk_drew ?_ | refine blk_alloc ?_ _); refine blk_far ?_ (by have h_ := Kd.R_ne af.out ag.out (by decide); intro e_; exact h_ (by rw [e_]; rfl)) _; (with_reducible repeat first | refine blk_drewN ?_ _ | refine blk_drew ?_ | refine blk_alloc ?_ _); exact ag.out⟩, ⟨kh HB⟩⟩
     rw [if_pos c58] at H;have cG := beq_iff_eq.mpr c58;have cH := bne_eq_false_iff_eq.mpr c58;clear c58;obtain ⟨bY, aP⟩ : ∃ y_ : List Int, y_ = (aH.set (aa : Int).toNat (wrap64 ((al) + 1))) := ⟨_, rfl⟩
     replace H : (tune_Levels.l0 ar bY ab (ab.length : Int) (wrap64 (aa + 1))) = some r := by first | (rw [aP]; with_reducible exact H) | (have H2_ := (Option.bind_some _ _).symm.trans H; rw [aP]; with_reducible exact H2_) | (have H2_ := (Option.bind_some _ _).symm.trans H; with_reducible exact H2_) | with_reducible exact H | (rw [aP]; exact H) | exact H
     have cL := Aside0.mk aP;clear aP;have H' := Aside0.mk H;clear H;(try go_wp2);replace af := kFR af; replace ag := kD ag; replace ae := kD ae; replace HB := kE HB;obtain ⟨eN, cM, cN⟩ := Kd.R_slice af.out;(first | subst cN | (injection cN with f1_ f2_ f3_; have f4_ := f1_.symm; have f5_ := f3_.symm; clear f1_ f2_ f3_; subst f4_; subst f5_));have aX : 0 ≤ (((rd_T61 ab aa).f1) : Int) := od;have aY : ((rd_T61 ab aa).f1) < (aj.length : Int) := od;obtain ⟨bl, bU, ap⟩ := Kd.at_int (Kd.R_reads' af.out).2.2 ((rd_T61 ab aa).f1) aX aY;cases bU;replace aX := eq_true aX; replace aY := eq_true aY;have aZ : 0 ≤ (((rd_T61 ab aa).f2) : Int) := od;have ba : ((rd_T61 ab aa).f2) < (aj.length : Int) := od;obtain ⟨bm, bV, aq⟩ := Kd.at_int (Kd.R_reads' af.out).2.2 ((rd_T61 ab aa).f2) aZ ba;obtain rfl : bl = bm := (by injection bV);replace aZ := eq_true aZ; replace ba := eq_true ba;have p57 : 0 ≤ (aa : Int) := od;have q57 : (aa : Int) < ((aj.length : Int) : Int) := od;obtain ⟨an, dw, bn, bo, gl57, cl57, HG57⟩ := Kd.R_form af.out (by omega);(first | cases bn | (injection bn with ea_ en_ ec_; (first | subst ea_ | (injection ea_ with ea_; subst ea_)); subst ec_; clear en_));have cJ := Aside0.mk bo;have bW := Aside0.mk HG57;clear bo gl57 HG57;(first | simp only [add_plain] at ap | skip);(first | simp only [add_plain] at aq | skip);obtain ⟨bb, bc⟩ := Kd.R_celln 0 af.out (aa : Int) p57 q57;replace p57 := eq_true p57; replace q57 := eq_true q57;have bZ := Kd.R_putn af.out (aa : Int) al;rw [← bk.out] at bZ;have cO := Aside0.mk bZ;clear bZ;refine start_ (n := 15) (S := fun w' => w'.cell? ⟨ak, 0, none⟩ = some (.int .i64 ((rd_T61 ab aa).f0)) ∧ w'.cell? ⟨ak, 1, none⟩ = some (.int .i64 ((rd_T61 ab aa).f1)) ∧ w'.cell? ⟨ak, 2, none⟩ = some (.int .i64 ((rd_T61 ab aa).f2)) ∧ w'.cell? ⟨ak, 3, none⟩ = some (.int .u64 ((rd_T61 ab aa).f3)) ∧ w'.cell? ⟨an, (((rd_T61 ab aa).f1)).toNat, none⟩ = some (.int .i64 (rd aj ((rd_T61 ab aa).f1))) ∧ w'.cell? ⟨an, (((rd_T61 ab aa).f2)).toNat, none⟩ = some (.int .i64 (rd aj ((rd_T61 ab aa).f2)))) (ds := [14]) (bs 15 0) (by kernel_rfl) rfl rfl ⟨kk ae 0, kk ae 1, kk ae 2, kk ae 3, ap, aq⟩ (fun hHeld => ?_); refine with_tabW tune_Levels.tab9 tune_Levels.bits9 (fun HT_ HW_ => ?_);generalize wc.drew = w61 at af ag ae HB bW cO bc ap aq bb hHeld ⊢;refine pu 0 (some 65) (bs 15 1) HT_ ?_;refine pu 1 (some 66) (bs 15 3) HT_ ?_;refine pu 2 (some 67) (bs 15 7) HT_ ?_;refine pu 3 (some 68) (bs 15 15) HT_ ?_;refine pu 7 (some 72) (bs 15 143) HT_ ?_;refine pu 8 (some 73) (bs 15 399) HT_ ?_;refine ta 4 (some 69) (bs 15 415) HT_ HW_ hHeld ?_;refine pu 5 (some 70) (bs 15 447) HT_ ?_;refine ta 6 (some 71) (bs 15 511) HT_ HW_ hHeld ?_;refine ta 9 (some 74) (bs 15 1023) HT_ HW_ hHeld ?_;refine pu 10 (some 75) (bs 15 2047) HT_ ?_;refine ta 11 (some 76) (bs 15 4095) HT_ HW_ hHeld ?_;refine pu 12 (some 77) (bs 15 8191) HT_ ?_;refine pu 13 (some 78) (bs 15 16383) HT_ ?_;refine last_ (i := 14) (N := none) (bs 15 32767) rfl rfl (one_of HT_.out (by kernel_rfl)) (by decide) (fun K hK => ?_);refine skip_ (w1 := ?_) (by rfl) rfl ?_ ?_
     rotate_left
     ·go_simp
      rfl
     refine hK.out _ _ ?_;clear hK K;refine done_ (done_of HT_.out (by kernel_rfl)) ?_;have n0_ : Aside0 (Kd.R (Kd.int .i64) 3 (w61.setCell ⟨an, (aa : Int).toNat, none⟩ (.int .i64 al)) w.heap.size (fun _ => True) (.slice (some ⟨an, 0, none⟩) aj.length cM) aH) := ⟨krR cO⟩;have n1_ : Aside0 ((w61.setCell ⟨an, (aa : Int).toNat, none⟩ (.int .i64 al)).heap[bd]? = some (.cells #[.slice aQ aB.length aR, .slice (some be) ab.length aS, .slice aT aC.length aU] 26 (0, 0))) := ⟨by (with_reducible repeat first | refine blk_drewN ?_ _ | refine blk_drew ?_ | refine blk_alloc ?_ _); refine blk_far ?_ (by have h_ := Kd.R_ne af.out ag.out (by decide); intro e_; exact h_ (by rw [e_]; rfl)) _; (with_reducible repeat first | refine blk_drewN ?_ _ | refine blk_drew ?_ | refine blk_alloc ?_ _); exact ag.out⟩;have n2_ : Aside0 ((w61.setCell ⟨an, (aa : Int).toNat, none⟩ (.int .i64 al)).heap[ak]? = some (.cells #[.int .i64 ((rd_T61 ab aa).f0), .int .i64 ((rd_T61 ab aa).f1), .int .i64 ((rd_T61 ab aa).f2), .int .u64 ((rd_T61 ab aa).f3)] 61 (0, 0))) := ⟨by (with_reducible repeat first | refine blk_drewN ?_ _ | refine blk_drew ?_ | refine blk_alloc ?_ _); refine blk_far ?_ (by have h_ := Kd.R_ne af.out ae.out (by decide); intro e_; exact h_ (by rw [e_]; rfl)) _; (with_reducible repeat first | refine blk_drewN ?_ _ | refine blk_drew ?_ | refine blk_alloc ?_ _); exact ae.out⟩;have n3_ : Aside0 (Below w.heap.size w (w61.setCell ⟨an, (aa : Int).toNat, none⟩ (.int .i64 al))) := ⟨kh HB⟩;(try clear af ag ae HB);generalize (w61.setCell ⟨an, (aa : Int).toNat, none⟩ (.int .i64 al)) = w64 at n0_ n1_ n2_ n3_ ⊢;have af := n0_; have ag := n1_; have ae := n2_; have HB := n3_; clear n0_ n1_ n2_ n3_;have eC := ai.out;have eD := ah.out;have Z66 := kz4 ae;have p59 : 0 ≤ (aa : Int) := od;have q59 : (aa : Int) < ((aj.length : Int) : Int) := od;replace p59 := eq_true p59; replace q59 := eq_true q59;have p60 : 0 ≤ (aa : Int) := od;have q60 : (aa : Int) < ((aj.length : Int) : Int) := od;replace p60 := eq_true p60; replace q60 := eq_true q60;obtain ⟨cP, eE⟩ := Kd.R_celln 0 af.out (aa : Int) od od;rw [show rdOf 0 aH aa = al from by rw [bk.out]; exact rdOf_set_ _ _ _ od od] at cP;have ca := Kd.R_putg af.out (aa : Int) (wrap64 ((al) + 1));(try go_wp2_with (first | ((with_reducible refine gate_store (t := 3) (p := 99) rfl ?_); refine store_event (t := 3) (p := 99) (v := ?vo_w68) (w1 := (w64.setCell ⟨an, (aa : Int).toNat, none⟩ (.int .i64 (wrap64 ((al) + 1))))) ?hg ?ho ?hn ?hr ?_; (case ho => rfl); (case hg => rfl); (case hn => rfl); (case hr => first | (go_simp; done) | (go_simp; rfl)); intro w68 hw; have hg : w64.grownBy w68 (some an) := (by rw [hw]; exact ca.2); have hp_ : Kd.R (Kd.int .i64) 3 w68 w.heap.size (fun _ => True) (.slice (some ⟨an, 0, none⟩) aj.length cM) bY := (by rw [hw, cL.out]; exact ca.1); clear ca; replace ag := kXR ag af hg; replace ae := kXR ae af hg; replace af := Aside0.mk (hp_); replace HB := Aside0.mk ((by rw [hw]; exact below_set (HB.out) cJ.out : Below w.heap.size w w68)); clear hg hw hp_)));go_roundg ar
     case measure => have := HK1.out; have := ao.out; have := au.out; omega
     case rel => exact ⟨(bY), (wrap64 (aa + 1)), et, H', ⟨by have := HK1.out; have := ao.out; have := au.out; omega⟩, ⟨krR af⟩, ⟨kg ag⟩, ⟨kh HB⟩⟩
def tune_folded_1.f (a0 : Int) : Option (Int × Int × Int × Int × Bool) := some (2, 0, 0, a0, true)
theorem tune_folded_1.calls (a0 : Int) (r1 : Int) (r2 : Int) (r3 : Int) (r4 : Int) (r5 : Bool) (w : World) (h : tune_folded_1.f a0 = some (r1, r2, r3, r4, r5)) :
  Calls Try.prog 67 #[.int .u64 a0] w fun e w' => e = .returned (.tuple #[.agg #[.int .i64 r1, .int .i64 r2, .int .i64 r3, .int .u64 r4], .bool r5]) ∧ Below w.heap.size w w' := by
 have hu61 := Try.underlying61;have HB := Aside0.mk (Below.refl w.heap.size w);have H : (some (2, 0, 0, a0, true)) = some (r1, r2, r3, r4, r5) := h;clear h;simp only [Option.some.injEq, Prod.mk.injEq] at H;obtain ⟨rfl, rfl, rfl, rfl, rfl⟩ := H;go_enter Try.func67, Try.ntmps67;go_wp2_with (first | ((with_reducible refine qea (N := 2) rfl ?_); refine box_event ?hg (N := 2) ?hd (cs := #[.int .i64 0, .int .i64 0, .int .i64 0, .int .u64 0]) (t := 61) ?hr ?_; (case hd => rfl); (case hg => rfl); (case hr => first | (go_simp; done) | (go_simp; rfl)); intro ab hg w2 hbox hb; have aa := am hbox; have ae := kG HB hg; have af := kG HB hg; replace HB := kH HB hb; clear hb hbox hg; have Z3 := kz4 aa));refine bodyPost_ret (results_ct rfl _ _ ab 61 #[.int .i64 2, .int .i64 0, .int .i64 0, .int .u64 a0] (0, 0) _ rfl (kg aa) Try.underlying61 rfl (by kernel_rfl)) rfl ?_;exact ⟨er, kh HB⟩
def tune_folded_2.f (a0 : Int) (a1 : Int) : Option (Int × Int × Int × Int × Bool) := some (6, a0, 0, a1, true)
theorem tune_folded_2.calls (a0 : Int) (a1 : Int) (r1 : Int) (r2 : Int) (r3 : Int) (r4 : Int) (r5 : Bool) (w : World) (h : tune_folded_2.f a0 a1 = some (r1, r2, r3, r4, r5)) :
  Calls Try.prog 68 #[.int .i64 a0, .int .u64 a1] w fun e w' => e = .returned (.tuple #[.agg #[.int .i64 r1, .int .i64 r2, .int .i64 r3, .int .u64 r4], .bool r5]) ∧ Below w.heap.size w w' := by
 have hu61 := Try.underlying61;have HB := Aside0.mk (Below.refl w.heap.size w);have H : (some (6, a0, 0, a1, true)) = some (r1, r2, r3, r4, r5) := h;clear h;simp only [Option.some.injEq, Prod.mk.injEq] at H;obtain ⟨rfl, rfl, rfl, rfl, rfl⟩ := H;go_enter Try.func68, Try.ntmps68;go_wp2_with (first | ((with_reducible refine qea (N := 4) rfl ?_); refine box_event ?hg (N := 4) ?hd (cs := #[.int .i64 0, .int .i64 0, .int .i64 0, .int .u64 0]) (t := 61) ?hr ?_; (case hd => rfl); (case hg => rfl); (case hr => first | (go_simp; done) | (go_simp; rfl)); intro ab hg w3 hbox hb; have aa := am hbox; have ae := kG HB hg; have af := kG HB hg; replace HB := kH HB hb; clear hb hbox hg; have Z4 := kz4 aa));refine bodyPost_ret (results_ct rfl _ _ ab 61 #[.int .i64 6, .int .i64 a0, .int .i64 0, .int .u64 a1] (0, 0) _ rfl (kg aa) Try.underlying61 rfl (by kernel_rfl)) rfl ?_;exact ⟨er, kh HB⟩
def field_mul.f (a0 : Int) (a1 : Int) (a2 : Int) : Option (Int) := if a0 = 0 then (none) else (some (Int.tmod (IntKind.u64.wrap (a1 * a2)) a0))
theorem field_mul.calls (a0 : Int) (a1 : Int) (a2 : Int) (r : Int) (w : World) (h : field_mul.f a0 a1 a2 = some r) :
  Calls Try.prog 85 #[.int .u64 a0, .int .u64 a1, .int .u64 a2] w fun e w' => e = .returned (.int .u64 r) ∧ Drawn0 w w' := by
 have H : (if a0 = 0 then (none) else (some (Int.tmod (IntKind.u64.wrap (a1 * a2)) a0))) = some r := h;clear h
 by_cases c4 : a0 = 0
 ·rw [if_pos c4] at H
  exact absurd H (by simp)
 rw [if_neg c4] at H;have aa := beq_eq_false_iff_ne.mpr c4;have ab := bne_iff_ne.mpr c4;obtain rfl := Option.some.inj H;go_enter Try.func85, Try.ntmps85;go_wp2;go_ret;exact ⟨et, by repeat (first | exact Drawn0.refl _ | apply Drawn0.step)⟩
def qta.f (a0 : Int) (a1 : Int) (a2 : Int) : Option (Int) := (field_mul.f a0 a1 a2).bind fun aa => (some aa)
theorem qta.calls (a0 : Int) (a1 : Int) (a2 : Int) (r : Int) (w : World) (h : qta.f a0 a1 a2 = some r) :
  Calls Try.prog 70 #[.int .u64 a0, .int .u64 a1, .int .u64 a2] w fun e w' => e = .returned (.int .u64 r) ∧ Drawn0 w w' := by
 have H : ((field_mul.f a0 a1 a2).bind fun aa => (some aa)) = some r := h;clear h;replace H := Option.bind_eq_some_iff.mp H;obtain ⟨aa, A40, H⟩ := H;(try dsimp only at H);have A4 := Aside0.mk A40;clear A40;obtain rfl := Option.some.inj H;go_enter Try.func70, Try.ntmps70;go_wp2_with (first | ((with_reducible refine gate_callee (f := 85) rfl ?_); refine goesL_ (some 10) rfl rfl Try.func85 (by kernel_rfl) rfl #[.int .u64 a0, .int .u64 a1, .int .u64 a2] rfl (by (try simp only [qM1, qM2, qM3]); first | done | rfl) ?_; (with_reducible refine (field_mul.calls a0 a1 a2 aa _ A4.out).mono ?_); rintro e w' ⟨rfl, ⟨nd, rfl⟩⟩; refine ⟨_, rfl, ?_⟩));go_ret;exact ⟨et, by repeat (first | exact Drawn0.refl _ | apply Drawn0.step)⟩
def qab.f (a0 : Int) (a1 : Int) (a2 : Int) : Option (Int) := if (IntKind.u64.wrap (a1 + a2)) ≥ a0 then (some (IntKind.u64.wrap ((IntKind.u64.wrap (a1 + a2)) - a0))) else (some (IntKind.u64.wrap (a1 + a2)))
theorem qab.calls (a0 : Int) (a1 : Int) (a2 : Int) (r : Int) (w : World) (h : qab.f a0 a1 a2 = some r) :
  Calls Try.prog 83 #[.int .u64 a0, .int .u64 a1, .int .u64 a2] w fun e w' => e = .returned (.int .u64 r) ∧ Drawn0 w w' := by
 have H : (if (IntKind.u64.wrap (a1 + a2)) ≥ a0 then (some (IntKind.u64.wrap ((IntKind.u64.wrap (a1 + a2)) - a0))) else (some (IntKind.u64.wrap (a1 + a2)))) = some r := h;clear h
 by_cases c4 : (IntKind.u64.wrap (a1 + a2)) ≥ a0
 ·rw [if_pos c4] at H
  have aa := decide_eq_true c4;clear c4;obtain rfl := Option.some.inj H;go_enter Try.func83, Try.ntmps83;go_wp2;go_ret;exact ⟨et, by repeat (first | exact Drawn0.refl _ | apply Drawn0.step)⟩
 rw [if_neg c4] at H;have aa := decide_eq_false c4;clear c4;obtain rfl := Option.some.inj H;go_enter Try.func83, Try.ntmps83;go_wp2;go_ret;exact ⟨et, by repeat (first | exact Drawn0.refl _ | apply Drawn0.step)⟩
def qza.f (a0 : Int) (a1 : Int) (a2 : Int) : Option (Int) := if a0 = 0 then (none) else ((qab.f a0 a1 (Int.tmod (IntKind.u64.wrap (a0 - a2)) a0)).bind fun aa => (some aa))
theorem qza.calls (a0 : Int) (a1 : Int) (a2 : Int) (r : Int) (w : World) (h : qza.f a0 a1 a2 = some r) :
  Calls Try.prog 84 #[.int .u64 a0, .int .u64 a1, .int .u64 a2] w fun e w' => e = .returned (.int .u64 r) ∧ Drawn0 w w' := by
 have H : (if a0 = 0 then (none) else ((qab.f a0 a1 (Int.tmod (IntKind.u64.wrap (a0 - a2)) a0)).bind fun aa => (some aa))) = some r := h;clear h
 by_cases c4 : a0 = 0
 ·rw [if_pos c4] at H
  exact absurd H (by simp)
 rw [if_neg c4] at H;have ab := beq_eq_false_iff_ne.mpr c4;have ae := bne_iff_ne.mpr c4;replace H := Option.bind_eq_some_iff.mp H;obtain ⟨aa, A50, H⟩ := H;(try dsimp only at H);have A5 := Aside0.mk A50;clear A50;obtain rfl := Option.some.inj H;go_enter Try.func84, Try.ntmps84;go_wp2_with (first | ((with_reducible refine gate_callee (f := 83) rfl ?_); refine goesL_ (some 14) rfl rfl Try.func83 (by kernel_rfl) rfl #[.int .u64 a0, .int .u64 a1, .int .u64 (Int.tmod (IntKind.u64.wrap (a0 - a2)) a0)] rfl (by (try simp only [qM1, qM2, qM3]); first | done | rfl) ?_; (with_reducible refine (qab.calls a0 a1 (Int.tmod (IntKind.u64.wrap (a0 - a2)) a0) aa _ A5.out).mono ?_); rintro e w' ⟨rfl, ⟨nd, rfl⟩⟩; refine ⟨_, rfl, ?_⟩));go_ret;exact ⟨et, by repeat (first | exact Drawn0.refl _ | apply Drawn0.step)⟩
theorem qza.callsB (a0 : Int) (a1 : Int) (a2 : Int) (r : Int) (w : World) (h : qza.f a0 a1 a2 = some r) :
  Calls Try.prog 84 #[.int .u64 a0, .int .u64 a1, .int .u64 a2] w fun e w' => e = .returned (.int .u64 r) ∧ Below w.heap.size w w' := (qza.calls a0 a1 a2 r w h).mono fun _ _ h_ => ⟨h_.1, h_.2.below⟩
def circ_Of.f (a0 : Int) (ae : Int) (aa : Int) (ab : Int) (af : Int) (l2 : List Int) (l3 : List Int) : Option (Int) := if ae = 1 then (if 0 ≤ aa then (if aa < (l2.length : Int) then (some (rd l2 aa)) else (none)) else (none)) else (if ae = 2 then (some af) else (if ae = 3 then (if 0 ≤ aa then (if aa < (l3.length : Int) then (if 0 ≤ ab then (if ab < (l3.length : Int) then ((qab.f a0 (rd l3 aa) (rd l3 ab)).bind fun ag => (some ag)) else (none)) else (none)) else (none)) else (none)) else (if ae = 4 then (if 0 ≤ aa then (if aa < (l3.length : Int) then (if 0 ≤ ab then (if ab < (l3.length : Int) then ((qza.f a0 (rd l3 aa) (rd l3 ab)).bind fun ah => (some ah)) else (none)) else (none)) else (none)) else (none)) else (if ae = 5 then (if 0 ≤ aa then (if aa < (l3.length : Int) then (if 0 ≤ ab then (if ab < (l3.length : Int) then ((qta.f a0 (rd l3 aa) (rd l3 ab)).bind fun ai => (some ai)) else (none)) else (none)) else (none)) else (none)) else (if 0 ≤ aa then (if aa < (l3.length : Int) then ((qta.f a0 (rd l3 aa) af).bind fun aj => (some aj)) else (none)) else (none))))))
theorem circ_Of.calls (a0 : Int) (af : Int) (aa : Int) (ab : Int) (au : Int) (A2 : Option Addr) (c2 : Nat) (l2 : List Int) (A3 : Option Addr) (c3 : Nat) (l3 : List Int) (r : Int) (w : World) (hr2 : Kd.C (Kd.int .u64) w A2 l2.length l2) (hc2 : l2.length ≤ c2) (hr3 : Kd.C (Kd.int .u64) w A3 l3.length l3) (hc3 : l3.length ≤ c3) (h : circ_Of.f a0 af aa ab au l2 l3 = some r) :
  Calls Try.prog 69 #[.int .u64 a0, .agg #[.int .i64 af, .int .i64 aa, .int .i64 ab, .int .u64 au], .slice A2 l2.length c2, .slice A3 l3.length c3] w fun e w' => e = .returned (.int .u64 r) ∧ Below w.heap.size w w' := by
 have hu61 := Try.underlying61;have HR2 := Aside0.mk hr2;have HC2 := Aside0.mk hc2;clear hr2 hc2;have HR3 := Aside0.mk hr3;have HC3 := Aside0.mk hc3;clear hr3 hc3;have HB := Aside0.mk (Below.refl w.heap.size w);have H : (if af = 1 then (if 0 ≤ aa then (if aa < (l2.length : Int) then (some (rd l2 aa)) else (none)) else (none)) else (if af = 2 then (some au) else (if af = 3 then (if 0 ≤ aa then (if aa < (l3.length : Int) then (if 0 ≤ ab then (if ab < (l3.length : Int) then ((qab.f a0 (rd l3 aa) (rd l3 ab)).bind fun aR => (some aR)) else (none)) else (none)) else (none)) else (none)) else (if af = 4 then (if 0 ≤ aa then (if aa < (l3.length : Int) then (if 0 ≤ ab then (if ab < (l3.length : Int) then ((qza.f a0 (rd l3 aa) (rd l3 ab)).bind fun aS => (some aS)) else (none)) else (none)) else (none)) else (none)) else (if af = 5 then (if 0 ≤ aa then (if aa < (l3.length : Int) then (if 0 ≤ ab then (if ab < (l3.length : Int) then ((qta.f a0 (rd l3 aa) (rd l3 ab)).bind fun aT => (some aT)) else (none)) else (none)) else (none)) else (none)) else (if 0 ≤ aa then (if aa < (l3.length : Int) then ((qta.f a0 (rd l3 aa) au).bind fun aU => (some aU)) else (none)) else (none))))))) = some r := h;clear h
 by_cases c5 : af = 1
 ·rw [if_pos c5] at H
  have br := beq_iff_eq.mpr c5;have bt := bne_eq_false_iff_eq.mpr c5;clear c5
  by_cases c6 : 0 ≤ aa
  rotate_left
  ·rw [if_neg c6] at H
   exact absurd H (by simp)
  rw [if_pos c6] at H;have bJ := decide_eq_true c6;clear c6
  by_cases c7 : aa < (l2.length : Int)
  rotate_left
  ·rw [if_neg c7] at H
   exact absurd H (by simp)
  rw [if_pos c7] at H;have bK := decide_eq_true c7;clear c7;obtain rfl := Option.some.inj H;go_enter Try.func69, Try.ntmps69;go_wp2_with (first | ((with_reducible refine qea (N := 5) rfl ?_); refine box_event ?hg (N := 5) ?hd (cs := #[.int .i64 af, .int .i64 aa, .int .i64 ab, .int .u64 au]) (t := 61) ?hr ?_; (case hd => rfl); (case hg => rfl); (case hr => first | (go_simp; done) | (go_simp; rfl)); intro ap hg w8 hbox hb; have ae := am hbox; have aq := kG HB hg; have ar := kG HB hg; replace HB := kH HB hb; clear hb hbox hg; have Z9 := kz4 ae; have av : 0 ≤ (aa : Int) := od; have aw : aa < (l2.length : Int) := od; obtain ⟨bd, aV, ag⟩ := Kd.at_int HR2.out aa av aw; cases aV; replace ag := (HB.out.cell (World.block_lt_of_cell? w _ ag)).trans ag; replace av := eq_true av; replace aw := eq_true aw))
  repeat (go_quiet (first | ((with_reducible refine qea (N := 5) rfl ?_); refine box_event ?hg (N := 5) ?hd (cs := #[.int .i64 af, .int .i64 aa, .int .i64 ab, .int .u64 au]) (t := 61) ?hr ?_; (case hd => rfl); (case hg => rfl); (case hr => first | (go_simp; done) | (go_simp; rfl)); intro ap hg w8 hbox hb; have ae := am hbox; have aq := kG HB hg; have ar := kG HB hg; replace HB := kH HB hb; clear hb hbox hg; have Z9 := kz4 ae; have av : 0 ≤ (aa : Int) := od; have aw : aa < (l2.length : Int) := od; obtain ⟨bd, aV, ag⟩ := Kd.at_int HR2.out aa av aw; cases aV; replace ag := (HB.out.cell (World.block_lt_of_cell? w _ ag)).trans ag; replace av := eq_true av; replace aw := eq_true aw)); try go_wp2_with (first | ((with_reducible refine qea (N := 5) rfl ?_); refine box_event ?hg (N := 5) ?hd (cs := #[.int .i64 af, .int .i64 aa, .int .i64 ab, .int .u64 au]) (t := 61) ?hr ?_; (case hd => rfl); (case hg => rfl); (case hr => first | (go_simp; done) | (go_simp; rfl)); intro ap hg w8 hbox hb; have ae := am hbox; have aq := kG HB hg; have ar := kG HB hg; replace HB := kH HB hb; clear hb hbox hg; have Z9 := kz4 ae; have av : 0 ≤ (aa : Int) := od; have aw : aa < (l2.length : Int) := od; obtain ⟨bd, aV, ag⟩ := Kd.at_int HR2.out aa av aw; cases aV; replace ag := (HB.out.cell (World.block_lt_of_cell? w _ ag)).trans ag; replace av := eq_true av; replace aw := eq_true aw)))
  go_ret;exact ⟨er, kh HB⟩
 rw [if_neg c5] at H;have br := beq_eq_false_iff_ne.mpr c5;have bt := bne_iff_ne.mpr c5
 by_cases c10 : af = 2
 ·rw [if_pos c10] at H
  have bf := beq_iff_eq.mpr c10;have bg := bne_eq_false_iff_eq.mpr c10;clear c10;obtain rfl := Option.some.inj H;go_enter Try.func69, Try.ntmps69;go_wp2_with (first | ((with_reducible refine qea (N := 5) rfl ?_); refine box_event ?hg (N := 5) ?hd (cs := #[.int .i64 af, .int .i64 aa, .int .i64 ab, .int .u64 au]) (t := 61) ?hr ?_; (case hd => rfl); (case hg => rfl); (case hr => first | (go_simp; done) | (go_simp; rfl)); intro ap hg w11 hbox hb; have ae := am hbox; have aq := kG HB hg; have ar := kG HB hg; replace HB := kH HB hb; clear hb hbox hg; have Z12 := kz4 ae))
  repeat (go_quiet (first | ((with_reducible refine qea (N := 5) rfl ?_); refine box_event ?hg (N := 5) ?hd (cs := #[.int .i64 af, .int .i64 aa, .int .i64 ab, .int .u64 au]) (t := 61) ?hr ?_; (case hd => rfl); (case hg => rfl); (case hr => first | (go_simp; done) | (go_simp; rfl)); intro ap hg w11 hbox hb; have ae := am hbox; have aq := kG HB hg; have ar := kG HB hg; replace HB := kH HB hb; clear hb hbox hg; have Z12 := kz4 ae)); try go_wp2_with (first | ((with_reducible refine qea (N := 5) rfl ?_); refine box_event ?hg (N := 5) ?hd (cs := #[.int .i64 af, .int .i64 aa, .int .i64 ab, .int .u64 au]) (t := 61) ?hr ?_; (case hd => rfl); (case hg => rfl); (case hr => first | (go_simp; done) | (go_simp; rfl)); intro ap hg w11 hbox hb; have ae := am hbox; have aq := kG HB hg; have ar := kG HB hg; replace HB := kH HB hb; clear hb hbox hg; have Z12 := kz4 ae)))
  go_ret;exact ⟨er, kh HB⟩
 rw [if_neg c10] at H;have bf := beq_eq_false_iff_ne.mpr c10;have bg := bne_iff_ne.mpr c10
 by_cases c13 : af = 3
 ·rw [if_pos c13] at H
  have bh := beq_iff_eq.mpr c13;have bi := bne_eq_false_iff_eq.mpr c13;clear c13
  by_cases c14 : 0 ≤ aa
  rotate_left
  ·rw [if_neg c14] at H
   exact absurd H (by simp)
  rw [if_pos c14] at H;have bu := decide_eq_true c14;clear c14
  by_cases c15 : aa < (l3.length : Int)
  rotate_left
  ·rw [if_neg c15] at H
   exact absurd H (by simp)
  rw [if_pos c15] at H;have bv := decide_eq_true c15;clear c15
  by_cases c16 : 0 ≤ ab
  rotate_left
  ·rw [if_neg c16] at H
   exact absurd H (by simp)
  rw [if_pos c16] at H;have bw := decide_eq_true c16;clear c16
  by_cases c17 : ab < (l3.length : Int)
  rotate_left
  ·rw [if_neg c17] at H
   exact absurd H (by simp)
  rw [if_pos c17] at H;have bx := decide_eq_true c17;clear c17;replace H := Option.bind_eq_some_iff.mp H;obtain ⟨aR, bj, H⟩ := H;(try dsimp only at H);have A18 := Aside0.mk bj;clear bj;obtain rfl := Option.some.inj H;go_enter Try.func69, Try.ntmps69;go_wp2_with (first | ((with_reducible refine qea (N := 5) rfl ?_); refine box_event ?hg (N := 5) ?hd (cs := #[.int .i64 af, .int .i64 aa, .int .i64 ab, .int .u64 au]) (t := 61) ?hr ?_; (case hd => rfl); (case hg => rfl); (case hr => first | (go_simp; done) | (go_simp; rfl)); intro ap hg w19 hbox hb; have ae := am hbox; have aq := kG HB hg; have ar := kG HB hg; replace HB := kH HB hb; clear hb hbox hg; have Z20 := kz4 ae; have ax : 0 ≤ (aa : Int) := od; have ay : aa < (l3.length : Int) := od; obtain ⟨aL, aW, ah⟩ := Kd.at_int HR3.out aa ax ay; cases aW; replace ah := (HB.out.cell (World.block_lt_of_cell? w _ ah)).trans ah; replace ax := eq_true ax; replace ay := eq_true ay; have az : 0 ≤ (ab : Int) := od; have aA : ab < (l3.length : Int) := od; obtain ⟨aM, aX, ai⟩ := Kd.at_int HR3.out ab az aA; obtain rfl : aL = aM := (by injection aX); replace ai := (HB.out.cell (World.block_lt_of_cell? w _ ai)).trans ai; replace az := eq_true az; replace aA := eq_true aA) | (go_at_call 83; (with_reducible refine (qab.calls a0 (rd l3 aa) (rd l3 ab) aR _ A18.out).mono ?_); rintro e w' ⟨rfl, ⟨nd, rfl⟩⟩; (try first | exact ⟨rfl, _, World.drewN_drewN _ _ _⟩ | exact ⟨rfl, _, Eq.trans (World.drewN_drewN _ _ _) (congrArg (World.drewN _) (Nat.add_assoc _ _ _))⟩)))
  repeat (go_quiet (first | ((with_reducible refine qea (N := 5) rfl ?_); refine box_event ?hg (N := 5) ?hd (cs := #[.int .i64 af, .int .i64 aa, .int .i64 ab, .int .u64 au]) (t := 61) ?hr ?_; (case hd => rfl); (case hg => rfl); (case hr => first | (go_simp; done) | (go_simp; rfl)); intro ap hg w19 hbox hb; have ae := am hbox; have aq := kG HB hg; have ar := kG HB hg; replace HB := kH HB hb; clear hb hbox hg; have Z20 := kz4 ae; have ax : 0 ≤ (aa : Int) := od; have ay : aa < (l3.length : Int) := od; obtain ⟨aL, aW, ah⟩ := Kd.at_int HR3.out aa ax ay; cases aW; replace ah := (HB.out.cell (World.block_lt_of_cell? w _ ah)).trans ah; replace ax := eq_true ax; replace ay := eq_true ay; have az : 0 ≤ (ab : Int) := od; have aA : ab < (l3.length : Int) := od; obtain ⟨aM, aX, ai⟩ := Kd.at_int HR3.out ab az aA; obtain rfl : aL = aM := (by injection aX); replace ai := (HB.out.cell (World.block_lt_of_cell? w _ ai)).trans ai; replace az := eq_true az; replace aA := eq_true aA) | (go_at_call 83; (with_reducible refine (qab.calls a0 (rd l3 aa) (rd l3 ab) aR _ A18.out).mono ?_); rintro e w' ⟨rfl, ⟨nd, rfl⟩⟩; (try first | exact ⟨rfl, _, World.drewN_drewN _ _ _⟩ | exact ⟨rfl, _, Eq.trans (World.drewN_drewN _ _ _) (congrArg (World.drewN _) (Nat.add_assoc _ _ _))⟩))); try go_wp2_with (first | ((with_reducible refine qea (N := 5) rfl ?_); refine box_event ?hg (N := 5) ?hd (cs := #[.int .i64 af, .int .i64 aa, .int .i64 ab, .int .u64 au]) (t := 61) ?hr ?_; (case hd => rfl); (case hg => rfl); (case hr => first | (go_simp; done) | (go_simp; rfl)); intro ap hg w19 hbox hb; have ae := am hbox; have aq := kG HB hg; have ar := kG HB hg; replace HB := kH HB hb; clear hb hbox hg; have Z20 := kz4 ae; have ax : 0 ≤ (aa : Int) := od; have ay : aa < (l3.length : Int) := od; obtain ⟨aL, aW, ah⟩ := Kd.at_int HR3.out aa ax ay; cases aW; replace ah := (HB.out.cell (World.block_lt_of_cell? w _ ah)).trans ah; replace ax := eq_true ax; replace ay := eq_true ay; have az : 0 ≤ (ab : Int) := od; have aA : ab < (l3.length : Int) := od; obtain ⟨aM, aX, ai⟩ := Kd.at_int HR3.out ab az aA; obtain rfl : aL = aM := (by injection aX); replace ai := (HB.out.cell (World.block_lt_of_cell? w _ ai)).trans ai; replace az := eq_true az; replace aA := eq_true aA) | (go_at_call 83; (with_reducible refine (qab.calls a0 (rd l3 aa) (rd l3 ab) aR _ A18.out).mono ?_); rintro e w' ⟨rfl, ⟨nd, rfl⟩⟩; (try first | exact ⟨rfl, _, World.drewN_drewN _ _ _⟩ | exact ⟨rfl, _, Eq.trans (World.drewN_drewN _ _ _) (congrArg (World.drewN _) (Nat.add_assoc _ _ _))⟩))))
  go_ret;exact ⟨er, kh HB⟩
 rw [if_neg c13] at H;have bh := beq_eq_false_iff_ne.mpr c13;have bi := bne_iff_ne.mpr c13
 by_cases c21 : af = 4
 ·rw [if_pos c21] at H
  have bk := beq_iff_eq.mpr c21;have bl := bne_eq_false_iff_eq.mpr c21;clear c21
  by_cases c22 : 0 ≤ aa
  rotate_left
  ·rw [if_neg c22] at H
   exact absurd H (by simp)
  rw [if_pos c22] at H;have bz := decide_eq_true c22;clear c22
  by_cases c23 : aa < (l3.length : Int)
  rotate_left
  ·rw [if_neg c23] at H
   exact absurd H (by simp)
  rw [if_pos c23] at H;have bA := decide_eq_true c23;clear c23
  by_cases c24 : 0 ≤ ab
  rotate_left
  ·rw [if_neg c24] at H
   exact absurd H (by simp)
  rw [if_pos c24] at H;have bB := decide_eq_true c24;clear c24
  by_cases c25 : ab < (l3.length : Int)
  rotate_left
  ·rw [if_neg c25] at H
   exact absurd H (by simp)
  rw [if_pos c25] at H;have bC := decide_eq_true c25;clear c25;replace H := Option.bind_eq_some_iff.mp H;obtain ⟨aS, bm, H⟩ := H;(try dsimp only at H);have A26 := Aside0.mk bm;clear bm;obtain rfl := Option.some.inj H;go_enter Try.func69, Try.ntmps69;go_wp2_with (first | ((with_reducible refine qea (N := 5) rfl ?_); refine box_event ?hg (N := 5) ?hd (cs := #[.int .i64 af, .int .i64 aa, .int .i64 ab, .int .u64 au]) (t := 61) ?hr ?_; (case hd => rfl); (case hg => rfl); (case hr => first | (go_simp; done) | (go_simp; rfl)); intro ap hg w27 hbox hb; have ae := am hbox; have aq := kG HB hg; have ar := kG HB hg; replace HB := kH HB hb; clear hb hbox hg; have Z28 := kz4 ae; have aB : 0 ≤ (aa : Int) := od; have aC : aa < (l3.length : Int) := od; obtain ⟨aN, aY, aj⟩ := Kd.at_int HR3.out aa aB aC; cases aY; replace aj := (HB.out.cell (World.block_lt_of_cell? w _ aj)).trans aj; replace aB := eq_true aB; replace aC := eq_true aC; have aD : 0 ≤ (ab : Int) := od; have aE : ab < (l3.length : Int) := od; obtain ⟨aO, aZ, ak⟩ := Kd.at_int HR3.out ab aD aE; obtain rfl : aN = aO := (by injection aZ); replace ak := (HB.out.cell (World.block_lt_of_cell? w _ ak)).trans ak; replace aD := eq_true aD; replace aE := eq_true aE) | (go_at_call 84; (with_reducible refine (qza.calls a0 (rd l3 aa) (rd l3 ab) aS _ A26.out).mono ?_); rintro e w' ⟨rfl, ⟨nd, rfl⟩⟩; (try first | exact ⟨rfl, _, World.drewN_drewN _ _ _⟩ | exact ⟨rfl, _, Eq.trans (World.drewN_drewN _ _ _) (congrArg (World.drewN _) (Nat.add_assoc _ _ _))⟩)))
  repeat (go_quiet (first | ((with_reducible refine qea (N := 5) rfl ?_); refine box_event ?hg (N := 5) ?hd (cs := #[.int .i64 af, .int .i64 aa, .int .i64 ab, .int .u64 au]) (t := 61) ?hr ?_; (case hd => rfl); (case hg => rfl); (case hr => first | (go_simp; done) | (go_simp; rfl)); intro ap hg w27 hbox hb; have ae := am hbox; have aq := kG HB hg; have ar := kG HB hg; replace HB := kH HB hb; clear hb hbox hg; have Z28 := kz4 ae; have aB : 0 ≤ (aa : Int) := od; have aC : aa < (l3.length : Int) := od; obtain ⟨aN, aY, aj⟩ := Kd.at_int HR3.out aa aB aC; cases aY; replace aj := (HB.out.cell (World.block_lt_of_cell? w _ aj)).trans aj; replace aB := eq_true aB; replace aC := eq_true aC; have aD : 0 ≤ (ab : Int) := od; have aE : ab < (l3.length : Int) := od; obtain ⟨aO, aZ, ak⟩ := Kd.at_int HR3.out ab aD aE; obtain rfl : aN = aO := (by injection aZ); replace ak := (HB.out.cell (World.block_lt_of_cell? w _ ak)).trans ak; replace aD := eq_true aD; replace aE := eq_true aE) | (go_at_call 84; (with_reducible refine (qza.calls a0 (rd l3 aa) (rd l3 ab) aS _ A26.out).mono ?_); rintro e w' ⟨rfl, ⟨nd, rfl⟩⟩; (try first | exact ⟨rfl, _, World.drewN_drewN _ _ _⟩ | exact ⟨rfl, _, Eq.trans (World.drewN_drewN _ _ _) (congrArg (World.drewN _) (Nat.add_assoc _ _ _))⟩))); try go_wp2_with (first | ((with_reducible refine qea (N := 5) rfl ?_); refine box_event ?hg (N := 5) ?hd (cs := #[.int .i64 af, .int .i64 aa, .int .i64 ab, .int .u64 au]) (t := 61) ?hr ?_; (case hd => rfl); (case hg => rfl); (case hr => first | (go_simp; done) | (go_simp; rfl)); intro ap hg w27 hbox hb; have ae := am hbox; have aq := kG HB hg; have ar := kG HB hg; replace HB := kH HB hb; clear hb hbox hg; have Z28 := kz4 ae; have aB : 0 ≤ (aa : Int) := od; have aC : aa < (l3.length : Int) := od; obtain ⟨aN, aY, aj⟩ := Kd.at_int HR3.out aa aB aC; cases aY; replace aj := (HB.out.cell (World.block_lt_of_cell? w _ aj)).trans aj; replace aB := eq_true aB; replace aC := eq_true aC; have aD : 0 ≤ (ab : Int) := od; have aE : ab < (l3.length : Int) := od; obtain ⟨aO, aZ, ak⟩ := Kd.at_int HR3.out ab aD aE; obtain rfl : aN = aO := (by injection aZ); replace ak := (HB.out.cell (World.block_lt_of_cell? w _ ak)).trans ak; replace aD := eq_true aD; replace aE := eq_true aE) | (go_at_call 84; (with_reducible refine (qza.calls a0 (rd l3 aa) (rd l3 ab) aS _ A26.out).mono ?_); rintro e w' ⟨rfl, ⟨nd, rfl⟩⟩; (try first | exact ⟨rfl, _, World.drewN_drewN _ _ _⟩ | exact ⟨rfl, _, Eq.trans (World.drewN_drewN _ _ _) (congrArg (World.drewN _) (Nat.add_assoc _ _ _))⟩))))
  go_ret;exact ⟨er, kh HB⟩
 rw [if_neg c21] at H;have bk := beq_eq_false_iff_ne.mpr c21;have bl := bne_iff_ne.mpr c21
 by_cases c29 : af = 5
 rotate_left
 ·rw [if_neg c29] at H
  have bn := beq_eq_false_iff_ne.mpr c29;have bo := bne_iff_ne.mpr c29
  by_cases c37 : 0 ≤ aa
  rotate_left
  ·rw [if_neg c37] at H
   exact absurd H (by simp)
  rw [if_pos c37] at H;have bD := decide_eq_true c37;clear c37
  by_cases c38 : aa < (l3.length : Int)
  rotate_left
  ·rw [if_neg c38] at H
   exact absurd H (by simp)
  rw [if_pos c38] at H;have bE := decide_eq_true c38;clear c38;replace H := Option.bind_eq_some_iff.mp H;obtain ⟨aU, bp, H⟩ := H;(try dsimp only at H);have A39 := Aside0.mk bp;clear bp;obtain rfl := Option.some.inj H;go_enter Try.func69, Try.ntmps69;go_wp2_with (first | ((with_reducible refine qea (N := 5) rfl ?_); refine box_event ?hg (N := 5) ?hd (cs := #[.int .i64 af, .int .i64 aa, .int .i64 ab, .int .u64 au]) (t := 61) ?hr ?_; (case hd => rfl); (case hg => rfl); (case hr => first | (go_simp; done) | (go_simp; rfl)); intro ap hg w40 hbox hb; have ae := am hbox; have aq := kG HB hg; have ar := kG HB hg; replace HB := kH HB hb; clear hb hbox hg; have Z41 := kz4 ae; have aF : 0 ≤ (aa : Int) := od; have aG : aa < (l3.length : Int) := od; obtain ⟨be, ba, al⟩ := Kd.at_int HR3.out aa aF aG; cases ba; replace al := (HB.out.cell (World.block_lt_of_cell? w _ al)).trans al; replace aF := eq_true aF; replace aG := eq_true aG) | (go_at_call 70; (with_reducible refine (qta.calls a0 (rd l3 aa) au aU _ A39.out).mono ?_); rintro e w' ⟨rfl, ⟨nd, rfl⟩⟩; (try first | exact ⟨rfl, _, World.drewN_drewN _ _ _⟩ | exact ⟨rfl, _, Eq.trans (World.drewN_drewN _ _ _) (congrArg (World.drewN _) (Nat.add_assoc _ _ _))⟩)))
  repeat (go_quiet (first | ((with_reducible refine qea (N := 5) rfl ?_); refine box_event ?hg (N := 5) ?hd (cs := #[.int .i64 af, .int .i64 aa, .int .i64 ab, .int .u64 au]) (t := 61) ?hr ?_; (case hd => rfl); (case hg => rfl); (case hr => first | (go_simp; done) | (go_simp; rfl)); intro ap hg w40 hbox hb; have ae := am hbox; have aq := kG HB hg; have ar := kG HB hg; replace HB := kH HB hb; clear hb hbox hg; have Z41 := kz4 ae; have aF : 0 ≤ (aa : Int) := od; have aG : aa < (l3.length : Int) := od; obtain ⟨be, ba, al⟩ := Kd.at_int HR3.out aa aF aG; cases ba; replace al := (HB.out.cell (World.block_lt_of_cell? w _ al)).trans al; replace aF := eq_true aF; replace aG := eq_true aG) | (go_at_call 70; (with_reducible refine (qta.calls a0 (rd l3 aa) au aU _ A39.out).mono ?_); rintro e w' ⟨rfl, ⟨nd, rfl⟩⟩; (try first | exact ⟨rfl, _, World.drewN_drewN _ _ _⟩ | exact ⟨rfl, _, Eq.trans (World.drewN_drewN _ _ _) (congrArg (World.drewN _) (Nat.add_assoc _ _ _))⟩))); try go_wp2_with (first | ((with_reducible refine qea (N := 5) rfl ?_); refine box_event ?hg (N := 5) ?hd (cs := #[.int .i64 af, .int .i64 aa, .int .i64 ab, .int .u64 au]) (t := 61) ?hr ?_; (case hd => rfl); (case hg => rfl); (case hr => first | (go_simp; done) | (go_simp; rfl)); intro ap hg w40 hbox hb; have ae := am hbox; have aq := kG HB hg; have ar := kG HB hg; replace HB := kH HB hb; clear hb hbox hg; have Z41 := kz4 ae; have aF : 0 ≤ (aa : Int) := od; have aG : aa < (l3.length : Int) := od; obtain ⟨be, ba, al⟩ := Kd.at_int HR3.out aa aF aG; cases ba; replace al := (HB.out.cell (World.block_lt_of_cell? w _ al)).trans al; replace aF := eq_true aF; replace aG := eq_true aG) | (go_at_call 70; (with_reducible refine (qta.calls a0 (rd l3 aa) au aU _ A39.out).mono ?_); rintro e w' ⟨rfl, ⟨nd, rfl⟩⟩; (try first | exact ⟨rfl, _, World.drewN_drewN _ _ _⟩ | exact ⟨rfl, _, Eq.trans (World.drewN_drewN _ _ _) (congrArg (World.drewN _) (Nat.add_assoc _ _ _))⟩))))
  go_ret;exact ⟨er, kh HB⟩
 rw [if_pos c29] at H;have bn := beq_iff_eq.mpr c29;have bo := bne_eq_false_iff_eq.mpr c29;clear c29
 by_cases c30 : 0 ≤ aa
 rotate_left
 ·rw [if_neg c30] at H
  exact absurd H (by simp)
 rw [if_pos c30] at H;have bF := decide_eq_true c30;clear c30
 by_cases c31 : aa < (l3.length : Int)
 rotate_left
 ·rw [if_neg c31] at H
  exact absurd H (by simp)
 rw [if_pos c31] at H;have bG := decide_eq_true c31;clear c31
 by_cases c32 : 0 ≤ ab
 rotate_left
 ·rw [if_neg c32] at H
  exact absurd H (by simp)
 rw [if_pos c32] at H;have bH := decide_eq_true c32;clear c32
 by_cases c33 : ab < (l3.length : Int)
 rotate_left
 ·rw [if_neg c33] at H
  exact absurd H (by simp)
 rw [if_pos c33] at H;have bI := decide_eq_true c33;clear c33;replace H := Option.bind_eq_some_iff.mp H;obtain ⟨aT, bq, H⟩ := H;(try dsimp only at H);have A34 := Aside0.mk bq;clear bq;obtain rfl := Option.some.inj H;go_enter Try.func69, Try.ntmps69;go_wp2_with (first | ((with_reducible refine qea (N := 5) rfl ?_); refine box_event ?hg (N := 5) ?hd (cs := #[.int .i64 af, .int .i64 aa, .int .i64 ab, .int .u64 au]) (t := 61) ?hr ?_; (case hd => rfl); (case hg => rfl); (case hr => first | (go_simp; done) | (go_simp; rfl)); intro ap hg w35 hbox hb; have ae := am hbox; have aq := kG HB hg; have ar := kG HB hg; replace HB := kH HB hb; clear hb hbox hg; have Z36 := kz4 ae; have aH : 0 ≤ (aa : Int) := od; have aI : aa < (l3.length : Int) := od; obtain ⟨aP, bb, an⟩ := Kd.at_int HR3.out aa aH aI; cases bb; replace an := (HB.out.cell (World.block_lt_of_cell? w _ an)).trans an; replace aH := eq_true aH; replace aI := eq_true aI; have aJ : 0 ≤ (ab : Int) := od; have aK : ab < (l3.length : Int) := od; obtain ⟨aQ, bc, ao⟩ := Kd.at_int HR3.out ab aJ aK; obtain rfl : aP = aQ := (by injection bc); replace ao := (HB.out.cell (World.block_lt_of_cell? w _ ao)).trans ao; replace aJ := eq_true aJ; replace aK := eq_true aK) | (go_at_call 70; (with_reducible refine (qta.calls a0 (rd l3 aa) (rd l3 ab) aT _ A34.out).mono ?_); rintro e w' ⟨rfl, ⟨nd, rfl⟩⟩; (try first | exact ⟨rfl, _, World.drewN_drewN _ _ _⟩ | exact ⟨rfl, _, Eq.trans (World.drewN_drewN _ _ _) (congrArg (World.drewN _) (Nat.add_assoc _ _ _))⟩)))
 repeat (go_quiet (first | ((with_reducible refine qea (N := 5) rfl ?_); refine box_event ?hg (N := 5) ?hd (cs := #[.int .i64 af, .int .i64 aa, .int .i64 ab, .int .u64 au]) (t := 61) ?hr ?_; (case hd => rfl); (case hg => rfl); (case hr => first | (go_simp; done) | (go_simp; rfl)); intro ap hg w35 hbox hb; have ae := am hbox; have aq := kG HB hg; have ar := kG HB hg; replace HB := kH HB hb; clear hb hbox hg; have Z36 := kz4 ae; have aH : 0 ≤ (aa : Int) := od; have aI : aa < (l3.length : Int) := od; obtain ⟨aP, bb, an⟩ := Kd.at_int HR3.out aa aH aI; cases bb; replace an := (HB.out.cell (World.block_lt_of_cell? w _ an)).trans an; replace aH := eq_true aH; replace aI := eq_true aI; have aJ : 0 ≤ (ab : Int) := od; have aK : ab < (l3.length : Int) := od; obtain ⟨aQ, bc, ao⟩ := Kd.at_int HR3.out ab aJ aK; obtain rfl : aP = aQ := (by injection bc); replace ao := (HB.out.cell (World.block_lt_of_cell? w _ ao)).trans ao; replace aJ := eq_true aJ; replace aK := eq_true aK) | (go_at_call 70; (with_reducible refine (qta.calls a0 (rd l3 aa) (rd l3 ab) aT _ A34.out).mono ?_); rintro e w' ⟨rfl, ⟨nd, rfl⟩⟩; (try first | exact ⟨rfl, _, World.drewN_drewN _ _ _⟩ | exact ⟨rfl, _, Eq.trans (World.drewN_drewN _ _ _) (congrArg (World.drewN _) (Nat.add_assoc _ _ _))⟩))); try go_wp2_with (first | ((with_reducible refine qea (N := 5) rfl ?_); refine box_event ?hg (N := 5) ?hd (cs := #[.int .i64 af, .int .i64 aa, .int .i64 ab, .int .u64 au]) (t := 61) ?hr ?_; (case hd => rfl); (case hg => rfl); (case hr => first | (go_simp; done) | (go_simp; rfl)); intro ap hg w35 hbox hb; have ae := am hbox; have aq := kG HB hg; have ar := kG HB hg; replace HB := kH HB hb; clear hb hbox hg; have Z36 := kz4 ae; have aH : 0 ≤ (aa : Int) := od; have aI : aa < (l3.length : Int) := od; obtain ⟨aP, bb, an⟩ := Kd.at_int HR3.out aa aH aI; cases bb; replace an := (HB.out.cell (World.block_lt_of_cell? w _ an)).trans an; replace aH := eq_true aH; replace aI := eq_true aI; have aJ : 0 ≤ (ab : Int) := od; have aK : ab < (l3.length : Int) := od; obtain ⟨aQ, bc, ao⟩ := Kd.at_int HR3.out ab aJ aK; obtain rfl : aP = aQ := (by injection bc); replace ao := (HB.out.cell (World.block_lt_of_cell? w _ ao)).trans ao; replace aJ := eq_true aJ; replace aK := eq_true aK) | (go_at_call 70; (with_reducible refine (qta.calls a0 (rd l3 aa) (rd l3 ab) aT _ A34.out).mono ?_); rintro e w' ⟨rfl, ⟨nd, rfl⟩⟩; (try first | exact ⟨rfl, _, World.drewN_drewN _ _ _⟩ | exact ⟨rfl, _, Eq.trans (World.drewN_drewN _ _ _) (congrArg (World.drewN _) (Nat.add_assoc _ _ _))⟩))))
 go_ret;exact ⟨er, kh HB⟩
mutual
def tune_folded.j0 : Nat → Int → List (S61) → Bool → Int → Int → Int → Int → Option (Int × Int × Int × Int × Bool)
 | 0, _, _, _, _, _, _, _ => none
 | k + 1, x0, x1, x20, ae, aa, ab, af => if x20 = true then (some (ae, aa, ab, af, false)) else (if 0 ≤ aa then (if aa < (x1.length : Int) then (if 0 ≤ ab then (if ab < (x1.length : Int) then (if ae = 6 then (tune_folded.j1 k x0 (ae != 6) false ae aa ab af ((rd_T61 x1 aa).f0) ((rd_T61 x1 aa).f1) ((rd_T61 x1 aa).f2) ((rd_T61 x1 aa).f3) ((rd_T61 x1 ab).f0) ((rd_T61 x1 ab).f1) ((rd_T61 x1 ab).f2) ((rd_T61 x1 ab).f3)) else (if ((rd_T61 x1 aa).f0) = 2 then (tune_folded.j1 k x0 (ae != 6) (((rd_T61 x1 ab).f0) == 2) ae aa ab af ((rd_T61 x1 aa).f0) ((rd_T61 x1 aa).f1) ((rd_T61 x1 aa).f2) ((rd_T61 x1 aa).f3) ((rd_T61 x1 ab).f0) ((rd_T61 x1 ab).f1) ((rd_T61 x1 ab).f2) ((rd_T61 x1 ab).f3)) else (tune_folded.j1 k x0 (ae != 6) false ae aa ab af ((rd_T61 x1 aa).f0) ((rd_T61 x1 aa).f1) ((rd_T61 x1 aa).f2) ((rd_T61 x1 aa).f3) ((rd_T61 x1 ab).f0) ((rd_T61 x1 ab).f1) ((rd_T61 x1 ab).f2) ((rd_T61 x1 ab).f3)))) else (none)) else (none)) else (none)) else (none))
def tune_folded.j1 : Nat → Int → Bool → Bool → Int → Int → Int → Int → Int → Int → Int → Int → Int → Int → Int → Int → Option (Int × Int × Int × Int × Bool)
 | 0, _, _, _, _, _, _, _, _, _, _, _, _, _, _, _ => none
 | k + 1, x0, x12, x35, ae, aa, ab, af, ah, ai, aj, ag, al, an, ao, ak => if x35 = true then ((circ_Of.f x0 ae 0 1 0 ([] : List Int) (([ag, ak] : List Int))).bind fun ay => ((tune_folded_1.f ay).bind fun ap => (some (ap.1, ap.2.1, ap.2.2.1, ap.2.2.2.1, ap.2.2.2.2)))) else (if x12 = true then (tune_folded.j2 k x0 x12 false ae aa ab af ah ai aj ag al an ao ak) else (tune_folded.j2 k x0 x12 (ah == 2) ae aa ab af ah ai aj ag al an ao ak))
def tune_folded.j2 : Nat → Int → Bool → Bool → Int → Int → Int → Int → Int → Int → Int → Int → Int → Int → Int → Int → Option (Int × Int × Int × Int × Bool)
 | 0, _, _, _, _, _, _, _, _, _, _, _, _, _, _, _ => none
 | k + 1, x0, x12, x61, ae, aa, ab, af, ah, ai, aj, ag, al, an, ao, ak => if x61 = true then ((qta.f x0 ag af).bind fun az => ((tune_folded_1.f az).bind fun aq => (some (aq.1, aq.2.1, aq.2.2.1, aq.2.2.2.1, aq.2.2.2.2)))) else (if ae = 5 then (tune_folded.j3 k x0 x12 (ah == 2) ae aa ab af ah ai aj ag al an ao ak) else (tune_folded.j3 k x0 x12 false ae aa ab af ah ai aj ag al an ao ak))
def tune_folded.j3 : Nat → Int → Bool → Bool → Int → Int → Int → Int → Int → Int → Int → Int → Int → Int → Int → Int → Option (Int × Int × Int × Int × Bool)
 | 0, _, _, _, _, _, _, _, _, _, _, _, _, _, _, _ => none
 | k + 1, x0, x12, x79, ae, aa, ab, af, ah, ai, aj, ag, al, an, ao, ak => if x79 = true then ((tune_folded_2.f ab ag).bind fun ar => (some (ar.1, ar.2.1, ar.2.2.1, ar.2.2.2.1, ar.2.2.2.2))) else (if ae = 5 then (tune_folded.j4 k x0 x12 (al == 2) ae aa ab af ah ai aj ag al an ao ak) else (tune_folded.j4 k x0 x12 false ae aa ab af ah ai aj ag al an ao ak))
def tune_folded.j4 : Nat → Int → Bool → Bool → Int → Int → Int → Int → Int → Int → Int → Int → Int → Int → Int → Int → Option (Int × Int × Int × Int × Bool)
 | 0, _, _, _, _, _, _, _, _, _, _, _, _, _, _, _ => none
 | k + 1, x0, x12, x96, ae, aa, ab, af, ah, ai, aj, ag, al, an, ao, ak => if x96 = true then ((tune_folded_2.f aa ak).bind fun au => (some (au.1, au.2.1, au.2.2.1, au.2.2.2.1, au.2.2.2.2))) else (if x12 = true then (tune_folded.j5 k x0 x12 false ae aa ab af ah ai aj ag) else (tune_folded.j5 k x0 x12 (af == 0) ae aa ab af ah ai aj ag))
def tune_folded.j5 : Nat → Int → Bool → Bool → Int → Int → Int → Int → Int → Int → Int → Int → Option (Int × Int × Int × Int × Bool)
 | 0, _, _, _, _, _, _, _, _, _, _, _ => none
 | k + 1, x0, x12, aA, ae, aa, ab, af, ah, ai, aj, ag => if aA = true then ((tune_folded_1.f 0).bind fun av => (some (av.1, av.2.1, av.2.2.1, av.2.2.2.1, av.2.2.2.2))) else (if x12 = true then (tune_folded.j6 k x0 false ae aa ab af ah ai aj ag) else (tune_folded.j6 k x0 (ah == 6) ae aa ab af ah ai aj ag))
def tune_folded.j6 : Nat → Int → Bool → Int → Int → Int → Int → Int → Int → Int → Int → Option (Int × Int × Int × Int × Bool)
 | 0, _, _, _, _, _, _, _, _, _, _ => none
 | k + 1, x0, aB, ae, aa, ab, af, ah, ai, aj, ag => if aB = true then ((qta.f x0 ag af).bind fun aC => ((tune_folded_2.f ai aC).bind fun aw => (some (aw.1, aw.2.1, aw.2.2.1, aw.2.2.2.1, aw.2.2.2.2)))) else (if ae = 4 then (if aa = ab then ((tune_folded_1.f 0).bind fun ax => (some (ax.1, ax.2.1, ax.2.2.1, ax.2.2.2.1, ax.2.2.2.2))) else (some (ae, aa, ab, af, false))) else (some (ae, aa, ab, af, false)))
end
def tune_folded.f (k : Nat) (a0 : Int) (l1 : List (S61)) (aa : Int) (ab : Int) (ae : Int) (af : Int) : Option (Int × Int × Int × Int × Bool) := if aa = 1 then (tune_folded.j0 k a0 l1 true aa ab ae af) else (tune_folded.j0 k a0 l1 (aa == 2) aa ab ae af)
theorem tune_folded.mono_l : ∀ k, (∀ y0 y1 y2 y3 y4 y5 y6, LeO (tune_folded.j0 k y0 y1 y2 y3 y4 y5 y6) (tune_folded.j0 (k + 1) y0 y1 y2 y3 y4 y5 y6)) ∧ (∀ y0 y1 y2 y3 y4 y5 y6 y7 y8 y9 y10 y11 y12 y13 y14, LeO (tune_folded.j1 k y0 y1 y2 y3 y4 y5 y6 y7 y8 y9 y10 y11 y12 y13 y14) (tune_folded.j1 (k + 1) y0 y1 y2 y3 y4 y5 y6 y7 y8 y9 y10 y11 y12 y13 y14)) ∧ (∀ y0 y1 y2 y3 y4 y5 y6 y7 y8 y9 y10 y11 y12 y13 y14, LeO (tune_folded.j2 k y0 y1 y2 y3 y4 y5 y6 y7 y8 y9 y10 y11 y12 y13 y14) (tune_folded.j2 (k + 1) y0 y1 y2 y3 y4 y5 y6 y7 y8 y9 y10 y11 y12 y13 y14)) ∧ (∀ y0 y1 y2 y3 y4 y5 y6 y7 y8 y9 y10 y11 y12 y13 y14, LeO (tune_folded.j3 k y0 y1 y2 y3 y4 y5 y6 y7 y8 y9 y10 y11 y12 y13 y14) (tune_folded.j3 (k + 1) y0 y1 y2 y3 y4 y5 y6 y7 y8 y9 y10 y11 y12 y13 y14)) ∧ (∀ y0 y1 y2 y3 y4 y5 y6 y7 y8 y9 y10 y11 y12 y13 y14, LeO (tune_folded.j4 k y0 y1 y2 y3 y4 y5 y6 y7 y8 y9 y10 y11 y12 y13 y14) (tune_folded.j4 (k + 1) y0 y1 y2 y3 y4 y5 y6 y7 y8 y9 y10 y11 y12 y13 y14)) ∧ (∀ y0 y1 y2 y3 y4 y5 y6 y7 y8 y9 y10, LeO (tune_folded.j5 k y0 y1 y2 y3 y4 y5 y6 y7 y8 y9 y10) (tune_folded.j5 (k + 1) y0 y1 y2 y3 y4 y5 y6 y7 y8 y9 y10)) ∧ (∀ y0 y1 y2 y3 y4 y5 y6 y7 y8 y9, LeO (tune_folded.j6 k y0 y1 y2 y3 y4 y5 y6 y7 y8 y9) (tune_folded.j6 (k + 1) y0 y1 y2 y3 y4 y5 y6 y7 y8 y9))
 | 0 => ⟨fun _ _ _ _ _ _ _ r h => by simp [tune_folded.j0] at h, fun _ _ _ _ _ _ _ _ _ _ _ _ _ _ _ r h => by simp [tune_folded.j1] at h, fun _ _ _ _ _ _ _ _ _ _ _ _ _ _ _ r h => by simp [tune_folded.j2] at h, fun _ _ _ _ _ _ _ _ _ _ _ _ _ _ _ r h => by simp [tune_folded.j3] at h, fun _ _ _ _ _ _ _ _ _ _ _ _ _ _ _ r h => by simp [tune_folded.j4] at h, fun _ _ _ _ _ _ _ _ _ _ _ r h => by simp [tune_folded.j5] at h, fun _ _ _ _ _ _ _ _ _ _ r h => by simp [tune_folded.j6] at h⟩
 | k + 1 => by
  obtain ⟨ih0, ih1, ih2, ih3, ih4, ih5, ih6⟩ := tune_folded.mono_l k;refine ⟨?_, ?_, ?_, ?_, ?_, ?_, ?_⟩
  ·intro y0 y1 y2 y3 y4 y5 y6
   unfold tune_folded.j0
   repeat' first
   | (with_reducible exact ih0 _ _ _ _ _ _ _)
   | (with_reducible exact ih1 _ _ _ _ _ _ _ _ _ _ _ _ _ _ _)
   | (with_reducible exact ih2 _ _ _ _ _ _ _ _ _ _ _ _ _ _ _)
   | (with_reducible exact ih3 _ _ _ _ _ _ _ _ _ _ _ _ _ _ _)
   | (with_reducible exact ih4 _ _ _ _ _ _ _ _ _ _ _ _ _ _ _)
   | (with_reducible exact ih5 _ _ _ _ _ _ _ _ _ _ _)
   | (with_reducible exact ih6 _ _ _ _ _ _ _ _ _ _)
   | (with_reducible exact LeO.refl _)
   | (with_reducible exact LeO.none _)
   | (with_reducible refine LeO.ite ?_ ?_)
   | (with_reducible refine LeO.bind ?_ (fun _ => ?_))
   | exact ih0 _ _ _ _ _ _ _
   | exact ih1 _ _ _ _ _ _ _ _ _ _ _ _ _ _ _
   | exact ih2 _ _ _ _ _ _ _ _ _ _ _ _ _ _ _
   | exact ih3 _ _ _ _ _ _ _ _ _ _ _ _ _ _ _
   | exact ih4 _ _ _ _ _ _ _ _ _ _ _ _ _ _ _
   | exact ih5 _ _ _ _ _ _ _ _ _ _ _
   | exact ih6 _ _ _ _ _ _ _ _ _ _
   | exact LeO.none _
   | refine LeO.ite ?_ ?_
   | refine LeO.bind ?_ (fun _ => ?_)
  ·intro y0 y1 y2 y3 y4 y5 y6 y7 y8 y9 y10 y11 y12 y13 y14
   unfold tune_folded.j1
   repeat' first
   | (with_reducible exact ih0 _ _ _ _ _ _ _)
   | (with_reducible exact ih1 _ _ _ _ _ _ _ _ _ _ _ _ _ _ _)
   | (with_reducible exact ih2 _ _ _ _ _ _ _ _ _ _ _ _ _ _ _)
   | (with_reducible exact ih3 _ _ _ _ _ _ _ _ _ _ _ _ _ _ _)
   | (with_reducible exact ih4 _ _ _ _ _ _ _ _ _ _ _ _ _ _ _)
   | (with_reducible exact ih5 _ _ _ _ _ _ _ _ _ _ _)
   | (with_reducible exact ih6 _ _ _ _ _ _ _ _ _ _)
   | (with_reducible exact LeO.refl _)
   | (with_reducible exact LeO.none _)
   | (with_reducible refine LeO.ite ?_ ?_)
   | (with_reducible refine LeO.bind ?_ (fun _ => ?_))
   | exact ih0 _ _ _ _ _ _ _
   | exact ih1 _ _ _ _ _ _ _ _ _ _ _ _ _ _ _
   | exact ih2 _ _ _ _ _ _ _ _ _ _ _ _ _ _ _
   | exact ih3 _ _ _ _ _ _ _ _ _ _ _ _ _ _ _
   | exact ih4 _ _ _ _ _ _ _ _ _ _ _ _ _ _ _
   | exact ih5 _ _ _ _ _ _ _ _ _ _ _
   | exact ih6 _ _ _ _ _ _ _ _ _ _
   | exact LeO.none _
   | refine LeO.ite ?_ ?_
   | refine LeO.bind ?_ (fun _ => ?_)
  ·intro y0 y1 y2 y3 y4 y5 y6 y7 y8 y9 y10 y11 y12 y13 y14
   unfold tune_folded.j2
   repeat' first
   | (with_reducible exact ih0 _ _ _ _ _ _ _)
   | (with_reducible exact ih1 _ _ _ _ _ _ _ _ _ _ _ _ _ _ _)
   | (with_reducible exact ih2 _ _ _ _ _ _ _ _ _ _ _ _ _ _ _)
   | (with_reducible exact ih3 _ _ _ _ _ _ _ _ _ _ _ _ _ _ _)
   | (with_reducible exact ih4 _ _ _ _ _ _ _ _ _ _ _ _ _ _ _)
   | (with_reducible exact ih5 _ _ _ _ _ _ _ _ _ _ _)
   | (with_reducible exact ih6 _ _ _ _ _ _ _ _ _ _)
   | (with_reducible exact LeO.refl _)
   | (with_reducible exact LeO.none _)
   | (with_reducible refine LeO.ite ?_ ?_)
   | (with_reducible refine LeO.bind ?_ (fun _ => ?_))
   | exact ih0 _ _ _ _ _ _ _
   | exact ih1 _ _ _ _ _ _ _ _ _ _ _ _ _ _ _
   | exact ih2 _ _ _ _ _ _ _ _ _ _ _ _ _ _ _
   | exact ih3 _ _ _ _ _ _ _ _ _ _ _ _ _ _ _
   | exact ih4 _ _ _ _ _ _ _ _ _ _ _ _ _ _ _
   | exact ih5 _ _ _ _ _ _ _ _ _ _ _
   | exact ih6 _ _ _ _ _ _ _ _ _ _
   | exact LeO.none _
   | refine LeO.ite ?_ ?_
   | refine LeO.bind ?_ (fun _ => ?_)
  ·intro y0 y1 y2 y3 y4 y5 y6 y7 y8 y9 y10 y11 y12 y13 y14
   unfold tune_folded.j3
   repeat' first
   | (with_reducible exact ih0 _ _ _ _ _ _ _)
   | (with_reducible exact ih1 _ _ _ _ _ _ _ _ _ _ _ _ _ _ _)
   | (with_reducible exact ih2 _ _ _ _ _ _ _ _ _ _ _ _ _ _ _)
   | (with_reducible exact ih3 _ _ _ _ _ _ _ _ _ _ _ _ _ _ _)
   | (with_reducible exact ih4 _ _ _ _ _ _ _ _ _ _ _ _ _ _ _)
   | (with_reducible exact ih5 _ _ _ _ _ _ _ _ _ _ _)
   | (with_reducible exact ih6 _ _ _ _ _ _ _ _ _ _)
   | (with_reducible exact LeO.refl _)
   | (with_reducible exact LeO.none _)
   | (with_reducible refine LeO.ite ?_ ?_)
   | (with_reducible refine LeO.bind ?_ (fun _ => ?_))
   | exact ih0 _ _ _ _ _ _ _
   | exact ih1 _ _ _ _ _ _ _ _ _ _ _ _ _ _ _
   | exact ih2 _ _ _ _ _ _ _ _ _ _ _ _ _ _ _
   | exact ih3 _ _ _ _ _ _ _ _ _ _ _ _ _ _ _
   | exact ih4 _ _ _ _ _ _ _ _ _ _ _ _ _ _ _
   | exact ih5 _ _ _ _ _ _ _ _ _ _ _
   | exact ih6 _ _ _ _ _ _ _ _ _ _
   | exact LeO.none _
   | refine LeO.ite ?_ ?_
   | refine LeO.bind ?_ (fun _ => ?_)
  ·intro y0 y1 y2 y3 y4 y5 y6 y7 y8 y9 y10 y11 y12 y13 y14
   unfold tune_folded.j4
   repeat' first
   | (with_reducible exact ih0 _ _ _ _ _ _ _)
   | (with_reducible exact ih1 _ _ _ _ _ _ _ _ _ _ _ _ _ _ _)
   | (with_reducible exact ih2 _ _ _ _ _ _ _ _ _ _ _ _ _ _ _)
   | (with_reducible exact ih3 _ _ _ _ _ _ _ _ _ _ _ _ _ _ _)
   | (with_reducible exact ih4 _ _ _ _ _ _ _ _ _ _ _ _ _ _ _)
   | (with_reducible exact ih5 _ _ _ _ _ _ _ _ _ _ _)
   | (with_reducible exact ih6 _ _ _ _ _ _ _ _ _ _)
   | (with_reducible exact LeO.refl _)
   | (with_reducible exact LeO.none _)
   | (with_reducible refine LeO.ite ?_ ?_)
   | (with_reducible refine LeO.bind ?_ (fun _ => ?_))
   | exact ih0 _ _ _ _ _ _ _
   | exact ih1 _ _ _ _ _ _ _ _ _ _ _ _ _ _ _
   | exact ih2 _ _ _ _ _ _ _ _ _ _ _ _ _ _ _
   | exact ih3 _ _ _ _ _ _ _ _ _ _ _ _ _ _ _
   | exact ih4 _ _ _ _ _ _ _ _ _ _ _ _ _ _ _
   | exact ih5 _ _ _ _ _ _ _ _ _ _ _
   | exact ih6 _ _ _ _ _ _ _ _ _ _
   | exact LeO.none _
   | refine LeO.ite ?_ ?_
   | refine LeO.bind ?_ (fun _ => ?_)
  ·intro y0 y1 y2 y3 y4 y5 y6 y7 y8 y9 y10
   unfold tune_folded.j5
   repeat' first
   | (with_reducible exact ih0 _ _ _ _ _ _ _)
   | (with_reducible exact ih1 _ _ _ _ _ _ _ _ _ _ _ _ _ _ _)
   | (with_reducible exact ih2 _ _ _ _ _ _ _ _ _ _ _ _ _ _ _)
   | (with_reducible exact ih3 _ _ _ _ _ _ _ _ _ _ _ _ _ _ _)
   | (with_reducible exact ih4 _ _ _ _ _ _ _ _ _ _ _ _ _ _ _)
   | (with_reducible exact ih5 _ _ _ _ _ _ _ _ _ _ _)
   | (with_reducible exact ih6 _ _ _ _ _ _ _ _ _ _)
   | (with_reducible exact LeO.refl _)
   | (with_reducible exact LeO.none _)
   | (with_reducible refine LeO.ite ?_ ?_)
   | (with_reducible refine LeO.bind ?_ (fun _ => ?_))
   | exact ih0 _ _ _ _ _ _ _
   | exact ih1 _ _ _ _ _ _ _ _ _ _ _ _ _ _ _
   | exact ih2 _ _ _ _ _ _ _ _ _ _ _ _ _ _ _
   | exact ih3 _ _ _ _ _ _ _ _ _ _ _ _ _ _ _
   | exact ih4 _ _ _ _ _ _ _ _ _ _ _ _ _ _ _
   | exact ih5 _ _ _ _ _ _ _ _ _ _ _
   | exact ih6 _ _ _ _ _ _ _ _ _ _
   | exact LeO.none _
   | refine LeO.ite ?_ ?_
   | refine LeO.bind ?_ (fun _ => ?_)
  ·intro y0 y1 y2 y3 y4 y5 y6 y7 y8 y9
   unfold tune_folded.j6
   repeat' first
   | (with_reducible exact ih0 _ _ _ _ _ _ _)
   | (with_reducible exact ih1 _ _ _ _ _ _ _ _ _ _ _ _ _ _ _)
   | (with_reducible exact ih2 _ _ _ _ _ _ _ _ _ _ _ _ _ _ _)
   | (with_reducible exact ih3 _ _ _ _ _ _ _ _ _ _ _ _ _ _ _)
   | (with_reducible exact ih4 _ _ _ _ _ _ _ _ _ _ _ _ _ _ _)
   | (with_reducible exact ih5 _ _ _ _ _ _ _ _ _ _ _)
   | (with_reducible exact ih6 _ _ _ _ _ _ _ _ _ _)
   | (with_reducible exact LeO.refl _)
   | (with_reducible exact LeO.none _)
   | (with_reducible refine LeO.ite ?_ ?_)
   | (with_reducible refine LeO.bind ?_ (fun _ => ?_))
   | exact ih0 _ _ _ _ _ _ _
   | exact ih1 _ _ _ _ _ _ _ _ _ _ _ _ _ _ _
   | exact ih2 _ _ _ _ _ _ _ _ _ _ _ _ _ _ _
   | exact ih3 _ _ _ _ _ _ _ _ _ _ _ _ _ _ _
   | exact ih4 _ _ _ _ _ _ _ _ _ _ _ _ _ _ _
   | exact ih5 _ _ _ _ _ _ _ _ _ _ _
   | exact ih6 _ _ _ _ _ _ _ _ _ _
   | exact LeO.none _
   | refine LeO.ite ?_ ?_
   | refine LeO.bind ?_ (fun _ => ?_)
theorem tune_folded.mono : ∀ a0 a1 a2 a3 a4 a5 k, LeO (tune_folded.f k a0 a1 a2 a3 a4 a5) (tune_folded.f (k + 1) a0 a1 a2 a3 a4 a5) := by
 intro a0 a1 a2 a3 a4 a5 k;obtain ⟨ih0, ih1, ih2, ih3, ih4, ih5, ih6⟩ := tune_folded.mono_l k;unfold tune_folded.f
 repeat' first
   | (with_reducible exact ih0 _ _ _ _ _ _ _)
   | (with_reducible exact ih1 _ _ _ _ _ _ _ _ _ _ _ _ _ _ _)
   | (with_reducible exact ih2 _ _ _ _ _ _ _ _ _ _ _ _ _ _ _)
   | (with_reducible exact ih3 _ _ _ _ _ _ _ _ _ _ _ _ _ _ _)
   | (with_reducible exact ih4 _ _ _ _ _ _ _ _ _ _ _ _ _ _ _)
   | (with_reducible exact ih5 _ _ _ _ _ _ _ _ _ _ _)
   | (with_reducible exact ih6 _ _ _ _ _ _ _ _ _ _)
   | (with_reducible exact LeO.refl _)
   | (with_reducible exact LeO.none _)
   | (with_reducible refine LeO.ite ?_ ?_)
   | (with_reducible refine LeO.bind ?_ (fun _ => ?_))
   | exact ih0 _ _ _ _ _ _ _
   | exact ih1 _ _ _ _ _ _ _ _ _ _ _ _ _ _ _
   | exact ih2 _ _ _ _ _ _ _ _ _ _ _ _ _ _ _
   | exact ih3 _ _ _ _ _ _ _ _ _ _ _ _ _ _ _
   | exact ih4 _ _ _ _ _ _ _ _ _ _ _ _ _ _ _
   | exact ih5 _ _ _ _ _ _ _ _ _ _ _
   | exact ih6 _ _ _ _ _ _ _ _ _ _
   | exact LeO.none _
   | refine LeO.ite ?_ ?_
   | refine LeO.bind ?_ (fun _ => ?_)
def tune_folded.T5 : Bool × List (List Nat × List Nat) := (true, [([], []), ([], []), ([1], [1]), ([0, 2], [0, 2]), ([3], [3]), ([], []), ([], []), ([6], [6]), ([5, 7], [5, 7]), ([8], [8]), ([], []), ([], []), ([10, 4, 0, 1, 2, 3, 4, 10, 11], [4, 10]), ([11, 9, 12, 0, 1, 2, 3, 4, 5, 6, 7, 8, 9, 10, 11, 12], [9, 11])])
def tune_folded.B5 : List Nat := [0, 0, 2, 7, 15, 0, 0, 64, 224, 480, 0, 0, 3103, 8191]
theorem tune_folded.tab5 : rtab .any (opsOf Try.f39 5) = tune_folded.T5 := by kernel_rfl
theorem tune_folded.bits5 : waitsOk tune_folded.T5.2 tune_folded.B5 = true := by kernel_rfl
def tune_folded.T18 : Bool × List (List Nat × List Nat) := (true, [([], []), ([], []), ([1], [1]), ([], []), ([], []), ([4], [4]), ([], []), ([6], [6]), ([3, 5, 7], [3, 5, 7]), ([0, 2, 8, 8], [0, 2, 8]), ([9], [9]), ([9], [9]), ([10, 9, 0, 1, 2, 3, 4, 5, 6, 7, 8, 9, 10, 11], [10]), ([11, 12, 0, 1, 2, 3, 4, 5, 6, 7, 8, 9, 10, 11, 12], [11])])
def tune_folded.B18 : List Nat := [0, 0, 2, 0, 0, 16, 0, 64, 248, 511, 1023, 1023, 4095, 8191]
theorem tune_folded.tab18 : rtab .any (opsOf Try.f39 18) = tune_folded.T18 := by kernel_rfl
theorem tune_folded.bits18 : waitsOk tune_folded.T18.2 tune_folded.B18 = true := by kernel_rfl
theorem tune_folded.calls (k : Nat) (a0 : Int) (A1 : Option Addr) (c1 : Nat) (l1 : List (S61)) (aw : Int) (ab : Int) (ae : Int) (aD : Int) (r1 : Int) (r2 : Int) (r3 : Int) (r4 : Int) (r5 : Bool) (w : World) (hr1 : Kd.C k61 w A1 l1.length l1) (hc1 : l1.length ≤ c1) (h : tune_folded.f k a0 l1 aw ab ae aD = some (r1, r2, r3, r4, r5)) :
  Calls Try.prog 39 #[.int .u64 a0, .slice A1 l1.length c1, .agg #[.int .i64 aw, .int .i64 ab, .int .i64 ae, .int .u64 aD]] w fun e w' => e = .returned (.tuple #[.agg #[.int .i64 r1, .int .i64 r2, .int .i64 r3, .int .u64 r4], .bool r5]) ∧ Below w.heap.size w w' := by
 have hu61 := Try.underlying61;have HR1 := Aside0.mk hr1;have HC1 := Aside0.mk hc1;clear hr1 hc1;have HB := Aside0.mk (Below.refl w.heap.size w);have H : (if aw = 1 then (tune_folded.j0 k a0 l1 true aw ab ae aD) else (tune_folded.j0 k a0 l1 (aw == 2) aw ab ae aD)) = some (r1, r2, r3, r4, r5) := h;clear h;have HC4 := Aside0.mk H;clear H;go_enter Try.func39, Try.ntmps39;go_upto_region 3 with (first | ((with_reducible refine qea (N := 5) rfl ?_); refine box_event ?hg (N := 5) ?hd (cs := #[.int .i64 aw, .int .i64 ab, .int .i64 ae, .int .u64 aD]) (t := 61) ?hr ?_; (case hd => rfl); (case hg => rfl); (case hr => first | (go_simp; done) | (go_simp; rfl)); intro aB hg w5 hbox hb; have aa := am hbox; have gZ := kG HB hg; have ha := kG HB hg; replace HB := kH HB hb; clear hb hbox hg) | ((with_reducible refine qea (N := 6) rfl ?_); refine box_event ?hg (N := 6) ?hd (cs := #[.int .i64 0, .int .i64 0, .int .i64 0, .int .u64 0]) (t := 61) ?hr ?_; (case hd => rfl); (case hg => rfl); (case hr => first | (go_simp; done) | (go_simp; rfl)); intro aC hg w6 hbox hb; have af := am hbox; have he := kG HB hg; have hf := kG HB hg; replace HB := kH HB hb; have ax := kP aa hg; have ay := kQ aa hg; replace aa := kU aa hb; clear hb hbox hg));(try simp only [Act.put, qS1, qS2, qS3]);go_cut [20] (fun v20 wc => ∃ (kq : Nat) (bq : Bool), v20 = .bool bq ∧ Aside0 (tune_folded.j0 kq a0 l1 bq aw ab ae aD = some (r1, r2, r3, r4, r5)) ∧ Aside0 (kq ≤ k) ∧ Aside0 (wc.heap[aB]? = some (.cells #[.int .i64 aw, .int .i64 ab, .int .i64 ae, .int .u64 aD] 61 (0, 0))) ∧ Aside0 (wc.heap[aC]? = some (.cells #[.int .i64 0, .int .i64 0, .int .i64 0, .int .u64 0] 61 (0, 0))) ∧ Aside0 (Below w.heap.size w wc))
 case first =>
  have H := HC4.out;clear HC4
  by_cases c7 : aw = 1
  rotate_left
  ·rw [if_neg c7] at H
   have bz := beq_eq_false_iff_ne.mpr c7;have eC := bne_iff_ne.mpr c7;(first | rw [bz] | (simp only [i64_w, i32_w]; rw [bz]) | skip);have H' := Aside0.mk H;clear H;have hh := ax.out;have hj := ay.out;have Z11 := kz4 aa;go_wp2;go_meet
   case rel => exact ⟨_, ((aw == 2)), et, H', ⟨by first | omega | exact Nat.le_refl _⟩, ⟨kg aa⟩, ⟨kg af⟩, ⟨kh HB⟩⟩
  rw [if_pos c7] at H;have bz := beq_iff_eq.mpr c7;have eC := bne_eq_false_iff_eq.mpr c7;clear c7;(first | rw [bz] | (simp only [i64_w, i32_w]; rw [bz]) | skip);have H' := Aside0.mk H;clear H;have jk := ax.out;have jl := ay.out;have Z9 := kz4 aa;go_wp2;go_meet
  case rel => exact ⟨_, (true), et, H', ⟨by first | omega | exact Nat.le_refl _⟩, ⟨kg aa⟩, ⟨kg af⟩, ⟨kh HB⟩⟩
 clear HC4;obtain ⟨kq, bq, rfl, HA, HJ3, aa, af, HB⟩ := hcut
 cases kq with
 | zero => exact absurd HA.out (by simp [tune_folded.j0])
 | succ kj3 =>
  have H := HA.out;clear HA;simp only [tune_folded.j0] at H
  by_cases c12 : bq = true
  ·subst c12
   replace H := ifT H;simp only [Option.some.injEq, Prod.mk.injEq] at H;obtain ⟨rfl, rfl, rfl, rfl, rfl⟩ := H;have hm := ax.out;have hq := ay.out;have Z14 := kz4 aa;have Z15 := kz4 af;go_wp2;refine bodyPost_ret (results_ct rfl _ _ aC 61 #[.int .i64 aw, .int .i64 ab, .int .i64 ae, .int .u64 aD] (0, 0) _ rfl (kg af) Try.underlying61 rfl (by kernel_rfl)) rfl ?_;exact ⟨er, kh HB⟩
  replace c12 := Bool.eq_false_iff.mpr c12;subst c12;replace H := ifF H
  by_cases c16 : 0 ≤ ab
  rotate_left
  ·rw [if_neg c16] at H
   exact absurd H (by simp)
  rw [if_pos c16] at H;have ck := decide_eq_true c16;clear c16
  by_cases c17 : ab < (l1.length : Int)
  rotate_left
  ·rw [if_neg c17] at H
   exact absurd H (by simp)
  rw [if_pos c17] at H;have cl := decide_eq_true c17;clear c17
  by_cases c18 : 0 ≤ ae
  rotate_left
  ·rw [if_neg c18] at H
   exact absurd H (by simp)
  rw [if_pos c18] at H;have cm := decide_eq_true c18;clear c18
  by_cases c19 : ae < (l1.length : Int)
  rotate_left
  ·rw [if_neg c19] at H
   exact absurd H (by simp)
  rw [if_pos c19] at H;have cn := decide_eq_true c19;clear c19;have bV := Aside0.mk H;clear H;(try go_wp2);replace aa := kD aa; replace af := kD af; replace HB := kE HB;have bH : 0 ≤ (ab : Int) := od;have bI : ab < (l1.length : Int) := od;obtain ⟨aA, eD, aE, aF, aG, aH⟩ := at_T61 HR1.out ab bH bI;have aM := aH; have aN := aG; have aO := aF; have aP := aE;cases eD;replace aE := (HB.out.cell (World.block_lt_of_cell? w _ aE)).trans aE;replace aF := (HB.out.cell (World.block_lt_of_cell? w _ aF)).trans aF;replace aG := (HB.out.cell (World.block_lt_of_cell? w _ aG)).trans aG;replace aH := (HB.out.cell (World.block_lt_of_cell? w _ aH)).trans aH;replace bH := eq_true bH; replace bI := eq_true bI;have bJ : 0 ≤ (ae : Int) := od;have bK : ae < (l1.length : Int) := od;obtain ⟨co, eE, aI, aJ, aK, aL⟩ := at_T61 HR1.out ae bJ bK;have aQ := aL; have aR := aK; have aS := aJ; have aT := aI;obtain rfl : aA = co := (by injection eE);replace aI := (HB.out.cell (World.block_lt_of_cell? w _ aI)).trans aI;replace aJ := (HB.out.cell (World.block_lt_of_cell? w _ aJ)).trans aJ;replace aK := (HB.out.cell (World.block_lt_of_cell? w _ aK)).trans aK;replace aL := (HB.out.cell (World.block_lt_of_cell? w _ aL)).trans aL;replace bJ := eq_true bJ; replace bK := eq_true bK;refine start_ (n := 14) (S := fun w' => w'.cell? ⟨aB, 0, none⟩ = some (.int .i64 aw) ∧ w'.cell? ⟨aB, 1, none⟩ = some (.int .i64 ab) ∧ w'.cell? ⟨aB, 2, none⟩ = some (.int .i64 ae) ∧ w'.cell? ⟨aB, 3, none⟩ = some (.int .u64 aD) ∧ w'.cell? (aA.add ((ab).toNat * 4)) = some (.int .i64 ((rd_T61 l1 ab).f0)) ∧ w'.cell? ⟨(aA.add ((ab).toNat * 4)).block, (aA.add ((ab).toNat * 4)).off + 1, none⟩ = some (.int .i64 ((rd_T61 l1 ab).f1)) ∧ w'.cell? ⟨(aA.add ((ab).toNat * 4)).block, (aA.add ((ab).toNat * 4)).off + 2, none⟩ = some (.int .i64 ((rd_T61 l1 ab).f2)) ∧ w'.cell? ⟨(aA.add ((ab).toNat * 4)).block, (aA.add ((ab).toNat * 4)).off + 3, none⟩ = some (.int .u64 ((rd_T61 l1 ab).f3)) ∧ w'.cell? (aA.add ((ae).toNat * 4)) = some (.int .i64 ((rd_T61 l1 ae).f0)) ∧ w'.cell? ⟨(aA.add ((ae).toNat * 4)).block, (aA.add ((ae).toNat * 4)).off + 1, none⟩ = some (.int .i64 ((rd_T61 l1 ae).f1)) ∧ w'.cell? ⟨(aA.add ((ae).toNat * 4)).block, (aA.add ((ae).toNat * 4)).off + 2, none⟩ = some (.int .i64 ((rd_T61 l1 ae).f2)) ∧ w'.cell? ⟨(aA.add ((ae).toNat * 4)).block, (aA.add ((ae).toNat * 4)).off + 3, none⟩ = some (.int .u64 ((rd_T61 l1 ae).f3))) (ds := []) (bs 14 0) (by kernel_rfl) rfl rfl ⟨kk aa 0, kk aa 1, kk aa 2, kk aa 3, (kq HB aP), (kq HB aO), (kq HB aN), (kq HB aM), (kq HB aT), (kq HB aS), (kq HB aR), (kq HB aQ)⟩ (fun hHeld => ?_); refine with_tabW tune_folded.tab5 tune_folded.bits5 (fun HT_ HW_ => ?_);generalize wc.drew = w21 at aa af HB aE aF aG aH aI aJ aK aL hHeld ⊢;refine pu 0 (some 22) (bs 14 1) HT_ ?_;refine pu 1 (some 23) (bs 14 3) HT_ ?_;refine pu 5 (some 27) (bs 14 35) HT_ ?_;refine pu 6 (some 28) (bs 14 99) HT_ ?_;refine ta 2 (some 24) (bs 14 103) HT_ HW_ hHeld ?_;refine pu 3 (some 25) (bs 14 111) HT_ ?_;refine ta 4 (some 26) (bs 14 127) HT_ HW_ hHeld ?_;refine ta 7 (some 29) (bs 14 255) HT_ HW_ hHeld ?_;refine pu 8 (some 30) (bs 14 511) HT_ ?_;refine ta 9 (some 31) (bs 14 1023) HT_ HW_ hHeld ?_;refine join_ (σ := Nat × Nat) 2 (bs 14 4095) (fun s_ => [(10, .pointer (some ⟨s_.1, 0, none⟩)), (11, .pointer (some ⟨s_.2, 0, none⟩))]) (fun s_ w' => (w'.cell? ⟨aB, 0, none⟩ = some (.int .i64 aw) ∧ w'.cell? ⟨aB, 1, none⟩ = some (.int .i64 ab) ∧ w'.cell? ⟨aB, 2, none⟩ = some (.int .i64 ae) ∧ w'.cell? ⟨aB, 3, none⟩ = some (.int .u64 aD) ∧ w'.cell? (aA.add ((ab).toNat * 4)) = some (.int .i64 ((rd_T61 l1 ab).f0)) ∧ w'.cell? ⟨(aA.add ((ab).toNat * 4)).block, (aA.add ((ab).toNat * 4)).off + 1, none⟩ = some (.int .i64 ((rd_T61 l1 ab).f1)) ∧ w'.cell? ⟨(aA.add ((ab).toNat * 4)).block, (aA.add ((ab).toNat * 4)).off + 2, none⟩ = some (.int .i64 ((rd_T61 l1 ab).f2)) ∧ w'.cell? ⟨(aA.add ((ab).toNat * 4)).block, (aA.add ((ab).toNat * 4)).off + 3, none⟩ = some (.int .u64 ((rd_T61 l1 ab).f3)) ∧ w'.cell? (aA.add ((ae).toNat * 4)) = some (.int .i64 ((rd_T61 l1 ae).f0)) ∧ w'.cell? ⟨(aA.add ((ae).toNat * 4)).block, (aA.add ((ae).toNat * 4)).off + 1, none⟩ = some (.int .i64 ((rd_T61 l1 ae).f1)) ∧ w'.cell? ⟨(aA.add ((ae).toNat * 4)).block, (aA.add ((ae).toNat * 4)).off + 2, none⟩ = some (.int .i64 ((rd_T61 l1 ae).f2)) ∧ w'.cell? ⟨(aA.add ((ae).toNat * 4)).block, (aA.add ((ae).toNat * 4)).off + 3, none⟩ = some (.int .u64 ((rd_T61 l1 ae).f3))) ∧ (w'.heap[aB]? = some (.cells #[.int .i64 aw, .int .i64 ab, .int .i64 ae, .int .u64 aD] 61 (0, 0))) ∧ (w'.heap[aC]? = some (.cells #[.int .i64 0, .int .i64 0, .int .i64 0, .int .u64 0] 61 (0, 0))) ∧ (w'.heap[s_.1]? = some (.cells #[.int .i64 0, .int .i64 0, .int .i64 0, .int .u64 0] 61 (0, 0))) ∧ (w'.heap[s_.2]? = some (.cells #[.int .i64 0, .int .i64 0, .int .i64 0, .int .u64 0] 61 (0, 0))) ∧ (w.heap.size ≤ s_.1) ∧ (w.heap.size ≤ s_.1) ∧ (aB ≠ s_.1) ∧ (s_.1 ≠ aB) ∧ (aC ≠ s_.1) ∧ (s_.1 ≠ aC) ∧ (s_.2 ≠ s_.1) ∧ (s_.1 ≠ s_.2) ∧ (w.heap.size ≤ s_.2) ∧ (w.heap.size ≤ s_.2) ∧ (aB ≠ s_.2) ∧ (s_.2 ≠ aB) ∧ (aC ≠ s_.2) ∧ (s_.2 ≠ aC) ∧ (Below w.heap.size w w')) ?_ ?_
  rotate_left
  ·intro hCont
   refine two_ (i := 10) (j := 11) (Ni := some 10) (Nj := some 11) (bs 14 2047) (bs 14 3071) rfl rfl rfl rfl (two_of HT_.out (by kernel_rfl)) (by decide) (by decide) (fun K hK => ?_) (fun K hK => ?_)
   ·skip
    refine box_step ?hg (N := 10) ?hd (cs := #[.int .i64 0, .int .i64 0, .int .i64 0, .int .u64 0]) (t := 61) ?hr ?_; (case hd => rfl); (case hg => rfl); (case hr => first | (go_simp; done) | (go_simp; rfl));intro an hg w22 hbox hb;have ag := am hbox; have br := kG HB hg; have bt := kG HB hg; replace HB := kH HB hb; have ai := kP aa hg; have aj := kQ aa hg; replace aa := kU aa hb; have ak := kP af hg; have al := kQ af hg; replace af := kU af hb;clear hb hbox hg;refine hK.out _ _ ⟨kk aa 0, kk aa 1, kk aa 2, kk aa 3, (kq HB aP), (kq HB aO), (kq HB aN), (kq HB aM), (kq HB aT), (kq HB aS), (kq HB aR), (kq HB aQ)⟩ (fun hHeld => ?_);clear hK K;refine no (some 10) ?_;refine one_ (i := 11) (N := some 11) (bs 14 4095) rfl rfl (one_of HT_.out (by kernel_rfl)) (by decide) (fun K hK => ?_);refine box_step ?hg (N := 11) ?hd (cs := #[.int .i64 0, .int .i64 0, .int .i64 0, .int .u64 0]) (t := 61) ?hr ?_; (case hd => rfl); (case hg => rfl); (case hr => first | (go_simp; done) | (go_simp; rfl));intro az hg w23 hbox hb;have ah := am hbox; have bu := kG HB hg; have bv := kG HB hg; replace HB := kH HB hb; have ao := kP aa hg; have ap := kQ aa hg; replace aa := kU aa hb; have aq := kP af hg; have ar := kQ af hg; replace af := kU af hb; have au := kP ag hg; have av := kQ ag hg; replace ag := kU ag hb;clear hb hbox hg;refine hK.out _ _ ⟨kk aa 0, kk aa 1, kk aa 2, kk aa 3, (kq HB aP), (kq HB aO), (kq HB aN), (kq HB aM), (kq HB aT), (kq HB aS), (kq HB aR), (kq HB aQ)⟩ (fun hHeld => ?_);clear hK K;refine no (some 11) ?_;exact norm_ (by simp only [putAll, Act.put, qS1, qS2, qS3]) (hCont (an, az) _ ⟨hHeld, (kb aa), (kb af), (kb ag), (kb ah), br.out, bt.out, ai.out, aj.out, ak.out, al.out, av.out, au.out, bu.out, bv.out, ao.out, ap.out, aq.out, ar.out, (kh HB)⟩)
   ·skip
    refine box_step ?hg (N := 11) ?hd (cs := #[.int .i64 0, .int .i64 0, .int .i64 0, .int .u64 0]) (t := 61) ?hr ?_; (case hd => rfl); (case hg => rfl); (case hr => first | (go_simp; done) | (go_simp; rfl));intro az hg w22 hbox hb;have ah := am hbox; have bu := kG HB hg; have bv := kG HB hg; replace HB := kH HB hb; have ao := kP aa hg; have ap := kQ aa hg; replace aa := kU aa hb; have aq := kP af hg; have ar := kQ af hg; replace af := kU af hb;clear hb hbox hg;refine hK.out _ _ ⟨kk aa 0, kk aa 1, kk aa 2, kk aa 3, (kq HB aP), (kq HB aO), (kq HB aN), (kq HB aM), (kq HB aT), (kq HB aS), (kq HB aR), (kq HB aQ)⟩ (fun hHeld => ?_);clear hK K;refine no (some 11) ?_;refine one_ (i := 10) (N := some 10) (bs 14 4095) rfl rfl (one_of HT_.out (by kernel_rfl)) (by decide) (fun K hK => ?_);refine box_step ?hg (N := 10) ?hd (cs := #[.int .i64 0, .int .i64 0, .int .i64 0, .int .u64 0]) (t := 61) ?hr ?_; (case hd => rfl); (case hg => rfl); (case hr => first | (go_simp; done) | (go_simp; rfl));intro an hg w23 hbox hb;have ag := am hbox; have br := kG HB hg; have bt := kG HB hg; replace HB := kH HB hb; have ai := kP aa hg; have aj := kQ aa hg; replace aa := kU aa hb; have ak := kP af hg; have al := kQ af hg; replace af := kU af hb; have av := kP ah hg; have au := kQ ah hg; replace ah := kU ah hb;clear hb hbox hg;refine hK.out _ _ ⟨kk aa 0, kk aa 1, kk aa 2, kk aa 3, (kq HB aP), (kq HB aO), (kq HB aN), (kq HB aM), (kq HB aT), (kq HB aS), (kq HB aR), (kq HB aQ)⟩ (fun hHeld => ?_);clear hK K;refine no (some 10) ?_;exact norm_ (by simp only [putAll, Act.put, qS1, qS2, qS3]) (hCont (an, az) _ ⟨hHeld, (kb aa), (kb af), (kb ag), (kb ah), br.out, bt.out, ai.out, aj.out, ak.out, al.out, av.out, au.out, bu.out, bv.out, ao.out, ap.out, aq.out, ar.out, (kh HB)⟩)
  rintro ⟨an, az⟩ w24 ⟨hS_, h0_, h1_, h2_, h3_, h4_, h5_, h6_, h7_, h8_, h9_, h10_, h11_, h12_, h13_, h14_, h15_, h16_, h17_, h18_⟩;replace aa : Aside0 (w24.heap[aB]? = some (.cells #[.int .i64 aw, .int .i64 ab, .int .i64 ae, .int .u64 aD] 61 (0, 0))) := ⟨h0_⟩; replace af : Aside0 (w24.heap[aC]? = some (.cells #[.int .i64 0, .int .i64 0, .int .i64 0, .int .u64 0] 61 (0, 0))) := ⟨h1_⟩; have ag : Aside0 (w24.heap[an]? = some (.cells #[.int .i64 0, .int .i64 0, .int .i64 0, .int .u64 0] 61 (0, 0))) := ⟨h2_⟩; have ah : Aside0 (w24.heap[az]? = some (.cells #[.int .i64 0, .int .i64 0, .int .i64 0, .int .u64 0] 61 (0, 0))) := ⟨h3_⟩; have br : Aside0 (w.heap.size ≤ an) := ⟨h4_⟩; have bt : Aside0 (w.heap.size ≤ an) := ⟨h5_⟩; have ai : Aside0 (aB ≠ an) := ⟨h6_⟩; have aj : Aside0 (an ≠ aB) := ⟨h7_⟩; have ak : Aside0 (aC ≠ an) := ⟨h8_⟩; have al : Aside0 (an ≠ aC) := ⟨h9_⟩; have av : Aside0 (az ≠ an) := ⟨h10_⟩; have au : Aside0 (an ≠ az) := ⟨h11_⟩; have bu : Aside0 (w.heap.size ≤ az) := ⟨h12_⟩; have bv : Aside0 (w.heap.size ≤ az) := ⟨h13_⟩; have ao : Aside0 (aB ≠ az) := ⟨h14_⟩; have ap : Aside0 (az ≠ aB) := ⟨h15_⟩; have aq : Aside0 (aC ≠ az) := ⟨h16_⟩; have ar : Aside0 (az ≠ aC) := ⟨h17_⟩; replace HB : Aside0 (Below w.heap.size w w24) := ⟨h18_⟩; clear h0_ h10_ h11_ h12_ h13_ h14_ h15_ h16_ h17_ h18_ h1_ h2_ h3_ h4_ h5_ h6_ h7_ h8_ h9_;have hHeld : w24.cell? ⟨aB, 0, none⟩ = some (.int .i64 aw) ∧ w24.cell? ⟨aB, 1, none⟩ = some (.int .i64 ab) ∧ w24.cell? ⟨aB, 2, none⟩ = some (.int .i64 ae) ∧ w24.cell? ⟨aB, 3, none⟩ = some (.int .u64 aD) ∧ w24.cell? (aA.add ((ab).toNat * 4)) = some (.int .i64 ((rd_T61 l1 ab).f0)) ∧ w24.cell? ⟨(aA.add ((ab).toNat * 4)).block, (aA.add ((ab).toNat * 4)).off + 1, none⟩ = some (.int .i64 ((rd_T61 l1 ab).f1)) ∧ w24.cell? ⟨(aA.add ((ab).toNat * 4)).block, (aA.add ((ab).toNat * 4)).off + 2, none⟩ = some (.int .i64 ((rd_T61 l1 ab).f2)) ∧ w24.cell? ⟨(aA.add ((ab).toNat * 4)).block, (aA.add ((ab).toNat * 4)).off + 3, none⟩ = some (.int .u64 ((rd_T61 l1 ab).f3)) ∧ w24.cell? (aA.add ((ae).toNat * 4)) = some (.int .i64 ((rd_T61 l1 ae).f0)) ∧ w24.cell? ⟨(aA.add ((ae).toNat * 4)).block, (aA.add ((ae).toNat * 4)).off + 1, none⟩ = some (.int .i64 ((rd_T61 l1 ae).f1)) ∧ w24.cell? ⟨(aA.add ((ae).toNat * 4)).block, (aA.add ((ae).toNat * 4)).off + 2, none⟩ = some (.int .i64 ((rd_T61 l1 ae).f2)) ∧ w24.cell? ⟨(aA.add ((ae).toNat * 4)).block, (aA.add ((ae).toNat * 4)).off + 3, none⟩ = some (.int .u64 ((rd_T61 l1 ae).f3)) := hS_;refine norm_ (a' := ?_) ?_ ?_
  rotate_left
  ·simp only [putAll, Act.put, qS1, qS2, qS3]
   rfl
  refine one_ (i := 12) (N := none) (bs 14 8191) rfl rfl (one_of HT_.out (by kernel_rfl)) (by decide) (fun K hK => ?_);have jm : w24.cell? ⟨an, 0, none⟩ = some (.int .i64 0) := kk ag 0;have ht := blk_frozen ag.out 0;have dE := ai.out;have dF := ak.out;have dG := av.out;have dH := aj.out;have dI := al.out;have dJ := au.out;have jn : w24.cell? ⟨an, 1, none⟩ = some (.int .i64 0) := kk ag 1;have hu := blk_frozen ag.out 1;have dK := ai.out;have dL := ak.out;have dM := av.out;have dN := aj.out;have dO := al.out;have dP := au.out;have jo : w24.cell? ⟨an, 2, none⟩ = some (.int .i64 0) := kk ag 2;have hv := blk_frozen ag.out 2;have dQ := ai.out;have dR := ak.out;have dS := av.out;have dT := aj.out;have dU := al.out;have dV := au.out;have jp : w24.cell? ⟨an, 3, none⟩ = some (.int .u64 0) := kk ag 3;have hx := blk_frozen ag.out 3;have dW := ai.out;have dX := ak.out;have dY := av.out;have dZ := aj.out;have ea := al.out;have eb := au.out;refine skip_ (w1 := ?_) (by rfl) rfl ?_ ?_
  rotate_left
  ·go_simp
   rfl
  refine hK.out _ _ ⟨(kf hHeld.1), (kf hHeld.2.1), (kf hHeld.2.2.1), (kf hHeld.2.2.2.1), (kf hHeld.2.2.2.2.1), (kf hHeld.2.2.2.2.2.1), (kf hHeld.2.2.2.2.2.2.1), (kf hHeld.2.2.2.2.2.2.2.1), (kf hHeld.2.2.2.2.2.2.2.2.1), (kf hHeld.2.2.2.2.2.2.2.2.2.1), (kf hHeld.2.2.2.2.2.2.2.2.2.2.1), (kf hHeld.2.2.2.2.2.2.2.2.2.2.2)⟩ (fun hHeld => ?_);clear hK K;refine one_ (i := 13) (N := none) (bs 14 16383) rfl rfl (one_of HT_.out (by kernel_rfl)) (by decide) (fun K hK => ?_);have jq : w24.cell? ⟨az, 0, none⟩ = some (.int .i64 0) := kk ah 0;have hz := blk_frozen ah.out 0;have ec := ao.out;have ed := aq.out;have ee := au.out;have ef := ap.out;have eg := ar.out;have eh := av.out;have jr : w24.cell? ⟨az, 1, none⟩ = some (.int .i64 0) := kk ah 1;have hB := blk_frozen ah.out 1;have ei := ao.out;have ej := aq.out;have ek := au.out;have el := ap.out;have em := ar.out;have en := av.out;have js : w24.cell? ⟨az, 2, none⟩ = some (.int .i64 0) := kk ah 2;have hD := blk_frozen ah.out 2;have eo := ao.out;have ep := aq.out;have eq := au.out;have es := ap.out;have eu := ar.out;have ev := av.out;have jt : w24.cell? ⟨az, 3, none⟩ = some (.int .u64 0) := kk ah 3;have hE := blk_frozen ah.out 3;have ew := ao.out;have ex := aq.out;have ey := au.out;have ez := ap.out;have eA := ar.out;have eB := av.out;refine skip_ (w1 := ?_) (by rfl) rfl ?_ ?_
  rotate_left
  ·go_simp
   rfl
  refine hK.out _ _ ⟨(kf hHeld.1), (kf hHeld.2.1), (kf hHeld.2.2.1), (kf hHeld.2.2.2.1), (kf hHeld.2.2.2.2.1), (kf hHeld.2.2.2.2.2.1), (kf hHeld.2.2.2.2.2.2.1), (kf hHeld.2.2.2.2.2.2.2.1), (kf hHeld.2.2.2.2.2.2.2.2.1), (kf hHeld.2.2.2.2.2.2.2.2.2.1), (kf hHeld.2.2.2.2.2.2.2.2.2.2.1), (kf hHeld.2.2.2.2.2.2.2.2.2.2.2)⟩ (fun hHeld => ?_);clear hK K;refine done_ (done_of HT_.out (by kernel_rfl)) ?_;have n0_ : Aside0 (((((((((w24.setCell ⟨an, 0, none⟩ (.int .i64 ((rd_T61 l1 ab).f0))).setCell ⟨an, 1, none⟩ (.int .i64 ((rd_T61 l1 ab).f1))).setCell ⟨an, 2, none⟩ (.int .i64 ((rd_T61 l1 ab).f2))).setCell ⟨an, 3, none⟩ (.int .u64 ((rd_T61 l1 ab).f3))).setCell ⟨az, 0, none⟩ (.int .i64 ((rd_T61 l1 ae).f0))).setCell ⟨az, 1, none⟩ (.int .i64 ((rd_T61 l1 ae).f1))).setCell ⟨az, 2, none⟩ (.int .i64 ((rd_T61 l1 ae).f2))).setCell ⟨az, 3, none⟩ (.int .u64 ((rd_T61 l1 ae).f3))).heap[aB]? = some (.cells #[.int .i64 aw, .int .i64 ab, .int .i64 ae, .int .u64 aD] 61 (0, 0))) := ⟨kg aa⟩;have n1_ : Aside0 (((((((((w24.setCell ⟨an, 0, none⟩ (.int .i64 ((rd_T61 l1 ab).f0))).setCell ⟨an, 1, none⟩ (.int .i64 ((rd_T61 l1 ab).f1))).setCell ⟨an, 2, none⟩ (.int .i64 ((rd_T61 l1 ab).f2))).setCell ⟨an, 3, none⟩ (.int .u64 ((rd_T61 l1 ab).f3))).setCell ⟨az, 0, none⟩ (.int .i64 ((rd_T61 l1 ae).f0))).setCell ⟨az, 1, none⟩ (.int .i64 ((rd_T61 l1 ae).f1))).setCell ⟨az, 2, none⟩ (.int .i64 ((rd_T61 l1 ae).f2))).setCell ⟨az, 3, none⟩ (.int .u64 ((rd_T61 l1 ae).f3))).heap[aC]? = some (.cells #[.int .i64 0, .int .i64 0, .int .i64 0, .int .u64 0] 61 (0, 0))) := ⟨kg af⟩;have n2_ : Aside0 (((((((((w24.setCell ⟨an, 0, none⟩ (.int .i64 ((rd_T61 l1 ab).f0))).setCell ⟨an, 1, none⟩ (.int .i64 ((rd_T61 l1 ab).f1))).setCell ⟨an, 2, none⟩ (.int .i64 ((rd_T61 l1 ab).f2))).setCell ⟨an, 3, none⟩ (.int .u64 ((rd_T61 l1 ab).f3))).setCell ⟨az, 0, none⟩ (.int .i64 ((rd_T61 l1 ae).f0))).setCell ⟨az, 1, none⟩ (.int .i64 ((rd_T61 l1 ae).f1))).setCell ⟨az, 2, none⟩ (.int .i64 ((rd_T61 l1 ae).f2))).setCell ⟨az, 3, none⟩ (.int .u64 ((rd_T61 l1 ae).f3))).heap[an]? = some (.cells #[.int .i64 ((rd_T61 l1 ab).f0), .int .i64 ((rd_T61 l1 ab).f1), .int .i64 ((rd_T61 l1 ab).f2), .int .u64 ((rd_T61 l1 ab).f3)] 61 (0, 0))) := ⟨kg ag⟩;have n3_ : Aside0 (((((((((w24.setCell ⟨an, 0, none⟩ (.int .i64 ((rd_T61 l1 ab).f0))).setCell ⟨an, 1, none⟩ (.int .i64 ((rd_T61 l1 ab).f1))).setCell ⟨an, 2, none⟩ (.int .i64 ((rd_T61 l1 ab).f2))).setCell ⟨an, 3, none⟩ (.int .u64 ((rd_T61 l1 ab).f3))).setCell ⟨az, 0, none⟩ (.int .i64 ((rd_T61 l1 ae).f0))).setCell ⟨az, 1, none⟩ (.int .i64 ((rd_T61 l1 ae).f1))).setCell ⟨az, 2, none⟩ (.int .i64 ((rd_T61 l1 ae).f2))).setCell ⟨az, 3, none⟩ (.int .u64 ((rd_T61 l1 ae).f3))).heap[az]? = some (.cells #[.int .i64 ((rd_T61 l1 ae).f0), .int .i64 ((rd_T61 l1 ae).f1), .int .i64 ((rd_T61 l1 ae).f2), .int .u64 ((rd_T61 l1 ae).f3)] 61 (0, 0))) := ⟨kg ah⟩;have n4_ : Aside0 (Below w.heap.size w ((((((((w24.setCell ⟨an, 0, none⟩ (.int .i64 ((rd_T61 l1 ab).f0))).setCell ⟨an, 1, none⟩ (.int .i64 ((rd_T61 l1 ab).f1))).setCell ⟨an, 2, none⟩ (.int .i64 ((rd_T61 l1 ab).f2))).setCell ⟨an, 3, none⟩ (.int .u64 ((rd_T61 l1 ab).f3))).setCell ⟨az, 0, none⟩ (.int .i64 ((rd_T61 l1 ae).f0))).setCell ⟨az, 1, none⟩ (.int .i64 ((rd_T61 l1 ae).f1))).setCell ⟨az, 2, none⟩ (.int .i64 ((rd_T61 l1 ae).f2))).setCell ⟨az, 3, none⟩ (.int .u64 ((rd_T61 l1 ae).f3)))) := ⟨kh HB⟩;(try clear aa af ag ah HB);generalize ((((((((w24.setCell ⟨an, 0, none⟩ (.int .i64 ((rd_T61 l1 ab).f0))).setCell ⟨an, 1, none⟩ (.int .i64 ((rd_T61 l1 ab).f1))).setCell ⟨an, 2, none⟩ (.int .i64 ((rd_T61 l1 ab).f2))).setCell ⟨an, 3, none⟩ (.int .u64 ((rd_T61 l1 ab).f3))).setCell ⟨az, 0, none⟩ (.int .i64 ((rd_T61 l1 ae).f0))).setCell ⟨az, 1, none⟩ (.int .i64 ((rd_T61 l1 ae).f1))).setCell ⟨az, 2, none⟩ (.int .i64 ((rd_T61 l1 ae).f2))).setCell ⟨az, 3, none⟩ (.int .u64 ((rd_T61 l1 ae).f3))) = w25a at n0_ n1_ n2_ n3_ n4_ ⊢;have aa := n0_; have af := n1_; have ag := n2_; have ah := n3_; have HB := n4_; clear n0_ n1_ n2_ n3_ n4_;have hF := ax.out;have hG := ay.out;have hH := ai.out;have hI := aj.out;have hJ := ao.out;have hL := ap.out;have Z36 := kz4 aa;go_upto_region 7 with (fail);go_cut [12, 35] (fun v12 v35 wc => ∃ (kq : Nat) (be : Bool), v12 = .bool (aw != 6) ∧ v35 = .bool be ∧ Aside0 (tune_folded.j1 kq a0 (aw != 6) be aw ab ae aD ((rd_T61 l1 ab).f0) ((rd_T61 l1 ab).f1) ((rd_T61 l1 ab).f2) ((rd_T61 l1 ab).f3) ((rd_T61 l1 ae).f0) ((rd_T61 l1 ae).f1) ((rd_T61 l1 ae).f2) ((rd_T61 l1 ae).f3) = some (r1, r2, r3, r4, r5)) ∧ Aside0 (kq ≤ kj3) ∧ Aside0 (wc.heap[aB]? = some (.cells #[.int .i64 aw, .int .i64 ab, .int .i64 ae, .int .u64 aD] 61 (0, 0))) ∧ Aside0 (wc.heap[aC]? = some (.cells #[.int .i64 0, .int .i64 0, .int .i64 0, .int .u64 0] 61 (0, 0))) ∧ Aside0 (wc.heap[an]? = some (.cells #[.int .i64 ((rd_T61 l1 ab).f0), .int .i64 ((rd_T61 l1 ab).f1), .int .i64 ((rd_T61 l1 ab).f2), .int .u64 ((rd_T61 l1 ab).f3)] 61 (0, 0))) ∧ Aside0 (wc.heap[az]? = some (.cells #[.int .i64 ((rd_T61 l1 ae).f0), .int .i64 ((rd_T61 l1 ae).f1), .int .i64 ((rd_T61 l1 ae).f2), .int .u64 ((rd_T61 l1 ae).f3)] 61 (0, 0))) ∧ Aside0 (Below w.heap.size w wc))
  case first =>
   have H := bV.out;clear bV
   by_cases c37 : aw = 6
   ·rw [if_pos c37] at H
    have bh := beq_iff_eq.mpr c37;have cp := bne_eq_false_iff_eq.mpr c37;clear c37;(first | rw [bh] | (simp only [i64_w, i32_w]; rw [bh]) | skip);have H' := Aside0.mk H;clear H;go_wp2;go_meet
    case rel => exact ⟨_, (false), et, et, H', ⟨by have := HJ3.out; first | omega | exact Nat.le_refl _⟩, aa, af, ag, ah, HB⟩
   rw [if_neg c37] at H;have bh := beq_eq_false_iff_ne.mpr c37;have cp := bne_iff_ne.mpr c37;(first | rw [bh] | (simp only [i64_w, i32_w]; rw [bh]) | skip)
   by_cases c38 : ((rd_T61 l1 ab).f0) = 2
   rotate_left
   ·rw [if_neg c38] at H
    have cq := beq_eq_false_iff_ne.mpr c38;have cr := bne_iff_ne.mpr c38;have H' := Aside0.mk H;clear H;have hM := aj.out;have hN := ai.out;have hO := al.out;have hP := ak.out;have hQ := au.out;have hS := av.out;have Z49 := kz4 ag;go_wp2;go_meet
    case rel => exact ⟨_, (false), et, et, H', ⟨by have := HJ3.out; first | omega | exact Nat.le_refl _⟩, aa, af, ag, ah, HB⟩
   rw [if_pos c38] at H;have cq := beq_iff_eq.mpr c38;have cr := bne_eq_false_iff_eq.mpr c38;clear c38;have H' := Aside0.mk H;clear H;have hT := aj.out;have hU := ai.out;have hV := al.out;have hX := ak.out;have hZ := au.out;have ia := av.out;have Z42 := kz4 ag;have ib := ap.out;have ic := ao.out;have ie := ar.out;have ig := aq.out;have Z45 := kz4 ah;go_wp2;go_meet
   case rel => exact ⟨_, ((((rd_T61 l1 ae).f0) == 2)), et, et, H', ⟨by have := HJ3.out; first | omega | exact Nat.le_refl _⟩, aa, af, ag, ah, HB⟩
  clear bV;(try clear c12 ck cl cm cn Z14 Z15 Z36 aE aF aG aH aI aJ aK aL bH bJ bI bK);obtain ⟨kq, be, rfl, rfl, HA, bd, aa, af, ag, ah, HB⟩ := hcut
  cases kq with
  | zero => exact absurd HA.out (by simp [tune_folded.j1])
  | succ eF =>
   have H := HA.out;clear HA;simp only [tune_folded.j1] at H
   by_cases c50 : be = true
   ·subst c50
    replace H := ifT H;obtain ⟨bW, bi⟩ : ∃ y_ : List Int, y_ = (([((rd_T61 l1 ab).f3), ((rd_T61 l1 ae).f3)] : List Int)) := ⟨_, rfl⟩
    replace H : ((circ_Of.f a0 aw 0 1 0 ([] : List Int) bW).bind fun bA => ((tune_folded_1.f bA).bind fun bj => (some (bj.1, bj.2.1, bj.2.2.1, bj.2.2.2.1, bj.2.2.2.2)))) = some (r1, r2, r3, r4, r5) := by first | (rw [bi]; with_reducible exact H) | (have H2_ := (Option.bind_some _ _).symm.trans H; rw [bi]; with_reducible exact H2_) | (have H2_ := (Option.bind_some _ _).symm.trans H; with_reducible exact H2_) | with_reducible exact H | (rw [bi]; exact H) | exact H
    have bN := Aside0.mk bi;clear bi;replace H := Option.bind_eq_some_iff.mp H;obtain ⟨bA, ct, H⟩ := H;(try dsimp only at H);have A51 := Aside0.mk ct;clear ct;replace H := Option.bind_eq_some_iff.mp H;obtain ⟨⟨cu, cv, cw, cx, eG⟩, cy, H⟩ := H;(try dsimp only at H);have A52 := Aside0.mk cy;clear cy;simp only [Option.some.injEq, Prod.mk.injEq] at H;obtain ⟨rfl, rfl, rfl, rfl, rfl⟩ := H;have ih := ax.out;have ii := ay.out;have ij := ai.out;have ik := aj.out;have il := ao.out;have im := ap.out;have Z56 := kz4 aa;have io := al.out;have ip := ak.out;have iq := au.out;have ir := av.out;have Z59 := kz4 ag;have it := ar.out;have iu := aq.out;have Z61 := kz4 ah;go_wp2_with (first | ((with_reducible refine qea (N := 56) rfl ?_); refine Kd.R_lit (Kd.int .u64) _ 34 ?hg (N := 56) ?hd (xs := ([((rd_T61 l1 ab).f3), ((rd_T61 l1 ae).f3)] : List Int)) (inner := [.int .u64 ((rd_T61 l1 ab).f3), .int .u64 ((rd_T61 l1 ae).f3)]) (ok := fun _ => True) (okp := fun _ => True) ?hr ?hp (fun _ hk => hk) trivial (Below.refl _ _) (Nat.le_refl _) (by simp) ?_; (case hd => rfl); (case hg => rfl); (case hr => first | (go_simp; done) | (go_simp; rfl)); (case hp => exact (Reps.one (show Kd.M (Kd.int .u64) _ _ _ ((rd_T61 l1 ab).f3) [.int .u64 ((rd_T61 l1 ab).f3)] from rfl) (Reps.one (show Kd.M (Kd.int .u64) _ _ _ ((rd_T61 l1 ae).f3) [.int .u64 ((rd_T61 l1 ae).f3)] from rfl) (Reps.none _ _)))); intro ju w62 ho63 hb hg_ hnew_; clear hg_ hnew_; (first | rw [← bN.out] at ho63 | (simp only [Int.reduceToNat] at ho63; rw [← bN.out] at ho63)); have aX := kLR ho63 HB; replace aa := kU aa hb; replace af := kU af hb; replace ag := kU ag hb; replace ah := kU ah hb; replace HB := kH HB hb; clear hb ho63; obtain ⟨eH, eI, eJ⟩ := Kd.R_slice aX.out; subst eJ) | ((with_reducible refine gate_callee (f := 69) rfl ?_); refine goesL_ (some 57) rfl rfl Try.func69 (by kernel_rfl) rfl #[.int .u64 a0, .agg #[.int .i64 aw, .int .i64 0, .int .i64 1, .int .u64 0], .slice none 0 0, .slice eH bW.length eI] rfl (by (try simp only [qM1, qM2, qM3]); first | done | rfl) ?_; (refine (circ_Of.calls a0 aw 0 1 0 _ _ ([] : List Int) _ _ bW bA _ ?side1 ?side2 ?side3 ?side4 A51.out).mono ?_); (case side1 => exact Kd.C_nil _ _); (case side2 => exact Nat.le_refl _); (case side3 => repeat (first | exact (Kd.R_reads' aX.out).2.2 | (with_reducible first | refine Kd.C_alloc ?_ _ | refine Kd.C_drewN ?_ _ | refine Kd.C_drew ?_))); (case side4 => exact (Kd.R_reads' aX.out).2.1); rintro e w65 ⟨rfl, hb⟩; refine ⟨_, rfl, ?_⟩; replace aX := kR aX hb; replace aa := kU aa hb; replace af := kU af hb; replace ag := kU ag hb; replace ah := kU ah hb; replace HB := kH HB hb; (try clear hb); (try clear hb2); (try clear hk); (try clear hi)) | ((with_reducible refine qea (N := 58) rfl ?_); refine api_Slot_78.goesT0 (some 58) rfl rfl Try.func67 (by kernel_rfl) rfl #[.int .u64 bA] rfl rfl (by (try simp only [qM1, qM2, qM3]); first | done | rfl) ?_; (with_reducible refine (tune_folded_1.calls bA cu cv cw cx eG _ A52.out).mono ?_); rintro e w66 ⟨rfl, hb⟩; refine ⟨_, rfl, ?_⟩; replace aX := kR aX hb; replace aa := kU aa hb; replace af := kU af hb; replace ag := kU ag hb; replace ah := kU ah hb; replace HB := kH HB hb; (try clear hb); (try clear hb2); (try clear hk); (try clear hi); have Z67 := kz4 af));refine bodyPost_ret (results_ct rfl _ _ aC 61 #[.int .i64 cu, .int .i64 cv, .int .i64 cw, .int .u64 cx] (0, 0) _ rfl (kg af) Try.underlying61 rfl (by kernel_rfl)) rfl ?_;exact ⟨er, kh HB⟩
   replace c50 := Bool.eq_false_iff.mpr c50;subst c50;replace H := ifF H;have bX := Aside0.mk H;clear H;go_upto_region 9 with (fail);go_cut [12, 61] (fun v12 v61 wc => ∃ (kq : Nat) (bf : Bool), v12 = .bool (aw != 6) ∧ v61 = .bool bf ∧ Aside0 (tune_folded.j2 kq a0 (aw != 6) bf aw ab ae aD ((rd_T61 l1 ab).f0) ((rd_T61 l1 ab).f1) ((rd_T61 l1 ab).f2) ((rd_T61 l1 ab).f3) ((rd_T61 l1 ae).f0) ((rd_T61 l1 ae).f1) ((rd_T61 l1 ae).f2) ((rd_T61 l1 ae).f3) = some (r1, r2, r3, r4, r5)) ∧ Aside0 (kq ≤ eF) ∧ Aside0 (wc.heap[aB]? = some (.cells #[.int .i64 aw, .int .i64 ab, .int .i64 ae, .int .u64 aD] 61 (0, 0))) ∧ Aside0 (wc.heap[aC]? = some (.cells #[.int .i64 0, .int .i64 0, .int .i64 0, .int .u64 0] 61 (0, 0))) ∧ Aside0 (wc.heap[an]? = some (.cells #[.int .i64 ((rd_T61 l1 ab).f0), .int .i64 ((rd_T61 l1 ab).f1), .int .i64 ((rd_T61 l1 ab).f2), .int .u64 ((rd_T61 l1 ab).f3)] 61 (0, 0))) ∧ Aside0 (wc.heap[az]? = some (.cells #[.int .i64 ((rd_T61 l1 ae).f0), .int .i64 ((rd_T61 l1 ae).f1), .int .i64 ((rd_T61 l1 ae).f2), .int .u64 ((rd_T61 l1 ae).f3)] 61 (0, 0))) ∧ Aside0 (Below w.heap.size w wc))
   case first =>
    have H := bX.out;clear bX
    by_cases c69 : (aw != 6) = true
    ·rw [if_pos c69] at H
     have bk : (aw != 6) = true := c69;(try (have cz : decide (aw = 6) = false := by simpa using c69));(try (have cA : (aw == 6) = false := by simpa using c69));(try (have iv : ¬ (aw = 6) := by simpa using c69));clear c69;(first | rw [bk] | (simp only [i64_w, i32_w]; rw [bk]) | skip);have H' := Aside0.mk H;clear H;go_wp2;go_meet
     case rel => exact ⟨_, (false), et, et, H', ⟨by have := HJ3.out; have := bd.out; first | omega | exact Nat.le_refl _⟩, ⟨kg aa⟩, ⟨kg af⟩, ⟨kg ag⟩, ⟨kg ah⟩, ⟨kh HB⟩⟩
    rw [if_neg c69] at H
    have bk : (aw != 6) = false := by simpa using c69
    (try (have cz : decide (aw = 6) = true := by simpa using c69));(try (have cA : (aw == 6) = true := by simpa using c69));clear c69;(first | rw [bk] | (simp only [i64_w, i32_w]; rw [bk]) | skip);have H' := Aside0.mk H;clear H;have iw := aj.out;have ix := ai.out;have iy := al.out;have iz := ak.out;have iA := au.out;have iB := av.out;have Z73 := kz4 ag;go_wp2;go_meet
    case rel => exact ⟨_, ((((rd_T61 l1 ab).f0) == 2)), et, et, H', ⟨by have := HJ3.out; have := bd.out; first | omega | exact Nat.le_refl _⟩, ⟨kg aa⟩, ⟨kg af⟩, ⟨kg ag⟩, ⟨kg ah⟩, ⟨kh HB⟩⟩
   clear bX;(try clear c50 Z56 Z59 Z61 Z67);obtain ⟨kq, bf, rfl, rfl, HA, bl, aa, af, ag, ah, HB⟩ := hcut
   cases kq with
   | zero => exact absurd HA.out (by simp [tune_folded.j2])
   | succ eK =>
    have H := HA.out;clear HA;simp only [tune_folded.j2] at H
    by_cases c74 : bf = true
    ·subst c74
     replace H := ifT H;replace H := Option.bind_eq_some_iff.mp H;obtain ⟨bY, cB, H⟩ := H;(try dsimp only at H);have A75 := Aside0.mk cB;clear cB;replace H := Option.bind_eq_some_iff.mp H;obtain ⟨⟨cC, cD, cE, cF, eL⟩, cG, H⟩ := H;(try dsimp only at H);have A76 := Aside0.mk cG;clear cG;simp only [Option.some.injEq, Prod.mk.injEq] at H;obtain ⟨rfl, rfl, rfl, rfl, rfl⟩ := H;have iC := aj.out;have iD := ai.out;have iE := al.out;have iF := ak.out;have iG := au.out;have iH := av.out;have Z80 := kz4 ag;have iI := ax.out;have iJ := ay.out;have iK := ao.out;have iL := ap.out;have Z83 := kz4 aa;go_wp2_with (first | ((with_reducible refine gate_callee (f := 70) rfl ?_); refine goesL_ (some 75) rfl rfl Try.func70 (by kernel_rfl) rfl #[.int .u64 a0, .int .u64 ((rd_T61 l1 ab).f3), .int .u64 aD] rfl (by (try simp only [qM1, qM2, qM3]); first | done | rfl) ?_; (with_reducible refine (qta.calls a0 ((rd_T61 l1 ab).f3) aD bY _ A75.out).mono ?_); rintro e w' ⟨rfl, ⟨nd, rfl⟩⟩; refine ⟨_, rfl, ?_⟩; (try (rw [drewN_self wc]; generalize hq_ : World.drewN wc _ = wc; replace aa : Aside0 (wc.heap[aB]? = some (.cells #[.int .i64 aw, .int .i64 ab, .int .i64 ae, .int .u64 aD] 61 (0, 0))) := ⟨by rw [← hq_]; exact (kb aa)⟩; replace af : Aside0 (wc.heap[aC]? = some (.cells #[.int .i64 0, .int .i64 0, .int .i64 0, .int .u64 0] 61 (0, 0))) := ⟨by rw [← hq_]; exact (kb af)⟩; replace ag : Aside0 (wc.heap[an]? = some (.cells #[.int .i64 ((rd_T61 l1 ab).f0), .int .i64 ((rd_T61 l1 ab).f1), .int .i64 ((rd_T61 l1 ab).f2), .int .u64 ((rd_T61 l1 ab).f3)] 61 (0, 0))) := ⟨by rw [← hq_]; exact (kb ag)⟩; replace ah : Aside0 (wc.heap[az]? = some (.cells #[.int .i64 ((rd_T61 l1 ae).f0), .int .i64 ((rd_T61 l1 ae).f1), .int .i64 ((rd_T61 l1 ae).f2), .int .u64 ((rd_T61 l1 ae).f3)] 61 (0, 0))) := ⟨by rw [← hq_]; exact (kb ah)⟩; replace HB : Aside0 (Below w.heap.size w wc) := ⟨by rw [← hq_]; exact (kh HB)⟩; clear hq_))) | ((with_reducible refine qea (N := 76) rfl ?_); refine api_Slot_78.goesT0 (some 76) rfl rfl Try.func67 (by kernel_rfl) rfl #[.int .u64 bY] rfl rfl (by (try simp only [qM1, qM2, qM3]); first | done | rfl) ?_; (with_reducible refine (tune_folded_1.calls bY cC cD cE cF eL _ A76.out).mono ?_); rintro e w84 ⟨rfl, hb⟩; refine ⟨_, rfl, ?_⟩; replace aa := kU aa hb; replace af := kU af hb; replace ag := kU ag hb; replace ah := kU ah hb; replace HB := kH HB hb; (try clear hb); (try clear hb2); (try clear hk); (try clear hi); have iM := aq.out; have iN := ar.out; have Z86 := kz4 af));refine bodyPost_ret (results_ct rfl _ _ aC 61 #[.int .i64 cC, .int .i64 cD, .int .i64 cE, .int .u64 cF] (0, 0) _ rfl (kg af) Try.underlying61 rfl (by kernel_rfl)) rfl ?_;exact ⟨er, kh HB⟩
    replace c74 := Bool.eq_false_iff.mpr c74;subst c74;replace H := ifF H;have bZ := Aside0.mk H;clear H;go_upto_region 11 with (fail);go_cut [12, 79] (fun v12 v79 wc => ∃ (kq : Nat) (bg : Bool), v12 = .bool (aw != 6) ∧ v79 = .bool bg ∧ Aside0 (tune_folded.j3 kq a0 (aw != 6) bg aw ab ae aD ((rd_T61 l1 ab).f0) ((rd_T61 l1 ab).f1) ((rd_T61 l1 ab).f2) ((rd_T61 l1 ab).f3) ((rd_T61 l1 ae).f0) ((rd_T61 l1 ae).f1) ((rd_T61 l1 ae).f2) ((rd_T61 l1 ae).f3) = some (r1, r2, r3, r4, r5)) ∧ Aside0 (kq ≤ eK) ∧ Aside0 (wc.heap[aB]? = some (.cells #[.int .i64 aw, .int .i64 ab, .int .i64 ae, .int .u64 aD] 61 (0, 0))) ∧ Aside0 (wc.heap[aC]? = some (.cells #[.int .i64 0, .int .i64 0, .int .i64 0, .int .u64 0] 61 (0, 0))) ∧ Aside0 (wc.heap[an]? = some (.cells #[.int .i64 ((rd_T61 l1 ab).f0), .int .i64 ((rd_T61 l1 ab).f1), .int .i64 ((rd_T61 l1 ab).f2), .int .u64 ((rd_T61 l1 ab).f3)] 61 (0, 0))) ∧ Aside0 (wc.heap[az]? = some (.cells #[.int .i64 ((rd_T61 l1 ae).f0), .int .i64 ((rd_T61 l1 ae).f1), .int .i64 ((rd_T61 l1 ae).f2), .int .u64 ((rd_T61 l1 ae).f3)] 61 (0, 0))) ∧ Aside0 (Below w.heap.size w wc))
    case first =>
     have H := bZ.out;clear bZ
     by_cases c88 : aw = 5
     rotate_left
     ·rw [if_neg c88] at H
      have bm := beq_eq_false_iff_ne.mpr c88;have cH := bne_iff_ne.mpr c88;(first | rw [bm] | (simp only [i64_w, i32_w]; rw [bm]) | skip);have H' := Aside0.mk H;clear H;have iO := ax.out;have iP := ay.out;have iQ := ai.out;have iR := aj.out;have iS := ao.out;have iT := ap.out;have Z99 := kz4 aa;go_wp2;go_meet
      case rel => exact ⟨_, (false), et, et, H', ⟨by have := HJ3.out; have := bd.out; have := bl.out; first | omega | exact Nat.le_refl _⟩, ⟨kg aa⟩, ⟨kg af⟩, ⟨kg ag⟩, ⟨kg ah⟩, ⟨kh HB⟩⟩
     rw [if_pos c88] at H;have bm := beq_iff_eq.mpr c88;have cH := bne_eq_false_iff_eq.mpr c88;clear c88;(first | rw [bm] | (simp only [i64_w, i32_w]; rw [bm]) | skip);have H' := Aside0.mk H;clear H;have iU := ax.out;have iV := ay.out;have iW := ai.out;have iX := aj.out;have iY := ao.out;have iZ := ap.out;have Z92 := kz4 aa;have ja := al.out;have jb := ak.out;have jc := au.out;have jd := av.out;have Z95 := kz4 ag;go_wp2;go_meet
     case rel => exact ⟨_, ((((rd_T61 l1 ab).f0) == 2)), et, et, H', ⟨by have := HJ3.out; have := bd.out; have := bl.out; first | omega | exact Nat.le_refl _⟩, ⟨kg aa⟩, ⟨kg af⟩, ⟨kg ag⟩, ⟨kg ah⟩, ⟨kh HB⟩⟩
    clear bZ;(try clear c74 Z80 Z83 Z86);obtain ⟨kq, bg, rfl, rfl, HA, bx, aa, af, ag, ah, HB⟩ := hcut
    cases kq with
    | zero => exact absurd HA.out (by simp [tune_folded.j3])
    | succ eM =>
     have H := HA.out;clear HA;simp only [tune_folded.j3] at H
     by_cases bB : bg = true
     ·subst bB
      replace H := ifT H;replace H := Option.bind_eq_some_iff.mp H;obtain ⟨⟨cI, cJ, cK, cL, eN⟩, bO, H⟩ := H;(try dsimp only at H);have eO := Aside0.mk bO;clear bO;simp only [Option.some.injEq, Prod.mk.injEq] at H;obtain ⟨rfl, rfl, rfl, rfl, rfl⟩ := H;have eP := ax.out;have eQ := ay.out;have eR := ai.out;have eS := aj.out;have eT := ao.out;have eU := ap.out;have eV := kz4 aa;have eW := al.out;have eX := ak.out;have eY := au.out;have eZ := av.out;have fa := kz4 ag;go_wp2_with (first | ((with_reducible refine qea (N := 93) rfl ?_); refine api_Slot_78.goesT0 (some 93) rfl rfl Try.func68 (by kernel_rfl) rfl #[.int .i64 ae, .int .u64 ((rd_T61 l1 ab).f3)] rfl rfl (by (try simp only [qM1, qM2, qM3]); first | done | rfl) ?_; (with_reducible refine (tune_folded_2.calls ae ((rd_T61 l1 ab).f3) cI cJ cK cL eN _ eO.out).mono ?_); rintro e jv ⟨rfl, hb⟩; refine ⟨_, rfl, ?_⟩; replace aa := kU aa hb; replace af := kU af hb; replace ag := kU ag hb; replace ah := kU ah hb; replace HB := kH HB hb; (try clear hb); (try clear hb2); (try clear hk); (try clear hi); have fb := aq.out; have fc := ar.out; have fd := kz4 af));refine bodyPost_ret (results_ct rfl _ _ aC 61 #[.int .i64 cI, .int .i64 cJ, .int .i64 cK, .int .u64 cL] (0, 0) _ rfl (kg af) Try.underlying61 rfl (by kernel_rfl)) rfl ?_;exact ⟨er, kh HB⟩
     replace bB := Bool.eq_false_iff.mpr bB;subst bB;replace H := ifF H;have bC := Aside0.mk H;clear H;go_upto_region 13 with (fail);go_cut [12, 96] (fun v12 v96 wc => ∃ (kq : Nat) (aW : Bool), v12 = .bool (aw != 6) ∧ v96 = .bool aW ∧ Aside0 (tune_folded.j4 kq a0 (aw != 6) aW aw ab ae aD ((rd_T61 l1 ab).f0) ((rd_T61 l1 ab).f1) ((rd_T61 l1 ab).f2) ((rd_T61 l1 ab).f3) ((rd_T61 l1 ae).f0) ((rd_T61 l1 ae).f1) ((rd_T61 l1 ae).f2) ((rd_T61 l1 ae).f3) = some (r1, r2, r3, r4, r5)) ∧ Aside0 (kq ≤ eM) ∧ Aside0 (wc.heap[aB]? = some (.cells #[.int .i64 aw, .int .i64 ab, .int .i64 ae, .int .u64 aD] 61 (0, 0))) ∧ Aside0 (wc.heap[aC]? = some (.cells #[.int .i64 0, .int .i64 0, .int .i64 0, .int .u64 0] 61 (0, 0))) ∧ Aside0 (wc.heap[an]? = some (.cells #[.int .i64 ((rd_T61 l1 ab).f0), .int .i64 ((rd_T61 l1 ab).f1), .int .i64 ((rd_T61 l1 ab).f2), .int .u64 ((rd_T61 l1 ab).f3)] 61 (0, 0))) ∧ Aside0 (wc.heap[az]? = some (.cells #[.int .i64 ((rd_T61 l1 ae).f0), .int .i64 ((rd_T61 l1 ae).f1), .int .i64 ((rd_T61 l1 ae).f2), .int .u64 ((rd_T61 l1 ae).f3)] 61 (0, 0))) ∧ Aside0 (Below w.heap.size w wc))
     case first =>
      have H := bC.out;clear bC
      by_cases bn : aw = 5
      rotate_left
      ·rw [if_neg bn] at H
       have aY := beq_eq_false_iff_ne.mpr bn;have ca := bne_iff_ne.mpr bn;(first | rw [aY] | (simp only [i64_w, i32_w]; rw [aY]) | skip);have H' := Aside0.mk H;clear H;have fe := ax.out;have ff := ay.out;have fg := ai.out;have fh := aj.out;have fi := ao.out;have fj := ap.out;have jw := kz4 aa;go_wp2;go_meet
       case rel => exact ⟨_, (false), et, et, H', ⟨by have := HJ3.out; have := bd.out; have := bl.out; have := bx.out; first | omega | exact Nat.le_refl _⟩, ⟨kg aa⟩, ⟨kg af⟩, ⟨kg ag⟩, ⟨kg ah⟩, ⟨kh HB⟩⟩
      rw [if_pos bn] at H;have aY := beq_iff_eq.mpr bn;have ca := bne_eq_false_iff_eq.mpr bn;clear bn;(first | rw [aY] | (simp only [i64_w, i32_w]; rw [aY]) | skip);have H' := Aside0.mk H;clear H;have fk := ax.out;have fl := ay.out;have fm := ai.out;have fo := aj.out;have fp := ao.out;have fq := ap.out;have jx := kz4 aa;have fr := ar.out;have fs := aq.out;have ft := av.out;have fu := au.out;have jy := kz4 ah;go_wp2;go_meet
      case rel => exact ⟨_, ((((rd_T61 l1 ae).f0) == 2)), et, et, H', ⟨by have := HJ3.out; have := bd.out; have := bl.out; have := bx.out; first | omega | exact Nat.le_refl _⟩, ⟨kg aa⟩, ⟨kg af⟩, ⟨kg ag⟩, ⟨kg ah⟩, ⟨kh HB⟩⟩
     clear bC;(try clear bB eV fa fd);obtain ⟨kq, aW, rfl, rfl, HA, bw, aa, af, ag, ah, HB⟩ := hcut
     cases kq with
     | zero => exact absurd HA.out (by simp [tune_folded.j4])
     | succ cM =>
      have H := HA.out;clear HA;simp only [tune_folded.j4] at H
      by_cases bD : aW = true
      ·subst bD
       replace H := ifT H;replace H := Option.bind_eq_some_iff.mp H;obtain ⟨⟨cN, cO, cP, cQ, fv⟩, bP, H⟩ := H;(try dsimp only at H);have fw := Aside0.mk bP;clear bP;simp only [Option.some.injEq, Prod.mk.injEq] at H;obtain ⟨rfl, rfl, rfl, rfl, rfl⟩ := H;have fx := ax.out;have fy := ay.out;have fz := ai.out;have fA := aj.out;have fB := ao.out;have fC := ap.out;have fD := kz4 aa;have fE := ar.out;have fF := aq.out;have fG := av.out;have fH := au.out;have fI := kz4 ah;go_wp2_with (first | ((with_reducible refine qea (N := 110) rfl ?_); refine api_Slot_78.goesT0 (some 110) rfl rfl Try.func68 (by kernel_rfl) rfl #[.int .i64 ab, .int .u64 ((rd_T61 l1 ae).f3)] rfl rfl (by (try simp only [qM1, qM2, qM3]); first | done | rfl) ?_; (with_reducible refine (tune_folded_2.calls ab ((rd_T61 l1 ae).f3) cN cO cP cQ fv _ fw.out).mono ?_); rintro e jz ⟨rfl, hb⟩; refine ⟨_, rfl, ?_⟩; replace aa := kU aa hb; replace af := kU af hb; replace ag := kU ag hb; replace ah := kU ah hb; replace HB := kH HB hb; (try clear hb); (try clear hb2); (try clear hk); (try clear hi); have fJ := ak.out; have fK := al.out; have fL := kz4 af));refine bodyPost_ret (results_ct rfl _ _ aC 61 #[.int .i64 cN, .int .i64 cO, .int .i64 cP, .int .u64 cQ] (0, 0) _ rfl (kg af) Try.underlying61 rfl (by kernel_rfl)) rfl ?_;exact ⟨er, kh HB⟩
      replace bD := Bool.eq_false_iff.mpr bD;subst bD;replace H := ifF H;have bE := Aside0.mk H;clear H;go_upto_region 15 with (fail);go_cut [12, 113] (fun v12 fM wc => ∃ (kq : Nat) (aU : Bool), v12 = .bool (aw != 6) ∧ fM = .bool aU ∧ Aside0 (tune_folded.j5 kq a0 (aw != 6) aU aw ab ae aD ((rd_T61 l1 ab).f0) ((rd_T61 l1 ab).f1) ((rd_T61 l1 ab).f2) ((rd_T61 l1 ab).f3) = some (r1, r2, r3, r4, r5)) ∧ Aside0 (kq ≤ cM) ∧ Aside0 (wc.heap[aB]? = some (.cells #[.int .i64 aw, .int .i64 ab, .int .i64 ae, .int .u64 aD] 61 (0, 0))) ∧ Aside0 (wc.heap[aC]? = some (.cells #[.int .i64 0, .int .i64 0, .int .i64 0, .int .u64 0] 61 (0, 0))) ∧ Aside0 (wc.heap[an]? = some (.cells #[.int .i64 ((rd_T61 l1 ab).f0), .int .i64 ((rd_T61 l1 ab).f1), .int .i64 ((rd_T61 l1 ab).f2), .int .u64 ((rd_T61 l1 ab).f3)] 61 (0, 0))) ∧ Aside0 (wc.heap[az]? = some (.cells #[.int .i64 ((rd_T61 l1 ae).f0), .int .i64 ((rd_T61 l1 ae).f1), .int .i64 ((rd_T61 l1 ae).f2), .int .u64 ((rd_T61 l1 ae).f3)] 61 (0, 0))) ∧ Aside0 (Below w.heap.size w wc))
      case first =>
       have H := bE.out;clear bE
       by_cases aZ : (aw != 6) = true
       ·rw [if_pos aZ] at H
        have ba : (aw != 6) = true := aZ;(try (have cb : decide (aw = 6) = false := by simpa using aZ));(try (have cc : (aw == 6) = false := by simpa using aZ));(try (have fN : ¬ (aw = 6) := by simpa using aZ));clear aZ;(first | rw [ba] | (simp only [i64_w, i32_w]; rw [ba]) | skip);have H' := Aside0.mk H;clear H;go_wp2;go_meet
        case rel => exact ⟨_, (false), et, et, H', ⟨by have := HJ3.out; have := bd.out; have := bl.out; have := bx.out; have := bw.out; first | omega | exact Nat.le_refl _⟩, ⟨kg aa⟩, ⟨kg af⟩, ⟨kg ag⟩, ⟨kg ah⟩, ⟨kh HB⟩⟩
       rw [if_neg aZ] at H
       have ba : (aw != 6) = false := by simpa using aZ
       (try (have cb : decide (aw = 6) = true := by simpa using aZ));(try (have cc : (aw == 6) = true := by simpa using aZ));clear aZ;(first | rw [ba] | (simp only [i64_w, i32_w]; rw [ba]) | skip);have H' := Aside0.mk H;clear H;have fO := ax.out;have fP := ay.out;have fQ := ai.out;have fR := aj.out;have fS := ao.out;have fT := ap.out;have jA := kz4 aa;go_wp2;go_meet
       case rel => exact ⟨_, ((aD == 0)), et, et, H', ⟨by have := HJ3.out; have := bd.out; have := bl.out; have := bx.out; have := bw.out; first | omega | exact Nat.le_refl _⟩, ⟨kg aa⟩, ⟨kg af⟩, ⟨kg ag⟩, ⟨kg ah⟩, ⟨kh HB⟩⟩
      clear bE;(try clear bD fD fI fL);obtain ⟨kq, aU, rfl, rfl, HA, bQ, aa, af, ag, ah, HB⟩ := hcut
      cases kq with
      | zero => exact absurd HA.out (by simp [tune_folded.j5])
      | succ cR =>
       have H := HA.out;clear HA;simp only [tune_folded.j5] at H
       by_cases bF : aU = true
       ·subst bF
        replace H := ifT H;replace H := Option.bind_eq_some_iff.mp H;obtain ⟨⟨cS, cT, cU, cV, fU⟩, bR, H⟩ := H;(try dsimp only at H);have fV := Aside0.mk bR;clear bR;simp only [Option.some.injEq, Prod.mk.injEq] at H;obtain ⟨rfl, rfl, rfl, rfl, rfl⟩ := H;go_wp2_with (first | ((with_reducible refine qea (N := 122) rfl ?_); refine api_Slot_78.goesT0 (some 122) rfl rfl Try.func67 (by kernel_rfl) rfl #[.int .u64 0] rfl rfl (by (try simp only [qM1, qM2, qM3]); first | done | rfl) ?_; (with_reducible refine (tune_folded_1.calls 0 cS cT cU cV fU _ fV.out).mono ?_); rintro e jB ⟨rfl, hb⟩; refine ⟨_, rfl, ?_⟩; replace aa := kU aa hb; replace af := kU af hb; replace ag := kU ag hb; replace ah := kU ah hb; replace HB := kH HB hb; (try clear hb); (try clear hb2); (try clear hk); (try clear hi); have fW := ay.out; have fX := ax.out; have fY := ak.out; have fZ := al.out; have ga := aq.out; have gb := ar.out; have gc := kz4 af));refine bodyPost_ret (results_ct rfl _ _ aC 61 #[.int .i64 cS, .int .i64 cT, .int .i64 cU, .int .u64 cV] (0, 0) _ rfl (kg af) Try.underlying61 rfl (by kernel_rfl)) rfl ?_;exact ⟨er, kh HB⟩
       replace bF := Bool.eq_false_iff.mpr bF;subst bF;replace H := ifF H;have bG := Aside0.mk H;clear H;go_upto_region 17 with (fail);go_cut [12, 125] (fun v12 gd wc => ∃ (kq : Nat) (aV : Bool), v12 = .bool (aw != 6) ∧ gd = .bool aV ∧ Aside0 (tune_folded.j6 kq a0 aV aw ab ae aD ((rd_T61 l1 ab).f0) ((rd_T61 l1 ab).f1) ((rd_T61 l1 ab).f2) ((rd_T61 l1 ab).f3) = some (r1, r2, r3, r4, r5)) ∧ Aside0 (kq ≤ cR) ∧ Aside0 (wc.heap[aB]? = some (.cells #[.int .i64 aw, .int .i64 ab, .int .i64 ae, .int .u64 aD] 61 (0, 0))) ∧ Aside0 (wc.heap[aC]? = some (.cells #[.int .i64 0, .int .i64 0, .int .i64 0, .int .u64 0] 61 (0, 0))) ∧ Aside0 (wc.heap[an]? = some (.cells #[.int .i64 ((rd_T61 l1 ab).f0), .int .i64 ((rd_T61 l1 ab).f1), .int .i64 ((rd_T61 l1 ab).f2), .int .u64 ((rd_T61 l1 ab).f3)] 61 (0, 0))) ∧ Aside0 (wc.heap[az]? = some (.cells #[.int .i64 ((rd_T61 l1 ae).f0), .int .i64 ((rd_T61 l1 ae).f1), .int .i64 ((rd_T61 l1 ae).f2), .int .u64 ((rd_T61 l1 ae).f3)] 61 (0, 0))) ∧ Aside0 (Below w.heap.size w wc))
       case first =>
        have H := bG.out;clear bG
        by_cases bb : (aw != 6) = true
        ·rw [if_pos bb] at H
         have bc : (aw != 6) = true := bb;(try (have cd : decide (aw = 6) = false := by simpa using bb));(try (have ce : (aw == 6) = false := by simpa using bb));(try (have ge : ¬ (aw = 6) := by simpa using bb));clear bb;(first | rw [bc] | (simp only [i64_w, i32_w]; rw [bc]) | skip);have H' := Aside0.mk H;clear H;go_wp2;go_meet
         case rel => exact ⟨_, (false), et, et, H', ⟨by have := HJ3.out; have := bd.out; have := bl.out; have := bx.out; have := bw.out; have := bQ.out; first | omega | exact Nat.le_refl _⟩, ⟨kg aa⟩, ⟨kg af⟩, ⟨kg ag⟩, ⟨kg ah⟩, ⟨kh HB⟩⟩
        rw [if_neg bb] at H
        have bc : (aw != 6) = false := by simpa using bb
        (try (have cd : decide (aw = 6) = true := by simpa using bb));(try (have ce : (aw == 6) = true := by simpa using bb));clear bb;(first | rw [bc] | (simp only [i64_w, i32_w]; rw [bc]) | skip);have H' := Aside0.mk H;clear H;have gf := aj.out;have gg := ai.out;have gh := al.out;have gi := ak.out;have gj := au.out;have gl := av.out;have jC := kz4 ag;go_wp2;go_meet
        case rel => exact ⟨_, ((((rd_T61 l1 ab).f0) == 6)), et, et, H', ⟨by have := HJ3.out; have := bd.out; have := bl.out; have := bx.out; have := bw.out; have := bQ.out; first | omega | exact Nat.le_refl _⟩, ⟨kg aa⟩, ⟨kg af⟩, ⟨kg ag⟩, ⟨kg ah⟩, ⟨kh HB⟩⟩
       clear bG;(try clear bF gc);obtain ⟨kq, aV, rfl, rfl, HA, je, aa, af, ag, ah, HB⟩ := hcut
       cases kq with
       | zero => exact absurd HA.out (by simp [tune_folded.j6])
       | succ jf =>
        have H := HA.out;clear HA;simp only [tune_folded.j6] at H
        by_cases bL : aV = true
        rotate_left
        ·replace bL := Bool.eq_false_iff.mpr bL
         subst bL;replace H := ifF H
         by_cases bo : aw = 4
         rotate_left
         ·rw [if_neg bo] at H
          have cf := beq_eq_false_iff_ne.mpr bo;have cg := bne_iff_ne.mpr bo;simp only [Option.some.injEq, Prod.mk.injEq] at H;obtain ⟨rfl, rfl, rfl, rfl, rfl⟩ := H;have gm := ax.out;have gn := ay.out;have go := ai.out;have gp := aj.out;have gq := ao.out;have gr := ap.out;have jD := kz4 aa;have gs := ak.out;have gt := al.out;have gu := aq.out;have gv := ar.out;have jE := kz4 af;go_wp2;refine bodyPost_ret (results_ct rfl _ _ aC 61 #[.int .i64 aw, .int .i64 ab, .int .i64 ae, .int .u64 aD] (0, 0) _ rfl (kg af) Try.underlying61 rfl (by kernel_rfl)) rfl ?_;exact ⟨er, kh HB⟩
         rw [if_pos bo] at H;have cf := beq_iff_eq.mpr bo;have cg := bne_eq_false_iff_eq.mpr bo;clear bo
         by_cases bp : ab = ae
         rotate_left
         ·rw [if_neg bp] at H
          have ch := beq_eq_false_iff_ne.mpr bp;have ci := bne_iff_ne.mpr bp;simp only [Option.some.injEq, Prod.mk.injEq] at H;obtain ⟨rfl, rfl, rfl, rfl, rfl⟩ := H;have gw := ax.out;have gx := ay.out;have gy := ai.out;have gz := aj.out;have gA := ao.out;have gB := ap.out;have jF := kz4 aa;have gC := ak.out;have gD := al.out;have gE := aq.out;have gF := ar.out;have jG := kz4 af;go_wp2;refine bodyPost_ret (results_ct rfl _ _ aC 61 #[.int .i64 aw, .int .i64 ab, .int .i64 ae, .int .u64 aD] (0, 0) _ rfl (kg af) Try.underlying61 rfl (by kernel_rfl)) rfl ?_;exact ⟨er, kh HB⟩
         rw [if_pos bp] at H;have ch := beq_iff_eq.mpr bp;have ci := bne_eq_false_iff_eq.mpr bp;clear bp;replace H := Option.bind_eq_some_iff.mp H;obtain ⟨⟨cW, cX, cY, cZ, gG⟩, bS, H⟩ := H;(try dsimp only at H);have gH := Aside0.mk bS;clear bS;simp only [Option.some.injEq, Prod.mk.injEq] at H;obtain ⟨rfl, rfl, rfl, rfl, rfl⟩ := H;have gI := ax.out;have gJ := ay.out;have gK := ai.out;have gL := aj.out;have gM := ao.out;have gN := ap.out;have jH := kz4 aa;go_wp2_with (first | ((with_reducible refine qea (N := 157) rfl ?_); refine api_Slot_78.goesT0 (some 157) rfl rfl Try.func67 (by kernel_rfl) rfl #[.int .u64 0] rfl rfl (by (try simp only [qM1, qM2, qM3]); first | done | rfl) ?_; (with_reducible refine (tune_folded_1.calls 0 cW cX cY cZ gG _ gH.out).mono ?_); rintro e jI ⟨rfl, hb⟩; refine ⟨_, rfl, ?_⟩; replace aa := kU aa hb; replace af := kU af hb; replace ag := kU ag hb; replace ah := kU ah hb; replace HB := kH HB hb; (try clear hb); (try clear hb2); (try clear hk); (try clear hi); have gO := ak.out; have gP := al.out; have gQ := aq.out; have gR := ar.out; have jJ := kz4 af));refine bodyPost_ret (results_ct rfl _ _ aC 61 #[.int .i64 cW, .int .i64 cX, .int .i64 cY, .int .u64 cZ] (0, 0) _ rfl (kg af) Try.underlying61 rfl (by kernel_rfl)) rfl ?_;exact ⟨er, kh HB⟩
        subst bL;replace H := ifT H;replace H := Option.bind_eq_some_iff.mp H;obtain ⟨cj, bT, H⟩ := H;(try dsimp only at H);have gS := Aside0.mk bT;clear bT;replace H := Option.bind_eq_some_iff.mp H;obtain ⟨⟨da, db, dc, dd, gT⟩, bU, H⟩ := H;(try dsimp only at H);have gU := Aside0.mk bU;clear bU;simp only [Option.some.injEq, Prod.mk.injEq] at H;obtain ⟨rfl, rfl, rfl, rfl, rfl⟩ := H;(try go_wp2);replace aa := kD aa; replace af := kD af; replace ag := kD ag; replace ah := kD ah; replace HB := kE HB;refine start_ (n := 14) (S := fun w' => w'.cell? ⟨an, 0, none⟩ = some (.int .i64 ((rd_T61 l1 ab).f0)) ∧ w'.cell? ⟨an, 1, none⟩ = some (.int .i64 ((rd_T61 l1 ab).f1)) ∧ w'.cell? ⟨an, 2, none⟩ = some (.int .i64 ((rd_T61 l1 ab).f2)) ∧ w'.cell? ⟨an, 3, none⟩ = some (.int .u64 ((rd_T61 l1 ab).f3)) ∧ w'.cell? ⟨aB, 0, none⟩ = some (.int .i64 aw) ∧ w'.cell? ⟨aB, 1, none⟩ = some (.int .i64 ab) ∧ w'.cell? ⟨aB, 2, none⟩ = some (.int .i64 ae) ∧ w'.cell? ⟨aB, 3, none⟩ = some (.int .u64 aD)) (ds := []) (bs 14 0) (by kernel_rfl) rfl rfl ⟨kk ag 0, kk ag 1, kk ag 2, kk ag 3, kk aa 0, kk aa 1, kk aa 2, kk aa 3⟩ (fun hHeld => ?_); refine with_tabW tune_folded.tab18 tune_folded.bits18 (fun HT_ HW_ => ?_);generalize wc.drew = jK at aa af ag ah HB hHeld ⊢;refine pu 0 (some 133) (bs 14 1) HT_ ?_;refine pu 1 (some 134) (bs 14 3) HT_ ?_;refine pu 3 (some 136) (bs 14 11) HT_ ?_;refine pu 4 (some 137) (bs 14 27) HT_ ?_;refine pu 6 (some 139) (bs 14 91) HT_ ?_;refine ta 2 (some 135) (bs 14 95) HT_ HW_ hHeld ?_;refine ta 5 (some 138) (bs 14 127) HT_ HW_ hHeld ?_;refine ta 7 (some 140) (bs 14 255) HT_ HW_ hHeld ?_;refine one_ (i := 8) (N := some 141) (bs 14 511) rfl rfl (one_of HT_.out (by kernel_rfl)) (by decide) (fun K hK => ?_);refine goes_ Try.func70 (by kernel_rfl) rfl #[.int .u64 a0, .int .u64 ((rd_T61 l1 ab).f3), .int .u64 aD] (by rfl) rfl rfl (by (try simp only [qM1, qM2, qM3]); first | done | rfl) ?_;(with_reducible refine (qta.calls a0 ((rd_T61 l1 ab).f3) aD cj _ gS.out).mono ?_);rintro e w' ⟨rfl, ⟨nd, rfl⟩⟩;refine ⟨_, rfl, ?_⟩;refine hK.out _ _ ⟨kk ag 0, kk ag 1, kk ag 2, kk ag 3, kk aa 0, kk aa 1, kk aa 2, kk aa 3⟩ (fun hHeld => ?_);clear hK K;refine no (some 141) ?_;refine one_ (i := 9) (N := some 142) (bs 14 1023) rfl rfl (one_of HT_.out (by kernel_rfl)) (by decide) (fun K hK => ?_);refine api_Slot_78.goesT0_ Try.func68 (by kernel_rfl) rfl #[.int .i64 ((rd_T61 l1 ab).f1), .int .u64 cj] (by rfl) rfl rfl rfl (by (try simp only [qM1, qM2, qM3]); first | done | rfl) ?_;(with_reducible refine (tune_folded_2.calls ((rd_T61 l1 ab).f1) cj da db dc dd gT _ gU.out).mono ?_);rintro e bM ⟨rfl, hb⟩;refine ⟨_, rfl, ?_⟩;replace aa := kU aa hb; replace af := kU af hb; replace ag := kU ag hb; replace ah := kU ah hb; replace HB := kH HB hb;(try clear hb);refine hK.out _ _ ⟨kk ag 0, kk ag 1, kk ag 2, kk ag 3, kk aa 0, kk aa 1, kk aa 2, kk aa 3⟩ (fun hHeld => ?_);clear hK K;refine no (some 142) ?_;refine pu 10 (some 143) (bs 14 2047) HT_ ?_;refine pu 11 (some 144) (bs 14 4095) HT_ ?_;refine one_ (i := 12) (N := none) (bs 14 8191) rfl rfl (one_of HT_.out (by kernel_rfl)) (by decide) (fun K hK => ?_);have jg : bM.cell? ⟨aC, 0, none⟩ = some (.int .i64 0) := kk af 0;have gV := blk_frozen af.out 0;have de := ax.out;have df := al.out;have dg := ar.out;have dh := ay.out;have di := ak.out;have dj := aq.out;have jh : bM.cell? ⟨aC, 1, none⟩ = some (.int .i64 0) := kk af 1;have gW := blk_frozen af.out 1;have dk := ax.out;have dl := al.out;have dm := ar.out;have dn := ay.out;have dp := ak.out;have dq := aq.out;have ji : bM.cell? ⟨aC, 2, none⟩ = some (.int .i64 0) := kk af 2;have gX := blk_frozen af.out 2;have dr := ax.out;have dt := al.out;have du := ar.out;have dv := ay.out;have dw := ak.out;have dx := aq.out;have jj : bM.cell? ⟨aC, 3, none⟩ = some (.int .u64 0) := kk af 3;have gY := blk_frozen af.out 3;have dy := ax.out;have dz := al.out;have dA := ar.out;have dB := ay.out;have dC := ak.out;have dD := aq.out;refine skip_ (w1 := ?_) (by rfl) rfl ?_ ?_
        rotate_left
        ·go_simp
         rfl
        refine hK.out _ _ ⟨(kf hHeld.1), (kf hHeld.2.1), (kf hHeld.2.2.1), (kf hHeld.2.2.2.1), (kf hHeld.2.2.2.2.1), (kf hHeld.2.2.2.2.2.1), (kf hHeld.2.2.2.2.2.2.1), (kf hHeld.2.2.2.2.2.2.2)⟩ (fun hHeld => ?_);clear hK K;refine pu 13 (some 7) (bs 14 16383) HT_ ?_;refine done_ (done_of HT_.out (by kernel_rfl)) ?_;(try go_wp2);refine bodyPost_ret (results_ct rfl _ _ aC 61 #[.int .i64 da, .int .i64 db, .int .i64 dc, .int .u64 dd] (0, 0) _ rfl (kg af) Try.underlying61 rfl (by kernel_rfl)) rfl ?_;exact ⟨er, kh HB⟩
mutual
def tune_Fold.l0 : Nat → Int → Int → Int → List (S64) → List (S61) → List (S66) → Option ((List (S64)) × (List (S61)) × (List (S66)) × Int)
 | 0, _, _, _, _, _, _ => none
 | k + 1, x0, x21, x22, ab, aa, ae => if x22 < x21 then (tune_Fold.l1 k x0 x22 true x21 x22 ab aa ae) else (some (ab, aa, ae, 0))
def tune_Fold.l1 : Nat → Int → Int → Bool → Int → Int → List (S64) → List (S61) → List (S66) → Option ((List (S64)) × (List (S61)) × (List (S66)) × Int)
 | 0, _, _, _, _, _, _, _, _ => none
 | k + 1, x0, x8, x9, x21, x22, ab, aa, ae => if x9 = true then (if 0 ≤ x8 then (if x8 < (aa.length : Int) then ((tune_folded.f k x0 aa ((rd_T61 aa x8).f0) ((rd_T61 aa x8).f1) ((rd_T61 aa x8).f2) ((rd_T61 aa x8).f3)).bind fun af => (tune_Fold.l1 k x0 x8 af.2.2.2.2 x21 x22 ab (aa.set (x8 : Int).toNat (⟨af.1, af.2.1, af.2.2.1, af.2.2.2.1⟩ : S61)) ae)) else (none)) else (none)) else (tune_Fold.l0 k x0 x21 (wrap64 (x22 + 1)) ab aa ae)
end
def tune_Fold.f (k : Nat) (a0 : Int) (ab : List (S64)) (ae : List (S61)) (af : List (S66)) : Option ((List (S64)) × (List (S61)) × (List (S66)) × Int) := (circ_Check.f k a0 ab ae af).bind fun ag => (if ag = 0 then ((tune_Own.f k ab ae af).bind fun aa => (tune_Fold.l0 k a0 (aa.2.1.length : Int) 0 aa.1 aa.2.1 aa.2.2)) else (some (([] : List (S64)), ([] : List (S61)), ([] : List (S66)), ag)))
theorem tune_Fold.mono_l : ∀ k, (∀ y0 y1 y2 y3 y4 y5, LeO (tune_Fold.l0 k y0 y1 y2 y3 y4 y5) (tune_Fold.l0 (k + 1) y0 y1 y2 y3 y4 y5)) ∧ (∀ y0 y1 y2 y3 y4 y5 y6 y7, LeO (tune_Fold.l1 k y0 y1 y2 y3 y4 y5 y6 y7) (tune_Fold.l1 (k + 1) y0 y1 y2 y3 y4 y5 y6 y7))
 | 0 => ⟨fun _ _ _ _ _ _ r h => by simp [tune_Fold.l0] at h, fun _ _ _ _ _ _ _ _ r h => by simp [tune_Fold.l1] at h⟩
 | k + 1 => by
  obtain ⟨ih0, ih1⟩ := tune_Fold.mono_l k;refine ⟨?_, ?_⟩
  ·intro y0 y1 y2 y3 y4 y5
   unfold tune_Fold.l0
   repeat' first
   | (with_reducible exact ih0 _ _ _ _ _ _)
   | (with_reducible exact ih1 _ _ _ _ _ _ _ _)
   | (with_reducible exact circ_Check.mono _ _ _ _ _)
   | (with_reducible exact tune_Own.mono _ _ _ _)
   | (with_reducible exact tune_folded.mono _ _ _ _ _ _ _)
   | (with_reducible exact LeO.refl _)
   | (with_reducible exact LeO.none _)
   | (with_reducible refine LeO.ite ?_ ?_)
   | (with_reducible refine LeO.bind ?_ (fun _ => ?_))
   | exact ih0 _ _ _ _ _ _
   | exact ih1 _ _ _ _ _ _ _ _
   | exact circ_Check.mono _ _ _ _ _
   | exact tune_Own.mono _ _ _ _
   | exact tune_folded.mono _ _ _ _ _ _ _
   | exact LeO.none _
   | refine LeO.ite ?_ ?_
   | refine LeO.bind ?_ (fun _ => ?_)
  ·intro y0 y1 y2 y3 y4 y5 y6 y7
   unfold tune_Fold.l1
   repeat' first
   | (with_reducible exact ih0 _ _ _ _ _ _)
   | (with_reducible exact ih1 _ _ _ _ _ _ _ _)
   | (with_reducible exact circ_Check.mono _ _ _ _ _)
   | (with_reducible exact tune_Own.mono _ _ _ _)
   | (with_reducible exact tune_folded.mono _ _ _ _ _ _ _)
   | (with_reducible exact LeO.refl _)
   | (with_reducible exact LeO.none _)
   | (with_reducible refine LeO.ite ?_ ?_)
   | (with_reducible refine LeO.bind ?_ (fun _ => ?_))
   | exact ih0 _ _ _ _ _ _
   | exact ih1 _ _ _ _ _ _ _ _
   | exact circ_Check.mono _ _ _ _ _
   | exact tune_Own.mono _ _ _ _
   | exact tune_folded.mono _ _ _ _ _ _ _
   | exact LeO.none _
   | refine LeO.ite ?_ ?_
   | refine LeO.bind ?_ (fun _ => ?_)
theorem tune_Fold.mono : ∀ a0 a1 a2 a3 k, LeO (tune_Fold.f k a0 a1 a2 a3) (tune_Fold.f (k + 1) a0 a1 a2 a3) := by
 intro a0 a1 a2 a3 k;obtain ⟨ih0, ih1⟩ := tune_Fold.mono_l k;unfold tune_Fold.f
 repeat' first
   | (with_reducible exact ih0 _ _ _ _ _ _)
   | (with_reducible exact ih1 _ _ _ _ _ _ _ _)
   | (with_reducible exact circ_Check.mono _ _ _ _ _)
   | (with_reducible exact tune_Own.mono _ _ _ _)
   | (with_reducible exact tune_folded.mono _ _ _ _ _ _ _)
   | (with_reducible exact LeO.refl _)
   | (with_reducible exact LeO.none _)
   | (with_reducible refine LeO.ite ?_ ?_)
   | (with_reducible refine LeO.bind ?_ (fun _ => ?_))
   | exact ih0 _ _ _ _ _ _
   | exact ih1 _ _ _ _ _ _ _ _
   | exact circ_Check.mono _ _ _ _ _
   | exact tune_Own.mono _ _ _ _
   | exact tune_folded.mono _ _ _ _ _ _ _
   | exact LeO.none _
   | refine LeO.ite ?_ ?_
   | refine LeO.bind ?_ (fun _ => ?_)
def tune_Fold.T10 : Bool × List (List Nat × List Nat) := (true, [([], []), ([0], [0]), ([], []), ([], []), ([], []), ([4], [4]), ([], []), ([6], [6]), ([], []), ([7, 8], [7, 8]), ([9], [9]), ([3, 5, 10], [3, 5, 10]), ([11], [11]), ([12], [12]), ([12], [12]), ([1, 2, 0, 1, 2, 3, 4, 5, 6, 7, 8, 9, 10, 11, 12, 13], [1, 2]), ([15, 13, 11, 0, 1, 2, 3, 4, 5, 6, 7, 8, 9, 10, 11, 12, 13], [13, 15]), ([14, 16, 0, 1, 2, 3, 4, 5, 6, 7, 8, 9, 10, 11, 12, 13, 14, 15, 16], [14])])
def tune_Fold.B10 : List Nat := [0, 1, 0, 0, 0, 16, 0, 64, 0, 448, 960, 2040, 4088, 8184, 8184, 16383, 49151, 131071]
theorem tune_Fold.tab10 : rtab .any (opsOf Try.f16 10) = tune_Fold.T10 := by kernel_rfl
theorem tune_Fold.bits10 : waitsOk tune_Fold.T10.2 tune_Fold.B10 = true := by kernel_rfl
theorem tune_Fold.calls (k : Nat) (a0 : Int) (aJ : Option Addr) (aK : Nat) (ar : List (S64)) (aL : Option Addr) (aM : Nat) (au : List (S61)) (aN : Option Addr) (aO : Nat) (av : List (S66)) (r1 : List (S64)) (r2 : List (S61)) (r3 : List (S66)) (r4 : Int) (w : World) (bp : Kd.C k64 w aJ ar.length ar) (bq : ar.length ≤ aK) (br : Kd.C k61 w aL au.length au) (bt : au.length ≤ aM) (bu : Kd.C k66 w aN av.length av) (bv : av.length ≤ aO) (h : tune_Fold.f k a0 ar au av = some (r1, r2, r3, r4)) :
  Calls Try.prog 16 #[.int .u64 a0, .agg #[.slice aJ ar.length aK, .slice aL au.length aM, .slice aN av.length aO]] w fun e w' => ∃ v0_ v1_ v2_ : Value, e = .returned (.tuple #[.agg #[v0_, v1_, v2_], .int .i64 r4]) ∧ Kd.R k64 64 w' w.heap.size (fun _ => True) v0_ r1 ∧ Kd.R k61 61 w' w.heap.size (fun _ => True) v1_ r2 ∧ Kd.S k66 66 w' w.heap.size (fun _ => True) v2_ r3 ∧ Below w.heap.size w w' := by
 have hu26 := Try.underlying26;have hu61 := Try.underlying61;have bd := Aside0.mk bp;have be := Aside0.mk bq;clear bp bq;have bf := Aside0.mk br;have bg := Aside0.mk bt;clear br bt;have bh := Aside0.mk bu;have bi := Aside0.mk bv;clear bu bv;have HB := Aside0.mk (Below.refl w.heap.size w);have H : ((circ_Check.f k a0 ar au av).bind fun bc => (if bc = 0 then ((tune_Own.f k ar au av).bind fun aY => (tune_Fold.l0 k a0 (aY.2.1.length : Int) 0 aY.1 aY.2.1 aY.2.2)) else (some (([] : List (S64)), ([] : List (S61)), ([] : List (S66)), bc)))) = some (r1, r2, r3, r4) := h;clear h;replace H := Option.bind_eq_some_iff.mp H;obtain ⟨bc, A30, H⟩ := H;(try dsimp only at H);have A3 := Aside0.mk A30;clear A30
 by_cases c4 : bc = 0
 rotate_left
 ·rw [if_neg c4] at H
  have bD := beq_eq_false_iff_ne.mpr c4;have bE := bne_iff_ne.mpr c4;simp only [Option.some.injEq, Prod.mk.injEq] at H;obtain ⟨rfl, rfl, rfl, rfl⟩ := H;go_enter Try.func16, Try.ntmps16;go_wp2_with (first | ((with_reducible refine qea (N := 3) rfl ?_); refine box_event ?hg (N := 3) ?hd (cs := #[.slice aJ ar.length aK, .slice aL au.length aM, .slice aN av.length aO]) (t := 26) ?hr ?_; (case hd => rfl); (case hg => rfl); (case hr => first | (go_simp; done) | (go_simp; rfl)); intro bj hg w36 hbox hb; have af := am hbox; have bF := kG HB hg; have bG := kG HB hg; replace HB := kH HB hb; clear hb hbox hg) | ((with_reducible refine qea (N := 4) rfl ?_); refine box_event ?hg (N := 4) ?hd (cs := #[.slice none 0 0, .slice none 0 0, .slice none 0 0]) (t := 26) ?hr ?_; (case hd => rfl); (case hg => rfl); (case hr => first | (go_simp; done) | (go_simp; rfl)); intro an hg w37 hbox hb; have ag := am hbox; have bH := kG HB hg; have bI := kG HB hg; replace HB := kH HB hb; have ax := kP af hg; have ay := kQ af hg; replace af := kU af hb; clear hb hbox hg; have ce := ax.out; have cf := ay.out; have Z39 := kz3 af) | ((with_reducible refine gate_callee (f := 37) rfl ?_); refine goesL_ (some 12) rfl rfl Try.func37 (by kernel_rfl) rfl #[.int .u64 a0, .agg #[.slice aJ ar.length aK, .slice aL au.length aM, .slice aN av.length aO]] rfl (by (try simp only [qM1, qM2, qM3]); first | done | rfl) ?_; (with_reducible refine (circ_Check.calls k a0 _ _ ar _ _ au _ _ av bc _ ?side1 ?side2 ?side3 ?side4 ?side5 ?side6 A3.out).mono ?_); (case side1 => repeat (first | exact (Kd.C_below bd.out HB.out) | (with_reducible first | refine Kd.C_alloc ?_ _ | refine Kd.C_drewN ?_ _ | refine Kd.C_drew ?_))); (case side2 => exact be.out); (case side3 => repeat (first | exact (Kd.C_below bf.out HB.out) | (with_reducible first | refine Kd.C_alloc ?_ _ | refine Kd.C_drewN ?_ _ | refine Kd.C_drew ?_))); (case side4 => exact bg.out); (case side5 => repeat (first | exact (Kd.C_below bh.out HB.out) | (with_reducible first | refine Kd.C_alloc ?_ _ | refine Kd.C_drewN ?_ _ | refine Kd.C_drew ?_))); (case side6 => exact bi.out); rintro e w40 ⟨rfl, hb⟩; refine ⟨_, rfl, ?_⟩; replace af := kU af hb; replace ag := kU ag hb; replace HB := kH HB hb; (try clear hb); (try clear hb2); (try clear hk); (try clear hi); have Z41 := kz3 ag));refine bodyPost_ret (results_ct rfl _ _ an 26 #[.slice none 0 0, .slice none 0 0, .slice none 0 0] (0, 0) _ rfl (kg ag) Try.underlying26 rfl (by kernel_rfl)) rfl ?_;exact ⟨_, _, _, er, by first | exact Kd.R_nil _ _ _ _ _ | exact Kd.N_nil _ _ _ _ _ | exact Kd.V_nil _ _ _ _ _ | exact Kd.Q_nil _ _ _ _ _ | exact Kd.S_nil _ _ _ _ _, by first | exact Kd.R_nil _ _ _ _ _ | exact Kd.N_nil _ _ _ _ _ | exact Kd.V_nil _ _ _ _ _ | exact Kd.Q_nil _ _ _ _ _ | exact Kd.S_nil _ _ _ _ _, by first | exact Kd.S_nil _ _ _ _ _ | exact Kd.N_nil _ _ _ _ _ | exact Kd.V_nil _ _ _ _ _ | exact Kd.Q_nil _ _ _ _ _ | exact Kd.R_nil _ _ _ _ _, kh HB⟩
 rw [if_pos c4] at H;have bD := beq_iff_eq.mpr c4;have bE := bne_eq_false_iff_eq.mpr c4;clear c4;replace H := Option.bind_eq_some_iff.mp H;obtain ⟨⟨ap, aE, aq⟩, A50, H⟩ := H;(try dsimp only at H);have A5 := Aside0.mk A50;clear A50;have H' := Aside0.mk H;clear H;go_enter Try.func16, Try.ntmps16;go_wp2_with (first | ((with_reducible refine qea (N := 3) rfl ?_); refine box_event ?hg (N := 3) ?hd (cs := #[.slice aJ ar.length aK, .slice aL au.length aM, .slice aN av.length aO]) (t := 26) ?hr ?_; (case hd => rfl); (case hg => rfl); (case hr => first | (go_simp; done) | (go_simp; rfl)); intro bj hg w6 hbox hb; have af := am hbox; have bF := kG HB hg; have bG := kG HB hg; replace HB := kH HB hb; clear hb hbox hg) | ((with_reducible refine qea (N := 4) rfl ?_); refine box_event ?hg (N := 4) ?hd (cs := #[.slice none 0 0, .slice none 0 0, .slice none 0 0]) (t := 26) ?hr ?_; (case hd => rfl); (case hg => rfl); (case hr => first | (go_simp; done) | (go_simp; rfl)); intro an hg w7 hbox hb; have ag := am hbox; have bH := kG HB hg; have bI := kG HB hg; replace HB := kH HB hb; have ax := kP af hg; have ay := kQ af hg; replace af := kU af hb; clear hb hbox hg; have cv := ax.out; have cw := ay.out; have Z9 := kz3 af) | ((with_reducible refine gate_callee (f := 37) rfl ?_); refine goesL_ (some 12) rfl rfl Try.func37 (by kernel_rfl) rfl #[.int .u64 a0, .agg #[.slice aJ ar.length aK, .slice aL au.length aM, .slice aN av.length aO]] rfl (by (try simp only [qM1, qM2, qM3]); first | done | rfl) ?_; (with_reducible refine (circ_Check.calls k a0 _ _ ar _ _ au _ _ av bc _ ?side1 ?side2 ?side3 ?side4 ?side5 ?side6 A3.out).mono ?_); (case side1 => repeat (first | exact (Kd.C_below bd.out HB.out) | (with_reducible first | refine Kd.C_alloc ?_ _ | refine Kd.C_drewN ?_ _ | refine Kd.C_drew ?_))); (case side2 => exact be.out); (case side3 => repeat (first | exact (Kd.C_below bf.out HB.out) | (with_reducible first | refine Kd.C_alloc ?_ _ | refine Kd.C_drewN ?_ _ | refine Kd.C_drew ?_))); (case side4 => exact bg.out); (case side5 => repeat (first | exact (Kd.C_below bh.out HB.out) | (with_reducible first | refine Kd.C_alloc ?_ _ | refine Kd.C_drewN ?_ _ | refine Kd.C_drew ?_))); (case side6 => exact bi.out); rintro e w10 ⟨rfl, hb⟩; refine ⟨_, rfl, ?_⟩; replace af := kU af hb; replace ag := kU ag hb; replace HB := kH HB hb; (try clear hb); (try clear hb2); (try clear hk); (try clear hi); have Z11 := kz3 af) | ((with_reducible refine gate_callee (f := 38) rfl ?_); refine goesL_ (some 18) rfl rfl Try.func38 (by kernel_rfl) rfl #[.agg #[.slice aJ ar.length aK, .slice aL au.length aM, .slice aN av.length aO]] rfl (by (try simp only [qM1, qM2, qM3]); first | done | rfl) ?_; (with_reducible refine (tune_Own.calls k _ _ ar _ _ au _ _ av ap aE aq _ ?side1 ?side2 ?side3 ?side4 ?side5 ?side6 A5.out).mono ?_); (case side1 => repeat (first | exact (Kd.C_below bd.out HB.out) | (with_reducible first | refine Kd.C_alloc ?_ _ | refine Kd.C_drewN ?_ _ | refine Kd.C_drew ?_))); (case side2 => exact be.out); (case side3 => repeat (first | exact (Kd.C_below bf.out HB.out) | (with_reducible first | refine Kd.C_alloc ?_ _ | refine Kd.C_drewN ?_ _ | refine Kd.C_drew ?_))); (case side4 => exact bg.out); (case side5 => repeat (first | exact (Kd.C_below bh.out HB.out) | (with_reducible first | refine Kd.C_alloc ?_ _ | refine Kd.C_drewN ?_ _ | refine Kd.C_drew ?_))); (case side6 => exact bi.out); rintro e w12 ⟨cx, cy, cz, rfl, ho0, ho1, ho2, hb⟩; refine ⟨_, rfl, ?_⟩; have aZ := kLR ho0 HB; have ba := kLR ho1 HB; have bb := kLS ho2 HB; replace af := kU af hb; replace ag := kU ag hb; replace HB := kH HB hb; (try clear hb); (try clear hb2); (try clear hk); (try clear hi); (try clear ho0); (try clear ho1); (try clear ho2)) | ((with_reducible refine qea (N := 7) rfl ?_); refine box_event ?hg (N := 7) ?hd (cs := #[.slice none 0 0, .slice none 0 0, .slice none 0 0]) (t := 26) ?hr ?_; (case hd => rfl); (case hg => rfl); (case hr => first | (go_simp; done) | (go_simp; rfl)); intro ao hg w13 hbox hb; replace aZ := kR aZ hb; replace ba := kR ba hb; replace bb := kS bb hb; have ah := am hbox; have cg := kG HB hg; have ch := kG HB hg; replace HB := kH HB hb; have aF := kP af hg; have aG := kQ af hg; replace af := kU af hb; have aH := kP ag hg; have aI := kQ ag hg; replace ag := kU ag hb; clear hb hbox hg; obtain ⟨aA, aB, bQ⟩ := Kd.R_slice aZ.out; subst bQ; have ci := aG.out; have cj := aF.out; have ck := aI.out; have cl := aH.out; have Z17 := kz3 ah; obtain ⟨bk, bl, bR⟩ := Kd.R_slice ba.out; subst bR; obtain ⟨aC, aD, bS⟩ := Kd.S_slice bb.out; subst bS));go_loopg [22] k (fun kq v22 w' => ∃ (ae : Int) (ak : List (S61)) (al : Value), v22 = .int .i64 ae ∧ Aside0 (tune_Fold.l0 kq a0 (aE.length : Int) ae ap ak aq = some (r1, r2, r3, r4)) ∧ Aside0 (kq ≤ k) ∧ Aside0 (Kd.R k64 64 w' w.heap.size (fun _ => True) (.slice aA ap.length aB) ap) ∧ Aside0 (Kd.R k61 61 w' w.heap.size (fun _ => True) al ak) ∧ Aside0 (Kd.S k66 66 w' w.heap.size (fun _ => True) (.slice aC aq.length aD) aq) ∧ Aside0 (w'.heap[bj]? = some (.cells #[(.slice aJ ar.length aK), (.slice aL au.length aM), (.slice aN av.length aO)] 26 (0, 0))) ∧ Aside0 (w'.heap[an]? = some (.cells #[(.slice none 0 0), (.slice none 0 0), (.slice none 0 0)] 26 (0, 0))) ∧ Aside0 (w'.heap[ao]? = some (.cells #[(.slice aA ap.length aB), al, (.slice aC aq.length aD)] 26 (0, 0))) ∧ Aside0 (Below w.heap.size w w'))
 case atStart => exact ⟨(0), (aE), (.slice bk aE.length bl), et, H', ⟨Nat.le_refl _⟩, ⟨by (with_reducible repeat first | apply Kd.R_alloc | apply Kd.R_drewN | apply Kd.R_drew); exact Kd.R_mono (Kd.R_far (p := ⟨ao, 2, none⟩) (Kd.R_far (p := ⟨ao, 1, none⟩) (Kd.R_far (p := ⟨ao, 0, none⟩) (Kd.R_types aZ.out ah.out (by decide)) (fun _ hk => hk.2) (.slice aA ap.length aB)) (fun _ hk => hk.2) (.slice bk aE.length bl)) (fun _ hk => hk.2) (.slice aC aq.length aD)) (fun _ hk => trivial)⟩, ⟨by (with_reducible repeat first | apply Kd.R_alloc | apply Kd.R_drewN | apply Kd.R_drew); exact Kd.R_mono (Kd.R_far (p := ⟨ao, 2, none⟩) (Kd.R_far (p := ⟨ao, 1, none⟩) (Kd.R_far (p := ⟨ao, 0, none⟩) (Kd.R_types ba.out ah.out (by decide)) (fun _ hk => hk.2) (.slice aA ap.length aB)) (fun _ hk => hk.2) (.slice bk aE.length bl)) (fun _ hk => hk.2) (.slice aC aq.length aD)) (fun _ hk => trivial)⟩, ⟨by (with_reducible repeat first | apply Kd.S_alloc | apply Kd.S_drewN | apply Kd.S_drew); exact Kd.S_mono (Kd.S_far (p := ⟨ao, 2, none⟩) (Kd.S_far (p := ⟨ao, 1, none⟩) (Kd.S_far (p := ⟨ao, 0, none⟩) (Kd.S_types bb.out ah.out (by decide)) (fun _ hk => hk.2) (.slice aA ap.length aB)) (fun _ hk => hk.2) (.slice bk aE.length bl)) (fun _ hk => hk.2) (.slice aC aq.length aD)) (fun _ hk => trivial)⟩, ⟨kg af⟩, ⟨kg ag⟩, ⟨kg ah⟩, ⟨kh HB⟩⟩
 case round =>
  clear H';(try clear bD bE Z11 Z17 Z9);obtain ⟨ae, ak, al, rfl, HA, HK1, ai, aa, aj, af, ag, ah, HB⟩ := hrel
  cases gk with
  | zero => exact absurd HA.out (by simp [tune_Fold.l0])
  | succ k1 =>
   have H := HA.out;clear HA;simp only [tune_Fold.l0] at H
   by_cases c20 : ae < (aE.length : Int)
   rotate_left
   ·rw [if_neg c20] at H
    have bw := decide_eq_false c20;clear c20;simp only [Option.some.injEq, Prod.mk.injEq] at H;obtain ⟨rfl, rfl, rfl, rfl⟩ := H;have cm := aG.out;have cn := aF.out;have co := aI.out;have cp := aH.out;have Z32 := kz3 ah;have cq := ay.out;have cr := ax.out;have Z34 := kz3 ag;obtain ⟨bm, bn, bT⟩ := Kd.R_slice aa.out;subst bT;go_wp2;refine bodyPost_ret (results_ct rfl _ _ an 26 #[.slice aA ap.length aB, .slice bm ak.length bn, .slice aC aq.length aD] (0, 0) _ rfl (kg ag) Try.underlying26 rfl (by kernel_rfl)) rfl ?_;exact ⟨_, _, _, er, by (with_reducible repeat first | apply Kd.R_alloc | apply Kd.R_drewN | apply Kd.R_drew); exact Kd.R_mono (Kd.R_far (p := ⟨an, 2, none⟩) (Kd.R_far (p := ⟨an, 1, none⟩) (Kd.R_far (p := ⟨an, 0, none⟩) (Kd.R_types ai.out ag.out (by decide)) (fun _ hk => hk.2) (.slice aA ap.length aB)) (fun _ hk => hk.2) (.slice bm ak.length bn)) (fun _ hk => hk.2) (.slice aC aq.length aD)) (fun _ hk => trivial), by (with_reducible repeat first | apply Kd.R_alloc | apply Kd.R_drewN | apply Kd.R_drew); exact Kd.R_mono (Kd.R_far (p := ⟨an, 2, none⟩) (Kd.R_far (p := ⟨an, 1, none⟩) (Kd.R_far (p := ⟨an, 0, none⟩) (Kd.R_types aa.out ag.out (by decide)) (fun _ hk => hk.2) (.slice aA ap.length aB)) (fun _ hk => hk.2) (.slice bm ak.length bn)) (fun _ hk => hk.2) (.slice aC aq.length aD)) (fun _ hk => trivial), by (with_reducible repeat first | apply Kd.S_alloc | apply Kd.S_drewN | apply Kd.S_drew); exact Kd.S_mono (Kd.S_far (p := ⟨an, 2, none⟩) (Kd.S_far (p := ⟨an, 1, none⟩) (Kd.S_far (p := ⟨an, 0, none⟩) (Kd.S_types aj.out ag.out (by decide)) (fun _ hk => hk.2) (.slice aA ap.length aB)) (fun _ hk => hk.2) (.slice bm ak.length bn)) (fun _ hk => hk.2) (.slice aC aq.length aD)) (fun _ hk => trivial), kh HB⟩
   rw [if_pos c20] at H;have bw := decide_eq_true c20;clear c20;have H' := Aside0.mk H;clear H;go_wp2;go_loopg [9] k1 (fun kq v9 w' => ∃ (bo : Bool) (ab : List (S61)) (al : Value), v9 = .bool bo ∧ Aside0 (tune_Fold.l1 kq a0 ae bo (aE.length : Int) ae ap ab aq = some (r1, r2, r3, r4)) ∧ Aside0 (kq ≤ k1) ∧ Aside0 (Kd.R k64 64 w' w.heap.size (fun _ => True) (.slice aA ap.length aB) ap) ∧ Aside0 (Kd.R k61 61 w' w.heap.size (fun _ => True) al ab) ∧ Aside0 (Kd.S k66 66 w' w.heap.size (fun _ => True) (.slice aC aq.length aD) aq) ∧ Aside0 (w'.heap[bj]? = some (.cells #[(.slice aJ ar.length aK), (.slice aL au.length aM), (.slice aN av.length aO)] 26 (0, 0))) ∧ Aside0 (w'.heap[an]? = some (.cells #[(.slice none 0 0), (.slice none 0 0), (.slice none 0 0)] 26 (0, 0))) ∧ Aside0 (w'.heap[ao]? = some (.cells #[(.slice aA ap.length aB), al, (.slice aC aq.length aD)] 26 (0, 0))) ∧ Aside0 (Below w.heap.size w w'))
   case atStart => exact ⟨(true), (ak), (al), et, H', ⟨Nat.le_refl _⟩, ⟨krR ai⟩, ⟨krR aa⟩, ⟨krS aj⟩, ⟨kg af⟩, ⟨kg ag⟩, ⟨kg ah⟩, ⟨kh HB⟩⟩
   case round =>
    clear H'; (try clear bw);obtain ⟨bo, ab, al, rfl, HA, HK2, ai, aa, aj, af, ag, ah, HB⟩ := hrel
    cases gk with
    | zero => exact absurd HA.out (by simp [tune_Fold.l1])
    | succ k2 =>
     have H := HA.out;clear HA;simp only [tune_Fold.l1] at H
     by_cases c21 : bo = true
     rotate_left
     ·replace c21 := Bool.eq_false_iff.mpr c21
      subst c21;replace H := ifF H;have H' := Aside0.mk H;clear H;go_wp2;go_roundg k2
      case measure => have := HK1.out; have := HK2.out; omega
      case rel => exact ⟨(wrap64 (ae + 1)), (ab), (al), et, H', ⟨by have := HK1.out; have := HK2.out; omega⟩, ⟨krR ai⟩, ⟨krR aa⟩, ⟨krS aj⟩, ⟨kg af⟩, ⟨kg ag⟩, ⟨kg ah⟩, ⟨kh HB⟩⟩
     subst c21;replace H := ifT H
     by_cases c22 : 0 ≤ ae
     rotate_left
     ·rw [if_neg c22] at H
      exact absurd H (by simp)
     rw [if_pos c22] at H;have ct := decide_eq_true c22;clear c22
     by_cases c23 : ae < (ab.length : Int)
     rotate_left
     ·rw [if_neg c23] at H
      exact absurd H (by simp)
     rw [if_pos c23] at H;have cu := decide_eq_true c23;clear c23;replace H := Option.bind_eq_some_iff.mp H;obtain ⟨⟨aU, aV, aW, aX, bx⟩, bJ, H⟩ := H;(try dsimp only at H);have A24 := Aside0.mk bJ;clear bJ;obtain ⟨bK, aT⟩ : ∃ y_ : List (S61), y_ = (ab.set (ae : Int).toNat (⟨aU, aV, aW, aX⟩ : S61)) := ⟨_, rfl⟩
     replace H : (tune_Fold.l1 k2 a0 ae bx (aE.length : Int) ae ap bK aq) = some (r1, r2, r3, r4) := by first | (rw [aT]; with_reducible exact H) | (have H2_ := (Option.bind_some _ _).symm.trans H; rw [aT]; with_reducible exact H2_) | (have H2_ := (Option.bind_some _ _).symm.trans H; with_reducible exact H2_) | with_reducible exact H | (rw [aT]; exact H) | exact H
     have bL := Aside0.mk aT;clear aT;have H' := Aside0.mk H;clear H;(try go_wp2);replace ai := kFR ai; replace aa := kFR aa; replace aj := kFS aj; replace af := kD af; replace ag := kD ag; replace ah := kD ah; replace HB := kE HB;obtain ⟨cA, bz, bM⟩ := Kd.R_slice aa.out;(first | subst bM | (injection bM with f1_ f2_ f3_; have f4_ := f1_.symm; have f5_ := f3_.symm; clear f1_ f2_ f3_; subst f4_; subst f5_));have bA : 0 ≤ (ae : Int) := od;have bB : ae < (ab.length : Int) := od;obtain ⟨az, bU, aP, aQ, aR, aS⟩ := at_T61 (Kd.R_reads' aa.out).2.2 ae bA bB;cases bU;replace bA := eq_true bA; replace bB := eq_true bB;refine start_ (n := 18) (S := fun w' => w'.cell? ⟨ao, 0, none⟩ = some (.slice aA ap.length aB) ∧ w'.cell? ⟨ao, 1, none⟩ = some (.slice (some az) ab.length bz) ∧ w'.cell? ⟨ao, 2, none⟩ = some (.slice aC aq.length aD) ∧ w'.cell? (az.add ((ae).toNat * 4)) = some (.int .i64 ((rd_T61 ab ae).f0)) ∧ w'.cell? ⟨(az.add ((ae).toNat * 4)).block, (az.add ((ae).toNat * 4)).off + 1, none⟩ = some (.int .i64 ((rd_T61 ab ae).f1)) ∧ w'.cell? ⟨(az.add ((ae).toNat * 4)).block, (az.add ((ae).toNat * 4)).off + 2, none⟩ = some (.int .i64 ((rd_T61 ab ae).f2)) ∧ w'.cell? ⟨(az.add ((ae).toNat * 4)).block, (az.add ((ae).toNat * 4)).off + 3, none⟩ = some (.int .u64 ((rd_T61 ab ae).f3))) (ds := [16]) (bs 18 0) (by kernel_rfl) rfl rfl ⟨kk ah 0, kk ah 1, kk ah 2, aP, aQ, aR, aS⟩ (fun hHeld => ?_); refine with_tabW tune_Fold.tab10 tune_Fold.bits10 (fun HT_ HW_ => ?_);generalize wr.drew = w26 at ai aa aj af ag ah HB aP aQ aR aS hHeld ⊢;refine pu 0 (some 27) (bs 18 1) HT_ ?_;refine pu 2 (some 29) (bs 18 5) HT_ ?_;refine pu 3 (some 30) (bs 18 13) HT_ ?_;refine pu 4 (some 31) (bs 18 29) HT_ ?_;refine pu 6 (some 33) (bs 18 93) HT_ ?_;refine pu 8 (some 35) (bs 18 349) HT_ ?_;refine ta 1 (some 28) (bs 18 351) HT_ HW_ hHeld ?_;refine ta 5 (some 32) (bs 18 383) HT_ HW_ hHeld ?_;refine ta 7 (some 34) (bs 18 511) HT_ HW_ hHeld ?_;refine pu 9 (some 36) (bs 18 1023) HT_ ?_;refine ta 10 (some 37) (bs 18 2047) HT_ HW_ hHeld ?_;refine one_ (i := 11) (N := some 38) (bs 18 4095) rfl rfl (one_of HT_.out (by kernel_rfl)) (by decide) (fun K hK => ?_);refine goes_ Try.func39 (by kernel_rfl) rfl #[.int .u64 a0, .slice (some az) ab.length bz, .agg #[.int .i64 ((rd_T61 ab ae).f0), .int .i64 ((rd_T61 ab ae).f1), .int .i64 ((rd_T61 ab ae).f2), .int .u64 ((rd_T61 ab ae).f3)]] (by rfl) rfl rfl (by (try simp only [qM1, qM2, qM3]); first | done | rfl) ?_;(with_reducible refine (tune_folded.calls k2 a0 _ _ ab ((rd_T61 ab ae).f0) ((rd_T61 ab ae).f1) ((rd_T61 ab ae).f2) ((rd_T61 ab ae).f3) aU aV aW aX bx _ ?side1 ?side2 A24.out).mono ?_);(case side1 => repeat (first | exact (Kd.R_reads' aa.out).2.2 | (with_reducible first | refine Kd.C_alloc ?_ _ | refine Kd.C_drewN ?_ _ | refine Kd.C_drew ?_)));(case side2 => exact (Kd.R_reads' aa.out).2.1);rintro e w28 ⟨rfl, hb⟩;have HS3_ := (hb.cell (World.block_lt_of_cell? _ _ (hHeld.2.2.2.1))).trans (hHeld.2.2.2.1);have HS4_ := (hb.cell (World.block_lt_of_cell? _ _ (hHeld.2.2.2.2.1))).trans (hHeld.2.2.2.2.1);have HS5_ := (hb.cell (World.block_lt_of_cell? _ _ (hHeld.2.2.2.2.2.1))).trans (hHeld.2.2.2.2.2.1);have HS6_ := (hb.cell (World.block_lt_of_cell? _ _ (hHeld.2.2.2.2.2.2))).trans (hHeld.2.2.2.2.2.2);refine ⟨_, rfl, ?_⟩;replace ai := kR ai hb; replace aa := kR aa hb; replace aj := kS aj hb; replace af := kU af hb; replace ag := kU ag hb; replace ah := kU ah hb; replace HB := kH HB hb;(try clear hb);have p25 : 0 ≤ (ae : Int) := od;have q25 : (ae : Int) < ((ab.length : Int) : Int) := od;obtain ⟨aw, cB, bN, bO, gl25, cl25, HG25⟩ := Kd.R_form aa.out (by omega);(first | cases bN | (injection bN with ea_ en_ ec_; (first | subst ea_ | (injection ea_ with ea_; subst ea_)); subst ec_; clear en_));have cC := Aside0.mk bO;have bP := Aside0.mk HG25;clear bO gl25 HG25;(first | simp only [add_plain] at aP | skip);(first | simp only [add_plain] at aQ | skip);(first | simp only [add_plain] at aR | skip);(first | simp only [add_plain] at aS | skip);obtain ⟨ce25, hcl25, hM25, hcc25, hfr25⟩ := Kd.R_elem aa.out z61 (ae : Int) p25 q25;obtain rfl := k61_openM hM25;have bV : World.cell? _ ⟨aw, (ae : Int).toNat * 4, none⟩ = some (.int .i64 ((rd_T61 ab ae).f0)) := hcc25 0 _ rfl;have bW : World.cell? _ ⟨aw, (ae : Int).toNat * 4 + 1, none⟩ = some (.int .i64 ((rd_T61 ab ae).f1)) := hcc25 1 _ rfl;have bX : World.cell? _ ⟨aw, (ae : Int).toNat * 4 + 2, none⟩ = some (.int .i64 ((rd_T61 ab ae).f2)) := hcc25 2 _ rfl;have bY : World.cell? _ ⟨aw, (ae : Int).toNat * 4 + 3, none⟩ = some (.int .u64 ((rd_T61 ab ae).f3)) := hcc25 3 _ rfl;have bZ : World.frozen? _ ⟨aw, (ae : Int).toNat * 4, none⟩ = false := hfr25 0;have ca : World.frozen? _ ⟨aw, (ae : Int).toNat * 4 + 1, none⟩ = false := hfr25 1;have cb : World.frozen? _ ⟨aw, (ae : Int).toNat * 4 + 2, none⟩ = false := hfr25 2;have cc : World.frozen? _ ⟨aw, (ae : Int).toNat * 4 + 3, none⟩ = false := hfr25 3;clear hcl25 hcc25 hfr25 hM25; replace p25 := eq_true p25; replace q25 := eq_true q25;obtain ⟨ce29, hcl29, hM29, hcc29, hfr29⟩ := Kd.R_elem aa.out z61 (ae : Int) od (by have h_ : (ae : Int) < ((ab.length : Int) : Int) := od; first | exact h_ | (have e_ := (Kd.R_reads' aa.out).1; omega) | simpa using h_);obtain rfl := k61_openM hM29;have bC := (Kd.R_seg aa.out (ae : Int) od (by have h_ : (ae : Int) < ((ab.length : Int) : Int) := od; first | exact h_ | (have e_ := (Kd.R_reads' aa.out).1; omega) | simpa using h_) (seg := [.int .i64 aU, .int .i64 aV, .int .i64 aW, .int .u64 aX]) (j := 0) hcl29 hcc29 (show 4 ≤ 4 from by decide) (x' := (⟨aU, aV, aW, aX⟩ : S61)) (k61_mkM _ _ _ (⟨aU, aV, aW, aX⟩ : S61) ) (fun _ hk => hk)).1;rw [← bL.out] at bC;have cd := Aside0.mk bC;clear hcl29 hcc29 hfr29 hM29 bC;refine hK.out _ _ ⟨kk ah 0, kk ah 1, kk ah 2, HS3_, HS4_, HS5_, HS6_⟩ (fun hHeld => ?_);clear hK K;refine no (some 38) ?_;refine pu 12 (some 26) (bs 18 8191) HT_ ?_;refine pu 13 (some 39) (bs 18 16383) HT_ ?_;refine pu 14 (some 40) (bs 18 32767) HT_ ?_;refine pu 15 (some 41) (bs 18 65535) HT_ ?_;refine last_ (i := 16) (N := none) (bs 18 131071) rfl rfl (one_of HT_.out (by kernel_rfl)) (by decide) (fun K hK => ?_);refine skip_ (w1 := ?_) (by rfl) rfl ?_ ?_
     rotate_left
     ·go_simp
      rfl
     refine hK.out _ _ ?_;clear hK K;refine pu 17 (some 9) (bs 18 262143) HT_ ?_;refine done_ (done_of HT_.out (by kernel_rfl)) ?_;(try go_wp2);go_roundg k2
     case measure => have := HK1.out; have := HK2.out; omega
     case rel => exact ⟨(bx), (bK), (.slice (some ⟨aw, 0, none⟩) ab.length bz), et, H', ⟨by have := HK1.out; have := HK2.out; omega⟩, ⟨by (with_reducible repeat first | apply Kd.R_alloc | apply Kd.R_drewN | apply Kd.R_drew); exact Kd.R_mono (Kd.R_far (p := ⟨aw, (ae : Int).toNat * 4 + 3, none⟩) (Kd.R_far (p := ⟨aw, (ae : Int).toNat * 4 + 2, none⟩) (Kd.R_far (p := ⟨aw, (ae : Int).toNat * 4 + 1, none⟩) (Kd.R_far (p := ⟨aw, (ae : Int).toNat * 4, none⟩) (Kd.R_types ai.out bP.out (by decide)) (fun _ hk => hk.2) (.int .i64 aU)) (fun _ hk => hk.2) (.int .i64 aV)) (fun _ hk => hk.2) (.int .i64 aW)) (fun _ hk => hk.2) (.int .u64 aX)) (fun _ hk => trivial)⟩, ⟨krR cd⟩, ⟨by (with_reducible repeat first | apply Kd.S_alloc | apply Kd.S_drewN | apply Kd.S_drew); exact Kd.S_mono (Kd.S_far (p := ⟨aw, (ae : Int).toNat * 4 + 3, none⟩) (Kd.S_far (p := ⟨aw, (ae : Int).toNat * 4 + 2, none⟩) (Kd.S_far (p := ⟨aw, (ae : Int).toNat * 4 + 1, none⟩) (Kd.S_far (p := ⟨aw, (ae : Int).toNat * 4, none⟩) (Kd.S_types aj.out bP.out (by decide)) (fun _ hk => hk.2) (.int .i64 aU)) (fun _ hk => hk.2) (.int .i64 aV)) (fun _ hk => hk.2) (.int .i64 aW)) (fun _ hk => hk.2) (.int .u64 aX)) (fun _ hk => trivial)⟩, ⟨by (with_reducible repeat first | refine blk_drewN ?_ _ | refine blk_drew ?_ | refine blk_alloc ?_ _); refine blk_far ?_ (by have h_ := Kd.R_ne aa.out af.out (by decide); intro e_; exact h_ (by rw [e_]; rfl)) _; (with_reducible repeat first | refine blk_drewN ?_ _ | refine blk_drew ?_ | refine blk_alloc ?_ _); refine blk_far ?_ (by have h_ := Kd.R_ne aa.out af.out (by decide); intro e_; exact h_ (by rw [e_]; rfl)) _; (with_reducible repeat first | refine blk_drewN ?_ _ | refine blk_drew ?_ | refine blk_alloc ?_ _); refine blk_far ?_ (by have h_ := Kd.R_ne aa.out af.out (by decide); intro e_; exact h_ (by rw [e_]; rfl)) _; (with_reducible repeat first | refine blk_drewN ?_ _ | refine blk_drew ?_ | refine blk_alloc ?_ _); refine blk_far ?_ (by have h_ := Kd.R_ne aa.out af.out (by decide); intro e_; exact h_ (by rw [e_]; rfl)) _; (with_reducible repeat first | refine blk_drewN ?_ _ | refine blk_drew ?_ | refine blk_alloc ?_ _); exact af.out⟩, ⟨by (with_reducible repeat first | refine blk_drewN ?_ _ | refine blk_drew ?_ | refine blk_alloc ?_ _); refine blk_far ?_ (by have h_ := Kd.R_ne aa.out ag.out (by decide); intro e_; exact h_ (by rw [e_]; rfl)) _; (with_reducible repeat first | refine blk_drewN ?_ _ | refine blk_drew ?_ | refine blk_alloc ?_ _); refine blk_far ?_ (by have h_ := Kd.R_ne aa.out ag.out (by decide); intro e_; exact h_ (by rw [e_]; rfl)) _; (with_reducible repeat first | refine blk_drewN ?_ _ | refine blk_drew ?_ | refine blk_alloc ?_ _); refine blk_far ?_ (by have h_ := Kd.R_ne aa.out ag.out (by decide); intro e_; exact h_ (by rw [e_]; rfl)) _; (with_reducible repeat first | refine blk_drewN ?_ _ | refine blk_drew ?_ | refine blk_alloc ?_ _); refine blk_far ?_ (by have h_ := Kd.R_ne aa.out ag.out (by decide); intro e_; exact h_ (by rw [e_]; rfl)) _; (with_reducible repeat first | refine blk_drewN ?_ _ | refine blk_drew ?_ | refine blk_alloc ?_ _); exact ag.out⟩, ⟨by (with_reducible repeat first | refine blk_drewN ?_ _ | refine blk_drew ?_ | refine blk_alloc ?_ _); refine blk_far ?_ (by have h_ := Kd.R_ne aa.out ah.out (by decide); intro e_; exact h_ (by rw [e_]; rfl)) _; (with_reducible repeat first | refine blk_drewN ?_ _ | refine blk_drew ?_ | refine blk_alloc ?_ _); refine blk_far ?_ (by have h_ := Kd.R_ne aa.out ah.out (by decide); intro e_; exact h_ (by rw [e_]; rfl)) _; (with_reducible repeat first | refine blk_drewN ?_ _ | refine blk_drew ?_ | refine blk_alloc ?_ _); refine blk_far ?_ (by have h_ := Kd.R_ne aa.out ah.out (by decide); intro e_; exact h_ (by rw [e_]; rfl)) _; (with_reducible repeat first | refine blk_drewN ?_ _ | refine blk_drew ?_ | refine blk_alloc ?_ _); refine blk_far ?_ (by have h_ := Kd.R_ne aa.out ah.out (by decide); intro e_; exact h_ (by rw [e_]; rfl)) _; (with_reducible repeat first | refine blk_drewN ?_ _ | refine blk_drew ?_ | refine blk_alloc ?_ _); exact ah.out⟩, ⟨kh HB⟩⟩
section
open Go.Shelf
attribute [local go_sem] Oper.semAt_some
def api_Gate_51_upto {α : Type} (f : Nat → α) (k : Nat) : List α := (List.range k).map f
theorem api_Gate_51_upto_succ {α : Type} (f : Nat → α) (k : Nat) : api_Gate_51_upto f (k + 1) = api_Gate_51_upto f k ++ [f k] := by simp [api_Gate_51_upto, List.range_succ]
theorem api_Gate_51_upto_length {α : Type} (f : Nat → α) (k : Nat) : (api_Gate_51_upto f k).length = k := by simp [api_Gate_51_upto]
def api_Gate_51_val (x : S61) : Value := .agg #[.int .i64 x.f0, .int .i64 x.f1, .int .i64 x.f2, .int .u64 x.f3]
def api_Gate_51_enc (xs : List S61) (len x : Nat) : Array Value := #[.int .i64 ((min x (len - 1) : Nat) : Int), api_Gate_51_val (rd_T61 xs ((min x (len - 1) : Nat) : Int))]
theorem api_Gate_51_enc_at (xs : List S61) (len i : Nat) (h : i < len) : api_Gate_51_enc xs len i = #[.int .i64 (i : Int), .agg #[.int .i64 (rd_T61 xs (i : Int)).f0, .int .i64 (rd_T61 xs (i : Int)).f1, .int .i64 (rd_T61 xs (i : Int)).f2, .int .u64 (rd_T61 xs (i : Int)).f3]] := by
 unfold api_Gate_51_enc api_Gate_51_val;rw [show min i (len - 1) = i by omega]
def api_Gate_51_Kp (n₀ Bs : Nat) (W W' : World) : Prop := Below n₀ W W' ∧ W'.heap[Bs]? = W.heap[Bs]?
theorem api_Gate_51_Kp_t {n₀ Bs : Nat} {A B C : World} (h : api_Gate_51_Kp n₀ Bs A B) (k : api_Gate_51_Kp n₀ Bs B C) : api_Gate_51_Kp n₀ Bs A C := ⟨h.1.trans k.1, k.2.trans h.2⟩
theorem api_Gate_51_Kp_b {n₀ Bs : Nat} {w : World} (hn : n₀ ≤ w.heap.size) (hs : Bs < w.heap.size) (W : World) (l : Nat) (o o' : Obj) (hl : w.heap.size ≤ l) (h : W.heap[l]? = some o) (h1 : o.isCells = false) (h2 : o.isWalk = false) : api_Gate_51_Kp n₀ Bs W (W.putObj l o') :=
 ⟨belowK_b hn W l o o' hl h h1 h2, World.putObj_heap_other (by omega)⟩
theorem api_Gate_51_in (F : Fence) (n : Nat) (h7 : F.fn 77) (hro : F.round = none) (hn : 1 ≤ n) (l Bs n₀ cap : Nat) (A : Option Addr) (len : Nat) (xs : List S61) (hA : ∀ ad, A = some ad → 0 < len → ad.block < n₀) (J Jx : List Nat → World → Prop)
  (hY : ∀ pre (x : Nat) W, J pre W → pre.length < len → YieldAt F (n - 1) Try.prog l (api_Gate_51_enc xs len x) W fun e W' =>
   (e = .returned (.bool true) ∧ J (pre ++ [x]) W' ∧ api_Gate_51_Kp n₀ Bs W W') ∨ (e = .returned (.bool false) ∧ Jx (pre ++ [x]) W'))
  (W : World) (hBs : W.cell? ⟨Bs, 0, none⟩ = some (.slice A len cap)) (hlen : len ≤ 9223372036854775807) (hc : Kd.C k61 W A len xs) (h0 : J [] W) :
  CallsIn F n Try.prog 77 #[.func (.yield l) #[] #[], .pointer (some ⟨Bs, 0, none⟩)] W fun e W' => (∃ v, e = .returned v) ∧
   ((∃ ys, ys = api_Gate_51_upto (fun k => len - 1 - k) len ∧ J ys W') ∨ (∃ pre, (∃ k, k ≤ len ∧ pre = api_Gate_51_upto (fun k => len - 1 - k) k) ∧ Jx pre W')) := by
 refine callsIn_of_wp Try.func77 rfl h7 ?_ hro;simp only [Try.ntmps77, List.size_toArray, List.length_cons, List.length_nil, Nat.reduceAdd, Nat.reduceSub, Array.replicate_succ, Array.replicate_zero, List.push_toArray, List.append_toArray, List.nil_append, List.cons_append];have HC := Aside0.mk hc;clear hc
 gi_wp2
 gi_loopw [3] (fun i wr => ∃ k : Nat, k ≤ len ∧ i = .int .i64 ((len : Int) - 1 - k) ∧ J (api_Gate_51_upto (fun k => len - 1 - k) k) wr ∧ api_Gate_51_Kp n₀ Bs W wr)
  (fun i _ => (intOf i + 1).toNat)
 case atStart => exact ⟨0, Nat.zero_le _, by simp, h0, Below.refl _ _, rfl⟩
 case round =>
  obtain ⟨k, hk, rfl, hJs, hnx⟩ := hrel
  have hBs' : wr.cell? ⟨Bs, 0, none⟩ = some (.slice A len cap) := by unfold World.cell? at hBs ⊢; rw [hnx.2]; exact hBs
  by_cases hlt : k < len
  rotate_left
  ·obtain rfl : k = len := by omega
   have hneg : (k : Int) - 1 - k = -1 := by omega
   rw [hneg];clear hneg
   gi_wp2
   go_end0;exact ⟨⟨_, rfl⟩, .inl ⟨_, rfl, hJs⟩⟩
  obtain ⟨i, hi⟩ : ∃ i : Nat, i = len - 1 - k := ⟨_, rfl⟩
  have hie : (len : Int) - 1 - k = i := by omega
  rw [hie]
  have hil : i < len := by omega
  obtain ⟨ad, rfl, hx0, hx1, hx2, hx3⟩ := at_T61 HC.out (i : Int) (by omega) (by omega)
  have hbk : (ad.add ((i : Int).toNat * 4)).block < n₀ := by rw [show (ad.add ((i : Int).toNat * 4)).block = ad.block by unfold Addr.add; split <;> rfl]; exact hA ad rfl (by omega)
  replace hx0 := (hnx.1.cell (p := ad.add ((i : Int).toNat * 4)) hbk).trans hx0;replace hx1 := (hnx.1.cell (p := ⟨(ad.add ((i : Int).toNat * 4)).block, (ad.add ((i : Int).toNat * 4)).off + 1, none⟩) hbk).trans hx1;replace hx2 := (hnx.1.cell (p := ⟨(ad.add ((i : Int).toNat * 4)).block, (ad.add ((i : Int).toNat * 4)).off + 2, none⟩) hbk).trans hx2;replace hx3 := (hnx.1.cell (p := ⟨(ad.add ((i : Int).toNat * 4)).block, (ad.add ((i : Int).toNat * 4)).off + 3, none⟩) hbk).trans hx3;clear hbk;simp only [Int.toNat_natCast] at hx0 hx1 hx2 hx3;obtain ⟨fn, tmps, assign, body, hy, hR⟩ := hY _ i wr hJs (by rw [api_Gate_51_upto_length]; exact hlt);have hnth : len - 1 - k = i := hi.symm;rw [api_Gate_51_enc_at xs len i hil] at hy;have HN := Aside0.mk hnth;have HI := Aside0.mk hi;have HIE := Aside0.mk hie;clear hnth hi hie
  have hi0 : 0 ≤ (i : Int) := by omega
  gi_wp2
  refine hR.mono ?_;rintro e W3 (⟨rfl, hJ3, hk3⟩ | ⟨rfl, hJx3⟩)
  ·gi_wp2
   go_roundw
   case rel => exact ⟨k + 1, by omega, by have := HIE.out; congr 1; omega, by rw [api_Gate_51_upto_succ, HN.out]; exact hJ3, api_Gate_51_Kp_t hnx hk3⟩
   case measure => have := HIE.out; simp [intOf]
  ·gi_wp2
   refine bodyPost_ret (results_none rfl _ _ _) rfl ?_;exact ⟨⟨_, rfl⟩, .inr ⟨_, ⟨k + 1, by omega, by rw [api_Gate_51_upto_succ, HN.out]⟩, hJx3⟩⟩
theorem api_Gate_51_mk (F : Fence) (n : Nat) (h5 : F.fn 51) (hro : F.round = none) (a : Option Addr) (len cap : Nat) (w : World) :
  CallsIn F n Try.prog 51 #[.slice a len cap] w fun e w' => e = .returned (.func (.func 77) #[] #[.pointer (some ⟨w.heap.size, 0, none⟩)]) ∧ w' = w.alloc (.cells #[.slice a len cap] 23) := by
 refine callsIn_of_wp Try.func51 rfl h5 ?_ hro;simp only [Try.ntmps51, List.size_toArray, List.length_cons, List.length_nil, Nat.reduceAdd, Nat.reduceSub, Array.replicate_succ, Array.replicate_zero, List.push_toArray, List.append_toArray, List.nil_append, List.cons_append]
 gi_wp2
 go_ret;exact ⟨rfl, rfl⟩
theorem api_Gate_51_stops (F : Fence) (n : Nat) (h7 : F.fn 77) (hro : F.round = none) (hn : 1 ≤ n) (Bs n₀ cap : Nat) (A : Option Addr) (len : Nat) (xs : List S61) (w : World) (hBs : Bs < w.heap.size) (hn₀ : n₀ ≤ w.heap.size) (hlen : len ≤ 9223372036854775807)
  (hc : w.cell? ⟨Bs, 0, none⟩ = some (.slice A len cap)) (hC : Kd.C k61 w A len xs) (hA : ∀ ad, A = some ad → 0 < len → ad.block < n₀) :
  SeqStopsK F n Try.prog 77 #[.pointer (some ⟨Bs, 0, none⟩)] (api_Gate_51_enc xs len) (api_Gate_51_Kp n₀ Bs) (fun ys => ys = api_Gate_51_upto (fun k => len - 1 - k) len)
   (fun pre => ∃ k, k ≤ len ∧ pre = api_Gate_51_upto (fun k => len - 1 - k) k) len w := fun l J Jx W hW _ _ hY h0 => by
 have hc' := (hW.cell (p := ⟨Bs, 0, none⟩) hBs).trans hc;exact api_Gate_51_in F n h7 hro hn l Bs n₀ cap A len xs hA J Jx hY W hc' hlen (Kd.C_below hC hW) h0
theorem api_Gate_51_rev (len : Nat) : api_Gate_51_upto (fun k => len - 1 - k) len = (List.range len).reverse := by
 apply List.ext_getElem
 ·simp [api_Gate_51_upto]
 ·intro i h1 h2
  simp [api_Gate_51_upto, List.getElem_reverse]
end
end Go.Proofs.Ytmlbliggbkfjnaa.J
