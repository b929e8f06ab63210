/- Part 5 of the proof of TuneDone: what the functions compute as plain Lean functions, that the machine comes to just these answers, and that the answer is true; no conditions. -/
import Derived.Test.YtmlbliggbkfjnaaTuneDoneZ0
import Derived.Test.YtmlbliggbkfjnaaTuneDoneZ1
import Derived.Test.YtmlbliggbkfjnaaTuneDoneZ2
import Derived.Test.YtmlbliggbkfjnaaTuneDoneZ3
import Derived.Test.YtmlbliggbkfjnaaTuneDoneZ4
import Derived.Deep.Slices
import Derived.ChangeArms
import Derived.DataReads
import Derived.SizedLaws
import Derived.WideShapes
import Derived.OpenShut
import Derived.Test.YtmlbliggbkfjnaaRows
import Derived.JoinedOf
import Derived.KernelRfl
set_option linter.unusedSimpArgs false
set_option linter.unusedVariables false
set_option maxHeartbeats 8000000
set_option maxRecDepth 100000
namespace Go.Proofs.Ytmlbliggbkfjnaa.J
open Go.RowKit Go.Proofs.YtmlbliggbkfjnaaW.PrintWords Go.Proofs.YtmlbliggbkfjnaaW.PrintLast Go.Proofs.YtmlbliggbkfjnaaW.PrintMore
attribute [local go_sem] max2_int min2_int max_two min_two max_three min_three max_four min_four
def qia.f (k : Nat) (a0 : Int) (af : List (S64)) (ag : List (S61)) (ah : List (S66)) : Option (Bool) := (qda.f k a0 af ag ah).bind fun ai => (if ai = 0 then ((qqa.f k a0 af ag ah).bind fun aa => (if aa.2 = true then (if 0 < (aa.1.length : Int) then ((tune_Fold.f k a0 ((rd_T26 aa.1 0).f0) ((rd_T26 aa.1 0).f1) ((rd_T26 aa.1 0).f2)).bind fun ab => (if 1 < (aa.1.length : Int) then ((tune_Share.f k a0 ((rd_T26 aa.1 1).f0) ((rd_T26 aa.1 1).f1) ((rd_T26 aa.1 1).f2)).bind fun ad => (if 2 < (aa.1.length : Int) then ((tune_Prune.f k a0 ((rd_T26 aa.1 2).f0) ((rd_T26 aa.1 2).f1) ((rd_T26 aa.1 2).f2)).bind fun ae => ((qpa.f k ab.1 ab.2.1 ab.2.2.1 ab.2.2.2 ((rd_T26 aa.1 0).f0) ((rd_T26 aa.1 0).f1) ((rd_T26 aa.1 0).f2) 0).bind fun aj => (if aj = true then ((qpa.f k ad.1 ad.2.1 ad.2.2.1 ad.2.2.2 ((rd_T26 aa.1 1).f0) ((rd_T26 aa.1 1).f1) ((rd_T26 aa.1 1).f2) 0).bind fun ak => (if ak = true then ((qpa.f k ae.1 ae.2.1 ae.2.2.1 ae.2.2.2 ((rd_T26 aa.1 2).f0) ((rd_T26 aa.1 2).f1) ((rd_T26 aa.1 2).f2) 0).bind fun al => (if al = true then ((qoa.f k).bind fun an => (some an)) else (some false))) else (some false))) else (some false)))) else (none))) else (none))) else (none)) else (some false))) else ((qoa.f k).bind fun ao => (some ao)))
def qia.T9 : Bool × List (List Nat × List Nat) := (true, [([], []), ([], []), ([], []), ([2], [2]), ([3], [3]), ([0, 1, 4], [0, 1, 4]), ([5, 5], [5]), ([6], [6]), ([6], [6]), ([6], [6]), ([9, 6], [6, 9]), ([10, 6], [6, 10]), ([7, 8, 11, 6, 6], [6, 7, 8, 11]), ([6, 12], [6, 12]), ([13, 12], [13]), ([14], [14]), ([14], [14]), ([14], [14]), ([17, 14], [14, 17]), ([18, 14], [14, 18]), ([15, 16, 19, 14, 14], [14, 15, 16, 19]), ([14, 20], [14, 20]), ([21, 20], [21]), ([22, 22], [22]), ([22, 23], [22, 23]), ([24, 23, 0, 1, 2, 3, 4, 5, 6, 7, 8, 9, 10, 11, 12, 13, 14, 15, 16, 17, 18, 19, 20, 21, 22, 23, 24], [24])])
def qia.B9 : List Nat := [0, 0, 0, 4, 12, 31, 63, 127, 127, 127, 639, 1663, 4095, 8191, 16383, 32767, 32767, 32767, 163839, 425983, 1048575, 2097151, 4194303, 8388607, 16777215, 33554431]
theorem qia.tab9 : rtab .any (opsOf Try.f10 9) = qia.T9 := by kernel_rfl
theorem qia.bits9 : waitsOk qia.T9.2 qia.B9 = true := by kernel_rfl
theorem qia.calls (k : Nat) (a0 : Int) (bL : Option Addr) (bM : Nat) (bv : List (S64)) (bN : Option Addr) (bO : Nat) (bw : List (S61)) (bP : Option Addr) (bQ : Nat) (bx : List (S66)) (r : Bool) (w : World) (ez : Kd.C k64 w bL bv.length bv) (eC : bv.length ≤ bM) (eD : Kd.C k61 w bN bw.length bw) (eE : bw.length ≤ bO) (eF : Kd.C k66 w bP bx.length bx) (eG : bx.length ≤ bQ) (h : qia.f k a0 bv bw bx = some r) (hrt : r = true := by rfl) :
  Calls Try.prog 10 #[.int .u64 a0, .agg #[.slice bL bv.length bM, .slice bN bw.length bO, .slice bP bx.length bQ]] w fun e w' => e = .returned (.bool r) ∧ Below w.heap.size w w' := by
 have HRT := Aside0.mk hrt;clear hrt;have hu26 := Try.underlying26;have dk := Aside0.mk ez;have dl := Aside0.mk eC;clear ez eC;have dm := Aside0.mk eD;have dn := Aside0.mk eE;clear eD eE;have dp := Aside0.mk eF;have dq := Aside0.mk eG;clear eF eG;have HB := Aside0.mk (Below.refl w.heap.size w);have H : ((qda.f k a0 bv bw bx).bind fun dr => (if dr = 0 then ((qqa.f k a0 bv bw bx).bind fun bp => (if bp.2 = true then (if 0 < (bp.1.length : Int) then ((tune_Fold.f k a0 ((rd_T26 bp.1 0).f0) ((rd_T26 bp.1 0).f1) ((rd_T26 bp.1 0).f2)).bind fun cz => (if 1 < (bp.1.length : Int) then ((tune_Share.f k a0 ((rd_T26 bp.1 1).f0) ((rd_T26 bp.1 1).f1) ((rd_T26 bp.1 1).f2)).bind fun cA => (if 2 < (bp.1.length : Int) then ((tune_Prune.f k a0 ((rd_T26 bp.1 2).f0) ((rd_T26 bp.1 2).f1) ((rd_T26 bp.1 2).f2)).bind fun cB => ((qpa.f k cz.1 cz.2.1 cz.2.2.1 cz.2.2.2 ((rd_T26 bp.1 0).f0) ((rd_T26 bp.1 0).f1) ((rd_T26 bp.1 0).f2) 0).bind fun eH => (if eH = true then ((qpa.f k cA.1 cA.2.1 cA.2.2.1 cA.2.2.2 ((rd_T26 bp.1 1).f0) ((rd_T26 bp.1 1).f1) ((rd_T26 bp.1 1).f2) 0).bind fun eI => (if eI = true then ((qpa.f k cB.1 cB.2.1 cB.2.2.1 cB.2.2.2 ((rd_T26 bp.1 2).f0) ((rd_T26 bp.1 2).f1) ((rd_T26 bp.1 2).f2) 0).bind fun eJ => (if eJ = true then ((qoa.f k).bind fun eK => (some eK)) else (some false))) else (some false))) else (some false)))) else (none))) else (none))) else (none)) else (some false))) else ((qoa.f k).bind fun eL => (some eL)))) = some r := h;clear h;replace H := qqB H;obtain ⟨dr, A30, H⟩ := H;(try dsimp only at H);have A3 := Aside0.mk A30;clear A30
 by_cases c4 : dr = 0
 rotate_left
 ·rw [if_neg c4] at H
  have fd := beq_eq_false_iff_ne.mpr c4;have ff := bne_iff_ne.mpr c4;replace H := qqB H;obtain ⟨eL, eP, H⟩ := H;(try dsimp only at H);have A58 := Aside0.mk eP;clear eP;obtain rfl := qqI H;go_enter Try.func10, Try.ntmps10;go_wp2_with (first | ((with_reducible refine gate_dst (N := 3) rfl ?_); refine box_event ?hg (N := 3) ?hd (cs := #[.slice bL bv.length bM, .slice bN bw.length bO, .slice bP bx.length bQ]) (t := 26) ?hr ?_; (case hd | hg => rfl); (case hr => go_simp; try rfl); intro aC hg w59 hbox hb; have ai := am hbox; have eQ := kG HB hg; have eR := kG HB hg; replace HB := kH HB hb; clear hb hbox hg; have Z60 := kz3 ai) | ((with_reducible refine gate_callee (f := 17) rfl ?_); refine goesL_ (some 15) rfl rfl Try.func17 (by kernel_rfl) rfl #[.int .u64 a0, .agg #[.slice bL bv.length bM, .slice bN bw.length bO, .slice bP bx.length bQ]] rfl (by (try simp only [qM1, qM2, qM3]); first | done | rfl) ?_; (with_reducible refine (qda.calls k a0 _ _ bv _ _ bw _ _ bx dr _ ?side1 ?side2 ?side3 ?side4 ?side5 ?side6 A3.out).mono ?_); (case side1 => repeat (first | exact (Kd.C_below dk.out HB.out) | (with_reducible first | refine Kd.C_alloc ?_ _ | refine Kd.C_drewN ?_ _ | refine Kd.C_drew ?_))); (case side2 => exact dl.out); (case side3 => repeat (first | exact (Kd.C_below dm.out HB.out) | (with_reducible first | refine Kd.C_alloc ?_ _ | refine Kd.C_drewN ?_ _ | refine Kd.C_drew ?_))); (case side4 => exact dn.out); (case side5 => repeat (first | exact (Kd.C_below dp.out HB.out) | (with_reducible first | refine Kd.C_alloc ?_ _ | refine Kd.C_drewN ?_ _ | refine Kd.C_drew ?_))); (case side6 => exact dq.out); rintro e w61 ⟨rfl, hb⟩; refine ⟨_, rfl, ?_⟩; replace ai := kU ai hb; replace HB := kH HB hb; (try clear hb); (try clear hb2); (try clear hk); (try clear hi)) | ((with_reducible refine gate_callee (f := 15) rfl ?_); refine goesL_ (some 17) rfl rfl Try.func15 (by kernel_rfl) rfl #[] rfl (by (try simp only [qM1, qM2, qM3]); first | done | rfl) ?_; (with_reducible refine (qoa.calls k  eL _ A58.out (by first | rfl | exact HRT.out)).mono ?_); rintro e w62 ⟨rfl, hb⟩; refine ⟨_, rfl, ?_⟩; replace ai := kU ai hb; replace HB := kH HB hb; (try clear hb); (try clear hb2); (try clear hk); (try clear hi)));go_ret;exact ⟨er, kh HB⟩
 rw [if_pos c4] at H;have fd := beq_iff_eq.mpr c4;have ff := bne_eq_false_iff_eq.mpr c4;clear c4;replace H := qqB H;obtain ⟨⟨ab, fg⟩, A50, H⟩ := H;(try dsimp only at H);have A5 := Aside0.mk A50;clear A50
 by_cases c6 : fg = true
 rotate_left
 ·replace c6 := Bool.eq_false_iff.mpr c6
  subst c6;replace H := ifF H;exact absurd ((qqI H).trans HRT.out) (by decide)
 subst c6;replace H := ifT H
 by_cases c7 : 0 < (ab.length : Int)
 rotate_left
 ·rw [if_neg c7] at H
  exact absurd H (by simp)
 rw [if_pos c7] at H;have fY := qqT c7;have fZ : decide (0 < ab.length) = true := qqT (by omega);clear c7;replace H := qqB H;obtain ⟨⟨aD, aE, aS, eM⟩, A80, H⟩ := H;(try dsimp only at H);have A8 := Aside0.mk A80;clear A80
 by_cases c9 : 1 < (ab.length : Int)
 rotate_left
 ·rw [if_neg c9] at H
  exact absurd H (by simp)
 rw [if_pos c9] at H;have ga := qqT c9;have gb : decide (1 < ab.length) = true := qqT (by omega);clear c9;replace H := qqB H;obtain ⟨⟨aL, aM, aX, eN⟩, eS, H⟩ := H;(try dsimp only at H);have A10 := Aside0.mk eS;clear eS
 by_cases c11 : 2 < (ab.length : Int)
 rotate_left
 ·rw [if_neg c11] at H
  exact absurd H (by simp)
 rw [if_pos c11] at H;have fE := qqT c11;have fF : decide (2 < ab.length) = true := qqT (by omega);clear c11;replace H := qqB H;obtain ⟨⟨aq, ar, av, eO⟩, eT, H⟩ := H;(try dsimp only at H);have A12 := Aside0.mk eT;clear eT;replace H := qqB H;obtain ⟨eH, eU, H⟩ := H;(try dsimp only at H);have A13 := Aside0.mk eU;clear eU
 by_cases c14 : eH = true
 rotate_left
 ·replace c14 := Bool.eq_false_iff.mpr c14
  subst c14;replace H := ifF H;exact absurd ((qqI H).trans HRT.out) (by decide)
 subst c14;replace H := ifT H;replace H := qqB H;obtain ⟨eI, eV, H⟩ := H;(try dsimp only at H);have A15 := Aside0.mk eV;clear eV
 by_cases c16 : eI = true
 rotate_left
 ·replace c16 := Bool.eq_false_iff.mpr c16
  subst c16;replace H := ifF H;exact absurd ((qqI H).trans HRT.out) (by decide)
 subst c16;replace H := ifT H;replace H := qqB H;obtain ⟨eJ, eW, H⟩ := H;(try dsimp only at H);have A17 := Aside0.mk eW;clear eW
 by_cases c18 : eJ = true
 rotate_left
 ·replace c18 := Bool.eq_false_iff.mpr c18
  subst c18;replace H := ifF H;exact absurd ((qqI H).trans HRT.out) (by decide)
 subst c18;replace H := ifT H;replace H := qqB H;obtain ⟨eK, eX, H⟩ := H;(try dsimp only at H);have A19 := Aside0.mk eX;clear eX;obtain rfl := qqI H;go_enter Try.func10, Try.ntmps10;(try go_wp2_with (first | ((with_reducible refine gate_dst (N := 3) rfl ?_); refine box_event ?hg (N := 3) ?hd (cs := #[.slice bL bv.length bM, .slice bN bw.length bO, .slice bP bx.length bQ]) (t := 26) ?hr ?_; (case hd | hg => rfl); (case hr => go_simp; try rfl); intro aC hg w20 hbox hb; have ai := am hbox; have eQ := kG HB hg; have eR := kG HB hg; replace HB := kH HB hb; clear hb hbox hg; have Z21 := kz3 ai) | ((with_reducible refine gate_callee (f := 17) rfl ?_); refine goesL_ (some 15) rfl rfl Try.func17 (by kernel_rfl) rfl #[.int .u64 a0, .agg #[.slice bL bv.length bM, .slice bN bw.length bO, .slice bP bx.length bQ]] rfl (by (try simp only [qM1, qM2, qM3]); first | done | rfl) ?_; (with_reducible refine (qda.calls k a0 _ _ bv _ _ bw _ _ bx dr _ ?side1 ?side2 ?side3 ?side4 ?side5 ?side6 A3.out).mono ?_); (case side1 => repeat (first | exact (Kd.C_below dk.out HB.out) | (with_reducible first | refine Kd.C_alloc ?_ _ | refine Kd.C_drewN ?_ _ | refine Kd.C_drew ?_))); (case side2 => exact dl.out); (case side3 => repeat (first | exact (Kd.C_below dm.out HB.out) | (with_reducible first | refine Kd.C_alloc ?_ _ | refine Kd.C_drewN ?_ _ | refine Kd.C_drew ?_))); (case side4 => exact dn.out); (case side5 => repeat (first | exact (Kd.C_below dp.out HB.out) | (with_reducible first | refine Kd.C_alloc ?_ _ | refine Kd.C_drewN ?_ _ | refine Kd.C_drew ?_))); (case side6 => exact dq.out); rintro e w22 ⟨rfl, hb⟩; refine ⟨_, rfl, ?_⟩; replace ai := kU ai hb; replace HB := kH HB hb; (try clear hb); (try clear hb2); (try clear hk); (try clear hi); have Z23 := kz3 ai) | ((with_reducible refine gate_callee (f := 27) rfl ?_); refine goesL_ (some 21) rfl rfl Try.func27 (by kernel_rfl) rfl #[.int .u64 a0, .agg #[.slice bL bv.length bM, .slice bN bw.length bO, .slice bP bx.length bQ]] rfl (by (try simp only [qM1, qM2, qM3]); first | done | rfl) ?_; (with_reducible refine (qqa.calls k a0 _ _ bv _ _ bw _ _ bx ab true _ ?side1 ?side2 ?side3 ?side4 ?side5 ?side6 A5.out).mono ?_); (case side1 => repeat (first | exact (Kd.C_below dk.out HB.out) | (with_reducible first | refine Kd.C_alloc ?_ _ | refine Kd.C_drewN ?_ _ | refine Kd.C_drew ?_))); (case side2 => exact dl.out); (case side3 => repeat (first | exact (Kd.C_below dm.out HB.out) | (with_reducible first | refine Kd.C_alloc ?_ _ | refine Kd.C_drewN ?_ _ | refine Kd.C_drew ?_))); (case side4 => exact dn.out); (case side5 => repeat (first | exact (Kd.C_below dp.out HB.out) | (with_reducible first | refine Kd.C_alloc ?_ _ | refine Kd.C_drewN ?_ _ | refine Kd.C_drew ?_))); (case side6 => exact dq.out); rintro e w24 ⟨gc, rfl, ho0, hb⟩; refine ⟨_, rfl, ?_⟩; have aj := Aside0.mk (Kd.N_lower (Kd.N_mono (ok' := fun k_ => k_ ≠ aC) ho0 (fun k_ hk_ => (Kd.freshB (g := aC) (o := .cells #[.slice bL bv.length bM, .slice bN bw.length bO, .slice bP bx.length bQ] 26 (0, 0)) (kb ai) k_ hk_))) (below_size (kh HB))); replace ai := kU ai hb; replace HB := kH HB hb; (try clear hb); (try clear hb2); (try clear hk); (try clear hi); (try clear ho0); obtain ⟨gd, bq, fh⟩ := Kd.N_slice aj.out; subst fh; have dR : 0 ≤ (0 : Int) := (by omega); have dS : 0 < (ab.length : Int) := od; obtain ⟨ak, cm, cn, co, cp, cq, cr, fi, ca, cb, cc, cC, hi796_0, cD, hi796_1, cF, hi796_2⟩ := at_T26 (Kd.N_reads' aj.out).2.2 0 dR dS; cases fi; obtain ⟨ce796, hce796, hMe796, hcc796⟩ := Kd.N_get aj.out z26 0 dR (by first | exact dS | exact od | (have e_ := (Kd.N_reads' aj.out).1; omega)); obtain ⟨ua796_0, uc796_0, ua796_1, uc796_1, ua796_2, uc796_2, rfl, ul796_0, ge796_0, ul796_1, ge796_1, ul796_2, ge796_2⟩ := k26_openF hMe796; have hv796_0 := hcc796 0 _ rfl; rw [Nat.add_zero] at hv796_0; replace hv796_0 := qqI (hv796_0.symm.trans ca); injection hv796_0 with hva_ hvn_ hvc_; rw [hva_] at ge796_0; rw [hvc_] at ul796_0; have af := Aside0.mk (show Kd.V k64 64 _ w.heap.size _ _ ((rd_T26 ab 0).f0) from Kd.V_mk ul796_0 ge796_0); clear hva_ hvn_ hvc_ ge796_0 ul796_0; have hv796_1 := hcc796 1 _ rfl; rw [add_field _ _ 1 (by omega)] at hv796_1; replace hv796_1 := qqI (hv796_1.symm.trans cb); injection hv796_1 with hva_ hvn_ hvc_; rw [hva_] at ge796_1; rw [hvc_] at ul796_1; have ag := Aside0.mk (show Kd.V k61 61 _ w.heap.size _ _ ((rd_T26 ab 0).f1) from Kd.V_mk ul796_1 ge796_1); clear hva_ hvn_ hvc_ ge796_1 ul796_1; have hv796_2 := hcc796 2 _ rfl; rw [add_field _ _ 2 (by omega)] at hv796_2; replace hv796_2 := qqI (hv796_2.symm.trans cc); injection hv796_2 with hva_ hvn_ hvc_; rw [hva_] at ge796_2; rw [hvc_] at ul796_2; have ah := Aside0.mk (show Kd.V k66 66 _ w.heap.size _ _ ((rd_T26 ab 0).f2) from Kd.V_mk ul796_2 ge796_2); clear hva_ hvn_ hvc_ ge796_2 ul796_2; clear hcc796 hce796; have qi796 : (0 < ab.length) = True := eq_true (by omega); (try rw [show ((0 : Int)).toNat = 0 from rfl] at ca); (try rw [show 0 * 3 = 0 from rfl] at ca); (try rw [Addr.add_zero'] at ca); (try rw [show ((0 : Int)).toNat = 0 from rfl] at cb); (try rw [show 0 * 3 = 0 from rfl] at cb); (try rw [Addr.add_zero'] at cb); (try rw [show ((0 : Int)).toNat = 0 from rfl] at cc); (try rw [show 0 * 3 = 0 from rfl] at cc); (try rw [Addr.add_zero'] at cc); have bz := Aside0.mk hi796_0; have dT := Aside0.mk cC; clear hi796_0 cC; have bA := Aside0.mk hi796_1; have dU := Aside0.mk cD; clear hi796_1 cD; have bB := Aside0.mk hi796_2; have dV := Aside0.mk cF; clear hi796_2 cF; replace dR := eq_true dR; replace dS := eq_true dS) | ((with_reducible refine gate_callee (f := 16) rfl ?_); refine goesL_ (some 31) rfl rfl Try.func16 (by kernel_rfl) rfl #[.int .u64 a0, .agg #[.slice cm ((rd_T26 ab 0).f0).length cn, .slice co ((rd_T26 ab 0).f1).length cp, .slice cq ((rd_T26 ab 0).f2).length cr]] rfl (by (try simp only [qM1, qM2, qM3]); first | done | rfl) ?_; (with_reducible refine (tune_Fold.calls k a0 _ _ ((rd_T26 ab 0).f0) _ _ ((rd_T26 ab 0).f1) _ _ ((rd_T26 ab 0).f2) aD aE aS eM _ ?side1 ?side2 ?side3 ?side4 ?side5 ?side6 A8.out).mono ?_); (case side1 => repeat (first | exact (Kd.V_reads' af.out).2.2 | (with_reducible first | refine Kd.C_alloc ?_ _ | refine Kd.C_drewN ?_ _ | refine Kd.C_drew ?_))); (case side2 => exact dT.out); (case side3 => repeat (first | exact (Kd.V_reads' ag.out).2.2 | (with_reducible first | refine Kd.C_alloc ?_ _ | refine Kd.C_drewN ?_ _ | refine Kd.C_drew ?_))); (case side4 => exact dU.out); (case side5 => repeat (first | exact (Kd.V_reads' ah.out).2.2 | (with_reducible first | refine Kd.C_alloc ?_ _ | refine Kd.C_drewN ?_ _ | refine Kd.C_drew ?_))); (case side6 => exact dV.out); rintro e w26 ⟨fj, fk, ge, rfl, ho0, ho1, ho2, hb⟩; refine ⟨_, rfl, ?_⟩; replace af := Aside0.mk (Kd.V_mono (Kd.V_told (Kd.V_told (Kd.V_told (Kd.V_old (krV af) hb) (Kd.R_base ho0)) (Kd.R_base ho1)) (by first | exact Kd.N_base ho2 | exact Kd.N_base (Kd.S_N ho2))) (fun _ h_ => h_.1)); replace ag := Aside0.mk (Kd.V_mono (Kd.V_told (Kd.V_told (Kd.V_told (Kd.V_old (krV ag) hb) (Kd.R_base ho0)) (Kd.R_base ho1)) (by first | exact Kd.N_base ho2 | exact Kd.N_base (Kd.S_N ho2))) (fun _ h_ => h_.1)); replace ah := Aside0.mk (Kd.V_mono (Kd.V_told (Kd.V_told (Kd.V_told (Kd.V_old (krV ah) hb) (Kd.R_base ho0)) (Kd.R_base ho1)) (by first | exact Kd.N_base ho2 | exact Kd.N_base (Kd.S_N ho2))) (fun _ h_ => h_.1)); have aJ := kLR ho0 HB; have aK := kLR ho1 HB; have aN := Aside0.mk (Kd.N_lower (Kd.N_mono (ok' := fun k_ => some k_ ≠ (fj : Value).ownBlock ∧ some k_ ≠ (fk : Value).ownBlock ∧ some k_ ≠ (.slice (some ak) ab.length bq : Value).ownBlock ∧ k_ ≠ aC) (Kd.S_N (Kd.S_bound (Kd.S_apart' (Kd.S_apart' ho2 (Kd.R_typed ho0) (by decide)) (Kd.R_typed ho1) (by decide)))) (fun k_ hk_ => ⟨hk_.1.1.2, hk_.1.2, (Kd.fresh' (Kd.N_lt (krN aj)) k_ hk_.2.1), (Kd.freshB (g := aC) (o := .cells #[.slice bL bv.length bM, .slice bN bw.length bO, .slice bP bx.length bQ] 26 (0, 0)) (kb ai) k_ hk_.2.1)⟩)) (below_size (kh HB))); replace aj := Aside0.mk (Kd.N_mono (Kd.N_told (Kd.N_told (Kd.N_told (Kd.N_old (krN aj) hb) (Kd.R_base ho0)) (Kd.R_base ho1)) (by first | exact Kd.N_base ho2 | exact Kd.N_base (Kd.S_N ho2))) (fun _ h_ => h_.1)); replace ai := kU ai hb; replace bz := Aside0.mk (Kd.V_reads' af.out).2.2; replace bA := Aside0.mk (Kd.V_reads' ag.out).2.2; replace bB := Aside0.mk (Kd.V_reads' ah.out).2.2; replace HB := kH HB hb; (try clear hb); (try clear hb2); (try clear hk); (try clear hi); (try clear ho0); (try clear ho1); (try clear ho2)) | ((with_reducible refine gate_dst (N := 7) rfl ?_); refine box_event ?hg (N := 7) ?hd (cs := #[.slice none 0 0, .slice none 0 0, .slice none 0 0]) (t := 26) ?hr ?_; (case hd | hg => rfl); (case hr => go_simp; try rfl); intro ae hg w27 hbox hb; replace aj := Aside0.mk (Kd.N_below (Kd.N_elderB (krN aj) ae (Nat.le_of_eq hg.symm)) hb); replace af := Aside0.mk (Kd.V_below (Kd.V_elderB (krV af) ae (Nat.le_of_eq hg.symm)) hb); replace ag := Aside0.mk (Kd.V_below (Kd.V_elderB (krV ag) ae (Nat.le_of_eq hg.symm)) hb); replace ah := Aside0.mk (Kd.V_below (Kd.V_elderB (krV ah) ae (Nat.le_of_eq hg.symm)) hb); replace aJ := kR aJ hb; replace aK := kR aK hb; replace aN := Aside0.mk (Kd.N_below (Kd.N_elderB (krN aN) ae (Nat.le_of_eq hg.symm)) hb); replace bz := Aside0.mk (Kd.V_reads' af.out).2.2; replace bA := Aside0.mk (Kd.V_reads' ag.out).2.2; replace bB := Aside0.mk (Kd.V_reads' ah.out).2.2; have al := am hbox; have fG := kG HB hg; have fH := kG HB hg; replace HB := kH HB hb; have cY := kP ai hg; have cZ := kQ ai hg; replace ai := kU ai hb; clear hb hbox hg; obtain ⟨aO, aP, fl⟩ := Kd.R_slice aJ.out; subst fl; have fI := cZ.out; have fJ := cY.out; have Z30 := kz3 al; obtain ⟨aQ, aR, fm⟩ := Kd.R_slice aK.out; subst fm; obtain ⟨aY, aZ, fn⟩ := Kd.N_slice aN.out; subst fn) | ((with_reducible refine gate_store (t := 26) (p := 7) rfl ?_); refine store_event (t := 26) (p := 7) (v := ?vo_w33) (w1 := (((w27.setCell ⟨ae, 0, none⟩ (.slice aO aD.length aP)).setCell ⟨ae, 1, none⟩ (.slice aQ aE.length aR)).setCell ⟨ae, 2, none⟩ (.slice aY aS.length aZ))) ?hg ?ho ?hn ?hr ?_; (case ho => rfl); (case hg => rfl); (case hn => rfl); (case hr => go_simp; try rfl); intro w33 hw; replace aj : Aside0 (Kd.N k26 26 w33 w.heap.size (fun k_ => some k_ ≠ (.slice aO aD.length aP : Value).ownBlock ∧ some k_ ≠ (.slice aQ aE.length aR : Value).ownBlock ∧ some k_ ≠ (.slice aY aS.length aZ : Value).ownBlock ∧ k_ ≠ aC ∧ k_ ≠ ae) (.slice (some ak) ab.length bq) ab) := ⟨(by rw [hw]; exact (by (with_reducible repeat first | apply Kd.N_alloc | apply Kd.N_drewN | apply Kd.N_drew); exact Kd.N_mono (Kd.N_far (p := ⟨ae, 2, none⟩) (Kd.N_far (p := ⟨ae, 1, none⟩) (Kd.N_far (p := ⟨ae, 0, none⟩) (Kd.N_mono aj.out (fun k_ hk => (⟨hk, hk.2⟩ : _ ∧ k_ ≠ ae))) (fun _ hk => hk.2) (.slice aO aD.length aP)) (fun _ hk => hk.2) (.slice aQ aE.length aR)) (fun _ hk => hk.2) (.slice aY aS.length aZ)) (fun _ hk => ⟨hk.1.1.1.1.2, ⟨hk.1.1.1.2, ⟨hk.1.1.2, ⟨hk.1.1.1.1.1, hk.1.2⟩⟩⟩⟩)))⟩; replace af : Aside0 (Kd.V k64 64 w33 w.heap.size (fun k_ => some k_ ≠ (.slice (some ak) ab.length bq : Value).ownBlock ∧ some k_ ≠ (.slice aO aD.length aP : Value).ownBlock ∧ some k_ ≠ (.slice aQ aE.length aR : Value).ownBlock ∧ some k_ ≠ (.slice aY aS.length aZ : Value).ownBlock ∧ k_ ≠ aC ∧ k_ ≠ ae) (.slice cm ((rd_T26 ab 0).f0).length cn) ((rd_T26 ab 0).f0)) := ⟨(by rw [hw]; exact (by (with_reducible repeat first | apply Kd.V_alloc | apply Kd.V_drewN | apply Kd.V_drew); exact Kd.V_mono (Kd.V_far (p := ⟨ae, 2, none⟩) (Kd.V_far (p := ⟨ae, 1, none⟩) (Kd.V_far (p := ⟨ae, 0, none⟩) (Kd.V_mono af.out (fun k_ hk => (⟨hk, hk.2⟩ : _ ∧ k_ ≠ ae))) (fun _ hk => hk.2) (.slice aO aD.length aP)) (fun _ hk => hk.2) (.slice aQ aE.length aR)) (fun _ hk => hk.2) (.slice aY aS.length aZ)) (fun _ hk => ⟨hk.1.1.1.1.1.2, ⟨hk.1.1.1.1.2, ⟨hk.1.1.1.2, ⟨hk.1.1.2, ⟨hk.1.1.1.1.1.1, hk.1.2⟩⟩⟩⟩⟩)))⟩; replace ag : Aside0 (Kd.V k61 61 w33 w.heap.size (fun k_ => some k_ ≠ (.slice (some ak) ab.length bq : Value).ownBlock ∧ some k_ ≠ (.slice aO aD.length aP : Value).ownBlock ∧ some k_ ≠ (.slice aQ aE.length aR : Value).ownBlock ∧ some k_ ≠ (.slice aY aS.length aZ : Value).ownBlock ∧ k_ ≠ aC ∧ k_ ≠ ae) (.slice co ((rd_T26 ab 0).f1).length cp) ((rd_T26 ab 0).f1)) := ⟨(by rw [hw]; exact (by (with_reducible repeat first | apply Kd.V_alloc | apply Kd.V_drewN | apply Kd.V_drew); exact Kd.V_mono (Kd.V_far (p := ⟨ae, 2, none⟩) (Kd.V_far (p := ⟨ae, 1, none⟩) (Kd.V_far (p := ⟨ae, 0, none⟩) (Kd.V_mono ag.out (fun k_ hk => (⟨hk, hk.2⟩ : _ ∧ k_ ≠ ae))) (fun _ hk => hk.2) (.slice aO aD.length aP)) (fun _ hk => hk.2) (.slice aQ aE.length aR)) (fun _ hk => hk.2) (.slice aY aS.length aZ)) (fun _ hk => ⟨hk.1.1.1.1.1.2, ⟨hk.1.1.1.1.2, ⟨hk.1.1.1.2, ⟨hk.1.1.2, ⟨hk.1.1.1.1.1.1, hk.1.2⟩⟩⟩⟩⟩)))⟩; replace ah : Aside0 (Kd.V k66 66 w33 w.heap.size (fun k_ => some k_ ≠ (.slice (some ak) ab.length bq : Value).ownBlock ∧ some k_ ≠ (.slice aO aD.length aP : Value).ownBlock ∧ some k_ ≠ (.slice aQ aE.length aR : Value).ownBlock ∧ some k_ ≠ (.slice aY aS.length aZ : Value).ownBlock ∧ k_ ≠ aC ∧ k_ ≠ ae) (.slice cq ((rd_T26 ab 0).f2).length cr) ((rd_T26 ab 0).f2)) := ⟨(by rw [hw]; exact (by (with_reducible repeat first | apply Kd.V_alloc | apply Kd.V_drewN | apply Kd.V_drew); exact Kd.V_mono (Kd.V_far (p := ⟨ae, 2, none⟩) (Kd.V_far (p := ⟨ae, 1, none⟩) (Kd.V_far (p := ⟨ae, 0, none⟩) (Kd.V_mono ah.out (fun k_ hk => (⟨hk, hk.2⟩ : _ ∧ k_ ≠ ae))) (fun _ hk => hk.2) (.slice aO aD.length aP)) (fun _ hk => hk.2) (.slice aQ aE.length aR)) (fun _ hk => hk.2) (.slice aY aS.length aZ)) (fun _ hk => ⟨hk.1.1.1.1.1.2, ⟨hk.1.1.1.1.2, ⟨hk.1.1.1.2, ⟨hk.1.1.2, ⟨hk.1.1.1.1.1.1, hk.1.2⟩⟩⟩⟩⟩)))⟩; replace aJ : Aside0 (Kd.R k64 64 w33 w.heap.size (fun _ => True) (.slice aO aD.length aP) aD) := ⟨(by rw [hw]; exact (by (with_reducible repeat first | apply Kd.R_alloc | apply Kd.R_drewN | apply Kd.R_drew); exact Kd.R_mono (Kd.R_far (p := ⟨ae, 2, none⟩) (Kd.R_far (p := ⟨ae, 1, none⟩) (Kd.R_far (p := ⟨ae, 0, none⟩) (Kd.R_types aJ.out al.out (by decide)) (fun _ hk => hk.2) (.slice aO aD.length aP)) (fun _ hk => hk.2) (.slice aQ aE.length aR)) (fun _ hk => hk.2) (.slice aY aS.length aZ)) (fun _ hk => trivial)))⟩; replace aK : Aside0 (Kd.R k61 61 w33 w.heap.size (fun _ => True) (.slice aQ aE.length aR) aE) := ⟨(by rw [hw]; exact (by (with_reducible repeat first | apply Kd.R_alloc | apply Kd.R_drewN | apply Kd.R_drew); exact Kd.R_mono (Kd.R_far (p := ⟨ae, 2, none⟩) (Kd.R_far (p := ⟨ae, 1, none⟩) (Kd.R_far (p := ⟨ae, 0, none⟩) (Kd.R_types aK.out al.out (by decide)) (fun _ hk => hk.2) (.slice aO aD.length aP)) (fun _ hk => hk.2) (.slice aQ aE.length aR)) (fun _ hk => hk.2) (.slice aY aS.length aZ)) (fun _ hk => trivial)))⟩; replace aN : Aside0 (Kd.N k66 66 w33 w.heap.size (fun k_ => some k_ ≠ (.slice (some ak) ab.length bq : Value).ownBlock ∧ some k_ ≠ (.slice aO aD.length aP : Value).ownBlock ∧ some k_ ≠ (.slice aQ aE.length aR : Value).ownBlock ∧ k_ ≠ aC ∧ k_ ≠ ae) (.slice aY aS.length aZ) aS) := ⟨(by rw [hw]; exact (by (with_reducible repeat first | apply Kd.N_alloc | apply Kd.N_drewN | apply Kd.N_drew); exact Kd.N_mono (Kd.N_far (p := ⟨ae, 2, none⟩) (Kd.N_far (p := ⟨ae, 1, none⟩) (Kd.N_far (p := ⟨ae, 0, none⟩) (Kd.N_mono aN.out (fun k_ hk => (⟨hk, hk.2⟩ : _ ∧ k_ ≠ ae))) (fun _ hk => hk.2) (.slice aO aD.length aP)) (fun _ hk => hk.2) (.slice aQ aE.length aR)) (fun _ hk => hk.2) (.slice aY aS.length aZ)) (fun _ hk => ⟨hk.1.1.2.2.1, ⟨hk.1.1.1, ⟨hk.1.1.2.1, ⟨hk.1.1.2.2.2, hk.1.2⟩⟩⟩⟩)))⟩; replace ai : Aside0 (w33.heap[aC]? = some (.cells #[.slice bL bv.length bM, .slice bN bw.length bO, .slice bP bx.length bQ] 26 (0, 0))) := ⟨(by rw [hw]; exact (kg ai))⟩; replace al : Aside0 (w33.heap[ae]? = some (.cells #[.slice aO aD.length aP, .slice aQ aE.length aR, .slice aY aS.length aZ] 26 (0, 0))) := ⟨(by rw [hw]; exact (kg al))⟩; replace HB : Aside0 (Below w.heap.size w w33) := ⟨(by rw [hw]; exact (kh HB))⟩; clear hw; have dW : 0 ≤ (1 : Int) := (by omega); have dX : 1 < (ab.length : Int) := od; obtain ⟨eY, ct, cu, cv, cw, cx, cy, fo, cd, ce, cf, cG, hi808_0, cH, hi808_1, cI, hi808_2⟩ := at_T26 (Kd.N_reads' aj.out).2.2 1 dW dX; obtain rfl : ak = eY := (by injection fo); obtain ⟨ce808, hce808, hMe808, hcc808⟩ := Kd.N_get aj.out z26 1 dW (by first | exact dX | exact od | (have e_ := (Kd.N_reads' aj.out).1; omega)); obtain ⟨ua808_0, uc808_0, ua808_1, uc808_1, ua808_2, uc808_2, rfl, ul808_0, ge808_0, ul808_1, ge808_1, ul808_2, ge808_2⟩ := k26_openF hMe808; have hv808_0 := hcc808 0 _ rfl; rw [Nat.add_zero] at hv808_0; replace hv808_0 := qqI (hv808_0.symm.trans cd); injection hv808_0 with hva_ hvn_ hvc_; rw [hva_] at ge808_0; rw [hvc_] at ul808_0; have an := Aside0.mk (show Kd.V k64 64 _ w.heap.size _ _ ((rd_T26 ab 1).f0) from Kd.V_mk ul808_0 ge808_0); clear hva_ hvn_ hvc_ ge808_0 ul808_0; have hv808_1 := hcc808 1 _ rfl; rw [add_field _ _ 1 (by omega)] at hv808_1; replace hv808_1 := qqI (hv808_1.symm.trans ce); injection hv808_1 with hva_ hvn_ hvc_; rw [hva_] at ge808_1; rw [hvc_] at ul808_1; have ao := Aside0.mk (show Kd.V k61 61 _ w.heap.size _ _ ((rd_T26 ab 1).f1) from Kd.V_mk ul808_1 ge808_1); clear hva_ hvn_ hvc_ ge808_1 ul808_1; have hv808_2 := hcc808 2 _ rfl; rw [add_field _ _ 2 (by omega)] at hv808_2; replace hv808_2 := qqI (hv808_2.symm.trans cf); injection hv808_2 with hva_ hvn_ hvc_; rw [hva_] at ge808_2; rw [hvc_] at ul808_2; have ap := Aside0.mk (show Kd.V k66 66 _ w.heap.size _ _ ((rd_T26 ab 1).f2) from Kd.V_mk ul808_2 ge808_2); clear hva_ hvn_ hvc_ ge808_2 ul808_2; clear hcc808 hce808; (try simp only [show (1 : Int).toNat = 1 from rfl, Nat.reduceMul, Nat.reduceEqDiff, Go.Addr.add, ↓reduceIte] at cd); (try simp only [show (1 : Int).toNat = 1 from rfl, Nat.reduceMul, Nat.reduceEqDiff, Go.Addr.add, ↓reduceIte] at ce); (try simp only [show (1 : Int).toNat = 1 from rfl, Nat.reduceMul, Nat.reduceEqDiff, Go.Addr.add, ↓reduceIte] at cf); have qi808 : (1 < ab.length) = True := eq_true (by omega); (try rw [show ((1 : Int)).toNat = 1 from rfl] at cd); (try rw [show 1 * 3 = 3 from rfl] at cd); (try rw [show ((1 : Int)).toNat = 1 from rfl] at ce); (try rw [show 1 * 3 = 3 from rfl] at ce); (try rw [show ((1 : Int)).toNat = 1 from rfl] at cf); (try rw [show 1 * 3 = 3 from rfl] at cf); have cg := Aside0.mk hi808_0; have dY := Aside0.mk cG; clear hi808_0 cG; have ch := Aside0.mk hi808_1; have dZ := Aside0.mk cH; clear hi808_1 cH; have ci := Aside0.mk hi808_2; have ea := Aside0.mk cI; clear hi808_2 cI; replace dW := eq_true dW; replace dX := eq_true dX) | ((with_reducible refine gate_callee (f := 20) rfl ?_); refine goesL_ (some 39) rfl rfl Try.func20 (by kernel_rfl) rfl #[.int .u64 a0, .agg #[.slice ct ((rd_T26 ab 1).f0).length cu, .slice cv ((rd_T26 ab 1).f1).length cw, .slice cx ((rd_T26 ab 1).f2).length cy]] rfl (by (try simp only [qM1, qM2, qM3]); first | done | rfl) ?_; (with_reducible refine (tune_Share.calls k a0 _ _ ((rd_T26 ab 1).f0) _ _ ((rd_T26 ab 1).f1) _ _ ((rd_T26 ab 1).f2) aL aM aX eN _ ?side1 ?side2 ?side3 ?side4 ?side5 ?side6 A10.out).mono ?_); (case side1 => repeat (first | exact (Kd.V_reads' an.out).2.2 | (with_reducible first | refine Kd.C_alloc ?_ _ | refine Kd.C_drewN ?_ _ | refine Kd.C_drew ?_))); (case side2 => exact dY.out); (case side3 => repeat (first | exact (Kd.V_reads' ao.out).2.2 | (with_reducible first | refine Kd.C_alloc ?_ _ | refine Kd.C_drewN ?_ _ | refine Kd.C_drew ?_))); (case side4 => exact dZ.out); (case side5 => repeat (first | exact (Kd.V_reads' ap.out).2.2 | (with_reducible first | refine Kd.C_alloc ?_ _ | refine Kd.C_drewN ?_ _ | refine Kd.C_drew ?_))); (case side6 => exact ea.out); rintro e w34 ⟨fp, fq, gf, rfl, ho0, ho1, ho2, hb⟩; refine ⟨_, rfl, ?_⟩; replace af := Aside0.mk (Kd.V_mono (Kd.V_told (Kd.V_told (Kd.V_told (Kd.V_old (krV af) hb) (Kd.R_base ho0)) (Kd.R_base ho1)) (by first | exact Kd.N_base ho2 | exact Kd.N_base (Kd.S_N ho2))) (fun _ h_ => h_.1)); replace ag := Aside0.mk (Kd.V_mono (Kd.V_told (Kd.V_told (Kd.V_told (Kd.V_old (krV ag) hb) (Kd.R_base ho0)) (Kd.R_base ho1)) (by first | exact Kd.N_base ho2 | exact Kd.N_base (Kd.S_N ho2))) (fun _ h_ => h_.1)); replace ah := Aside0.mk (Kd.V_mono (Kd.V_told (Kd.V_told (Kd.V_told (Kd.V_old (krV ah) hb) (Kd.R_base ho0)) (Kd.R_base ho1)) (by first | exact Kd.N_base ho2 | exact Kd.N_base (Kd.S_N ho2))) (fun _ h_ => h_.1)); replace an := Aside0.mk (Kd.V_mono (Kd.V_told (Kd.V_told (Kd.V_told (Kd.V_old (krV an) hb) (Kd.R_base ho0)) (Kd.R_base ho1)) (by first | exact Kd.N_base ho2 | exact Kd.N_base (Kd.S_N ho2))) (fun _ h_ => h_.1)); replace ao := Aside0.mk (Kd.V_mono (Kd.V_told (Kd.V_told (Kd.V_told (Kd.V_old (krV ao) hb) (Kd.R_base ho0)) (Kd.R_base ho1)) (by first | exact Kd.N_base ho2 | exact Kd.N_base (Kd.S_N ho2))) (fun _ h_ => h_.1)); replace ap := Aside0.mk (Kd.V_mono (Kd.V_told (Kd.V_told (Kd.V_told (Kd.V_old (krV ap) hb) (Kd.R_base ho0)) (Kd.R_base ho1)) (by first | exact Kd.N_base ho2 | exact Kd.N_base (Kd.S_N ho2))) (fun _ h_ => h_.1)); have bc := Aside0.mk (Kd.R_lower (Kd.R_new' ho0 (Kd.R_lt (krR aJ))) (below_size (kh HB))); have bd := Aside0.mk (Kd.R_lower (Kd.R_new' ho1 (Kd.R_lt (krR aK))) (below_size (kh HB))); have bf := Aside0.mk (Kd.N_lower (Kd.N_mono (ok' := fun k_ => some k_ ≠ (fp : Value).ownBlock ∧ some k_ ≠ (fq : Value).ownBlock ∧ some k_ ≠ (.slice (some ak) ab.length bq : Value).ownBlock ∧ some k_ ≠ (.slice aO aD.length aP : Value).ownBlock ∧ some k_ ≠ (.slice aQ aE.length aR : Value).ownBlock ∧ some k_ ≠ (.slice aY aS.length aZ : Value).ownBlock ∧ k_ ≠ aC ∧ k_ ≠ ae) (Kd.S_N (Kd.S_bound (Kd.S_apart' (Kd.S_apart' ho2 (Kd.R_typed ho0) (by decide)) (Kd.R_typed ho1) (by decide)))) (fun k_ hk_ => ⟨hk_.1.1.2, hk_.1.2, (Kd.fresh' (Kd.N_lt (krN aj)) k_ hk_.2.1), (Kd.fresh' (Kd.R_lt (krR aJ)) k_ hk_.2.1), (Kd.fresh' (Kd.R_lt (krR aK)) k_ hk_.2.1), (Kd.fresh' (Kd.N_lt (krN aN)) k_ hk_.2.1), (Kd.freshB (g := aC) (o := .cells #[.slice bL bv.length bM, .slice bN bw.length bO, .slice bP bx.length bQ] 26 (0, 0)) (kb ai) k_ hk_.2.1), (Kd.freshB (g := ae) (o := .cells #[.slice aO aD.length aP, .slice aQ aE.length aR, .slice aY aS.length aZ] 26 (0, 0)) (kb al) k_ hk_.2.1)⟩)) (below_size (kh HB))); replace aj := Aside0.mk (Kd.N_mono (Kd.N_told (Kd.N_told (Kd.N_told (Kd.N_old (krN aj) hb) (Kd.R_base ho0)) (Kd.R_base ho1)) (by first | exact Kd.N_base ho2 | exact Kd.N_base (Kd.S_N ho2))) (fun _ h_ => h_.1)); replace aJ := Aside0.mk (Kd.R_elder' (krR aJ) (Kd.R_base ho0) hb); replace aK := Aside0.mk (Kd.R_elder' (krR aK) (Kd.R_base ho1) hb); replace aN := Aside0.mk (Kd.N_mono (Kd.N_told (Kd.N_told (Kd.N_told (Kd.N_old (krN aN) hb) (Kd.R_base ho0)) (Kd.R_base ho1)) (by first | exact Kd.N_base ho2 | exact Kd.N_base (Kd.S_N ho2))) (fun _ h_ => h_.1)); replace ai := kU ai hb; replace bz := Aside0.mk (Kd.V_reads' af.out).2.2; replace bA := Aside0.mk (Kd.V_reads' ag.out).2.2; replace bB := Aside0.mk (Kd.V_reads' ah.out).2.2; replace al := kU al hb; replace cg := Aside0.mk (Kd.V_reads' an.out).2.2; replace ch := Aside0.mk (Kd.V_reads' ao.out).2.2; replace ci := Aside0.mk (Kd.V_reads' ap.out).2.2; replace HB := kH HB hb; (try clear hb); (try clear hb2); (try clear hk); (try clear hi); (try clear ho0); (try clear ho1); (try clear ho2)) | ((with_reducible refine gate_dst (N := 9) rfl ?_); refine box_event ?hg (N := 9) ?hd (cs := #[.slice none 0 0, .slice none 0 0, .slice none 0 0]) (t := 26) ?hr ?_; (case hd | hg => rfl); (case hr => go_simp; try rfl); intro ad hg w35 hbox hb; replace aj := Aside0.mk (Kd.N_below (Kd.N_elderB (krN aj) ad (Nat.le_of_eq hg.symm)) hb); replace af := Aside0.mk (Kd.V_below (Kd.V_elderB (krV af) ad (Nat.le_of_eq hg.symm)) hb); replace ag := Aside0.mk (Kd.V_below (Kd.V_elderB (krV ag) ad (Nat.le_of_eq hg.symm)) hb); replace ah := Aside0.mk (Kd.V_below (Kd.V_elderB (krV ah) ad (Nat.le_of_eq hg.symm)) hb); replace aJ := kR aJ hb; replace aK := kR aK hb; replace aN := Aside0.mk (Kd.N_below (Kd.N_elderB (krN aN) ad (Nat.le_of_eq hg.symm)) hb); replace an := Aside0.mk (Kd.V_below (Kd.V_elderB (krV an) ad (Nat.le_of_eq hg.symm)) hb); replace ao := Aside0.mk (Kd.V_below (Kd.V_elderB (krV ao) ad (Nat.le_of_eq hg.symm)) hb); replace ap := Aside0.mk (Kd.V_below (Kd.V_elderB (krV ap) ad (Nat.le_of_eq hg.symm)) hb); replace bc := kR bc hb; replace bd := kR bd hb; replace bf := Aside0.mk (Kd.N_below (Kd.N_elderB (krN bf) ad (Nat.le_of_eq hg.symm)) hb); replace bz := Aside0.mk (Kd.V_reads' af.out).2.2; replace bA := Aside0.mk (Kd.V_reads' ag.out).2.2; replace bB := Aside0.mk (Kd.V_reads' ah.out).2.2; replace cg := Aside0.mk (Kd.V_reads' an.out).2.2; replace ch := Aside0.mk (Kd.V_reads' ao.out).2.2; replace ci := Aside0.mk (Kd.V_reads' ap.out).2.2; have au := am hbox; have fK := kG HB hg; have fL := kG HB hg; replace HB := kH HB hb; have da := kP ai hg; have db := kQ ai hg; replace ai := kU ai hb; have dc := kP al hg; have dd := kQ al hg; replace al := kU al hb; clear hb hbox hg; obtain ⟨aT, aU, fr⟩ := Kd.R_slice bc.out; subst fr; have fM := db.out; have fN := da.out; have fO := dd.out; have fP := dc.out; have Z39 := kz3 au; obtain ⟨aV, aW, ft⟩ := Kd.R_slice bd.out; subst ft; obtain ⟨ba, bb, fu⟩ := Kd.N_slice bf.out; subst fu) | ((with_reducible refine gate_store (t := 26) (p := 9) rfl ?_); refine store_event (t := 26) (p := 9) (v := ?vo_w42) (w1 := (((w35.setCell ⟨ad, 0, none⟩ (.slice aT aL.length aU)).setCell ⟨ad, 1, none⟩ (.slice aV aM.length aW)).setCell ⟨ad, 2, none⟩ (.slice ba aX.length bb))) ?hg ?ho ?hn ?hr ?_; (case ho => rfl); (case hg => rfl); (case hn => rfl); (case hr => go_simp; try rfl); intro w42 hw; replace aj : Aside0 (Kd.N k26 26 w42 w.heap.size (fun k_ => some k_ ≠ (.slice aO aD.length aP : Value).ownBlock ∧ some k_ ≠ (.slice aQ aE.length aR : Value).ownBlock ∧ some k_ ≠ (.slice aY aS.length aZ : Value).ownBlock ∧ some k_ ≠ (.slice aT aL.length aU : Value).ownBlock ∧ some k_ ≠ (.slice aV aM.length aW : Value).ownBlock ∧ some k_ ≠ (.slice ba aX.length bb : Value).ownBlock ∧ k_ ≠ aC ∧ k_ ≠ ae ∧ k_ ≠ ad) (.slice (some ak) ab.length bq) ab) := ⟨(by rw [hw]; exact (by (with_reducible repeat first | apply Kd.N_alloc | apply Kd.N_drewN | apply Kd.N_drew); exact Kd.N_mono (Kd.N_far (p := ⟨ad, 2, none⟩) (Kd.N_far (p := ⟨ad, 1, none⟩) (Kd.N_far (p := ⟨ad, 0, none⟩) (Kd.N_mono aj.out (fun k_ hk => (⟨hk, hk.2⟩ : _ ∧ k_ ≠ ad))) (fun _ hk => hk.2) (.slice aT aL.length aU)) (fun _ hk => hk.2) (.slice aV aM.length aW)) (fun _ hk => hk.2) (.slice ba aX.length bb)) (fun _ hk => ⟨hk.1.1.1.1.1.1, ⟨hk.1.1.1.1.1.2.1, ⟨hk.1.1.1.1.1.2.2.1, ⟨hk.1.1.1.1.2, ⟨hk.1.1.1.2, ⟨hk.1.1.2, ⟨hk.1.1.1.1.1.2.2.2.1, ⟨hk.1.1.1.1.1.2.2.2.2, hk.1.2⟩⟩⟩⟩⟩⟩⟩⟩)))⟩; replace af : Aside0 (Kd.V k64 64 w42 w.heap.size (fun k_ => some k_ ≠ (.slice (some ak) ab.length bq : Value).ownBlock ∧ some k_ ≠ (.slice aO aD.length aP : Value).ownBlock ∧ some k_ ≠ (.slice aQ aE.length aR : Value).ownBlock ∧ some k_ ≠ (.slice aY aS.length aZ : Value).ownBlock ∧ some k_ ≠ (.slice aT aL.length aU : Value).ownBlock ∧ some k_ ≠ (.slice aV aM.length aW : Value).ownBlock ∧ some k_ ≠ (.slice ba aX.length bb : Value).ownBlock ∧ k_ ≠ aC ∧ k_ ≠ ae ∧ k_ ≠ ad) (.slice cm ((rd_T26 ab 0).f0).length cn) ((rd_T26 ab 0).f0)) := ⟨(by rw [hw]; exact (by (with_reducible repeat first | apply Kd.V_alloc | apply Kd.V_drewN | apply Kd.V_drew); exact Kd.V_mono (Kd.V_far (p := ⟨ad, 2, none⟩) (Kd.V_far (p := ⟨ad, 1, none⟩) (Kd.V_far (p := ⟨ad, 0, none⟩) (Kd.V_mono af.out (fun k_ hk => (⟨hk, hk.2⟩ : _ ∧ k_ ≠ ad))) (fun _ hk => hk.2) (.slice aT aL.length aU)) (fun _ hk => hk.2) (.slice aV aM.length aW)) (fun _ hk => hk.2) (.slice ba aX.length bb)) (fun _ hk => ⟨hk.1.1.1.1.1.1, ⟨hk.1.1.1.1.1.2.1, ⟨hk.1.1.1.1.1.2.2.1, ⟨hk.1.1.1.1.1.2.2.2.1, ⟨hk.1.1.1.1.2, ⟨hk.1.1.1.2, ⟨hk.1.1.2, ⟨hk.1.1.1.1.1.2.2.2.2.1, ⟨hk.1.1.1.1.1.2.2.2.2.2, hk.1.2⟩⟩⟩⟩⟩⟩⟩⟩⟩)))⟩; replace ag : Aside0 (Kd.V k61 61 w42 w.heap.size (fun k_ => some k_ ≠ (.slice (some ak) ab.length bq : Value).ownBlock ∧ some k_ ≠ (.slice aO aD.length aP : Value).ownBlock ∧ some k_ ≠ (.slice aQ aE.length aR : Value).ownBlock ∧ some k_ ≠ (.slice aY aS.length aZ : Value).ownBlock ∧ some k_ ≠ (.slice aT aL.length aU : Value).ownBlock ∧ some k_ ≠ (.slice aV aM.length aW : Value).ownBlock ∧ some k_ ≠ (.slice ba aX.length bb : Value).ownBlock ∧ k_ ≠ aC ∧ k_ ≠ ae ∧ k_ ≠ ad) (.slice co ((rd_T26 ab 0).f1).length cp) ((rd_T26 ab 0).f1)) := ⟨(by rw [hw]; exact (by (with_reducible repeat first | apply Kd.V_alloc | apply Kd.V_drewN | apply Kd.V_drew); exact Kd.V_mono (Kd.V_far (p := ⟨ad, 2, none⟩) (Kd.V_far (p := ⟨ad, 1, none⟩) (Kd.V_far (p := ⟨ad, 0, none⟩) (Kd.V_mono ag.out (fun k_ hk => (⟨hk, hk.2⟩ : _ ∧ k_ ≠ ad))) (fun _ hk => hk.2) (.slice aT aL.length aU)) (fun _ hk => hk.2) (.slice aV aM.length aW)) (fun _ hk => hk.2) (.slice ba aX.length bb)) (fun _ hk => ⟨hk.1.1.1.1.1.1, ⟨hk.1.1.1.1.1.2.1, ⟨hk.1.1.1.1.1.2.2.1, ⟨hk.1.1.1.1.1.2.2.2.1, ⟨hk.1.1.1.1.2, ⟨hk.1.1.1.2, ⟨hk.1.1.2, ⟨hk.1.1.1.1.1.2.2.2.2.1, ⟨hk.1.1.1.1.1.2.2.2.2.2, hk.1.2⟩⟩⟩⟩⟩⟩⟩⟩⟩)))⟩; replace ah : Aside0 (Kd.V k66 66 w42 w.heap.size (fun k_ => some k_ ≠ (.slice (some ak) ab.length bq : Value).ownBlock ∧ some k_ ≠ (.slice aO aD.length aP : Value).ownBlock ∧ some k_ ≠ (.slice aQ aE.length aR : Value).ownBlock ∧ some k_ ≠ (.slice aY aS.length aZ : Value).ownBlock ∧ some k_ ≠ (.slice aT aL.length aU : Value).ownBlock ∧ some k_ ≠ (.slice aV aM.length aW : Value).ownBlock ∧ some k_ ≠ (.slice ba aX.length bb : Value).ownBlock ∧ k_ ≠ aC ∧ k_ ≠ ae ∧ k_ ≠ ad) (.slice cq ((rd_T26 ab 0).f2).length cr) ((rd_T26 ab 0).f2)) := ⟨(by rw [hw]; exact (by (with_reducible repeat first | apply Kd.V_alloc | apply Kd.V_drewN | apply Kd.V_drew); exact Kd.V_mono (Kd.V_far (p := ⟨ad, 2, none⟩) (Kd.V_far (p := ⟨ad, 1, none⟩) (Kd.V_far (p := ⟨ad, 0, none⟩) (Kd.V_mono ah.out (fun k_ hk => (⟨hk, hk.2⟩ : _ ∧ k_ ≠ ad))) (fun _ hk => hk.2) (.slice aT aL.length aU)) (fun _ hk => hk.2) (.slice aV aM.length aW)) (fun _ hk => hk.2) (.slice ba aX.length bb)) (fun _ hk => ⟨hk.1.1.1.1.1.1, ⟨hk.1.1.1.1.1.2.1, ⟨hk.1.1.1.1.1.2.2.1, ⟨hk.1.1.1.1.1.2.2.2.1, ⟨hk.1.1.1.1.2, ⟨hk.1.1.1.2, ⟨hk.1.1.2, ⟨hk.1.1.1.1.1.2.2.2.2.1, ⟨hk.1.1.1.1.1.2.2.2.2.2, hk.1.2⟩⟩⟩⟩⟩⟩⟩⟩⟩)))⟩; replace aJ : Aside0 (Kd.R k64 64 w42 w.heap.size (fun k_ => some k_ ≠ (.slice aT aL.length aU : Value).ownBlock) (.slice aO aD.length aP) aD) := ⟨(by rw [hw]; exact (by (with_reducible repeat first | apply Kd.R_alloc | apply Kd.R_drewN | apply Kd.R_drew); exact Kd.R_mono (Kd.R_far (p := ⟨ad, 2, none⟩) (Kd.R_far (p := ⟨ad, 1, none⟩) (Kd.R_far (p := ⟨ad, 0, none⟩) (Kd.R_types aJ.out au.out (by decide)) (fun _ hk => hk.2) (.slice aT aL.length aU)) (fun _ hk => hk.2) (.slice aV aM.length aW)) (fun _ hk => hk.2) (.slice ba aX.length bb)) (fun _ hk => hk.1.2)))⟩; replace aK : Aside0 (Kd.R k61 61 w42 w.heap.size (fun k_ => some k_ ≠ (.slice aV aM.length aW : Value).ownBlock) (.slice aQ aE.length aR) aE) := ⟨(by rw [hw]; exact (by (with_reducible repeat first | apply Kd.R_alloc | apply Kd.R_drewN | apply Kd.R_drew); exact Kd.R_mono (Kd.R_far (p := ⟨ad, 2, none⟩) (Kd.R_far (p := ⟨ad, 1, none⟩) (Kd.R_far (p := ⟨ad, 0, none⟩) (Kd.R_types aK.out au.out (by decide)) (fun _ hk => hk.2) (.slice aT aL.length aU)) (fun _ hk => hk.2) (.slice aV aM.length aW)) (fun _ hk => hk.2) (.slice ba aX.length bb)) (fun _ hk => hk.1.2)))⟩; replace aN : Aside0 (Kd.N k66 66 w42 w.heap.size (fun k_ => some k_ ≠ (.slice (some ak) ab.length bq : Value).ownBlock ∧ some k_ ≠ (.slice aO aD.length aP : Value).ownBlock ∧ some k_ ≠ (.slice aQ aE.length aR : Value).ownBlock ∧ some k_ ≠ (.slice aT aL.length aU : Value).ownBlock ∧ some k_ ≠ (.slice aV aM.length aW : Value).ownBlock ∧ some k_ ≠ (.slice ba aX.length bb : Value).ownBlock ∧ k_ ≠ aC ∧ k_ ≠ ae ∧ k_ ≠ ad) (.slice aY aS.length aZ) aS) := ⟨(by rw [hw]; exact (by (with_reducible repeat first | apply Kd.N_alloc | apply Kd.N_drewN | apply Kd.N_drew); exact Kd.N_mono (Kd.N_far (p := ⟨ad, 2, none⟩) (Kd.N_far (p := ⟨ad, 1, none⟩) (Kd.N_far (p := ⟨ad, 0, none⟩) (Kd.N_mono aN.out (fun k_ hk => (⟨hk, hk.2⟩ : _ ∧ k_ ≠ ad))) (fun _ hk => hk.2) (.slice aT aL.length aU)) (fun _ hk => hk.2) (.slice aV aM.length aW)) (fun _ hk => hk.2) (.slice ba aX.length bb)) (fun _ hk => ⟨hk.1.1.1.1.1.1, ⟨hk.1.1.1.1.1.2.1, ⟨hk.1.1.1.1.1.2.2.1, ⟨hk.1.1.1.1.2, ⟨hk.1.1.1.2, ⟨hk.1.1.2, ⟨hk.1.1.1.1.1.2.2.2.1, ⟨hk.1.1.1.1.1.2.2.2.2, hk.1.2⟩⟩⟩⟩⟩⟩⟩⟩)))⟩; replace an : Aside0 (Kd.V k64 64 w42 w.heap.size (fun k_ => some k_ ≠ (.slice (some ak) ab.length bq : Value).ownBlock ∧ some k_ ≠ (.slice aO aD.length aP : Value).ownBlock ∧ some k_ ≠ (.slice aQ aE.length aR : Value).ownBlock ∧ some k_ ≠ (.slice aY aS.length aZ : Value).ownBlock ∧ some k_ ≠ (.slice aT aL.length aU : Value).ownBlock ∧ some k_ ≠ (.slice aV aM.length aW : Value).ownBlock ∧ some k_ ≠ (.slice ba aX.length bb : Value).ownBlock ∧ k_ ≠ aC ∧ k_ ≠ ae ∧ k_ ≠ ad) (.slice ct ((rd_T26 ab 1).f0).length cu) ((rd_T26 ab 1).f0)) := ⟨(by rw [hw]; exact (by (with_reducible repeat first | apply Kd.V_alloc | apply Kd.V_drewN | apply Kd.V_drew); exact Kd.V_mono (Kd.V_far (p := ⟨ad, 2, none⟩) (Kd.V_far (p := ⟨ad, 1, none⟩) (Kd.V_far (p := ⟨ad, 0, none⟩) (Kd.V_mono an.out (fun k_ hk => (⟨hk, hk.2⟩ : _ ∧ k_ ≠ ad))) (fun _ hk => hk.2) (.slice aT aL.length aU)) (fun _ hk => hk.2) (.slice aV aM.length aW)) (fun _ hk => hk.2) (.slice ba aX.length bb)) (fun _ hk => ⟨hk.1.1.1.1.1.2, ⟨hk.1.1.1.1.1.1.1, ⟨hk.1.1.1.1.1.1.2.1, ⟨hk.1.1.1.1.1.1.2.2.1, ⟨hk.1.1.1.1.2, ⟨hk.1.1.1.2, ⟨hk.1.1.2, ⟨hk.1.1.1.1.1.1.2.2.2.1, ⟨hk.1.1.1.1.1.1.2.2.2.2, hk.1.2⟩⟩⟩⟩⟩⟩⟩⟩⟩)))⟩; replace ao : Aside0 (Kd.V k61 61 w42 w.heap.size (fun k_ => some k_ ≠ (.slice (some ak) ab.length bq : Value).ownBlock ∧ some k_ ≠ (.slice aO aD.length aP : Value).ownBlock ∧ some k_ ≠ (.slice aQ aE.length aR : Value).ownBlock ∧ some k_ ≠ (.slice aY aS.length aZ : Value).ownBlock ∧ some k_ ≠ (.slice aT aL.length aU : Value).ownBlock ∧ some k_ ≠ (.slice aV aM.length aW : Value).ownBlock ∧ some k_ ≠ (.slice ba aX.length bb : Value).ownBlock ∧ k_ ≠ aC ∧ k_ ≠ ae ∧ k_ ≠ ad) (.slice cv ((rd_T26 ab 1).f1).length cw) ((rd_T26 ab 1).f1)) := ⟨(by rw [hw]; exact (by (with_reducible repeat first | apply Kd.V_alloc | apply Kd.V_drewN | apply Kd.V_drew); exact Kd.V_mono (Kd.V_far (p := ⟨ad, 2, none⟩) (Kd.V_far (p := ⟨ad, 1, none⟩) (Kd.V_far (p := ⟨ad, 0, none⟩) (Kd.V_mono ao.out (fun k_ hk => (⟨hk, hk.2⟩ : _ ∧ k_ ≠ ad))) (fun _ hk => hk.2) (.slice aT aL.length aU)) (fun _ hk => hk.2) (.slice aV aM.length aW)) (fun _ hk => hk.2) (.slice ba aX.length bb)) (fun _ hk => ⟨hk.1.1.1.1.1.2, ⟨hk.1.1.1.1.1.1.1, ⟨hk.1.1.1.1.1.1.2.1, ⟨hk.1.1.1.1.1.1.2.2.1, ⟨hk.1.1.1.1.2, ⟨hk.1.1.1.2, ⟨hk.1.1.2, ⟨hk.1.1.1.1.1.1.2.2.2.1, ⟨hk.1.1.1.1.1.1.2.2.2.2, hk.1.2⟩⟩⟩⟩⟩⟩⟩⟩⟩)))⟩; replace ap : Aside0 (Kd.V k66 66 w42 w.heap.size (fun k_ => some k_ ≠ (.slice (some ak) ab.length bq : Value).ownBlock ∧ some k_ ≠ (.slice aO aD.length aP : Value).ownBlock ∧ some k_ ≠ (.slice aQ aE.length aR : Value).ownBlock ∧ some k_ ≠ (.slice aY aS.length aZ : Value).ownBlock ∧ some k_ ≠ (.slice aT aL.length aU : Value).ownBlock ∧ some k_ ≠ (.slice aV aM.length aW : Value).ownBlock ∧ some k_ ≠ (.slice ba aX.length bb : Value).ownBlock ∧ k_ ≠ aC ∧ k_ ≠ ae ∧ k_ ≠ ad) (.slice cx ((rd_T26 ab 1).f2).length cy) ((rd_T26 ab 1).f2)) := ⟨(by rw [hw]; exact (by (with_reducible repeat first | apply Kd.V_alloc | apply Kd.V_drewN | apply Kd.V_drew); exact Kd.V_mono (Kd.V_far (p := ⟨ad, 2, none⟩) (Kd.V_far (p := ⟨ad, 1, none⟩) (Kd.V_far (p := ⟨ad, 0, none⟩) (Kd.V_mono ap.out (fun k_ hk => (⟨hk, hk.2⟩ : _ ∧ k_ ≠ ad))) (fun _ hk => hk.2) (.slice aT aL.length aU)) (fun _ hk => hk.2) (.slice aV aM.length aW)) (fun _ hk => hk.2) (.slice ba aX.length bb)) (fun _ hk => ⟨hk.1.1.1.1.1.2, ⟨hk.1.1.1.1.1.1.1, ⟨hk.1.1.1.1.1.1.2.1, ⟨hk.1.1.1.1.1.1.2.2.1, ⟨hk.1.1.1.1.2, ⟨hk.1.1.1.2, ⟨hk.1.1.2, ⟨hk.1.1.1.1.1.1.2.2.2.1, ⟨hk.1.1.1.1.1.1.2.2.2.2, hk.1.2⟩⟩⟩⟩⟩⟩⟩⟩⟩)))⟩; replace bc : Aside0 (Kd.R k64 64 w42 w.heap.size (fun k_ => some k_ ≠ (.slice aO aD.length aP : Value).ownBlock) (.slice aT aL.length aU) aL) := ⟨(by rw [hw]; exact (by (with_reducible repeat first | apply Kd.R_alloc | apply Kd.R_drewN | apply Kd.R_drew); exact Kd.R_mono (Kd.R_far (p := ⟨ad, 2, none⟩) (Kd.R_far (p := ⟨ad, 1, none⟩) (Kd.R_far (p := ⟨ad, 0, none⟩) (Kd.R_types bc.out au.out (by decide)) (fun _ hk => hk.2) (.slice aT aL.length aU)) (fun _ hk => hk.2) (.slice aV aM.length aW)) (fun _ hk => hk.2) (.slice ba aX.length bb)) (fun _ hk => hk.1.2)))⟩; replace bd : Aside0 (Kd.R k61 61 w42 w.heap.size (fun k_ => some k_ ≠ (.slice aQ aE.length aR : Value).ownBlock) (.slice aV aM.length aW) aM) := ⟨(by rw [hw]; exact (by (with_reducible repeat first | apply Kd.R_alloc | apply Kd.R_drewN | apply Kd.R_drew); exact Kd.R_mono (Kd.R_far (p := ⟨ad, 2, none⟩) (Kd.R_far (p := ⟨ad, 1, none⟩) (Kd.R_far (p := ⟨ad, 0, none⟩) (Kd.R_types bd.out au.out (by decide)) (fun _ hk => hk.2) (.slice aT aL.length aU)) (fun _ hk => hk.2) (.slice aV aM.length aW)) (fun _ hk => hk.2) (.slice ba aX.length bb)) (fun _ hk => hk.1.2)))⟩; replace bf : Aside0 (Kd.N k66 66 w42 w.heap.size (fun k_ => some k_ ≠ (.slice (some ak) ab.length bq : Value).ownBlock ∧ some k_ ≠ (.slice aO aD.length aP : Value).ownBlock ∧ some k_ ≠ (.slice aQ aE.length aR : Value).ownBlock ∧ some k_ ≠ (.slice aY aS.length aZ : Value).ownBlock ∧ some k_ ≠ (.slice aT aL.length aU : Value).ownBlock ∧ some k_ ≠ (.slice aV aM.length aW : Value).ownBlock ∧ k_ ≠ aC ∧ k_ ≠ ae ∧ k_ ≠ ad) (.slice ba aX.length bb) aX) := ⟨(by rw [hw]; exact (by (with_reducible repeat first | apply Kd.N_alloc | apply Kd.N_drewN | apply Kd.N_drew); exact Kd.N_mono (Kd.N_far (p := ⟨ad, 2, none⟩) (Kd.N_far (p := ⟨ad, 1, none⟩) (Kd.N_far (p := ⟨ad, 0, none⟩) (Kd.N_mono bf.out (fun k_ hk => (⟨hk, hk.2⟩ : _ ∧ k_ ≠ ad))) (fun _ hk => hk.2) (.slice aT aL.length aU)) (fun _ hk => hk.2) (.slice aV aM.length aW)) (fun _ hk => hk.2) (.slice ba aX.length bb)) (fun _ hk => ⟨hk.1.1.2.2.1, ⟨hk.1.1.2.2.2.1, ⟨hk.1.1.2.2.2.2.1, ⟨hk.1.1.2.2.2.2.2.1, ⟨hk.1.1.1, ⟨hk.1.1.2.1, ⟨hk.1.1.2.2.2.2.2.2.1, ⟨hk.1.1.2.2.2.2.2.2.2, hk.1.2⟩⟩⟩⟩⟩⟩⟩⟩)))⟩; replace ai : Aside0 (w42.heap[aC]? = some (.cells #[.slice bL bv.length bM, .slice bN bw.length bO, .slice bP bx.length bQ] 26 (0, 0))) := ⟨(by rw [hw]; exact (kg ai))⟩; replace al : Aside0 (w42.heap[ae]? = some (.cells #[.slice aO aD.length aP, .slice aQ aE.length aR, .slice aY aS.length aZ] 26 (0, 0))) := ⟨(by rw [hw]; exact (kg al))⟩; replace au : Aside0 (w42.heap[ad]? = some (.cells #[.slice aT aL.length aU, .slice aV aM.length aW, .slice ba aX.length bb] 26 (0, 0))) := ⟨(by rw [hw]; exact (kg au))⟩; replace HB : Aside0 (Below w.heap.size w w42) := ⟨(by rw [hw]; exact (kh HB))⟩; clear hw; have eb : 0 ≤ (2 : Int) := (by omega); have ec : 2 < (ab.length : Int) := od; obtain ⟨eZ, dt, du, dv, dw, dx, dy, fv, cj, ck, cl, cJ, hi820_0, cK, hi820_1, cL, hi820_2⟩ := at_T26 (Kd.N_reads' aj.out).2.2 2 eb ec; obtain rfl : ak = eZ := (by injection fv); obtain ⟨ce820, hce820, hMe820, hcc820⟩ := Kd.N_get aj.out z26 2 eb (by first | exact ec | exact od | (have e_ := (Kd.N_reads' aj.out).1; omega)); obtain ⟨ua820_0, uc820_0, ua820_1, uc820_1, ua820_2, uc820_2, rfl, ul820_0, ge820_0, ul820_1, ge820_1, ul820_2, ge820_2⟩ := k26_openF hMe820; have hv820_0 := hcc820 0 _ rfl; rw [Nat.add_zero] at hv820_0; replace hv820_0 := qqI (hv820_0.symm.trans cj); injection hv820_0 with hva_ hvn_ hvc_; rw [hva_] at ge820_0; rw [hvc_] at ul820_0; have aG := Aside0.mk (show Kd.V k64 64 _ w.heap.size _ _ ((rd_T26 ab 2).f0) from Kd.V_mk ul820_0 ge820_0); clear hva_ hvn_ hvc_ ge820_0 ul820_0; have hv820_1 := hcc820 1 _ rfl; rw [add_field _ _ 1 (by omega)] at hv820_1; replace hv820_1 := qqI (hv820_1.symm.trans ck); injection hv820_1 with hva_ hvn_ hvc_; rw [hva_] at ge820_1; rw [hvc_] at ul820_1; have aH := Aside0.mk (show Kd.V k61 61 _ w.heap.size _ _ ((rd_T26 ab 2).f1) from Kd.V_mk ul820_1 ge820_1); clear hva_ hvn_ hvc_ ge820_1 ul820_1; have hv820_2 := hcc820 2 _ rfl; rw [add_field _ _ 2 (by omega)] at hv820_2; replace hv820_2 := qqI (hv820_2.symm.trans cl); injection hv820_2 with hva_ hvn_ hvc_; rw [hva_] at ge820_2; rw [hvc_] at ul820_2; have aI := Aside0.mk (show Kd.V k66 66 _ w.heap.size _ _ ((rd_T26 ab 2).f2) from Kd.V_mk ul820_2 ge820_2); clear hva_ hvn_ hvc_ ge820_2 ul820_2; clear hcc820 hce820; (try simp only [show (2 : Int).toNat = 2 from rfl, Nat.reduceMul, Nat.reduceEqDiff, Go.Addr.add, ↓reduceIte] at cj); (try simp only [show (2 : Int).toNat = 2 from rfl, Nat.reduceMul, Nat.reduceEqDiff, Go.Addr.add, ↓reduceIte] at ck); (try simp only [show (2 : Int).toNat = 2 from rfl, Nat.reduceMul, Nat.reduceEqDiff, Go.Addr.add, ↓reduceIte] at cl); have qi820 : (2 < ab.length) = True := eq_true (by omega); (try rw [show ((2 : Int)).toNat = 2 from rfl] at cj); (try rw [show 2 * 3 = 6 from rfl] at cj); (try rw [show ((2 : Int)).toNat = 2 from rfl] at ck); (try rw [show 2 * 3 = 6 from rfl] at ck); (try rw [show ((2 : Int)).toNat = 2 from rfl] at cl); (try rw [show 2 * 3 = 6 from rfl] at cl); have cM := Aside0.mk hi820_0; have ed := Aside0.mk cJ; clear hi820_0 cJ; have cN := Aside0.mk hi820_1; have ee := Aside0.mk cK; clear hi820_1 cK; have cO := Aside0.mk hi820_2; have eg := Aside0.mk cL; clear hi820_2 cL; replace eb := eq_true eb; replace ec := eq_true ec) | ((with_reducible refine gate_callee (f := 22) rfl ?_); refine goesL_ (some 47) rfl rfl Try.func22 (by kernel_rfl) rfl #[.int .u64 a0, .agg #[.slice dt ((rd_T26 ab 2).f0).length du, .slice dv ((rd_T26 ab 2).f1).length dw, .slice dx ((rd_T26 ab 2).f2).length dy]] rfl (by (try simp only [qM1, qM2, qM3]); first | done | rfl) ?_; (with_reducible refine (tune_Prune.calls k a0 _ _ ((rd_T26 ab 2).f0) _ _ ((rd_T26 ab 2).f1) _ _ ((rd_T26 ab 2).f2) aq ar av eO _ ?side1 ?side2 ?side3 ?side4 ?side5 ?side6 A12.out).mono ?_); (case side1 => repeat (first | exact (Kd.V_reads' aG.out).2.2 | (with_reducible first | refine Kd.C_alloc ?_ _ | refine Kd.C_drewN ?_ _ | refine Kd.C_drew ?_))); (case side2 => exact ed.out); (case side3 => repeat (first | exact (Kd.V_reads' aH.out).2.2 | (with_reducible first | refine Kd.C_alloc ?_ _ | refine Kd.C_drewN ?_ _ | refine Kd.C_drew ?_))); (case side4 => exact ee.out); (case side5 => repeat (first | exact (Kd.V_reads' aI.out).2.2 | (with_reducible first | refine Kd.C_alloc ?_ _ | refine Kd.C_drewN ?_ _ | refine Kd.C_drew ?_))); (case side6 => exact eg.out); rintro e w43 ⟨fw, fx, gg, rfl, ho0, ho1, ho2, hb⟩; refine ⟨_, rfl, ?_⟩; replace af := Aside0.mk (Kd.V_mono (Kd.V_told (Kd.V_told (Kd.V_told (Kd.V_old (krV af) hb) (Kd.R_base ho0)) (Kd.R_base ho1)) (by first | exact Kd.N_base ho2 | exact Kd.N_base (Kd.S_N ho2))) (fun _ h_ => h_.1)); replace ag := Aside0.mk (Kd.V_mono (Kd.V_told (Kd.V_told (Kd.V_told (Kd.V_old (krV ag) hb) (Kd.R_base ho0)) (Kd.R_base ho1)) (by first | exact Kd.N_base ho2 | exact Kd.N_base (Kd.S_N ho2))) (fun _ h_ => h_.1)); replace ah := Aside0.mk (Kd.V_mono (Kd.V_told (Kd.V_told (Kd.V_told (Kd.V_old (krV ah) hb) (Kd.R_base ho0)) (Kd.R_base ho1)) (by first | exact Kd.N_base ho2 | exact Kd.N_base (Kd.S_N ho2))) (fun _ h_ => h_.1)); replace an := Aside0.mk (Kd.V_mono (Kd.V_told (Kd.V_told (Kd.V_told (Kd.V_old (krV an) hb) (Kd.R_base ho0)) (Kd.R_base ho1)) (by first | exact Kd.N_base ho2 | exact Kd.N_base (Kd.S_N ho2))) (fun _ h_ => h_.1)); replace ao := Aside0.mk (Kd.V_mono (Kd.V_told (Kd.V_told (Kd.V_told (Kd.V_old (krV ao) hb) (Kd.R_base ho0)) (Kd.R_base ho1)) (by first | exact Kd.N_base ho2 | exact Kd.N_base (Kd.S_N ho2))) (fun _ h_ => h_.1)); replace ap := Aside0.mk (Kd.V_mono (Kd.V_told (Kd.V_told (Kd.V_told (Kd.V_old (krV ap) hb) (Kd.R_base ho0)) (Kd.R_base ho1)) (by first | exact Kd.N_base ho2 | exact Kd.N_base (Kd.S_N ho2))) (fun _ h_ => h_.1)); replace aG := Aside0.mk (Kd.V_mono (Kd.V_told (Kd.V_told (Kd.V_told (Kd.V_old (krV aG) hb) (Kd.R_base ho0)) (Kd.R_base ho1)) (by first | exact Kd.N_base ho2 | exact Kd.N_base (Kd.S_N ho2))) (fun _ h_ => h_.1)); replace aH := Aside0.mk (Kd.V_mono (Kd.V_told (Kd.V_told (Kd.V_told (Kd.V_old (krV aH) hb) (Kd.R_base ho0)) (Kd.R_base ho1)) (by first | exact Kd.N_base ho2 | exact Kd.N_base (Kd.S_N ho2))) (fun _ h_ => h_.1)); replace aI := Aside0.mk (Kd.V_mono (Kd.V_told (Kd.V_told (Kd.V_told (Kd.V_old (krV aI) hb) (Kd.R_base ho0)) (Kd.R_base ho1)) (by first | exact Kd.N_base ho2 | exact Kd.N_base (Kd.S_N ho2))) (fun _ h_ => h_.1)); have br := Aside0.mk (Kd.R_lower (Kd.R_new' (Kd.R_new' ho0 (Kd.R_lt (krR aJ))) (Kd.R_lt (krR bc))) (below_size (kh HB))); have bt := Aside0.mk (Kd.R_lower (Kd.R_new' (Kd.R_new' ho1 (Kd.R_lt (krR aK))) (Kd.R_lt (krR bd))) (below_size (kh HB))); have bu := Aside0.mk (Kd.N_lower (Kd.N_mono (ok' := fun k_ => some k_ ≠ (fw : Value).ownBlock ∧ some k_ ≠ (fx : Value).ownBlock ∧ some k_ ≠ (.slice (some ak) ab.length bq : Value).ownBlock ∧ some k_ ≠ (.slice aO aD.length aP : Value).ownBlock ∧ some k_ ≠ (.slice aQ aE.length aR : Value).ownBlock ∧ some k_ ≠ (.slice aY aS.length aZ : Value).ownBlock ∧ some k_ ≠ (.slice aT aL.length aU : Value).ownBlock ∧ some k_ ≠ (.slice aV aM.length aW : Value).ownBlock ∧ some k_ ≠ (.slice ba aX.length bb : Value).ownBlock ∧ k_ ≠ aC ∧ k_ ≠ ae ∧ k_ ≠ ad) (Kd.S_N (Kd.S_bound (Kd.S_apart' (Kd.S_apart' ho2 (Kd.R_typed ho0) (by decide)) (Kd.R_typed ho1) (by decide)))) (fun k_ hk_ => ⟨hk_.1.1.2, hk_.1.2, (Kd.fresh' (Kd.N_lt (krN aj)) k_ hk_.2.1), (Kd.fresh' (Kd.R_lt (krR aJ)) k_ hk_.2.1), (Kd.fresh' (Kd.R_lt (krR aK)) k_ hk_.2.1), (Kd.fresh' (Kd.N_lt (krN aN)) k_ hk_.2.1), (Kd.fresh' (Kd.R_lt (krR bc)) k_ hk_.2.1), (Kd.fresh' (Kd.R_lt (krR bd)) k_ hk_.2.1), (Kd.fresh' (Kd.N_lt (krN bf)) k_ hk_.2.1), (Kd.freshB (g := aC) (o := .cells #[.slice bL bv.length bM, .slice bN bw.length bO, .slice bP bx.length bQ] 26 (0, 0)) (kb ai) k_ hk_.2.1), (Kd.freshB (g := ae) (o := .cells #[.slice aO aD.length aP, .slice aQ aE.length aR, .slice aY aS.length aZ] 26 (0, 0)) (kb al) k_ hk_.2.1), (Kd.freshB (g := ad) (o := .cells #[.slice aT aL.length aU, .slice aV aM.length aW, .slice ba aX.length bb] 26 (0, 0)) (kb au) k_ hk_.2.1)⟩)) (below_size (kh HB))); replace aj := Aside0.mk (Kd.N_mono (Kd.N_told (Kd.N_told (Kd.N_told (Kd.N_old (krN aj) hb) (Kd.R_base ho0)) (Kd.R_base ho1)) (by first | exact Kd.N_base ho2 | exact Kd.N_base (Kd.S_N ho2))) (fun _ h_ => h_.1)); replace aJ := Aside0.mk (Kd.R_elder' (krR aJ) (Kd.R_base ho0) hb); replace aK := Aside0.mk (Kd.R_elder' (krR aK) (Kd.R_base ho1) hb); replace aN := Aside0.mk (Kd.N_mono (Kd.N_told (Kd.N_told (Kd.N_told (Kd.N_old (krN aN) hb) (Kd.R_base ho0)) (Kd.R_base ho1)) (by first | exact Kd.N_base ho2 | exact Kd.N_base (Kd.S_N ho2))) (fun _ h_ => h_.1)); replace bc := Aside0.mk (Kd.R_elder' (krR bc) (Kd.R_base ho0) hb); replace bd := Aside0.mk (Kd.R_elder' (krR bd) (Kd.R_base ho1) hb); replace bf := Aside0.mk (Kd.N_mono (Kd.N_told (Kd.N_told (Kd.N_told (Kd.N_old (krN bf) hb) (Kd.R_base ho0)) (Kd.R_base ho1)) (by first | exact Kd.N_base ho2 | exact Kd.N_base (Kd.S_N ho2))) (fun _ h_ => h_.1)); replace ai := kU ai hb; replace bz := Aside0.mk (Kd.V_reads' af.out).2.2; replace bA := Aside0.mk (Kd.V_reads' ag.out).2.2; replace bB := Aside0.mk (Kd.V_reads' ah.out).2.2; replace al := kU al hb; replace cg := Aside0.mk (Kd.V_reads' an.out).2.2; replace ch := Aside0.mk (Kd.V_reads' ao.out).2.2; replace ci := Aside0.mk (Kd.V_reads' ap.out).2.2; replace au := kU au hb; replace cM := Aside0.mk (Kd.V_reads' aG.out).2.2; replace cN := Aside0.mk (Kd.V_reads' aH.out).2.2; replace cO := Aside0.mk (Kd.V_reads' aI.out).2.2; replace HB := kH HB hb; (try clear hb); (try clear hb2); (try clear hk); (try clear hi); (try clear ho0); (try clear ho1); (try clear ho2)) | ((with_reducible refine gate_dst (N := 11) rfl ?_); refine box_event ?hg (N := 11) ?hd (cs := #[.slice none 0 0, .slice none 0 0, .slice none 0 0]) (t := 26) ?hr ?_; (case hd | hg => rfl); (case hr => go_simp; try rfl); intro aa hg w44 hbox hb; replace aj := Aside0.mk (Kd.N_below (Kd.N_elderB (krN aj) aa (Nat.le_of_eq hg.symm)) hb); replace af := Aside0.mk (Kd.V_below (Kd.V_elderB (krV af) aa (Nat.le_of_eq hg.symm)) hb); replace ag := Aside0.mk (Kd.V_below (Kd.V_elderB (krV ag) aa (Nat.le_of_eq hg.symm)) hb); replace ah := Aside0.mk (Kd.V_below (Kd.V_elderB (krV ah) aa (Nat.le_of_eq hg.symm)) hb); replace aJ := kR aJ hb; replace aK := kR aK hb; replace aN := Aside0.mk (Kd.N_below (Kd.N_elderB (krN aN) aa (Nat.le_of_eq hg.symm)) hb); replace an := Aside0.mk (Kd.V_below (Kd.V_elderB (krV an) aa (Nat.le_of_eq hg.symm)) hb); replace ao := Aside0.mk (Kd.V_below (Kd.V_elderB (krV ao) aa (Nat.le_of_eq hg.symm)) hb); replace ap := Aside0.mk (Kd.V_below (Kd.V_elderB (krV ap) aa (Nat.le_of_eq hg.symm)) hb); replace bc := kR bc hb; replace bd := kR bd hb; replace bf := Aside0.mk (Kd.N_below (Kd.N_elderB (krN bf) aa (Nat.le_of_eq hg.symm)) hb); replace aG := Aside0.mk (Kd.V_below (Kd.V_elderB (krV aG) aa (Nat.le_of_eq hg.symm)) hb); replace aH := Aside0.mk (Kd.V_below (Kd.V_elderB (krV aH) aa (Nat.le_of_eq hg.symm)) hb); replace aI := Aside0.mk (Kd.V_below (Kd.V_elderB (krV aI) aa (Nat.le_of_eq hg.symm)) hb); replace br := kR br hb; replace bt := kR bt hb; replace bu := Aside0.mk (Kd.N_below (Kd.N_elderB (krN bu) aa (Nat.le_of_eq hg.symm)) hb); replace bz := Aside0.mk (Kd.V_reads' af.out).2.2; replace bA := Aside0.mk (Kd.V_reads' ag.out).2.2; replace bB := Aside0.mk (Kd.V_reads' ah.out).2.2; replace cg := Aside0.mk (Kd.V_reads' an.out).2.2; replace ch := Aside0.mk (Kd.V_reads' ao.out).2.2; replace ci := Aside0.mk (Kd.V_reads' ap.out).2.2; replace cM := Aside0.mk (Kd.V_reads' aG.out).2.2; replace cN := Aside0.mk (Kd.V_reads' aH.out).2.2; replace cO := Aside0.mk (Kd.V_reads' aI.out).2.2; have aF := am hbox; have fQ := kG HB hg; have fR := kG HB hg; replace HB := kH HB hb; have de := kP ai hg; have df := kQ ai hg; replace ai := kU ai hb; have dg := kP al hg; have dh := kQ al hg; replace al := kU al hb; have di := kP au hg; have dj := kQ au hg; replace au := kU au hb; clear hb hbox hg; obtain ⟨aw, ax, fy⟩ := Kd.R_slice br.out; subst fy; have fS := df.out; have fT := de.out; have fU := dh.out; have fV := dg.out; have fW := dj.out; have fX := di.out; have Z49 := kz3 aF; obtain ⟨ay, az, fz⟩ := Kd.R_slice bt.out; subst fz; obtain ⟨aA, aB, fA⟩ := Kd.N_slice bu.out; subst fA)))
 have n0_ : Aside0 (Kd.N k26 26 (((w44.setCell ⟨aa, 0, none⟩ (.slice aw aq.length ax)).setCell ⟨aa, 1, none⟩ (.slice ay ar.length az)).setCell ⟨aa, 2, none⟩ (.slice aA av.length aB)) w.heap.size (fun k_ => some k_ ≠ (.slice aO aD.length aP : Value).ownBlock ∧ some k_ ≠ (.slice aQ aE.length aR : Value).ownBlock ∧ some k_ ≠ (.slice aY aS.length aZ : Value).ownBlock ∧ some k_ ≠ (.slice aT aL.length aU : Value).ownBlock ∧ some k_ ≠ (.slice aV aM.length aW : Value).ownBlock ∧ some k_ ≠ (.slice ba aX.length bb : Value).ownBlock ∧ some k_ ≠ (.slice aw aq.length ax : Value).ownBlock ∧ some k_ ≠ (.slice ay ar.length az : Value).ownBlock ∧ some k_ ≠ (.slice aA av.length aB : Value).ownBlock ∧ k_ ≠ aC ∧ k_ ≠ ae ∧ k_ ≠ ad ∧ k_ ≠ aa) (.slice (some ak) ab.length bq) ab) := ⟨by (with_reducible repeat first | apply Kd.N_alloc | apply Kd.N_drewN | apply Kd.N_drew); exact Kd.N_mono (Kd.N_far (p := ⟨aa, 2, none⟩) (Kd.N_far (p := ⟨aa, 1, none⟩) (Kd.N_far (p := ⟨aa, 0, none⟩) (Kd.N_mono aj.out (fun k_ hk => (⟨hk, hk.2⟩ : _ ∧ k_ ≠ aa))) (fun _ hk => hk.2) (.slice aw aq.length ax)) (fun _ hk => hk.2) (.slice ay ar.length az)) (fun _ hk => hk.2) (.slice aA av.length aB)) (fun _ hk => ⟨hk.1.1.1.1.1.1, ⟨hk.1.1.1.1.1.2.1, ⟨hk.1.1.1.1.1.2.2.1, ⟨hk.1.1.1.1.1.2.2.2.1, ⟨hk.1.1.1.1.1.2.2.2.2.1, ⟨hk.1.1.1.1.1.2.2.2.2.2.1, ⟨hk.1.1.1.1.2, ⟨hk.1.1.1.2, ⟨hk.1.1.2, ⟨hk.1.1.1.1.1.2.2.2.2.2.2.1, ⟨hk.1.1.1.1.1.2.2.2.2.2.2.2.1, ⟨hk.1.1.1.1.1.2.2.2.2.2.2.2.2, hk.1.2⟩⟩⟩⟩⟩⟩⟩⟩⟩⟩⟩⟩)⟩;have n1_ : Aside0 (Kd.V k64 64 (((w44.setCell ⟨aa, 0, none⟩ (.slice aw aq.length ax)).setCell ⟨aa, 1, none⟩ (.slice ay ar.length az)).setCell ⟨aa, 2, none⟩ (.slice aA av.length aB)) w.heap.size (fun k_ => some k_ ≠ (.slice (some ak) ab.length bq : Value).ownBlock ∧ some k_ ≠ (.slice aO aD.length aP : Value).ownBlock ∧ some k_ ≠ (.slice aQ aE.length aR : Value).ownBlock ∧ some k_ ≠ (.slice aY aS.length aZ : Value).ownBlock ∧ some k_ ≠ (.slice aT aL.length aU : Value).ownBlock ∧ some k_ ≠ (.slice aV aM.length aW : Value).ownBlock ∧ some k_ ≠ (.slice ba aX.length bb : Value).ownBlock ∧ some k_ ≠ (.slice aw aq.length ax : Value).ownBlock ∧ some k_ ≠ (.slice ay ar.length az : Value).ownBlock ∧ some k_ ≠ (.slice aA av.length aB : Value).ownBlock ∧ k_ ≠ aC ∧ k_ ≠ ae ∧ k_ ≠ ad ∧ k_ ≠ aa) (.slice cm ((rd_T26 ab 0).f0).length cn) ((rd_T26 ab 0).f0)) := ⟨by (with_reducible repeat first | apply Kd.V_alloc | apply Kd.V_drewN | apply Kd.V_drew); exact Kd.V_mono (Kd.V_far (p := ⟨aa, 2, none⟩) (Kd.V_far (p := ⟨aa, 1, none⟩) (Kd.V_far (p := ⟨aa, 0, none⟩) (Kd.V_mono af.out (fun k_ hk => (⟨hk, hk.2⟩ : _ ∧ k_ ≠ aa))) (fun _ hk => hk.2) (.slice aw aq.length ax)) (fun _ hk => hk.2) (.slice ay ar.length az)) (fun _ hk => hk.2) (.slice aA av.length aB)) (fun _ hk => ⟨hk.1.1.1.1.1.1, ⟨hk.1.1.1.1.1.2.1, ⟨hk.1.1.1.1.1.2.2.1, ⟨hk.1.1.1.1.1.2.2.2.1, ⟨hk.1.1.1.1.1.2.2.2.2.1, ⟨hk.1.1.1.1.1.2.2.2.2.2.1, ⟨hk.1.1.1.1.1.2.2.2.2.2.2.1, ⟨hk.1.1.1.1.2, ⟨hk.1.1.1.2, ⟨hk.1.1.2, ⟨hk.1.1.1.1.1.2.2.2.2.2.2.2.1, ⟨hk.1.1.1.1.1.2.2.2.2.2.2.2.2.1, ⟨hk.1.1.1.1.1.2.2.2.2.2.2.2.2.2, hk.1.2⟩⟩⟩⟩⟩⟩⟩⟩⟩⟩⟩⟩⟩)⟩;have n2_ : Aside0 (Kd.V k61 61 (((w44.setCell ⟨aa, 0, none⟩ (.slice aw aq.length ax)).setCell ⟨aa, 1, none⟩ (.slice ay ar.length az)).setCell ⟨aa, 2, none⟩ (.slice aA av.length aB)) w.heap.size (fun k_ => some k_ ≠ (.slice (some ak) ab.length bq : Value).ownBlock ∧ some k_ ≠ (.slice aO aD.length aP : Value).ownBlock ∧ some k_ ≠ (.slice aQ aE.length aR : Value).ownBlock ∧ some k_ ≠ (.slice aY aS.length aZ : Value).ownBlock ∧ some k_ ≠ (.slice aT aL.length aU : Value).ownBlock ∧ some k_ ≠ (.slice aV aM.length aW : Value).ownBlock ∧ some k_ ≠ (.slice ba aX.length bb : Value).ownBlock ∧ some k_ ≠ (.slice aw aq.length ax : Value).ownBlock ∧ some k_ ≠ (.slice ay ar.length az : Value).ownBlock ∧ some k_ ≠ (.slice aA av.length aB : Value).ownBlock ∧ k_ ≠ aC ∧ k_ ≠ ae ∧ k_ ≠ ad ∧ k_ ≠ aa) (.slice co ((rd_T26 ab 0).f1).length cp) ((rd_T26 ab 0).f1)) := ⟨by (with_reducible repeat first | apply Kd.V_alloc | apply Kd.V_drewN | apply Kd.V_drew); exact Kd.V_mono (Kd.V_far (p := ⟨aa, 2, none⟩) (Kd.V_far (p := ⟨aa, 1, none⟩) (Kd.V_far (p := ⟨aa, 0, none⟩) (Kd.V_mono ag.out (fun k_ hk => (⟨hk, hk.2⟩ : _ ∧ k_ ≠ aa))) (fun _ hk => hk.2) (.slice aw aq.length ax)) (fun _ hk => hk.2) (.slice ay ar.length az)) (fun _ hk => hk.2) (.slice aA av.length aB)) (fun _ hk => ⟨hk.1.1.1.1.1.1, ⟨hk.1.1.1.1.1.2.1, ⟨hk.1.1.1.1.1.2.2.1, ⟨hk.1.1.1.1.1.2.2.2.1, ⟨hk.1.1.1.1.1.2.2.2.2.1, ⟨hk.1.1.1.1.1.2.2.2.2.2.1, ⟨hk.1.1.1.1.1.2.2.2.2.2.2.1, ⟨hk.1.1.1.1.2, ⟨hk.1.1.1.2, ⟨hk.1.1.2, ⟨hk.1.1.1.1.1.2.2.2.2.2.2.2.1, ⟨hk.1.1.1.1.1.2.2.2.2.2.2.2.2.1, ⟨hk.1.1.1.1.1.2.2.2.2.2.2.2.2.2, hk.1.2⟩⟩⟩⟩⟩⟩⟩⟩⟩⟩⟩⟩⟩)⟩;have n3_ : Aside0 (Kd.V k66 66 (((w44.setCell ⟨aa, 0, none⟩ (.slice aw aq.length ax)).setCell ⟨aa, 1, none⟩ (.slice ay ar.length az)).setCell ⟨aa, 2, none⟩ (.slice aA av.length aB)) w.heap.size (fun k_ => some k_ ≠ (.slice (some ak) ab.length bq : Value).ownBlock ∧ some k_ ≠ (.slice aO aD.length aP : Value).ownBlock ∧ some k_ ≠ (.slice aQ aE.length aR : Value).ownBlock ∧ some k_ ≠ (.slice aY aS.length aZ : Value).ownBlock ∧ some k_ ≠ (.slice aT aL.length aU : Value).ownBlock ∧ some k_ ≠ (.slice aV aM.length aW : Value).ownBlock ∧ some k_ ≠ (.slice ba aX.length bb : Value).ownBlock ∧ some k_ ≠ (.slice aw aq.length ax : Value).ownBlock ∧ some k_ ≠ (.slice ay ar.length az : Value).ownBlock ∧ some k_ ≠ (.slice aA av.length aB : Value).ownBlock ∧ k_ ≠ aC ∧ k_ ≠ ae ∧ k_ ≠ ad ∧ k_ ≠ aa) (.slice cq ((rd_T26 ab 0).f2).length cr) ((rd_T26 ab 0).f2)) := ⟨by (with_reducible repeat first | apply Kd.V_alloc | apply Kd.V_drewN | apply Kd.V_drew); exact Kd.V_mono (Kd.V_far (p := ⟨aa, 2, none⟩) (Kd.V_far (p := ⟨aa, 1, none⟩) (Kd.V_far (p := ⟨aa, 0, none⟩) (Kd.V_mono ah.out (fun k_ hk => (⟨hk, hk.2⟩ : _ ∧ k_ ≠ aa))) (fun _ hk => hk.2) (.slice aw aq.length ax)) (fun _ hk => hk.2) (.slice ay ar.length az)) (fun _ hk => hk.2) (.slice aA av.length aB)) (fun _ hk => ⟨hk.1.1.1.1.1.1, ⟨hk.1.1.1.1.1.2.1, ⟨hk.1.1.1.1.1.2.2.1, ⟨hk.1.1.1.1.1.2.2.2.1, ⟨hk.1.1.1.1.1.2.2.2.2.1, ⟨hk.1.1.1.1.1.2.2.2.2.2.1, ⟨hk.1.1.1.1.1.2.2.2.2.2.2.1, ⟨hk.1.1.1.1.2, ⟨hk.1.1.1.2, ⟨hk.1.1.2, ⟨hk.1.1.1.1.1.2.2.2.2.2.2.2.1, ⟨hk.1.1.1.1.1.2.2.2.2.2.2.2.2.1, ⟨hk.1.1.1.1.1.2.2.2.2.2.2.2.2.2, hk.1.2⟩⟩⟩⟩⟩⟩⟩⟩⟩⟩⟩⟩⟩)⟩;have n4_ : Aside0 (Kd.R k64 64 (((w44.setCell ⟨aa, 0, none⟩ (.slice aw aq.length ax)).setCell ⟨aa, 1, none⟩ (.slice ay ar.length az)).setCell ⟨aa, 2, none⟩ (.slice aA av.length aB)) w.heap.size (fun k_ => some k_ ≠ (.slice aT aL.length aU : Value).ownBlock ∧ some k_ ≠ (.slice aw aq.length ax : Value).ownBlock) (.slice aO aD.length aP) aD) := ⟨by (with_reducible repeat first | apply Kd.R_alloc | apply Kd.R_drewN | apply Kd.R_drew); exact Kd.R_mono (Kd.R_far (p := ⟨aa, 2, none⟩) (Kd.R_far (p := ⟨aa, 1, none⟩) (Kd.R_far (p := ⟨aa, 0, none⟩) (Kd.R_types aJ.out aF.out (by decide)) (fun _ hk => hk.2) (.slice aw aq.length ax)) (fun _ hk => hk.2) (.slice ay ar.length az)) (fun _ hk => hk.2) (.slice aA av.length aB)) (fun _ hk => ⟨hk.1.1, hk.1.2⟩)⟩;have n5_ : Aside0 (Kd.R k61 61 (((w44.setCell ⟨aa, 0, none⟩ (.slice aw aq.length ax)).setCell ⟨aa, 1, none⟩ (.slice ay ar.length az)).setCell ⟨aa, 2, none⟩ (.slice aA av.length aB)) w.heap.size (fun k_ => some k_ ≠ (.slice aV aM.length aW : Value).ownBlock ∧ some k_ ≠ (.slice ay ar.length az : Value).ownBlock) (.slice aQ aE.length aR) aE) := ⟨by (with_reducible repeat first | apply Kd.R_alloc | apply Kd.R_drewN | apply Kd.R_drew); exact Kd.R_mono (Kd.R_far (p := ⟨aa, 2, none⟩) (Kd.R_far (p := ⟨aa, 1, none⟩) (Kd.R_far (p := ⟨aa, 0, none⟩) (Kd.R_types aK.out aF.out (by decide)) (fun _ hk => hk.2) (.slice aw aq.length ax)) (fun _ hk => hk.2) (.slice ay ar.length az)) (fun _ hk => hk.2) (.slice aA av.length aB)) (fun _ hk => ⟨hk.1.1, hk.1.2⟩)⟩;have n6_ : Aside0 (Kd.N k66 66 (((w44.setCell ⟨aa, 0, none⟩ (.slice aw aq.length ax)).setCell ⟨aa, 1, none⟩ (.slice ay ar.length az)).setCell ⟨aa, 2, none⟩ (.slice aA av.length aB)) w.heap.size (fun k_ => some k_ ≠ (.slice (some ak) ab.length bq : Value).ownBlock ∧ some k_ ≠ (.slice aO aD.length aP : Value).ownBlock ∧ some k_ ≠ (.slice aQ aE.length aR : Value).ownBlock ∧ some k_ ≠ (.slice aT aL.length aU : Value).ownBlock ∧ some k_ ≠ (.slice aV aM.length aW : Value).ownBlock ∧ some k_ ≠ (.slice ba aX.length bb : Value).ownBlock ∧ some k_ ≠ (.slice aw aq.length ax : Value).ownBlock ∧ some k_ ≠ (.slice ay ar.length az : Value).ownBlock ∧ some k_ ≠ (.slice aA av.length aB : Value).ownBlock ∧ k_ ≠ aC ∧ k_ ≠ ae ∧ k_ ≠ ad ∧ k_ ≠ aa) (.slice aY aS.length aZ) aS) := ⟨by (with_reducible repeat first | apply Kd.N_alloc | apply Kd.N_drewN | apply Kd.N_drew); exact Kd.N_mono (Kd.N_far (p := ⟨aa, 2, none⟩) (Kd.N_far (p := ⟨aa, 1, none⟩) (Kd.N_far (p := ⟨aa, 0, none⟩) (Kd.N_mono aN.out (fun k_ hk => (⟨hk, hk.2⟩ : _ ∧ k_ ≠ aa))) (fun _ hk => hk.2) (.slice aw aq.length ax)) (fun _ hk => hk.2) (.slice ay ar.length az)) (fun _ hk => hk.2) (.slice aA av.length aB)) (fun _ hk => ⟨hk.1.1.1.1.1.1, ⟨hk.1.1.1.1.1.2.1, ⟨hk.1.1.1.1.1.2.2.1, ⟨hk.1.1.1.1.1.2.2.2.1, ⟨hk.1.1.1.1.1.2.2.2.2.1, ⟨hk.1.1.1.1.1.2.2.2.2.2.1, ⟨hk.1.1.1.1.2, ⟨hk.1.1.1.2, ⟨hk.1.1.2, ⟨hk.1.1.1.1.1.2.2.2.2.2.2.1, ⟨hk.1.1.1.1.1.2.2.2.2.2.2.2.1, ⟨hk.1.1.1.1.1.2.2.2.2.2.2.2.2, hk.1.2⟩⟩⟩⟩⟩⟩⟩⟩⟩⟩⟩⟩)⟩;have n7_ : Aside0 (Kd.V k64 64 (((w44.setCell ⟨aa, 0, none⟩ (.slice aw aq.length ax)).setCell ⟨aa, 1, none⟩ (.slice ay ar.length az)).setCell ⟨aa, 2, none⟩ (.slice aA av.length aB)) w.heap.size (fun k_ => some k_ ≠ (.slice (some ak) ab.length bq : Value).ownBlock ∧ some k_ ≠ (.slice aO aD.length aP : Value).ownBlock ∧ some k_ ≠ (.slice aQ aE.length aR : Value).ownBlock ∧ some k_ ≠ (.slice aY aS.length aZ : Value).ownBlock ∧ some k_ ≠ (.slice aT aL.length aU : Value).ownBlock ∧ some k_ ≠ (.slice aV aM.length aW : Value).ownBlock ∧ some k_ ≠ (.slice ba aX.length bb : Value).ownBlock ∧ some k_ ≠ (.slice aw aq.length ax : Value).ownBlock ∧ some k_ ≠ (.slice ay ar.length az : Value).ownBlock ∧ some k_ ≠ (.slice aA av.length aB : Value).ownBlock ∧ k_ ≠ aC ∧ k_ ≠ ae ∧ k_ ≠ ad ∧ k_ ≠ aa) (.slice ct ((rd_T26 ab 1).f0).length cu) ((rd_T26 ab 1).f0)) := ⟨by (with_reducible repeat first | apply Kd.V_alloc | apply Kd.V_drewN | apply Kd.V_drew); exact Kd.V_mono (Kd.V_far (p := ⟨aa, 2, none⟩) (Kd.V_far (p := ⟨aa, 1, none⟩) (Kd.V_far (p := ⟨aa, 0, none⟩) (Kd.V_mono an.out (fun k_ hk => (⟨hk, hk.2⟩ : _ ∧ k_ ≠ aa))) (fun _ hk => hk.2) (.slice aw aq.length ax)) (fun _ hk => hk.2) (.slice ay ar.length az)) (fun _ hk => hk.2) (.slice aA av.length aB)) (fun _ hk => ⟨hk.1.1.1.1.1.1, ⟨hk.1.1.1.1.1.2.1, ⟨hk.1.1.1.1.1.2.2.1, ⟨hk.1.1.1.1.1.2.2.2.1, ⟨hk.1.1.1.1.1.2.2.2.2.1, ⟨hk.1.1.1.1.1.2.2.2.2.2.1, ⟨hk.1.1.1.1.1.2.2.2.2.2.2.1, ⟨hk.1.1.1.1.2, ⟨hk.1.1.1.2, ⟨hk.1.1.2, ⟨hk.1.1.1.1.1.2.2.2.2.2.2.2.1, ⟨hk.1.1.1.1.1.2.2.2.2.2.2.2.2.1, ⟨hk.1.1.1.1.1.2.2.2.2.2.2.2.2.2, hk.1.2⟩⟩⟩⟩⟩⟩⟩⟩⟩⟩⟩⟩⟩)⟩;have n8_ : Aside0 (Kd.V k61 61 (((w44.setCell ⟨aa, 0, none⟩ (.slice aw aq.length ax)).setCell ⟨aa, 1, none⟩ (.slice ay ar.length az)).setCell ⟨aa, 2, none⟩ (.slice aA av.length aB)) w.heap.size (fun k_ => some k_ ≠ (.slice (some ak) ab.length bq : Value).ownBlock ∧ some k_ ≠ (.slice aO aD.length aP : Value).ownBlock ∧ some k_ ≠ (.slice aQ aE.length aR : Value).ownBlock ∧ some k_ ≠ (.slice aY aS.length aZ : Value).ownBlock ∧ some k_ ≠ (.slice aT aL.length aU : Value).ownBlock ∧ some k_ ≠ (.slice aV aM.length aW : Value).ownBlock ∧ some k_ ≠ (.slice ba aX.length bb : Value).ownBlock ∧ some k_ ≠ (.slice aw aq.length ax : Value).ownBlock ∧ some k_ ≠ (.slice ay ar.length az : Value).ownBlock ∧ some k_ ≠ (.slice aA av.length aB : Value).ownBlock ∧ k_ ≠ aC ∧ k_ ≠ ae ∧ k_ ≠ ad ∧ k_ ≠ aa) (.slice cv ((rd_T26 ab 1).f1).length cw) ((rd_T26 ab 1).f1)) := ⟨by (with_reducible repeat first | apply Kd.V_alloc | apply Kd.V_drewN | apply Kd.V_drew); exact Kd.V_mono (Kd.V_far (p := ⟨aa, 2, none⟩) (Kd.V_far (p := ⟨aa, 1, none⟩) (Kd.V_far (p := ⟨aa, 0, none⟩) (Kd.V_mono ao.out (fun k_ hk => (⟨hk, hk.2⟩ : _ ∧ k_ ≠ aa))) (fun _ hk => hk.2) (.slice aw aq.length ax)) (fun _ hk => hk.2) (.slice ay ar.length az)) (fun _ hk => hk.2) (.slice aA av.length aB)) (fun _ hk => ⟨hk.1.1.1.1.1.1, ⟨hk.1.1.1.1.1.2.1, ⟨hk.1.1.1.1.1.2.2.1, ⟨hk.1.1.1.1.1.2.2.2.1, ⟨hk.1.1.1.1.1.2.2.2.2.1, ⟨hk.1.1.1.1.1.2.2.2.2.2.1, ⟨hk.1.1.1.1.1.2.2.2.2.2.2.1, ⟨hk.1.1.1.1.2, ⟨hk.1.1.1.2, ⟨hk.1.1.2, ⟨hk.1.1.1.1.1.2.2.2.2.2.2.2.1, ⟨hk.1.1.1.1.1.2.2.2.2.2.2.2.2.1, ⟨hk.1.1.1.1.1.2.2.2.2.2.2.2.2.2, hk.1.2⟩⟩⟩⟩⟩⟩⟩⟩⟩⟩⟩⟩⟩)⟩;have n9_ : Aside0 (Kd.V k66 66 (((w44.setCell ⟨aa, 0, none⟩ (.slice aw aq.length ax)).setCell ⟨aa, 1, none⟩ (.slice ay ar.length az)).setCell ⟨aa, 2, none⟩ (.slice aA av.length aB)) w.heap.size (fun k_ => some k_ ≠ (.slice (some ak) ab.length bq : Value).ownBlock ∧ some k_ ≠ (.slice aO aD.length aP : Value).ownBlock ∧ some k_ ≠ (.slice aQ aE.length aR : Value).ownBlock ∧ some k_ ≠ (.slice aY aS.length aZ : Value).ownBlock ∧ some k_ ≠ (.slice aT aL.length aU : Value).ownBlock ∧ some k_ ≠ (.slice aV aM.length aW : Value).ownBlock ∧ some k_ ≠ (.slice ba aX.length bb : Value).ownBlock ∧ some k_ ≠ (.slice aw aq.length ax : Value).ownBlock ∧ some k_ ≠ (.slice ay ar.length az : Value).ownBlock ∧ some k_ ≠ (.slice aA av.length aB : Value).ownBlock ∧ k_ ≠ aC ∧ k_ ≠ ae ∧ k_ ≠ ad ∧ k_ ≠ aa) (.slice cx ((rd_T26 ab 1).f2).length cy) ((rd_T26 ab 1).f2)) := ⟨by (with_reducible repeat first | apply Kd.V_alloc | apply Kd.V_drewN | apply Kd.V_drew); exact Kd.V_mono (Kd.V_far (p := ⟨aa, 2, none⟩) (Kd.V_far (p := ⟨aa, 1, none⟩) (Kd.V_far (p := ⟨aa, 0, none⟩) (Kd.V_mono ap.out (fun k_ hk => (⟨hk, hk.2⟩ : _ ∧ k_ ≠ aa))) (fun _ hk => hk.2) (.slice aw aq.length ax)) (fun _ hk => hk.2) (.slice ay ar.length az)) (fun _ hk => hk.2) (.slice aA av.length aB)) (fun _ hk => ⟨hk.1.1.1.1.1.1, ⟨hk.1.1.1.1.1.2.1, ⟨hk.1.1.1.1.1.2.2.1, ⟨hk.1.1.1.1.1.2.2.2.1, ⟨hk.1.1.1.1.1.2.2.2.2.1, ⟨hk.1.1.1.1.1.2.2.2.2.2.1, ⟨hk.1.1.1.1.1.2.2.2.2.2.2.1, ⟨hk.1.1.1.1.2, ⟨hk.1.1.1.2, ⟨hk.1.1.2, ⟨hk.1.1.1.1.1.2.2.2.2.2.2.2.1, ⟨hk.1.1.1.1.1.2.2.2.2.2.2.2.2.1, ⟨hk.1.1.1.1.1.2.2.2.2.2.2.2.2.2, hk.1.2⟩⟩⟩⟩⟩⟩⟩⟩⟩⟩⟩⟩⟩)⟩;have n10_ : Aside0 (Kd.R k64 64 (((w44.setCell ⟨aa, 0, none⟩ (.slice aw aq.length ax)).setCell ⟨aa, 1, none⟩ (.slice ay ar.length az)).setCell ⟨aa, 2, none⟩ (.slice aA av.length aB)) w.heap.size (fun k_ => some k_ ≠ (.slice aO aD.length aP : Value).ownBlock ∧ some k_ ≠ (.slice aw aq.length ax : Value).ownBlock) (.slice aT aL.length aU) aL) := ⟨by (with_reducible repeat first | apply Kd.R_alloc | apply Kd.R_drewN | apply Kd.R_drew); exact Kd.R_mono (Kd.R_far (p := ⟨aa, 2, none⟩) (Kd.R_far (p := ⟨aa, 1, none⟩) (Kd.R_far (p := ⟨aa, 0, none⟩) (Kd.R_types bc.out aF.out (by decide)) (fun _ hk => hk.2) (.slice aw aq.length ax)) (fun _ hk => hk.2) (.slice ay ar.length az)) (fun _ hk => hk.2) (.slice aA av.length aB)) (fun _ hk => ⟨hk.1.1, hk.1.2⟩)⟩;have n11_ : Aside0 (Kd.R k61 61 (((w44.setCell ⟨aa, 0, none⟩ (.slice aw aq.length ax)).setCell ⟨aa, 1, none⟩ (.slice ay ar.length az)).setCell ⟨aa, 2, none⟩ (.slice aA av.length aB)) w.heap.size (fun k_ => some k_ ≠ (.slice aQ aE.length aR : Value).ownBlock ∧ some k_ ≠ (.slice ay ar.length az : Value).ownBlock) (.slice aV aM.length aW) aM) := ⟨by (with_reducible repeat first | apply Kd.R_alloc | apply Kd.R_drewN | apply Kd.R_drew); exact Kd.R_mono (Kd.R_far (p := ⟨aa, 2, none⟩) (Kd.R_far (p := ⟨aa, 1, none⟩) (Kd.R_far (p := ⟨aa, 0, none⟩) (Kd.R_types bd.out aF.out (by decide)) (fun _ hk => hk.2) (.slice aw aq.length ax)) (fun _ hk => hk.2) (.slice ay ar.length az)) (fun _ hk => hk.2) (.slice aA av.length aB)) (fun _ hk => ⟨hk.1.1, hk.1.2⟩)⟩;have n12_ : Aside0 (Kd.N k66 66 (((w44.setCell ⟨aa, 0, none⟩ (.slice aw aq.length ax)).setCell ⟨aa, 1, none⟩ (.slice ay ar.length az)).setCell ⟨aa, 2, none⟩ (.slice aA av.length aB)) w.heap.size (fun k_ => some k_ ≠ (.slice (some ak) ab.length bq : Value).ownBlock ∧ some k_ ≠ (.slice aO aD.length aP : Value).ownBlock ∧ some k_ ≠ (.slice aQ aE.length aR : Value).ownBlock ∧ some k_ ≠ (.slice aY aS.length aZ : Value).ownBlock ∧ some k_ ≠ (.slice aT aL.length aU : Value).ownBlock ∧ some k_ ≠ (.slice aV aM.length aW : Value).ownBlock ∧ some k_ ≠ (.slice aw aq.length ax : Value).ownBlock ∧ some k_ ≠ (.slice ay ar.length az : Value).ownBlock ∧ some k_ ≠ (.slice aA av.length aB : Value).ownBlock ∧ k_ ≠ aC ∧ k_ ≠ ae ∧ k_ ≠ ad ∧ k_ ≠ aa) (.slice ba aX.length bb) aX) := ⟨by (with_reducible repeat first | apply Kd.N_alloc | apply Kd.N_drewN | apply Kd.N_drew); exact Kd.N_mono (Kd.N_far (p := ⟨aa, 2, none⟩) (Kd.N_far (p := ⟨aa, 1, none⟩) (Kd.N_far (p := ⟨aa, 0, none⟩) (Kd.N_mono bf.out (fun k_ hk => (⟨hk, hk.2⟩ : _ ∧ k_ ≠ aa))) (fun _ hk => hk.2) (.slice aw aq.length ax)) (fun _ hk => hk.2) (.slice ay ar.length az)) (fun _ hk => hk.2) (.slice aA av.length aB)) (fun _ hk => ⟨hk.1.1.1.1.1.1, ⟨hk.1.1.1.1.1.2.1, ⟨hk.1.1.1.1.1.2.2.1, ⟨hk.1.1.1.1.1.2.2.2.1, ⟨hk.1.1.1.1.1.2.2.2.2.1, ⟨hk.1.1.1.1.1.2.2.2.2.2.1, ⟨hk.1.1.1.1.2, ⟨hk.1.1.1.2, ⟨hk.1.1.2, ⟨hk.1.1.1.1.1.2.2.2.2.2.2.1, ⟨hk.1.1.1.1.1.2.2.2.2.2.2.2.1, ⟨hk.1.1.1.1.1.2.2.2.2.2.2.2.2, hk.1.2⟩⟩⟩⟩⟩⟩⟩⟩⟩⟩⟩⟩)⟩;have n13_ : Aside0 (Kd.V k64 64 (((w44.setCell ⟨aa, 0, none⟩ (.slice aw aq.length ax)).setCell ⟨aa, 1, none⟩ (.slice ay ar.length az)).setCell ⟨aa, 2, none⟩ (.slice aA av.length aB)) w.heap.size (fun k_ => some k_ ≠ (.slice (some ak) ab.length bq : Value).ownBlock ∧ some k_ ≠ (.slice aO aD.length aP : Value).ownBlock ∧ some k_ ≠ (.slice aQ aE.length aR : Value).ownBlock ∧ some k_ ≠ (.slice aY aS.length aZ : Value).ownBlock ∧ some k_ ≠ (.slice aT aL.length aU : Value).ownBlock ∧ some k_ ≠ (.slice aV aM.length aW : Value).ownBlock ∧ some k_ ≠ (.slice ba aX.length bb : Value).ownBlock ∧ some k_ ≠ (.slice aw aq.length ax : Value).ownBlock ∧ some k_ ≠ (.slice ay ar.length az : Value).ownBlock ∧ some k_ ≠ (.slice aA av.length aB : Value).ownBlock ∧ k_ ≠ aC ∧ k_ ≠ ae ∧ k_ ≠ ad ∧ k_ ≠ aa) (.slice dt ((rd_T26 ab 2).f0).length du) ((rd_T26 ab 2).f0)) := ⟨by (with_reducible repeat first | apply Kd.V_alloc | apply Kd.V_drewN | apply Kd.V_drew); exact Kd.V_mono (Kd.V_far (p := ⟨aa, 2, none⟩) (Kd.V_far (p := ⟨aa, 1, none⟩) (Kd.V_far (p := ⟨aa, 0, none⟩) (Kd.V_mono aG.out (fun k_ hk => (⟨hk, hk.2⟩ : _ ∧ k_ ≠ aa))) (fun _ hk => hk.2) (.slice aw aq.length ax)) (fun _ hk => hk.2) (.slice ay ar.length az)) (fun _ hk => hk.2) (.slice aA av.length aB)) (fun _ hk => ⟨hk.1.1.1.1.1.2, ⟨hk.1.1.1.1.1.1.1, ⟨hk.1.1.1.1.1.1.2.1, ⟨hk.1.1.1.1.1.1.2.2.1, ⟨hk.1.1.1.1.1.1.2.2.2.1, ⟨hk.1.1.1.1.1.1.2.2.2.2.1, ⟨hk.1.1.1.1.1.1.2.2.2.2.2.1, ⟨hk.1.1.1.1.2, ⟨hk.1.1.1.2, ⟨hk.1.1.2, ⟨hk.1.1.1.1.1.1.2.2.2.2.2.2.1, ⟨hk.1.1.1.1.1.1.2.2.2.2.2.2.2.1, ⟨hk.1.1.1.1.1.1.2.2.2.2.2.2.2.2, hk.1.2⟩⟩⟩⟩⟩⟩⟩⟩⟩⟩⟩⟩⟩)⟩;have n14_ : Aside0 (Kd.V k61 61 (((w44.setCell ⟨aa, 0, none⟩ (.slice aw aq.length ax)).setCell ⟨aa, 1, none⟩ (.slice ay ar.length az)).setCell ⟨aa, 2, none⟩ (.slice aA av.length aB)) w.heap.size (fun k_ => some k_ ≠ (.slice (some ak) ab.length bq : Value).ownBlock ∧ some k_ ≠ (.slice aO aD.length aP : Value).ownBlock ∧ some k_ ≠ (.slice aQ aE.length aR : Value).ownBlock ∧ some k_ ≠ (.slice aY aS.length aZ : Value).ownBlock ∧ some k_ ≠ (.slice aT aL.length aU : Value).ownBlock ∧ some k_ ≠ (.slice aV aM.length aW : Value).ownBlock ∧ some k_ ≠ (.slice ba aX.length bb : Value).ownBlock ∧ some k_ ≠ (.slice aw aq.length ax : Value).ownBlock ∧ some k_ ≠ (.slice ay ar.length az : Value).ownBlock ∧ some k_ ≠ (.slice aA av.length aB : Value).ownBlock ∧ k_ ≠ aC ∧ k_ ≠ ae ∧ k_ ≠ ad ∧ k_ ≠ aa) (.slice dv ((rd_T26 ab 2).f1).length dw) ((rd_T26 ab 2).f1)) := ⟨by (with_reducible repeat first | apply Kd.V_alloc | apply Kd.V_drewN | apply Kd.V_drew); exact Kd.V_mono (Kd.V_far (p := ⟨aa, 2, none⟩) (Kd.V_far (p := ⟨aa, 1, none⟩) (Kd.V_far (p := ⟨aa, 0, none⟩) (Kd.V_mono aH.out (fun k_ hk => (⟨hk, hk.2⟩ : _ ∧ k_ ≠ aa))) (fun _ hk => hk.2) (.slice aw aq.length ax)) (fun _ hk => hk.2) (.slice ay ar.length az)) (fun _ hk => hk.2) (.slice aA av.length aB)) (fun _ hk => ⟨hk.1.1.1.1.1.2, ⟨hk.1.1.1.1.1.1.1, ⟨hk.1.1.1.1.1.1.2.1, ⟨hk.1.1.1.1.1.1.2.2.1, ⟨hk.1.1.1.1.1.1.2.2.2.1, ⟨hk.1.1.1.1.1.1.2.2.2.2.1, ⟨hk.1.1.1.1.1.1.2.2.2.2.2.1, ⟨hk.1.1.1.1.2, ⟨hk.1.1.1.2, ⟨hk.1.1.2, ⟨hk.1.1.1.1.1.1.2.2.2.2.2.2.1, ⟨hk.1.1.1.1.1.1.2.2.2.2.2.2.2.1, ⟨hk.1.1.1.1.1.1.2.2.2.2.2.2.2.2, hk.1.2⟩⟩⟩⟩⟩⟩⟩⟩⟩⟩⟩⟩⟩)⟩
 have n15_ : Aside0 (Kd.V k66 66 (((w44.setCell ⟨aa, 0, none⟩ (.slice aw aq.length ax)).setCell ⟨aa, 1, none⟩ (.slice ay ar.length az)).setCell ⟨aa, 2, none⟩ (.slice aA av.length aB)) w.heap.size (fun k_ => some k_ ≠ (.slice (some ak) ab.length bq : Value).ownBlock ∧ some k_ ≠ (.slice aO aD.length aP : Value).ownBlock ∧ some k_ ≠ (.slice aQ aE.length aR : Value).ownBlock ∧ some k_ ≠ (.slice aY aS.length aZ : Value).ownBlock ∧ some k_ ≠ (.slice aT aL.length aU : Value).ownBlock ∧ some k_ ≠ (.slice aV aM.length aW : Value).ownBlock ∧ some k_ ≠ (.slice ba aX.length bb : Value).ownBlock ∧ some k_ ≠ (.slice aw aq.length ax : Value).ownBlock ∧ some k_ ≠ (.slice ay ar.length az : Value).ownBlock ∧ some k_ ≠ (.slice aA av.length aB : Value).ownBlock ∧ k_ ≠ aC ∧ k_ ≠ ae ∧ k_ ≠ ad ∧ k_ ≠ aa) (.slice dx ((rd_T26 ab 2).f2).length dy) ((rd_T26 ab 2).f2)) := ⟨by (with_reducible repeat first | apply Kd.V_alloc | apply Kd.V_drewN | apply Kd.V_drew); exact Kd.V_mono (Kd.V_far (p := ⟨aa, 2, none⟩) (Kd.V_far (p := ⟨aa, 1, none⟩) (Kd.V_far (p := ⟨aa, 0, none⟩) (Kd.V_mono aI.out (fun k_ hk => (⟨hk, hk.2⟩ : _ ∧ k_ ≠ aa))) (fun _ hk => hk.2) (.slice aw aq.length ax)) (fun _ hk => hk.2) (.slice ay ar.length az)) (fun _ hk => hk.2) (.slice aA av.length aB)) (fun _ hk => ⟨hk.1.1.1.1.1.2, ⟨hk.1.1.1.1.1.1.1, ⟨hk.1.1.1.1.1.1.2.1, ⟨hk.1.1.1.1.1.1.2.2.1, ⟨hk.1.1.1.1.1.1.2.2.2.1, ⟨hk.1.1.1.1.1.1.2.2.2.2.1, ⟨hk.1.1.1.1.1.1.2.2.2.2.2.1, ⟨hk.1.1.1.1.2, ⟨hk.1.1.1.2, ⟨hk.1.1.2, ⟨hk.1.1.1.1.1.1.2.2.2.2.2.2.1, ⟨hk.1.1.1.1.1.1.2.2.2.2.2.2.2.1, ⟨hk.1.1.1.1.1.1.2.2.2.2.2.2.2.2, hk.1.2⟩⟩⟩⟩⟩⟩⟩⟩⟩⟩⟩⟩⟩)⟩;have n16_ : Aside0 (Kd.R k64 64 (((w44.setCell ⟨aa, 0, none⟩ (.slice aw aq.length ax)).setCell ⟨aa, 1, none⟩ (.slice ay ar.length az)).setCell ⟨aa, 2, none⟩ (.slice aA av.length aB)) w.heap.size (fun k_ => some k_ ≠ (.slice aO aD.length aP : Value).ownBlock ∧ some k_ ≠ (.slice aT aL.length aU : Value).ownBlock) (.slice aw aq.length ax) aq) := ⟨by (with_reducible repeat first | apply Kd.R_alloc | apply Kd.R_drewN | apply Kd.R_drew); exact Kd.R_mono (Kd.R_far (p := ⟨aa, 2, none⟩) (Kd.R_far (p := ⟨aa, 1, none⟩) (Kd.R_far (p := ⟨aa, 0, none⟩) (Kd.R_types br.out aF.out (by decide)) (fun _ hk => hk.2) (.slice aw aq.length ax)) (fun _ hk => hk.2) (.slice ay ar.length az)) (fun _ hk => hk.2) (.slice aA av.length aB)) (fun _ hk => ⟨hk.1.1.2, hk.1.2⟩)⟩;have n17_ : Aside0 (Kd.R k61 61 (((w44.setCell ⟨aa, 0, none⟩ (.slice aw aq.length ax)).setCell ⟨aa, 1, none⟩ (.slice ay ar.length az)).setCell ⟨aa, 2, none⟩ (.slice aA av.length aB)) w.heap.size (fun k_ => some k_ ≠ (.slice aQ aE.length aR : Value).ownBlock ∧ some k_ ≠ (.slice aV aM.length aW : Value).ownBlock) (.slice ay ar.length az) ar) := ⟨by (with_reducible repeat first | apply Kd.R_alloc | apply Kd.R_drewN | apply Kd.R_drew); exact Kd.R_mono (Kd.R_far (p := ⟨aa, 2, none⟩) (Kd.R_far (p := ⟨aa, 1, none⟩) (Kd.R_far (p := ⟨aa, 0, none⟩) (Kd.R_types bt.out aF.out (by decide)) (fun _ hk => hk.2) (.slice aw aq.length ax)) (fun _ hk => hk.2) (.slice ay ar.length az)) (fun _ hk => hk.2) (.slice aA av.length aB)) (fun _ hk => ⟨hk.1.1.2, hk.1.2⟩)⟩;have n18_ : Aside0 (Kd.N k66 66 (((w44.setCell ⟨aa, 0, none⟩ (.slice aw aq.length ax)).setCell ⟨aa, 1, none⟩ (.slice ay ar.length az)).setCell ⟨aa, 2, none⟩ (.slice aA av.length aB)) w.heap.size (fun k_ => some k_ ≠ (.slice (some ak) ab.length bq : Value).ownBlock ∧ some k_ ≠ (.slice aO aD.length aP : Value).ownBlock ∧ some k_ ≠ (.slice aQ aE.length aR : Value).ownBlock ∧ some k_ ≠ (.slice aY aS.length aZ : Value).ownBlock ∧ some k_ ≠ (.slice aT aL.length aU : Value).ownBlock ∧ some k_ ≠ (.slice aV aM.length aW : Value).ownBlock ∧ some k_ ≠ (.slice ba aX.length bb : Value).ownBlock ∧ some k_ ≠ (.slice aw aq.length ax : Value).ownBlock ∧ some k_ ≠ (.slice ay ar.length az : Value).ownBlock ∧ k_ ≠ aC ∧ k_ ≠ ae ∧ k_ ≠ ad ∧ k_ ≠ aa) (.slice aA av.length aB) av) := ⟨by (with_reducible repeat first | apply Kd.N_alloc | apply Kd.N_drewN | apply Kd.N_drew); exact Kd.N_mono (Kd.N_far (p := ⟨aa, 2, none⟩) (Kd.N_far (p := ⟨aa, 1, none⟩) (Kd.N_far (p := ⟨aa, 0, none⟩) (Kd.N_mono bu.out (fun k_ hk => (⟨hk, hk.2⟩ : _ ∧ k_ ≠ aa))) (fun _ hk => hk.2) (.slice aw aq.length ax)) (fun _ hk => hk.2) (.slice ay ar.length az)) (fun _ hk => hk.2) (.slice aA av.length aB)) (fun _ hk => ⟨hk.1.1.2.2.1, ⟨hk.1.1.2.2.2.1, ⟨hk.1.1.2.2.2.2.1, ⟨hk.1.1.2.2.2.2.2.1, ⟨hk.1.1.2.2.2.2.2.2.1, ⟨hk.1.1.2.2.2.2.2.2.2.1, ⟨hk.1.1.2.2.2.2.2.2.2.2.1, ⟨hk.1.1.1, ⟨hk.1.1.2.1, ⟨hk.1.1.2.2.2.2.2.2.2.2.2.1, ⟨hk.1.1.2.2.2.2.2.2.2.2.2.2.1, ⟨hk.1.1.2.2.2.2.2.2.2.2.2.2.2, hk.1.2⟩⟩⟩⟩⟩⟩⟩⟩⟩⟩⟩⟩)⟩;have n19_ : Aside0 ((((w44.setCell ⟨aa, 0, none⟩ (.slice aw aq.length ax)).setCell ⟨aa, 1, none⟩ (.slice ay ar.length az)).setCell ⟨aa, 2, none⟩ (.slice aA av.length aB)).heap[aC]? = some (.cells #[.slice bL bv.length bM, .slice bN bw.length bO, .slice bP bx.length bQ] 26 (0, 0))) := ⟨kg ai⟩;have n20_ : Aside0 ((((w44.setCell ⟨aa, 0, none⟩ (.slice aw aq.length ax)).setCell ⟨aa, 1, none⟩ (.slice ay ar.length az)).setCell ⟨aa, 2, none⟩ (.slice aA av.length aB)).heap[ae]? = some (.cells #[.slice aO aD.length aP, .slice aQ aE.length aR, .slice aY aS.length aZ] 26 (0, 0))) := ⟨kg al⟩;have n21_ : Aside0 ((((w44.setCell ⟨aa, 0, none⟩ (.slice aw aq.length ax)).setCell ⟨aa, 1, none⟩ (.slice ay ar.length az)).setCell ⟨aa, 2, none⟩ (.slice aA av.length aB)).heap[ad]? = some (.cells #[.slice aT aL.length aU, .slice aV aM.length aW, .slice ba aX.length bb] 26 (0, 0))) := ⟨kg au⟩;have n22_ : Aside0 ((((w44.setCell ⟨aa, 0, none⟩ (.slice aw aq.length ax)).setCell ⟨aa, 1, none⟩ (.slice ay ar.length az)).setCell ⟨aa, 2, none⟩ (.slice aA av.length aB)).heap[aa]? = some (.cells #[.slice aw aq.length ax, .slice ay ar.length az, .slice aA av.length aB] 26 (0, 0))) := ⟨kg aF⟩;have n23_ : Aside0 (Below w.heap.size w (((w44.setCell ⟨aa, 0, none⟩ (.slice aw aq.length ax)).setCell ⟨aa, 1, none⟩ (.slice ay ar.length az)).setCell ⟨aa, 2, none⟩ (.slice aA av.length aB))) := ⟨kh HB⟩;(try clear aj af ag ah aJ aK aN an ao ap bc bd bf aG aH aI br bt bu ai al au aF HB);generalize (((w44.setCell ⟨aa, 0, none⟩ (.slice aw aq.length ax)).setCell ⟨aa, 1, none⟩ (.slice ay ar.length az)).setCell ⟨aa, 2, none⟩ (.slice aA av.length aB)) = w52 at n0_ n1_ n2_ n3_ n4_ n5_ n6_ n7_ n8_ n9_ n10_ n11_ n12_ n13_ n14_ n15_ n16_ n17_ n18_ n19_ n20_ n21_ n22_ n23_ ⊢;have aj := n0_; have af := n1_; have ag := n2_; have ah := n3_; have aJ := n4_; have aK := n5_; have aN := n6_; have an := n7_; have ao := n8_; have ap := n9_; have bc := n10_; have bd := n11_; have bf := n12_; have aG := n13_; have aH := n14_; have aI := n15_; have br := n16_; have bt := n17_; have bu := n18_; have ai := n19_; have al := n20_; have au := n21_; have aF := n22_; have HB := n23_; clear n0_ n1_ n2_ n3_ n4_ n5_ n6_ n7_ n8_ n9_ n10_ n11_ n12_ n13_ n14_ n15_ n16_ n17_ n18_ n19_ n20_ n21_ n22_ n23_;replace aj := kFN aj; replace af := kFV af; replace ag := kFV ag; replace ah := kFV ah; replace aJ := kFR aJ; replace aK := kFR aK; replace aN := kFN aN; replace an := kFV an; replace ao := kFV ao; replace ap := kFV ap; replace bc := kFR bc; replace bd := kFR bd; replace bf := kFN bf; replace aG := kFV aG; replace aH := kFV aH; replace aI := kFV aI; replace br := kFR br; replace bt := kFR bt; replace bu := kFN bu; replace ai := kD ai; replace al := kD al; replace au := kD au; replace aF := kD aF; replace HB := kE HB;have eh : 0 ≤ (0 : Int) := (by omega);have ei : 0 < (ab.length : Int) := od;obtain ⟨fa, dz, dA, dB, dC, dD, dE, fB, bC, bD, bE, cP, hi832_0, cQ, hi832_1, cR, hi832_2⟩ := at_T26 (Kd.N_reads' aj.out).2.2 0 eh ei;obtain rfl : ak = fa := (by injection fB);obtain ⟨ce832, hce832, hMe832, hcc832⟩ := Kd.N_get aj.out z26 0 eh (by first | exact ei | exact od | (have e_ := (Kd.N_reads' aj.out).1; omega));obtain ⟨ua832_0, uc832_0, ua832_1, uc832_1, ua832_2, uc832_2, rfl, ul832_0, ge832_0, ul832_1, ge832_1, ul832_2, ge832_2⟩ := k26_openF hMe832;have hv832_0 := hcc832 0 _ rfl;rw [Nat.add_zero] at hv832_0;replace hv832_0 := qqI (hv832_0.symm.trans bC)
 injection hv832_0 with hva_ hvn_ hvc_
 rw [hva_] at ge832_0;rw [hvc_] at ul832_0;have bg := Aside0.mk (show Kd.V k64 64 _ w.heap.size _ _ ((rd_T26 ab 0).f0) from Kd.V_mk ul832_0 ge832_0);clear hva_ hvn_ hvc_ ge832_0 ul832_0;have hv832_1 := hcc832 1 _ rfl;rw [add_field _ _ 1 (by omega)] at hv832_1;replace hv832_1 := qqI (hv832_1.symm.trans bD)
 injection hv832_1 with hva_ hvn_ hvc_
 rw [hva_] at ge832_1;rw [hvc_] at ul832_1;have bh := Aside0.mk (show Kd.V k61 61 _ w.heap.size _ _ ((rd_T26 ab 0).f1) from Kd.V_mk ul832_1 ge832_1);clear hva_ hvn_ hvc_ ge832_1 ul832_1;have hv832_2 := hcc832 2 _ rfl;rw [add_field _ _ 2 (by omega)] at hv832_2;replace hv832_2 := qqI (hv832_2.symm.trans bE)
 injection hv832_2 with hva_ hvn_ hvc_
 rw [hva_] at ge832_2;rw [hvc_] at ul832_2;have bi := Aside0.mk (show Kd.V k66 66 _ w.heap.size _ _ ((rd_T26 ab 0).f2) from Kd.V_mk ul832_2 ge832_2);clear hva_ hvn_ hvc_ ge832_2 ul832_2 hcc832 hce832;have qi832 : (0 < ab.length) = True := eq_true (by omega);(try rw [show ((0 : Int)).toNat = 0 from rfl] at bC);(try rw [show 0 * 3 = 0 from rfl] at bC);(try rw [Addr.add_zero'] at bC);(try rw [show ((0 : Int)).toNat = 0 from rfl] at bD);(try rw [show 0 * 3 = 0 from rfl] at bD);(try rw [Addr.add_zero'] at bD);(try rw [show ((0 : Int)).toNat = 0 from rfl] at bE);(try rw [show 0 * 3 = 0 from rfl] at bE);(try rw [Addr.add_zero'] at bE);have bR := Aside0.mk hi832_0;have ej := Aside0.mk cP;clear hi832_0 cP;have bS := Aside0.mk hi832_1;have ek := Aside0.mk cQ;clear hi832_1 cQ;have bT := Aside0.mk hi832_2;have el := Aside0.mk cR;clear hi832_2 cR; replace eh := eq_true eh; replace ei := eq_true ei;have em : 0 ≤ (1 : Int) := (by omega);have en : 1 < (ab.length : Int) := od;obtain ⟨fb, dF, dG, dH, dI, dJ, dK, fC, bF, bG, bH, cS, hi834_0, cT, hi834_1, cU, hi834_2⟩ := at_T26 (Kd.N_reads' aj.out).2.2 1 em en;obtain rfl : ak = fb := (by injection fC);obtain ⟨ce834, hce834, hMe834, hcc834⟩ := Kd.N_get aj.out z26 1 em (by first | exact en | exact od | (have e_ := (Kd.N_reads' aj.out).1; omega));obtain ⟨ua834_0, uc834_0, ua834_1, uc834_1, ua834_2, uc834_2, rfl, ul834_0, ge834_0, ul834_1, ge834_1, ul834_2, ge834_2⟩ := k26_openF hMe834;have hv834_0 := hcc834 0 _ rfl;rw [Nat.add_zero] at hv834_0;replace hv834_0 := qqI (hv834_0.symm.trans bF)
 injection hv834_0 with hva_ hvn_ hvc_
 rw [hva_] at ge834_0;rw [hvc_] at ul834_0;have bj := Aside0.mk (show Kd.V k64 64 _ w.heap.size _ _ ((rd_T26 ab 1).f0) from Kd.V_mk ul834_0 ge834_0);clear hva_ hvn_ hvc_ ge834_0 ul834_0;have hv834_1 := hcc834 1 _ rfl;rw [add_field _ _ 1 (by omega)] at hv834_1;replace hv834_1 := qqI (hv834_1.symm.trans bG)
 injection hv834_1 with hva_ hvn_ hvc_
 rw [hva_] at ge834_1;rw [hvc_] at ul834_1;have bk := Aside0.mk (show Kd.V k61 61 _ w.heap.size _ _ ((rd_T26 ab 1).f1) from Kd.V_mk ul834_1 ge834_1);clear hva_ hvn_ hvc_ ge834_1 ul834_1;have hv834_2 := hcc834 2 _ rfl;rw [add_field _ _ 2 (by omega)] at hv834_2;replace hv834_2 := qqI (hv834_2.symm.trans bH)
 injection hv834_2 with hva_ hvn_ hvc_
 rw [hva_] at ge834_2;rw [hvc_] at ul834_2;have bl := Aside0.mk (show Kd.V k66 66 _ w.heap.size _ _ ((rd_T26 ab 1).f2) from Kd.V_mk ul834_2 ge834_2);clear hva_ hvn_ hvc_ ge834_2 ul834_2 hcc834 hce834;(try simp only [show (1 : Int).toNat = 1 from rfl, Nat.reduceMul, Nat.reduceEqDiff, Go.Addr.add, ↓reduceIte] at bF);(try simp only [show (1 : Int).toNat = 1 from rfl, Nat.reduceMul, Nat.reduceEqDiff, Go.Addr.add, ↓reduceIte] at bG);(try simp only [show (1 : Int).toNat = 1 from rfl, Nat.reduceMul, Nat.reduceEqDiff, Go.Addr.add, ↓reduceIte] at bH);have qi834 : (1 < ab.length) = True := eq_true (by omega);(try rw [show ((1 : Int)).toNat = 1 from rfl] at bF);(try rw [show 1 * 3 = 3 from rfl] at bF);(try rw [show ((1 : Int)).toNat = 1 from rfl] at bG);(try rw [show 1 * 3 = 3 from rfl] at bG);(try rw [show ((1 : Int)).toNat = 1 from rfl] at bH);(try rw [show 1 * 3 = 3 from rfl] at bH);have bU := Aside0.mk hi834_0;have eo := Aside0.mk cS;clear hi834_0 cS;have bV := Aside0.mk hi834_1;have ep := Aside0.mk cT;clear hi834_1 cT;have bW := Aside0.mk hi834_2;have eq := Aside0.mk cU;clear hi834_2 cU; replace em := eq_true em; replace en := eq_true en;have eu : 0 ≤ (2 : Int) := (by omega);have ev : 2 < (ab.length : Int) := od;obtain ⟨fc, dL, dM, dN, dO, dP, dQ, fD, bI, bJ, bK, cV, hi836_0, cW, hi836_1, cX, hi836_2⟩ := at_T26 (Kd.N_reads' aj.out).2.2 2 eu ev;obtain rfl : ak = fc := (by injection fD);obtain ⟨ce836, hce836, hMe836, hcc836⟩ := Kd.N_get aj.out z26 2 eu (by first | exact ev | exact od | (have e_ := (Kd.N_reads' aj.out).1; omega));obtain ⟨ua836_0, uc836_0, ua836_1, uc836_1, ua836_2, uc836_2, rfl, ul836_0, ge836_0, ul836_1, ge836_1, ul836_2, ge836_2⟩ := k26_openF hMe836;have hv836_0 := hcc836 0 _ rfl;rw [Nat.add_zero] at hv836_0;replace hv836_0 := qqI (hv836_0.symm.trans bI)
 injection hv836_0 with hva_ hvn_ hvc_
 rw [hva_] at ge836_0;rw [hvc_] at ul836_0;have bm := Aside0.mk (show Kd.V k64 64 _ w.heap.size _ _ ((rd_T26 ab 2).f0) from Kd.V_mk ul836_0 ge836_0);clear hva_ hvn_ hvc_ ge836_0 ul836_0;have hv836_1 := hcc836 1 _ rfl;rw [add_field _ _ 1 (by omega)] at hv836_1;replace hv836_1 := qqI (hv836_1.symm.trans bJ)
 injection hv836_1 with hva_ hvn_ hvc_
 rw [hva_] at ge836_1;rw [hvc_] at ul836_1;have bn := Aside0.mk (show Kd.V k61 61 _ w.heap.size _ _ ((rd_T26 ab 2).f1) from Kd.V_mk ul836_1 ge836_1);clear hva_ hvn_ hvc_ ge836_1 ul836_1;have hv836_2 := hcc836 2 _ rfl;rw [add_field _ _ 2 (by omega)] at hv836_2;replace hv836_2 := qqI (hv836_2.symm.trans bK)
 injection hv836_2 with hva_ hvn_ hvc_
 rw [hva_] at ge836_2;rw [hvc_] at ul836_2;have bo := Aside0.mk (show Kd.V k66 66 _ w.heap.size _ _ ((rd_T26 ab 2).f2) from Kd.V_mk ul836_2 ge836_2);clear hva_ hvn_ hvc_ ge836_2 ul836_2 hcc836 hce836;(try simp only [show (2 : Int).toNat = 2 from rfl, Nat.reduceMul, Nat.reduceEqDiff, Go.Addr.add, ↓reduceIte] at bI);(try simp only [show (2 : Int).toNat = 2 from rfl, Nat.reduceMul, Nat.reduceEqDiff, Go.Addr.add, ↓reduceIte] at bJ);(try simp only [show (2 : Int).toNat = 2 from rfl, Nat.reduceMul, Nat.reduceEqDiff, Go.Addr.add, ↓reduceIte] at bK);have qi836 : (2 < ab.length) = True := eq_true (by omega);(try rw [show ((2 : Int)).toNat = 2 from rfl] at bI);(try rw [show 2 * 3 = 6 from rfl] at bI);(try rw [show ((2 : Int)).toNat = 2 from rfl] at bJ);(try rw [show 2 * 3 = 6 from rfl] at bJ);(try rw [show ((2 : Int)).toNat = 2 from rfl] at bK);(try rw [show 2 * 3 = 6 from rfl] at bK);have bX := Aside0.mk hi836_0;have ew := Aside0.mk cV;clear hi836_0 cV;have bY := Aside0.mk hi836_1;have ex := Aside0.mk cW;clear hi836_1 cW;have bZ := Aside0.mk hi836_2;have ey := Aside0.mk cX;clear hi836_2 cX; replace eu := eq_true eu; replace ev := eq_true ev;refine start_ (n := 26) (S := fun w' => w'.cell? ⟨ae, 0, none⟩ = some (.slice aO aD.length aP) ∧ w'.cell? ⟨ae, 1, none⟩ = some (.slice aQ aE.length aR) ∧ w'.cell? ⟨ae, 2, none⟩ = some (.slice aY aS.length aZ) ∧ w'.cell? ⟨ad, 0, none⟩ = some (.slice aT aL.length aU) ∧ w'.cell? ⟨ad, 1, none⟩ = some (.slice aV aM.length aW) ∧ w'.cell? ⟨ad, 2, none⟩ = some (.slice ba aX.length bb) ∧ w'.cell? ⟨aa, 0, none⟩ = some (.slice aw aq.length ax) ∧ w'.cell? ⟨aa, 1, none⟩ = some (.slice ay ar.length az) ∧ w'.cell? ⟨aa, 2, none⟩ = some (.slice aA av.length aB) ∧ w'.cell? ak = some (.slice dz ((rd_T26 ab 0).f0).length dA) ∧ w'.cell? ⟨ak.block, ak.off + 1, none⟩ = some (.slice dB ((rd_T26 ab 0).f1).length dC) ∧ w'.cell? ⟨ak.block, ak.off + 2, none⟩ = some (.slice dD ((rd_T26 ab 0).f2).length dE) ∧ w'.cell? ⟨ak.block, ak.off + 3, none⟩ = some (.slice dF ((rd_T26 ab 1).f0).length dG) ∧ w'.cell? ⟨ak.block, ak.off + 3 + 1, none⟩ = some (.slice dH ((rd_T26 ab 1).f1).length dI) ∧ w'.cell? ⟨ak.block, ak.off + 3 + 2, none⟩ = some (.slice dJ ((rd_T26 ab 1).f2).length dK) ∧ w'.cell? ⟨ak.block, ak.off + 6, none⟩ = some (.slice dL ((rd_T26 ab 2).f0).length dM) ∧ w'.cell? ⟨ak.block, ak.off + 6 + 1, none⟩ = some (.slice dN ((rd_T26 ab 2).f1).length dO) ∧ w'.cell? ⟨ak.block, ak.off + 6 + 2, none⟩ = some (.slice dP ((rd_T26 ab 2).f2).length dQ)) (ds := []) (bs 26 0) (by kernel_rfl) rfl rfl ⟨kk al 0, kk al 1, kk al 2, kk au 0, kk au 1, kk au 2, kk aF 0, kk aF 1, kk aF 2, bC, bD, bE, bF, bG, bH, bI, bJ, bK⟩ (fun hHeld => ?_); refine with_tabW qia.tab9 qia.bits9 (fun HT_ HW_ => ?_);generalize w52.drew = w53 at aj af ag ah aJ aK aN an ao ap bc bd bf aG aH aI br bt bu ai al au aF HB bg bh bi bj bk bl bm bn bo bR bS bT bU bV bW bX bY bZ bC bD bE bF bG bH bI bJ bK hHeld ⊢;refine pu 1 (some 51) (bs 26 2) HT_ ?_;refine pu 2 (some 52) (bs 26 6) HT_ ?_;refine pu 3 (some 53) (bs 26 14) HT_ ?_;refine ta 0 (some 50) (bs 26 15) HT_ HW_ hHeld ?_;refine ta 4 (some 54) (bs 26 31) HT_ HW_ hHeld ?_;refine one_ (i := 5) (N := some 55) (bs 26 63) rfl rfl (one_of HT_.out (by kernel_rfl)) (by decide) (fun K hK => ?_);refine goes_ Try.func18 (by kernel_rfl) rfl #[.agg #[.slice aO aD.length aP, .slice aQ aE.length aR, .slice aY aS.length aZ], .int .i64 eM, .agg #[.slice dz ((rd_T26 ab 0).f0).length dA, .slice dB ((rd_T26 ab 0).f1).length dC, .slice dD ((rd_T26 ab 0).f2).length dE], .int .i64 0] (by rfl) rfl rfl (by (try simp only [qM1, qM2, qM3]); first | done | rfl) ?_;(with_reducible refine (qpa.calls k _ _ aD _ _ aE _ _ aS eM _ _ ((rd_T26 ab 0).f0) _ _ ((rd_T26 ab 0).f1) _ _ ((rd_T26 ab 0).f2) 0 true _ ?side1 ?side2 ?side3 ?side4 ?side5 ?side6 ?side7 ?side8 ?side9 ?side10 ?side11 ?side12 A13.out).mono ?_);(case side1 => repeat (first | exact (Kd.R_reads' aJ.out).2.2 | (with_reducible first | refine Kd.C_alloc ?_ _ | refine Kd.C_drewN ?_ _ | refine Kd.C_drew ?_)));(case side2 => exact (Kd.R_reads' aJ.out).2.1);(case side3 => repeat (first | exact (Kd.R_reads' aK.out).2.2 | (with_reducible first | refine Kd.C_alloc ?_ _ | refine Kd.C_drewN ?_ _ | refine Kd.C_drew ?_)));(case side4 => exact (Kd.R_reads' aK.out).2.1);(case side5 => repeat (first | exact (Kd.N_reads' aN.out).2.2 | (with_reducible first | refine Kd.C_alloc ?_ _ | refine Kd.C_drewN ?_ _ | refine Kd.C_drew ?_)));(case side6 => exact (Kd.N_reads' aN.out).2.1);(case side7 => repeat (first | exact (Kd.V_reads' bg.out).2.2 | (with_reducible first | refine Kd.C_alloc ?_ _ | refine Kd.C_drewN ?_ _ | refine Kd.C_drew ?_)));(case side8 => exact ej.out);(case side9 => repeat (first | exact (Kd.V_reads' bh.out).2.2 | (with_reducible first | refine Kd.C_alloc ?_ _ | refine Kd.C_drewN ?_ _ | refine Kd.C_drew ?_)));(case side10 => exact ek.out);(case side11 => repeat (first | exact (Kd.V_reads' bi.out).2.2 | (with_reducible first | refine Kd.C_alloc ?_ _ | refine Kd.C_drewN ?_ _ | refine Kd.C_drew ?_)));(case side12 => exact el.out);rintro e w54 ⟨rfl, hb⟩;have HS9_ := (hb.cell (qqW _ _ (hHeld.2.2.2.2.2.2.2.2.2.1))).trans (hHeld.2.2.2.2.2.2.2.2.2.1);have HS10_ := (hb.cell (qqW _ _ (hHeld.2.2.2.2.2.2.2.2.2.2.1))).trans (hHeld.2.2.2.2.2.2.2.2.2.2.1);have HS11_ := (hb.cell (qqW _ _ (hHeld.2.2.2.2.2.2.2.2.2.2.2.1))).trans (hHeld.2.2.2.2.2.2.2.2.2.2.2.1);have HS12_ := (hb.cell (qqW _ _ (hHeld.2.2.2.2.2.2.2.2.2.2.2.2.1))).trans (hHeld.2.2.2.2.2.2.2.2.2.2.2.2.1);have HS13_ := (hb.cell (qqW _ _ (hHeld.2.2.2.2.2.2.2.2.2.2.2.2.2.1))).trans (hHeld.2.2.2.2.2.2.2.2.2.2.2.2.2.1);have HS14_ := (hb.cell (qqW _ _ (hHeld.2.2.2.2.2.2.2.2.2.2.2.2.2.2.1))).trans (hHeld.2.2.2.2.2.2.2.2.2.2.2.2.2.2.1);have HS15_ := (hb.cell (qqW _ _ (hHeld.2.2.2.2.2.2.2.2.2.2.2.2.2.2.2.1))).trans (hHeld.2.2.2.2.2.2.2.2.2.2.2.2.2.2.2.1);have HS16_ := (hb.cell (qqW _ _ (hHeld.2.2.2.2.2.2.2.2.2.2.2.2.2.2.2.2.1))).trans (hHeld.2.2.2.2.2.2.2.2.2.2.2.2.2.2.2.2.1);have HS17_ := (hb.cell (qqW _ _ (hHeld.2.2.2.2.2.2.2.2.2.2.2.2.2.2.2.2.2))).trans (hHeld.2.2.2.2.2.2.2.2.2.2.2.2.2.2.2.2.2);refine ⟨_, rfl, ?_⟩;replace aj := kN aj hb; replace af := kV af hb; replace ag := kV ag hb; replace ah := kV ah hb; replace aJ := kR aJ hb; replace aK := kR aK hb; replace aN := kN aN hb; replace an := kV an hb; replace ao := kV ao hb; replace ap := kV ap hb; replace bc := kR bc hb; replace bd := kR bd hb; replace bf := kN bf hb; replace aG := kV aG hb; replace aH := kV aH hb; replace aI := kV aI hb; replace br := kR br hb; replace bt := kR bt hb; replace bu := kN bu hb; replace bg := kV bg hb; replace bh := kV bh hb; replace bi := kV bi hb; replace ai := kU ai hb; replace al := kU al hb; replace au := kU au hb; replace aF := kU aF hb; replace bR := Aside0.mk (Kd.V_reads' bg.out).2.2; replace bS := Aside0.mk (Kd.V_reads' bh.out).2.2; replace bT := Aside0.mk (Kd.V_reads' bi.out).2.2; replace bj := kV bj hb; replace bU := Aside0.mk (Kd.V_reads' bj.out).2.2; replace bk := kV bk hb; replace bV := Aside0.mk (Kd.V_reads' bk.out).2.2; replace bl := kV bl hb; replace bW := Aside0.mk (Kd.V_reads' bl.out).2.2; replace bm := kV bm hb; replace bX := Aside0.mk (Kd.V_reads' bm.out).2.2; replace bn := kV bn hb; replace bY := Aside0.mk (Kd.V_reads' bn.out).2.2; replace bo := kV bo hb; replace bZ := Aside0.mk (Kd.V_reads' bo.out).2.2; replace HB := kH HB hb;(try clear hb);refine hK.out _ _ ⟨kk al 0, kk al 1, kk al 2, kk au 0, kk au 1, kk au 2, kk aF 0, kk aF 1, kk aF 2, HS9_, HS10_, HS11_, HS12_, HS13_, HS14_, HS15_, HS16_, HS17_⟩ (fun hHeld => ?_);clear hK K;refine no (some 55) ?_;refine pu 6 (some 56) (bs 26 127) HT_ ?_;refine pu 8 (some 58) (bs 26 383) HT_ ?_;refine pu 9 (some 59) (bs 26 895) HT_ ?_;refine pu 10 (some 60) (bs 26 1919) HT_ ?_;refine ta 7 (some 57) (bs 26 2047) HT_ HW_ hHeld ?_;refine ta 11 (some 61) (bs 26 4095) HT_ HW_ hHeld ?_;refine one_ (i := 12) (N := some 62) (bs 26 8191) rfl rfl (one_of HT_.out (by kernel_rfl)) (by decide) (fun K hK => ?_);refine goes_ Try.func18 (by kernel_rfl) rfl #[.agg #[.slice aT aL.length aU, .slice aV aM.length aW, .slice ba aX.length bb], .int .i64 eN, .agg #[.slice dF ((rd_T26 ab 1).f0).length dG, .slice dH ((rd_T26 ab 1).f1).length dI, .slice dJ ((rd_T26 ab 1).f2).length dK], .int .i64 0] (by rfl) rfl rfl (by (try simp only [qM1, qM2, qM3]); first | done | rfl) ?_;(with_reducible refine (qpa.calls k _ _ aL _ _ aM _ _ aX eN _ _ ((rd_T26 ab 1).f0) _ _ ((rd_T26 ab 1).f1) _ _ ((rd_T26 ab 1).f2) 0 true _ ?side1 ?side2 ?side3 ?side4 ?side5 ?side6 ?side7 ?side8 ?side9 ?side10 ?side11 ?side12 A15.out).mono ?_);(case side1 => repeat (first | exact (Kd.R_reads' bc.out).2.2 | (with_reducible first | refine Kd.C_alloc ?_ _ | refine Kd.C_drewN ?_ _ | refine Kd.C_drew ?_)));(case side2 => exact (Kd.R_reads' bc.out).2.1);(case side3 => repeat (first | exact (Kd.R_reads' bd.out).2.2 | (with_reducible first | refine Kd.C_alloc ?_ _ | refine Kd.C_drewN ?_ _ | refine Kd.C_drew ?_)));(case side4 => exact (Kd.R_reads' bd.out).2.1);(case side5 => repeat (first | exact (Kd.N_reads' bf.out).2.2 | (with_reducible first | refine Kd.C_alloc ?_ _ | refine Kd.C_drewN ?_ _ | refine Kd.C_drew ?_)));(case side6 => exact (Kd.N_reads' bf.out).2.1);(case side7 => repeat (first | exact (Kd.V_reads' bj.out).2.2 | (with_reducible first | refine Kd.C_alloc ?_ _ | refine Kd.C_drewN ?_ _ | refine Kd.C_drew ?_)));(case side8 => exact eo.out);(case side9 => repeat (first | exact (Kd.V_reads' bk.out).2.2 | (with_reducible first | refine Kd.C_alloc ?_ _ | refine Kd.C_drewN ?_ _ | refine Kd.C_drew ?_)));(case side10 => exact ep.out);(case side11 => repeat (first | exact (Kd.V_reads' bl.out).2.2 | (with_reducible first | refine Kd.C_alloc ?_ _ | refine Kd.C_drewN ?_ _ | refine Kd.C_drew ?_)));(case side12 => exact eq.out);rintro e w55 ⟨rfl, hb⟩;have HS9_ := (hb.cell (qqW _ _ (hHeld.2.2.2.2.2.2.2.2.2.1))).trans (hHeld.2.2.2.2.2.2.2.2.2.1);have HS10_ := (hb.cell (qqW _ _ (hHeld.2.2.2.2.2.2.2.2.2.2.1))).trans (hHeld.2.2.2.2.2.2.2.2.2.2.1);have HS11_ := (hb.cell (qqW _ _ (hHeld.2.2.2.2.2.2.2.2.2.2.2.1))).trans (hHeld.2.2.2.2.2.2.2.2.2.2.2.1);have HS12_ := (hb.cell (qqW _ _ (hHeld.2.2.2.2.2.2.2.2.2.2.2.2.1))).trans (hHeld.2.2.2.2.2.2.2.2.2.2.2.2.1);have HS13_ := (hb.cell (qqW _ _ (hHeld.2.2.2.2.2.2.2.2.2.2.2.2.2.1))).trans (hHeld.2.2.2.2.2.2.2.2.2.2.2.2.2.1);have HS14_ := (hb.cell (qqW _ _ (hHeld.2.2.2.2.2.2.2.2.2.2.2.2.2.2.1))).trans (hHeld.2.2.2.2.2.2.2.2.2.2.2.2.2.2.1);have HS15_ := (hb.cell (qqW _ _ (hHeld.2.2.2.2.2.2.2.2.2.2.2.2.2.2.2.1))).trans (hHeld.2.2.2.2.2.2.2.2.2.2.2.2.2.2.2.1);have HS16_ := (hb.cell (qqW _ _ (hHeld.2.2.2.2.2.2.2.2.2.2.2.2.2.2.2.2.1))).trans (hHeld.2.2.2.2.2.2.2.2.2.2.2.2.2.2.2.2.1);have HS17_ := (hb.cell (qqW _ _ (hHeld.2.2.2.2.2.2.2.2.2.2.2.2.2.2.2.2.2))).trans (hHeld.2.2.2.2.2.2.2.2.2.2.2.2.2.2.2.2.2);refine ⟨_, rfl, ?_⟩;replace aj := kN aj hb; replace af := kV af hb; replace ag := kV ag hb; replace ah := kV ah hb; replace aJ := kR aJ hb; replace aK := kR aK hb; replace aN := kN aN hb; replace an := kV an hb; replace ao := kV ao hb; replace ap := kV ap hb; replace bc := kR bc hb; replace bd := kR bd hb; replace bf := kN bf hb; replace aG := kV aG hb; replace aH := kV aH hb; replace aI := kV aI hb; replace br := kR br hb; replace bt := kR bt hb; replace bu := kN bu hb; replace bg := kV bg hb; replace bh := kV bh hb; replace bi := kV bi hb; replace bj := kV bj hb; replace bk := kV bk hb; replace bl := kV bl hb; replace ai := kU ai hb; replace al := kU al hb; replace au := kU au hb; replace aF := kU aF hb; replace bR := Aside0.mk (Kd.V_reads' bg.out).2.2; replace bS := Aside0.mk (Kd.V_reads' bh.out).2.2; replace bT := Aside0.mk (Kd.V_reads' bi.out).2.2; replace bU := Aside0.mk (Kd.V_reads' bj.out).2.2; replace bV := Aside0.mk (Kd.V_reads' bk.out).2.2; replace bW := Aside0.mk (Kd.V_reads' bl.out).2.2; replace bm := kV bm hb; replace bX := Aside0.mk (Kd.V_reads' bm.out).2.2; replace bn := kV bn hb; replace bY := Aside0.mk (Kd.V_reads' bn.out).2.2; replace bo := kV bo hb; replace bZ := Aside0.mk (Kd.V_reads' bo.out).2.2; replace HB := kH HB hb;(try clear hb);refine hK.out _ _ ⟨kk al 0, kk al 1, kk al 2, kk au 0, kk au 1, kk au 2, kk aF 0, kk aF 1, kk aF 2, HS9_, HS10_, HS11_, HS12_, HS13_, HS14_, HS15_, HS16_, HS17_⟩ (fun hHeld => ?_);clear hK K;refine no (some 62) ?_;refine pu 13 (some 63) (bs 26 16383) HT_ ?_;refine pu 14 (some 64) (bs 26 32767) HT_ ?_;refine pu 16 (some 66) (bs 26 98303) HT_ ?_;refine pu 17 (some 67) (bs 26 229375) HT_ ?_;refine pu 18 (some 68) (bs 26 491519) HT_ ?_;refine ta 15 (some 65) (bs 26 524287) HT_ HW_ hHeld ?_;refine ta 19 (some 69) (bs 26 1048575) HT_ HW_ hHeld ?_;refine one_ (i := 20) (N := some 70) (bs 26 2097151) rfl rfl (one_of HT_.out (by kernel_rfl)) (by decide) (fun K hK => ?_);refine goes_ Try.func18 (by kernel_rfl) rfl #[.agg #[.slice aw aq.length ax, .slice ay ar.length az, .slice aA av.length aB], .int .i64 eO, .agg #[.slice dL ((rd_T26 ab 2).f0).length dM, .slice dN ((rd_T26 ab 2).f1).length dO, .slice dP ((rd_T26 ab 2).f2).length dQ], .int .i64 0] (by rfl) rfl rfl (by (try simp only [qM1, qM2, qM3]); first | done | rfl) ?_;(with_reducible refine (qpa.calls k _ _ aq _ _ ar _ _ av eO _ _ ((rd_T26 ab 2).f0) _ _ ((rd_T26 ab 2).f1) _ _ ((rd_T26 ab 2).f2) 0 true _ ?side1 ?side2 ?side3 ?side4 ?side5 ?side6 ?side7 ?side8 ?side9 ?side10 ?side11 ?side12 A17.out).mono ?_);(case side1 => repeat (first | exact (Kd.R_reads' br.out).2.2 | (with_reducible first | refine Kd.C_alloc ?_ _ | refine Kd.C_drewN ?_ _ | refine Kd.C_drew ?_)));(case side2 => exact (Kd.R_reads' br.out).2.1);(case side3 => repeat (first | exact (Kd.R_reads' bt.out).2.2 | (with_reducible first | refine Kd.C_alloc ?_ _ | refine Kd.C_drewN ?_ _ | refine Kd.C_drew ?_)));(case side4 => exact (Kd.R_reads' bt.out).2.1);(case side5 => repeat (first | exact (Kd.N_reads' bu.out).2.2 | (with_reducible first | refine Kd.C_alloc ?_ _ | refine Kd.C_drewN ?_ _ | refine Kd.C_drew ?_)));(case side6 => exact (Kd.N_reads' bu.out).2.1);(case side7 => repeat (first | exact (Kd.V_reads' bm.out).2.2 | (with_reducible first | refine Kd.C_alloc ?_ _ | refine Kd.C_drewN ?_ _ | refine Kd.C_drew ?_)));(case side8 => exact ew.out);(case side9 => repeat (first | exact (Kd.V_reads' bn.out).2.2 | (with_reducible first | refine Kd.C_alloc ?_ _ | refine Kd.C_drewN ?_ _ | refine Kd.C_drew ?_)));(case side10 => exact ex.out);(case side11 => repeat (first | exact (Kd.V_reads' bo.out).2.2 | (with_reducible first | refine Kd.C_alloc ?_ _ | refine Kd.C_drewN ?_ _ | refine Kd.C_drew ?_)));(case side12 => exact ey.out);rintro e w56 ⟨rfl, hb⟩;have HS9_ := (hb.cell (qqW _ _ (hHeld.2.2.2.2.2.2.2.2.2.1))).trans (hHeld.2.2.2.2.2.2.2.2.2.1);have HS10_ := (hb.cell (qqW _ _ (hHeld.2.2.2.2.2.2.2.2.2.2.1))).trans (hHeld.2.2.2.2.2.2.2.2.2.2.1);have HS11_ := (hb.cell (qqW _ _ (hHeld.2.2.2.2.2.2.2.2.2.2.2.1))).trans (hHeld.2.2.2.2.2.2.2.2.2.2.2.1);have HS12_ := (hb.cell (qqW _ _ (hHeld.2.2.2.2.2.2.2.2.2.2.2.2.1))).trans (hHeld.2.2.2.2.2.2.2.2.2.2.2.2.1);have HS13_ := (hb.cell (qqW _ _ (hHeld.2.2.2.2.2.2.2.2.2.2.2.2.2.1))).trans (hHeld.2.2.2.2.2.2.2.2.2.2.2.2.2.1);have HS14_ := (hb.cell (qqW _ _ (hHeld.2.2.2.2.2.2.2.2.2.2.2.2.2.2.1))).trans (hHeld.2.2.2.2.2.2.2.2.2.2.2.2.2.2.1);have HS15_ := (hb.cell (qqW _ _ (hHeld.2.2.2.2.2.2.2.2.2.2.2.2.2.2.2.1))).trans (hHeld.2.2.2.2.2.2.2.2.2.2.2.2.2.2.2.1);have HS16_ := (hb.cell (qqW _ _ (hHeld.2.2.2.2.2.2.2.2.2.2.2.2.2.2.2.2.1))).trans (hHeld.2.2.2.2.2.2.2.2.2.2.2.2.2.2.2.2.1);have HS17_ := (hb.cell (qqW _ _ (hHeld.2.2.2.2.2.2.2.2.2.2.2.2.2.2.2.2.2))).trans (hHeld.2.2.2.2.2.2.2.2.2.2.2.2.2.2.2.2.2);refine ⟨_, rfl, ?_⟩;replace aj := kN aj hb; replace af := kV af hb; replace ag := kV ag hb; replace ah := kV ah hb; replace aJ := kR aJ hb; replace aK := kR aK hb; replace aN := kN aN hb; replace an := kV an hb; replace ao := kV ao hb; replace ap := kV ap hb; replace bc := kR bc hb; replace bd := kR bd hb; replace bf := kN bf hb; replace aG := kV aG hb; replace aH := kV aH hb; replace aI := kV aI hb; replace br := kR br hb; replace bt := kR bt hb; replace bu := kN bu hb; replace bg := kV bg hb; replace bh := kV bh hb; replace bi := kV bi hb; replace bj := kV bj hb; replace bk := kV bk hb; replace bl := kV bl hb; replace bm := kV bm hb; replace bn := kV bn hb; replace bo := kV bo hb; replace ai := kU ai hb; replace al := kU al hb; replace au := kU au hb; replace aF := kU aF hb; replace bR := Aside0.mk (Kd.V_reads' bg.out).2.2; replace bS := Aside0.mk (Kd.V_reads' bh.out).2.2; replace bT := Aside0.mk (Kd.V_reads' bi.out).2.2; replace bU := Aside0.mk (Kd.V_reads' bj.out).2.2; replace bV := Aside0.mk (Kd.V_reads' bk.out).2.2; replace bW := Aside0.mk (Kd.V_reads' bl.out).2.2; replace bX := Aside0.mk (Kd.V_reads' bm.out).2.2; replace bY := Aside0.mk (Kd.V_reads' bn.out).2.2; replace bZ := Aside0.mk (Kd.V_reads' bo.out).2.2; replace HB := kH HB hb;(try clear hb);refine hK.out _ _ ⟨kk al 0, kk al 1, kk al 2, kk au 0, kk au 1, kk au 2, kk aF 0, kk aF 1, kk aF 2, HS9_, HS10_, HS11_, HS12_, HS13_, HS14_, HS15_, HS16_, HS17_⟩ (fun hHeld => ?_);clear hK K;refine no (some 70) ?_;refine pu 21 (some 71) (bs 26 4194303) HT_ ?_;refine pu 22 (some 72) (bs 26 8388607) HT_ ?_;refine one_ (i := 23) (N := some 73) (bs 26 16777215) rfl rfl (one_of HT_.out (by kernel_rfl)) (by decide) (fun K hK => ?_);refine goes_ Try.func15 (by kernel_rfl) rfl #[] (by rfl) rfl rfl (by (try simp only [qM1, qM2, qM3]); first | done | rfl) ?_;(with_reducible refine (qoa.calls k  eK _ A19.out (by first | rfl | exact HRT.out)).mono ?_);rintro e w57 ⟨rfl, hb⟩;have HS9_ := (hb.cell (qqW _ _ (hHeld.2.2.2.2.2.2.2.2.2.1))).trans (hHeld.2.2.2.2.2.2.2.2.2.1);have HS10_ := (hb.cell (qqW _ _ (hHeld.2.2.2.2.2.2.2.2.2.2.1))).trans (hHeld.2.2.2.2.2.2.2.2.2.2.1);have HS11_ := (hb.cell (qqW _ _ (hHeld.2.2.2.2.2.2.2.2.2.2.2.1))).trans (hHeld.2.2.2.2.2.2.2.2.2.2.2.1);have HS12_ := (hb.cell (qqW _ _ (hHeld.2.2.2.2.2.2.2.2.2.2.2.2.1))).trans (hHeld.2.2.2.2.2.2.2.2.2.2.2.2.1);have HS13_ := (hb.cell (qqW _ _ (hHeld.2.2.2.2.2.2.2.2.2.2.2.2.2.1))).trans (hHeld.2.2.2.2.2.2.2.2.2.2.2.2.2.1);have HS14_ := (hb.cell (qqW _ _ (hHeld.2.2.2.2.2.2.2.2.2.2.2.2.2.2.1))).trans (hHeld.2.2.2.2.2.2.2.2.2.2.2.2.2.2.1);have HS15_ := (hb.cell (qqW _ _ (hHeld.2.2.2.2.2.2.2.2.2.2.2.2.2.2.2.1))).trans (hHeld.2.2.2.2.2.2.2.2.2.2.2.2.2.2.2.1);have HS16_ := (hb.cell (qqW _ _ (hHeld.2.2.2.2.2.2.2.2.2.2.2.2.2.2.2.2.1))).trans (hHeld.2.2.2.2.2.2.2.2.2.2.2.2.2.2.2.2.1);have HS17_ := (hb.cell (qqW _ _ (hHeld.2.2.2.2.2.2.2.2.2.2.2.2.2.2.2.2.2))).trans (hHeld.2.2.2.2.2.2.2.2.2.2.2.2.2.2.2.2.2);refine ⟨_, rfl, ?_⟩;replace aj := kN aj hb; replace af := kV af hb; replace ag := kV ag hb; replace ah := kV ah hb; replace aJ := kR aJ hb; replace aK := kR aK hb; replace aN := kN aN hb; replace an := kV an hb; replace ao := kV ao hb; replace ap := kV ap hb; replace bc := kR bc hb; replace bd := kR bd hb; replace bf := kN bf hb; replace aG := kV aG hb; replace aH := kV aH hb; replace aI := kV aI hb; replace br := kR br hb; replace bt := kR bt hb; replace bu := kN bu hb; replace bg := kV bg hb; replace bh := kV bh hb; replace bi := kV bi hb; replace bj := kV bj hb; replace bk := kV bk hb; replace bl := kV bl hb; replace bm := kV bm hb; replace bn := kV bn hb; replace bo := kV bo hb; replace ai := kU ai hb; replace al := kU al hb; replace au := kU au hb; replace aF := kU aF hb; replace bR := Aside0.mk (Kd.V_reads' bg.out).2.2; replace bS := Aside0.mk (Kd.V_reads' bh.out).2.2; replace bT := Aside0.mk (Kd.V_reads' bi.out).2.2; replace bU := Aside0.mk (Kd.V_reads' bj.out).2.2; replace bV := Aside0.mk (Kd.V_reads' bk.out).2.2; replace bW := Aside0.mk (Kd.V_reads' bl.out).2.2; replace bX := Aside0.mk (Kd.V_reads' bm.out).2.2; replace bY := Aside0.mk (Kd.V_reads' bn.out).2.2; replace bZ := Aside0.mk (Kd.V_reads' bo.out).2.2; replace HB := kH HB hb;(try clear hb);refine hK.out _ _ ⟨kk al 0, kk al 1, kk al 2, kk au 0, kk au 1, kk au 2, kk aF 0, kk aF 1, kk aF 2, HS9_, HS10_, HS11_, HS12_, HS13_, HS14_, HS15_, HS16_, HS17_⟩ (fun hHeld => ?_);clear hK K;refine no (some 73) ?_;refine pu 24 (some 74) (bs 26 33554431) HT_ ?_
 refine pu 25 (some 4) (bs 26 67108863) HT_ ?_;refine done_ (done_of HT_.out (by kernel_rfl)) ?_;(try go_wp2);go_ret;exact ⟨er, kh HB⟩
end Go.Proofs.Ytmlbliggbkfjnaa.J
/- What comes in laid out as a type says is a value of a kind, within the bounds that its weights leave: once for every type. -/
namespace Go.Proofs.Ytmlbliggbkfjnaa.Op
open Go.RowKit Go.Proofs.YtmlbliggbkfjnaaW.PrintWords Go.Proofs.YtmlbliggbkfjnaaW.PrintLast Go.Proofs.YtmlbliggbkfjnaaW.PrintMore
def Opens {α : Type} (P : Program) (d : Kd α) (t : TypeId) (wf : α → Prop) : Prop :=
  ∀ (H : Type) (enc : TypeId × Value → H) (w : World) (base fuel : Nat) (spare : Nat → Bool) (held : Bool) (cs : List Value) (x : DataW H × List MemPlace), cs.length = d.sz →
    DataW.trod enc P w base spare held fuel t cs = some x → (x.1.weights P t).all (· ≤ reachBytes) = true → ∃ a, d.K w a cs ∧ wf a
theorem op_int {P : Program} {t : TypeId} {k : IntKind} (ht : P.underlying t = some (.int k)) : Opens P (Kd.int k) t (fun n => (Lit.int k n).wf = true) := by
  intro H enc w base fuel spare held cs x _ h _;obtain ⟨n, rfl, _, hw⟩ := DataW.trod_int ht h;exact ⟨n, rfl, hw⟩
theorem op_bool {P : Program} {t : TypeId} (ht : P.underlying t = some .bool) : Opens P Kd.bool t (fun _ => True) := by
  intro H enc w base fuel spare held cs x _ h _;obtain ⟨n, rfl, _⟩ := DataW.trod_bool ht h;exact ⟨n, rfl, trivial⟩
theorem all_weights {H : Type} {P : Program} {e : TypeId} {p : Nat → Bool} : ∀ (ds : List (DataW H)), (DataW.weightsAll P e ds).all p = true → ∀ d ∈ ds, (d.weights P e).all p = true
  | [], _, d, hd => by simp at hd
  | a :: r, h, d, hd => by
    unfold DataW.weightsAll at h;rw [List.all_append, Bool.and_eq_true] at h
    rcases List.mem_cons.1 hd with rfl | hd
    · exact h.1
    · exact all_weights r h.2 d hd
theorem add_add_ (a : Addr) (i j : Nat) : a.add (i + j) = (a.add i).add j := by
  cases a
  unfold Addr.add
  rcases Nat.eq_zero_or_pos i with hi | hi <;> rcases Nat.eq_zero_or_pos j with hj | hj
  · simp [hi, hj]
  · simp [hi, show j ≠ 0 by omega]
  · simp [hj, show i ≠ 0 by omega]
  · simp [show i ≠ 0 by omega, show j ≠ 0 by omega, Nat.add_assoc]
theorem pick {β : Type} {p : Nat → β → Prop} : ∀ n, (∀ i : Nat, i < n → ∃ q, p i q) → ∃ l : List β, l.length = n ∧ ∀ (i : Nat) (q : β), l[i]? = some q → p i q
  | 0, _ => ⟨[], rfl, fun i q h => by simp at h⟩
  | n + 1, h => by
    obtain ⟨l, hl, hp⟩ := pick n (fun i hi => h i (by omega));obtain ⟨q, hq⟩ := h n (by omega);refine ⟨l ++ [q], by simp [hl], fun i r hr => ?_⟩
    rcases Nat.lt_or_ge i l.length with hi | hi
    · rw [List.getElem?_append_left hi] at hr
      exact hp i r hr
    · rw [List.getElem?_append_right hi] at hr
      have h0 : i - l.length = 0 := by
        rcases Nat.eq_zero_or_pos (i - l.length) with h' | h'
        · exact h'
        · rw [List.getElem?_eq_none (by simp; omega)] at hr; cases hr
      rw [h0] at hr
      obtain rfl : q = r := by simpa using hr
      have : i = n := by omega
      rw [this]; exact hq
theorem weights_at {H : Type} {P : Program} {p : Nat → Bool} : ∀ (ts : List TypeId) (ds : List (DataW H)) (j : Nat) {t : TypeId} {d : DataW H}, (DataW.weightsEach P ts ds).all p = true → ts[j]? = some t → ds[j]? = some d → (d.weights P t).all p = true
  | [], _, _, _, _, _, ht, _ => by simp at ht
  | _ :: _, [], _, _, _, _, _, hd => by simp at hd
  | t :: ts, d :: ds, j, t', d', h, ht, hd => by
    unfold DataW.weightsEach at h;rw [List.all_append, Bool.and_eq_true] at h
    match j, ht, hd with
    | 0, ht, hd =>
      obtain rfl : t = t' := by simpa using ht
      obtain rfl : d = d' := by simpa using hd
      exact h.1
    | j + 1, ht, hd => exact weights_at ts ds j h.2 (by simpa using ht) (by simpa using hd)
theorem op_slice {α : Type} {P : Program} {d : Kd α} {t e : TypeId} {B : Nat} {wf : α → Prop} (ht : P.underlying t = some (.slice e)) (hB : P.bytesOf e = B) (hsz : P.cellsOf e = d.sz) (he : Opens P d e wf) :
    Opens P (Kd.slice e d) t (fun l => l.length ≤ maxLen ∧ l.length * B ≤ 140737488351232 ∧ ∀ a ∈ l, wf a) := by
  intro H enc w base fuel spare held cs x _ h hw
  rcases Go.Deep.open_slice ht h with ⟨rfl, _⟩ | ⟨a, len, cap, m, n, D, Pl, rfl, hb, hl, hm, hmm, rfl, hx⟩
  · exact ⟨[], ⟨none, 0, rfl, Nat.le_refl _, rfl, Nat.zero_le _, fun h0 => absurd h0 (by simp)⟩, by simp, by simp, fun a ha => by simp at ha⟩
  · have hlm : len ≤ m := by rw [hmm]; split <;> omega
    simp only [DataW.weights, ht, List.all_cons, List.all_append, Bool.and_eq_true, List.length_map, List.length_range] at hw;obtain ⟨hw0, hw1, _⟩ := hw
    have each : ∀ i : Nat, i < len → ∃ q : α, wf q ∧ ∃ c : List Value, c.length = d.sz ∧ d.K w q c ∧ ∀ j u, c[j]? = some u → w.cell? (a.add (i * d.sz + j)) = some u := by
      intro i hi;obtain ⟨cs', h1, h2⟩ := hx i (by omega);rw [hsz] at h1;obtain ⟨_, hlen, hcell⟩ := World.cells?_some h1;obtain ⟨y, hK, hwf⟩ := he H enc w base n spare held cs' _ hlen h2 (all_weights _ hw1 _ (List.mem_map.2 ⟨i, List.mem_range.2 hi, rfl⟩));refine ⟨y, hwf, cs', hlen, hK, fun j u hu => ?_⟩
      have hj : j < d.sz := by
        rw [← hlen]
        rcases Nat.lt_or_ge j cs'.length with h' | h'
        · exact h'
        · rw [List.getElem?_eq_none h'] at hu; cases hu
      have := hcell j hj;rw [hu] at this;rw [show a.add (i * d.sz + j) = (a.add (i * d.sz)).add j from add_add_ _ _ _];exact this
    obtain ⟨l, rfl, hl2⟩ := pick len each;refine ⟨l, ⟨some a, cap, rfl, hl, rfl, Nat.le_trans hl hm, fun _ => ⟨a, rfl, fun j p hj => (hl2 j p hj).2⟩⟩, Nat.le_trans hl hm, ?_, ?_⟩
    · have hw2 := of_decide_eq_true hw0
      rw [hB] at hw2;exact Nat.le_trans (Nat.mul_le_mul_right _ (by omega)) hw2
    · intro y hy
      obtain ⟨j, hj⟩ := List.mem_iff_getElem?.1 hy;exact (hl2 j y hj).1
def OpL {β : Type} (P : Program) (d : Kd β) (fs : List Field) (o : Nat) (wf : β → Prop) : Prop :=
  ∀ (H : Type) (enc : TypeId × Value → H) (w : World) (base n : Nat) (spare : Nat → Bool) (held : Bool) (cs : List Value) (xs : List (DataW H × List MemPlace)), cs.length = d.sz → xs.length = fs.length →
    (∀ (i : Nat) (f : Field), fs[i]? = some f → DataW.trod enc P w base spare held n f.type ((cs.drop (f.offset - o)).take (P.cellsOf f.type)) = xs[i]?) →
    (DataW.weightsEach P (fs.map (·.type)) (xs.map (·.1))).all (· ≤ reachBytes) = true → ∃ a, d.K w a cs ∧ wf a
theorem opL_one {β : Type} {P : Program} {d : Kd β} {f : Field} {o : Nat} {wf : β → Prop} (ho : f.offset = o) (hc : P.cellsOf f.type = d.sz) (h : Opens P d f.type wf) : OpL P d [f] o wf := by
  intro H enc w base n spare held cs xs hl hx hf hw
  match xs, hx with
  | [y], _ =>
    have h0 := hf 0 f rfl;rw [ho, Nat.sub_self, List.drop_zero, hc, ← hl, List.take_length] at h0;simp only [List.map_cons, List.map_nil, DataW.weightsEach, List.append_nil] at hw;exact h H enc w base n spare held cs y hl h0 hw
theorem opL_cons {α β : Type} {P : Program} {d1 : Kd α} {d : Kd β} {f : Field} {fs : List Field} {o : Nat} {wf1 : α → Prop} {wf : β → Prop} (ho : f.offset = o) (hc : P.cellsOf f.type = d1.sz) (h1 : Opens P d1 f.type wf1)
    (aa : (fs.all fun g => decide (o + d1.sz ≤ g.offset)) = true) (h : OpL P d fs (o + d1.sz) wf) : OpL P (Kd.pair d1 d) (f :: fs) o (fun x => wf1 x.1 ∧ wf x.2) := by
  have hfs : ∀ g ∈ fs, o + d1.sz ≤ g.offset := fun g hg => of_decide_eq_true (List.all_eq_true.1 aa g hg)
  intro H enc w base n spare held cs xs hl hx hf hw;have hl' : cs.length = d1.sz + d.sz := hl
  match xs, hx with
  | y :: ys, hx =>
    have h0 := hf 0 f rfl;rw [ho, Nat.sub_self, List.drop_zero, hc] at h0;simp only [List.map_cons, DataW.weightsEach, List.all_append, Bool.and_eq_true] at hw;obtain ⟨a, ka, wa⟩ := h1 H enc w base n spare held (cs.take d1.sz) y (by rw [List.length_take]; omega) h0 hw.1
    obtain ⟨b, kb, wb⟩ := h H enc w base n spare held (cs.drop d1.sz) ys (by rw [List.length_drop]; omega) (by simpa using hx) (fun i g hg => by
      have := hf (i + 1) g (by simpa using hg);rw [List.drop_drop];have hg2 := hfs g (List.mem_of_getElem? hg);rw [show d1.sz + (g.offset - (o + d1.sz)) = g.offset - o by omega, this]
      simp) hw.2
    exact ⟨(a, b), ⟨cs.take d1.sz, cs.drop d1.sz, (List.take_append_drop _ _).symm, ka, kb⟩, wa, wb⟩
theorem op_struct {α β : Type} {P : Program} {d : Kd α} {t : TypeId} {fs : Array Field} {wf : α → Prop} {p : β → α} (g : α → β) (hg : ∀ a, p (g a) = a) (ht : P.underlying t = some (.struct fs)) (h : OpL P d fs.toList 0 wf) :
    Opens P (Kd.iso d p) t (fun b => wf (p b)) := by
  intro H enc w base fuel spare held cs x hl hx hw;obtain ⟨xs, n, rfl, rfl, _, hxl, hf⟩ := DataW.trod_struct ht hx;simp only [DataW.weights, ht] at hw
  obtain ⟨a, ka, wa⟩ := h H enc w base n spare held cs xs hl (by simpa using hxl) (fun i f hi => by
    rw [Nat.sub_zero]
    exact hf i f (by simpa using hi)) hw
  refine ⟨g a, ?_, ?_⟩
  · show d.K w (p (g a)) cs
    rw [hg]; exact ka
  · show wf (p (g a))
    rw [hg]; exact wa
theorem op_agg {α : Type} {P : Program} {d : Kd α} {t : TypeId} {fs : Array Field} {wf : α → Prop} (ht : P.underlying t = some (.struct fs)) (h : OpL P d fs.toList 0 wf) : Opens P d t wf :=
  op_struct (d := d) (p := fun a => a) (fun a => a) (fun _ => rfl) ht h
theorem op_array2 {α : Type} {P : Program} {d : Kd α} {t e : TypeId} {wf : α → Prop} (ht : P.underlying t = some (.array 2 e)) (hc : P.cellsOf e = d.sz) (h : Opens P d e wf) : Opens P (Kd.pair d d) t (fun x => wf x.1 ∧ wf x.2) := by
  intro H enc w base fuel spare held cs x hl hx hw;obtain ⟨xs, m, rfl, rfl, _, hxl, hf⟩ := DataW.trod_array ht hx;simp only [DataW.weights, ht] at hw;have hl' : cs.length = d.sz + d.sz := hl
  match xs, hxl with
  | [y, z], _ =>
    have h0 := hf 0 (by omega);have h1 := hf 1 (by omega);rw [Nat.zero_mul, List.drop_zero, hc] at h0;rw [Nat.one_mul, hc, List.take_of_length_le (by rw [List.length_drop]; omega)] at h1;simp only [List.map_cons, List.map_nil, DataW.weightsAll, List.all_append, Bool.and_eq_true] at hw;obtain ⟨a, ka, wa⟩ := h H enc w base m spare held (cs.take d.sz) y (by rw [List.length_take]; omega) h0 hw.1;obtain ⟨b, kb, wb⟩ := h H enc w base m spare held (cs.drop d.sz) z (by rw [List.length_drop]; omega) h1 hw.2.1;exact ⟨(a, b), ⟨cs.take d.sz, cs.drop d.sz, (List.take_append_drop _ _).symm, ka, kb⟩, wa, wb⟩
theorem okWide_arr {P : Program} {W : World} {r : Reach} {b0 : Nat} {t e : TypeId} {n : Nat} {v : Value} (ht : P.underlying t = some (.array n e)) (h : Value.okWide P W r b0 t v) : ∃ cs, v = .agg cs ∧ cs.size = P.cellsOf t := by
  simp only [Value.okWide, ht] at h;obtain ⟨cs, h1, h2, _⟩ := h;exact ⟨cs, h1, h2⟩
theorem okWide_agg {P : Program} {W : World} {r : Reach} {b0 : Nat} {t : TypeId} {fs : Array Field} {v : Value} (ht : P.underlying t = some (.struct fs)) (h : Value.okWide P W r b0 t v) : ∃ cs, v = .agg cs ∧ cs.size = P.cellsOf t := by
  simp only [Value.okWide, ht] at h;obtain ⟨cs, h1, h2, _⟩ := h;exact ⟨cs, h1, h2⟩
theorem arg {α H : Type} {enc : TypeId × Value → H} {P : Program} {d : Kd α} {t : TypeId} {wf : α → Prop} (h : Opens P d t wf) {w : World} {base : Nat} {spare : Nat → Bool} {held : Bool} {v : Value} {x : DataW H} {ps : List MemPlace}
    (hl : v.cells.toList.length = d.sz) (hv : DataW.Trod enc P w base spare held t v x ps) {ts : List TypeId} {ds : List (DataW H)} {j : Nat} (hsz : (DataW.weightsEach P ts ds).all (· ≤ reachBytes) = true) (ht : ts[j]? = some t) (hd : ds[j]? = some x) :
    ∃ a, d.K w a v.cells.toList ∧ wf a := by
  obtain ⟨fuel, hf⟩ := hv;exact h H enc w base fuel spare held _ _ hl hf (weights_at ts ds j hsz ht hd)
end Go.Proofs.Ytmlbliggbkfjnaa.Op
/- Three closed facts over the whole program, with its header's words as numbers. -/
namespace Go.Proofs.Ytmlbliggbkfjnaa.Facts
theorem toList_of (s : String) (l : List Char) (h : s = String.ofList l) : s.toList = l := by rw [h, String.toList_ofList]
def glue : List (List Char) → List Char
  | [] => []
  | [w] => w
  | w :: v :: r => w ++ Char.ofNat 32 :: glue (v :: r)
theorem signs_space (r : List Char) : wordsSigns (Char.ofNat 32 :: r) = [] :: wordsSigns r := rfl
theorem signs_cons (c : Char) (r : List Char) (h : c ≠ Char.ofNat 32) (w : List Char) (ws : List (List Char)) (e : wordsSigns r = w :: ws) : wordsSigns (c :: r) = (c :: w) :: ws := by
  rw [wordsSigns]
  · rw [e]
  · exact h
theorem signs_one : ∀ (w : List Char), (∀ c ∈ w, c ≠ Char.ofNat 32) → wordsSigns w = [w]
  | [], _ => rfl
  | c :: w, h => signs_cons c w (h c (List.mem_cons_self ..)) _ _ (signs_one w (fun d hd => h d (List.mem_cons_of_mem _ hd)))
theorem signs_more (r : List Char) : ∀ (w : List Char), (∀ c ∈ w, c ≠ Char.ofNat 32) → wordsSigns (w ++ Char.ofNat 32 :: r) = w :: wordsSigns r
  | [], _ => signs_space r
  | c :: w, h => signs_cons c _ (h c (List.mem_cons_self ..)) _ _ (signs_more r w (fun d hd => h d (List.mem_cons_of_mem _ hd)))
theorem signs_glue : ∀ (ws : List (List Char)), ws ≠ [] → (∀ w ∈ ws, ∀ c ∈ w, c ≠ Char.ofNat 32) → wordsSigns (glue ws) = ws
  | [], h, _ => absurd rfl h
  | [w], _, h => signs_one w (h w (List.mem_cons_self ..))
  | w :: v :: r, _, h => by
    rw [glue, signs_more _ w (h w (List.mem_cons_self ..)), signs_glue (v :: r) (by simp) (fun u hu => h u (List.mem_cons_of_mem _ hu))]
def W : List (List Char) := (List.map (List.map Char.ofNat) [[104, 97, 114, 110, 101, 115, 115],
  [57, 102, 101, 51, 102, 100, 99, 53, 49, 100, 57, 100, 102, 56, 54, 48, 56, 53, 55, 52, 52, 48, 57, 101, 56, 99, 100, 99, 99, 53, 54, 99, 49, 98, 57, 102, 57, 51, 54, 97, 99, 99, 57, 99, 48, 98, 56, 53, 101, 98, 53, 56, 55, 54, 48, 97, 49, 50, 51, 51, 54, 99, 50, 99],
  [99, 117, 116],
  [97, 116],
  [106, 117, 110, 116, 111, 47, 106, 117, 110, 116, 111, 108, 97, 119, 49, 54, 46, 84, 117, 110, 101, 76, 101, 118, 101, 108, 115],
  [106, 117, 110, 116, 111, 47, 106, 117, 110, 116, 111, 108, 97, 119, 49, 54, 46, 84, 117, 110, 101, 70, 111, 108, 100, 115],
  [106, 117, 110, 116, 111, 47, 106, 117, 110, 116, 111, 108, 97, 119, 49, 54, 46, 84, 117, 110, 101, 83, 104, 97, 114, 101, 115],
  [106, 117, 110, 116, 111, 47, 106, 117, 110, 116, 111, 108, 97, 119, 49, 54, 46, 84, 117, 110, 101, 80, 114, 117, 110, 101, 115],
  [106, 117, 110, 116, 111, 47, 106, 117, 110, 116, 111, 108, 97, 119, 49, 54, 46, 84, 117, 110, 101, 84, 117, 110, 101, 115],
  [106, 117, 110, 116, 111, 47, 106, 117, 110, 116, 111, 108, 97, 119, 49, 54, 46, 84, 117, 110, 101, 83, 97, 109, 101],
  [106, 117, 110, 116, 111, 47, 106, 117, 110, 116, 111, 108, 97, 119, 49, 54, 46, 84, 117, 110, 101, 76, 101, 115, 115],
  [106, 117, 110, 116, 111, 47, 106, 117, 110, 116, 111, 108, 97, 119, 49, 54, 46, 84, 117, 110, 101, 68, 111, 110, 101],
  [106, 117, 110, 116, 111, 47, 106, 117, 110, 116, 111, 108, 97, 119, 49, 54, 46, 84, 117, 110, 101, 82, 111, 117, 110, 100, 115]])
theorem head : Try.pinned.checked.prog.initOrder.toList = glue W := toList_of _ _ (by kernel_rfl)
theorem plain : (W.all fun w => w.all fun c => c.toNat != 32) = true := by kernel_rfl
theorem signs : wordsSigns Try.pinned.checked.prog.initOrder.toList = W := by
  rw [head]
  refine signs_glue W (by simp [W]) fun w hw c hc e => ?_
  have h := List.all_eq_true.1 (List.all_eq_true.1 plain w hw) c hc;rw [e] at h;cases h
theorem words : behindMainWord (wordsSigns Try.pinned.checked.prog.initOrder.toList) = W.drop 2 := by
  rw [signs]
  kernel_rfl
theorem lifts : Try.pinned.checked.prog.headLifts = [] := by
  unfold Program.headLifts;rw [words]
  kernel_rfl
theorem final : Try.pinned.checked.prog.liftsFinal = false := by
  unfold Program.liftsFinal;rw [words, lifts]
  kernel_rfl
theorem made_of (P : Program) (rest : List (List Char)) (h : behindMainWord (wordsSigns P.initOrder.toList) = [Char.ofNat 99, Char.ofNat 117, Char.ofNat 116] :: rest) : P.make = some .cut := by
  unfold Program.make;rw [h]
  kernel_rfl
theorem enters_of (P : Program) (rest : List (List Char)) (h : behindMainWord (wordsSigns P.initOrder.toList) = [Char.ofNat 99, Char.ofNat 117, Char.ofNat 116] :: rest) (hl : P.laysLater = false) (hb : P.bearsReflect = false) (hd : P.doorFits [] = true)
    (hs : stripLifts liftWords ([Char.ofNat 99, Char.ofNat 117, Char.ofNat 116] :: rest) = ([], [Char.ofNat 99, Char.ofNat 117, Char.ofNat 116] :: rest)) : P.mayEnter = true := by
  unfold Program.mayEnter;rw [h];simp only [hs, hl, hb, hd]
  kernel_rfl
theorem made : Try.pinned.checked.prog.make = some .cut := made_of _ (W.drop 3) (words.trans (by kernel_rfl))
theorem enters : Try.pinned.checked.prog.mayEnter = true := enters_of _ (W.drop 3) (words.trans (by kernel_rfl)) (by kernel_rfl) (by kernel_rfl) (by kernel_rfl) (by kernel_rfl)
end Go.Proofs.Ytmlbliggbkfjnaa.Facts
/- Gates: what they may be, what they mean, and their folding. -/
namespace Go.Proofs.Ytmlbliggbkfjnaa.L
open Go.RowKit Go.Proofs.YtmlbliggbkfjnaaW.PrintWords Go.Proofs.Ytmlbliggbkfjnaa.J
def atI (l : List Int) (i : Int) : Int := l.getD i.toNat 0
def atG (l : List S61) (i : Int) : S61 := l.getD i.toNat ⟨0, 0, 0, 0⟩
def okG (p s i : Int) (g : S61) : Prop :=
  (g.f0 = 1 ∧ 0 ≤ g.f1 ∧ g.f1 < s ∧ g.f2 = 0 ∧ g.f3 = 0) ∨
  (g.f0 = 2 ∧ g.f1 = 0 ∧ g.f2 = 0 ∧ 0 ≤ g.f3 ∧ g.f3 < p) ∨
  ((g.f0 = 3 ∨ g.f0 = 4 ∨ g.f0 = 5) ∧ 0 ≤ g.f1 ∧ g.f1 < i ∧ 0 ≤ g.f2 ∧ g.f2 < i ∧ g.f3 = 0) ∨
  (g.f0 = 6 ∧ 0 ≤ g.f1 ∧ g.f1 < i ∧ g.f2 = 0 ∧ 0 ≤ g.f3 ∧ g.f3 < p)
def okL (p s : Int) (l : List S61) : Prop := ∀ (i : Nat) (g : S61), l[i]? = some g → okG p s i g
theorem okL_nil (p s : Int) : okL p s [] := fun i g h => by simp at h
theorem okL_snoc {p s : Int} {l : List S61} {g : S61} (h : okL p s l) (hg : okG p s l.length g) : okL p s (l ++ [g]) := by
  intro i x hx;rw [List.getElem?_append] at hx
  split at hx
  · exact h i x hx
  · rename_i hi
    rw [List.getElem?_singleton] at hx
    split at hx
    · rename_i h0
      obtain rfl := qqI hx;rw [show i = l.length by omega]; exact hg
    · cases hx
theorem okL_cut {p s : Int} {l : List S61} {g : S61} (h : okL p s (l ++ [g])) : okL p s l ∧ okG p s l.length g := by
  constructor
  · intro i x hx
    refine h i x ?_;rw [List.getElem?_append_left (List.getElem?_eq_some_iff.1 hx).1]; exact hx
  · exact h l.length g (by simp)
theorem okL_app {p s : Int} {l m : List S61} (h : okL p s (l ++ m)) : okL p s l := by
  intro i x hx;refine h i x ?_;rw [List.getElem?_append_left (List.getElem?_eq_some_iff.1 hx).1]; exact hx
theorem okL_at {p s : Int} {l : List S61} (h : okL p s l) {i : Int} (h0 : 0 ≤ i) (h1 : i < l.length) : okG p s i (atG l i) := by
  have hi : i.toNat < l.length := by omega
  have := h i.toNat l[i.toNat] (List.getElem?_eq_getElem hi);unfold atG;rw [List.getD_eq_getElem?_getD, List.getElem?_eq_getElem hi]
  simpa [Int.toNat_of_nonneg h0] using this
theorem atG_left {l m : List S61} {i : Int} (h1 : i < l.length) (h0 : 0 ≤ i) : atG (l ++ m) i = atG l i := by
  unfold atG;rw [List.getD_eq_getElem?_getD, List.getD_eq_getElem?_getD, List.getElem?_append_left (by omega)]
theorem atI_left {l m : List Int} {i : Int} (h1 : i < l.length) (h0 : 0 ≤ i) : atI (l ++ m) i = atI l i := by
  unfold atI;rw [List.getD_eq_getElem?_getD, List.getD_eq_getElem?_getD, List.getElem?_append_left (by omega)]
theorem atI_last (l : List Int) (x : Int) : atI (l ++ [x]) l.length = x := by
  simp [atI, List.getD_eq_getElem?_getD]
theorem atG_last (l : List S61) (x : S61) : atG (l ++ [x]) l.length = x := by
  simp [atG, List.getD_eq_getElem?_getD]
structure Alg where
  inp : Int → Int
  con : Int → Int
  scl : Int → Int → Int
  two : Int → Int → Int → Int
def app (A : Alg) (v : List Int) (g : S61) : Int :=
  if g.f0 = 1 then A.inp g.f1 else if g.f0 = 2 then A.con g.f3 else if g.f0 = 6 then A.scl g.f3 (atI v g.f1) else A.two g.f0 (atI v g.f1) (atI v g.f2)
def snocs {α β : Type} (f : List α → β → α) : List α → List β → List α
  | d, [] => d
  | d, b :: bs => snocs f (d ++ [f d b]) bs
theorem snocs_snoc {α β : Type} (f : List α → β → α) (b : β) : ∀ (bs : List β) (d : List α), snocs f d (bs ++ [b]) = snocs f d bs ++ [f (snocs f d bs) b]
  | [], d => rfl
  | c :: bs, d => by simp only [List.cons_append, snocs]; exact snocs_snoc f b bs _
theorem snocs_len {α β : Type} (f : List α → β → α) : ∀ (bs : List β) (d : List α), (snocs f d bs).length = d.length + bs.length
  | [], d => rfl
  | c :: bs, d => by simp only [snocs, snocs_len f bs, List.length_append, List.length_cons, List.length_nil]; omega
def vals (A : Alg) (l : List S61) : List Int := snocs (app A) [] l
theorem vals_snoc (A : Alg) (l : List S61) (g : S61) : vals A (l ++ [g]) = vals A l ++ [app A (vals A l) g] := snocs_snoc _ _ _ _
theorem vals_len (A : Alg) (l : List S61) : (vals A l).length = l.length := by simp [vals, snocs_len]
theorem app_congr {A : Alg} {p s i : Int} {g : S61} {v v' : List Int} (h : okG p s i g) (e : ∀ x, 0 ≤ x → x < i → atI v x = atI v' x) : app A v g = app A v' g := by
  unfold app;unfold okG at h
  split
  · rfl
  split
  · rfl
  split
  · rw [e g.f1 (by omega) (by omega)]
  · rw [e g.f1 (by omega) (by omega), e g.f2 (by omega) (by omega)]
theorem snoc_ind {α : Type} {P : List α → Prop} (h0 : P []) (h1 : ∀ l x, P l → P (l ++ [x])) (l : List α) : P l := by
  rw [← List.reverse_reverse l]
  induction l.reverse with
  | nil => exact h0
  | cons x r ih => rw [List.reverse_cons]; exact h1 _ _ ih
theorem vals_at (A : Alg) {p s : Int} (l : List S61) : okL p s l → ∀ i : Int, 0 ≤ i → i < l.length → atI (vals A l) i = app A (vals A l) (atG l i) := by
  refine snoc_ind (P := fun l => okL p s l → ∀ i : Int, 0 ≤ i → i < l.length → atI (vals A l) i = app A (vals A l) (atG l i)) ?_ ?_ l
  · intro _ i h0 h1; simp at h1; omega
  · intro l g ih hok i h0 h1
    obtain ⟨hl, hg⟩ := okL_cut hok;have hlen := vals_len A l;rw [vals_snoc]
    by_cases h : i < l.length
    · rw [atI_left (by omega) h0, atG_left h h0, ih hl i h0 h]
      exact app_congr (okL_at hl h0 h) (fun x x0 x1 => (atI_left (by omega) x0).symm)
    · have hi : i = l.length := by simp at h1; omega
      rw [hi, atG_last];rw [show (l.length : Int) = ((vals A l).length : Nat) by rw [hlen], atI_last];exact app_congr hg (fun x x0 x1 => (atI_left (by omega) x0).symm)
def opV (p k a b : Int) : Int := if k = 3 then (a + b) % p else if k = 4 then (a + p - b) % p else a * b % p
def foldStep (p : Int) (l : List S61) (g : S61) : Option S61 :=
  if (g.f0 = 3 ∨ g.f0 = 4 ∨ g.f0 = 5) ∧ (atG l g.f1).f0 = 2 ∧ (atG l g.f2).f0 = 2 then some ⟨2, 0, 0, opV p g.f0 (atG l g.f1).f3 (atG l g.f2).f3⟩
  else if g.f0 = 6 ∧ (atG l g.f1).f0 = 2 then some ⟨2, 0, 0, (atG l g.f1).f3 * g.f3 % p⟩
  else if g.f0 = 5 ∧ (atG l g.f1).f0 = 2 then some ⟨6, g.f2, 0, (atG l g.f1).f3⟩
  else if g.f0 = 5 ∧ (atG l g.f2).f0 = 2 then some ⟨6, g.f1, 0, (atG l g.f2).f3⟩
  else if g.f0 = 6 ∧ g.f3 = 0 then some ⟨2, 0, 0, 0⟩
  else if g.f0 = 6 ∧ (atG l g.f1).f0 = 6 then some ⟨6, (atG l g.f1).f1, 0, (atG l g.f1).f3 * g.f3 % p⟩
  else if g.f0 = 4 ∧ g.f1 = g.f2 then some ⟨2, 0, 0, 0⟩
  else none
def meas (n : Nat) (g : S61) : Nat := if g.f0 = 5 then n + 1 else if g.f0 = 6 then g.f1.toNat + 1 else if g.f0 = 3 ∨ g.f0 = 4 then 1 else 0
theorem opV_range {p : Int} (hp : 0 < p) (k a b : Int) : 0 ≤ opV p k a b ∧ opV p k a b < p := by
  unfold opV
  split
  · exact ⟨Int.emod_nonneg _ (by omega), Int.emod_lt_of_pos _ hp⟩
  split
  · exact ⟨Int.emod_nonneg _ (by omega), Int.emod_lt_of_pos _ hp⟩
  · exact ⟨Int.emod_nonneg _ (by omega), Int.emod_lt_of_pos _ hp⟩
theorem fold_ok {p s : Int} (hp : 0 < p) {l : List S61} {g g' : S61} (hl : okL p s l) (hg : okG p s l.length g) (h : foldStep p l g = some g') : okG p s l.length g' ∧ meas l.length g' < meas l.length g := by
  have m1 := fun (a b : Int) => (⟨Int.emod_nonneg (a * b) (show p ≠ 0 by omega), Int.emod_lt_of_pos _ hp⟩ : 0 ≤ a * b % p ∧ a * b % p < p)
  unfold foldStep at h
  split at h
  · rename_i c
    obtain rfl := qqI h;refine ⟨.inr (.inl ⟨rfl, rfl, rfl, (opV_range hp _ _ _).1, (opV_range hp _ _ _).2⟩), ?_⟩;simp only [meas]; simp; split
    · omega
    · split
      · omega
      · rw [if_pos (by omega)]; omega
  split at h
  · rename_i c
    obtain rfl := qqI h;refine ⟨.inr (.inl ⟨rfl, rfl, rfl, (m1 _ _).1, (m1 _ _).2⟩), ?_⟩;simp [meas, c.1]
  split at h
  · rename_i c
    obtain rfl := qqI h
    have hg' : 0 ≤ g.f1 ∧ g.f1 < l.length ∧ 0 ≤ g.f2 ∧ g.f2 < l.length := by unfold okG at hg; omega
    have ha := okL_at hl hg'.1 hg'.2.1;generalize atG l g.f1 = a at *;refine ⟨.inr (.inr (.inr ⟨rfl, hg'.2.2.1, hg'.2.2.2, rfl, ?_⟩)), ?_⟩
    · unfold okG at ha; show 0 ≤ a.f3 ∧ a.f3 < p; omega
    · simp [meas, c.1]; omega
  split at h
  · rename_i c
    obtain rfl := qqI h
    have hg' : 0 ≤ g.f1 ∧ g.f1 < l.length ∧ 0 ≤ g.f2 ∧ g.f2 < l.length := by unfold okG at hg; omega
    have ha := okL_at hl hg'.2.2.1 hg'.2.2.2;generalize atG l g.f2 = a at *;refine ⟨.inr (.inr (.inr ⟨rfl, hg'.1, hg'.2.1, rfl, ?_⟩)), ?_⟩
    · unfold okG at ha; show 0 ≤ a.f3 ∧ a.f3 < p; omega
    · simp [meas, c.1]; omega
  split at h
  · rename_i c
    obtain rfl := qqI h;refine ⟨.inr (.inl ⟨rfl, rfl, rfl, Int.le_refl _, hp⟩), ?_⟩;simp [meas, c.1]
  split at h
  · rename_i c
    obtain rfl := qqI h
    have hg' : 0 ≤ g.f1 ∧ g.f1 < l.length := by unfold okG at hg; omega
    have ha := okL_at hl hg'.1 hg'.2;generalize atG l g.f1 = a at *
    have ha' : 0 ≤ a.f1 ∧ a.f1 < g.f1 := by unfold okG at ha; omega
    refine ⟨.inr (.inr (.inr ⟨rfl, ha'.1, by show a.f1 < _; omega, rfl, (m1 _ _).1, (m1 _ _).2⟩)), ?_⟩;simp [meas, c.1]; omega
  split at h
  · rename_i c
    obtain rfl := qqI h;refine ⟨.inr (.inl ⟨rfl, rfl, rfl, Int.le_refl _, hp⟩), ?_⟩;simp [meas, c.1]
  · cases h
def foldN (p : Int) (l : List S61) : Nat → S61 → S61
  | 0, g => g
  | n + 1, g => match foldStep p l g with
    | none => g
    | some g' => foldN p l n g'
def foldG (p : Int) (l : List S61) (g : S61) : S61 := foldN p l (l.length + 2) g
theorem foldN_ok {p s : Int} (hp : 0 < p) {l : List S61} (hl : okL p s l) : ∀ (n : Nat) (g : S61), meas l.length g < n → okG p s l.length g → okG p s l.length (foldN p l n g) ∧ foldStep p l (foldN p l n g) = none
  | 0, g, h, _ => by omega
  | n + 1, g, h, hg => by
    unfold foldN
    cases e : foldStep p l g with
    | none => exact ⟨hg, e⟩
    | some g' =>
      obtain ⟨h1, h2⟩ := fold_ok hp hl hg e;exact foldN_ok hp hl n g' (by omega) h1
theorem meas_lt {p s : Int} {n : Nat} {g : S61} (h : okG p s n g) : meas n g < n + 2 := by
  unfold meas; unfold okG at h
  split
  · omega
  split
  · omega
  split <;> omega
theorem foldG_ok {p s : Int} (hp : 0 < p) {l : List S61} (hl : okL p s l) {g : S61} (hg : okG p s l.length g) : okG p s l.length (foldG p l g) ∧ foldStep p l (foldG p l g) = none :=
  foldN_ok hp hl _ g (meas_lt hg) hg
def folds (p : Int) (d : List S61) (l : List S61) : List S61 := snocs (foldG p) d l
theorem folds_ok {p s : Int} (hp : 0 < p) (l : List S61) : okL p s l → okL p s (folds p [] l) := by
  refine snoc_ind (P := fun l => okL p s l → okL p s (folds p [] l)) (fun _ => okL_nil p s) ?_ l;intro l g ih h;obtain ⟨h1, h2⟩ := okL_cut h
  have hlen : (folds p [] l).length = l.length := by simp [folds, snocs_len]
  unfold folds;rw [snocs_snoc];refine okL_snoc (ih h1) ?_;exact (foldG_ok hp (ih h1) (by rw [hlen]; exact h2)).1
theorem foldN_none {p : Int} {l : List S61} {g : S61} (h : foldStep p l g = none) (n : Nat) : foldN p l n g = g := by
  cases n with
  | zero => rfl
  | succ n => simp [foldN, h]
theorem folds_twice {p s : Int} (hp : 0 < p) (l : List S61) : okL p s l → folds p [] (folds p [] l) = folds p [] l := by
  refine snoc_ind (P := fun l => okL p s l → folds p [] (folds p [] l) = folds p [] l) (fun _ => rfl) ?_ l;intro l g ih h;obtain ⟨h1, h2⟩ := okL_cut h
  have hlen : (folds p [] l).length = l.length := by simp [folds, snocs_len]
  have hs : ∀ (l : List S61) g, folds p [] (l ++ [g]) = folds p [] l ++ [foldG p (folds p [] l) g] := fun l g => snocs_snoc _ _ _ _
  rw [hs, hs, ih h1]
  congr 2
  exact foldN_none (foldG_ok hp (folds_ok hp l h1) (by rw [hlen]; exact h2)).2 _
end Go.Proofs.Ytmlbliggbkfjnaa.L
/- Gates left out and others named in their place; gates that are alike. -/
namespace Go.Proofs.Ytmlbliggbkfjnaa.L
open Go.RowKit Go.Proofs.YtmlbliggbkfjnaaW.PrintWords Go.Proofs.Ytmlbliggbkfjnaa.J
def rnf (t : Int → Int) (g : S61) : S61 :=
  if g.f0 = 1 ∨ g.f0 = 2 then g else if g.f0 = 6 then ⟨g.f0, t g.f1, g.f2, g.f3⟩ else ⟨g.f0, t g.f1, t g.f2, g.f3⟩
theorem rnf_kind (t : Int → Int) (g : S61) : (rnf t g).f0 = g.f0 := by unfold rnf; split; rfl; split <;> rfl
theorem rnf_congr {p s i : Int} {g : S61} {t t' : Int → Int} (h : okG p s i g) (e : ∀ x, 0 ≤ x → x < i → t x = t' x) : rnf t g = rnf t' g := by
  unfold rnf; unfold okG at h
  split
  · rfl
  split
  · rw [e g.f1 (by omega) (by omega)]
  · rw [e g.f1 (by omega) (by omega), e g.f2 (by omega) (by omega)]
theorem rnf_id {p s i : Int} {g : S61} {t : Int → Int} (h : okG p s i g) (e : ∀ x, 0 ≤ x → x < i → t x = x) : rnf t g = g := by
  unfold rnf; unfold okG at h
  split
  · rfl
  split
  · rw [e g.f1 (by omega) (by omega)]
  · rw [e g.f1 (by omega) (by omega), e g.f2 (by omega) (by omega)]
theorem rnf_ok {p s i j : Int} {g : S61} {t : Int → Int} (h : okG p s i g)
    (e : g.f0 ≠ 1 → g.f0 ≠ 2 → 0 ≤ t g.f1 ∧ t g.f1 < j ∧ (g.f0 ≠ 6 → 0 ≤ t g.f2 ∧ t g.f2 < j)) : okG p s j (rnf t g) := by
  unfold rnf
  rcases h with h | h | h | h
  · rw [if_pos (.inl h.1)]; exact .inl h
  · rw [if_pos (.inr h.1)]; exact .inr (.inl h)
  · have h12 : ¬ (g.f0 = 1 ∨ g.f0 = 2) := by omega
    have h6 : ¬ g.f0 = 6 := by omega
    obtain ⟨a, b, c⟩ := e (by omega) (by omega);obtain ⟨c, d⟩ := c h6;rw [if_neg h12, if_neg h6];exact .inr (.inr (.inl ⟨h.1, a, b, c, d, h.2.2.2.2.2⟩))
  · obtain ⟨a, b, c⟩ := e (by omega) (by omega)
    rw [if_neg (by omega), if_pos h.1];exact .inr (.inr (.inr ⟨h.1, a, b, h.2.2.2.1, h.2.2.2.2⟩))
theorem okG_ops {p s i : Int} {g : S61} (h : okG p s i g) (h1 : g.f0 ≠ 1) (h2 : g.f0 ≠ 2) : 0 ≤ g.f1 ∧ g.f1 < i ∧ (g.f0 ≠ 6 → 0 ≤ g.f2 ∧ g.f2 < i) := by
  rcases h with h | h | h | h
  · exact absurd h.1 h1
  · exact absurd h.1 h2
  · exact ⟨h.2.1, h.2.2.1, fun _ => ⟨h.2.2.2.1, h.2.2.2.2.1⟩⟩
  · exact ⟨h.2.1, h.2.2.1, fun h6 => absurd h.1 h6⟩
def Comm (A : Alg) : Prop := ∀ a b, A.two 3 a b = A.two 3 b a ∧ A.two 5 a b = A.two 5 b a
def sameG (x y : S61) : Prop := x = y ∨ ((⟨x.f0, x.f2, x.f1, x.f3⟩ : S61) = y ∧ (x.f0 = 3 ∨ x.f0 = 5))
theorem S61.ext_iff' (x y : S61) : x = y ↔ x.f0 = y.f0 ∧ x.f1 = y.f1 ∧ x.f2 = y.f2 ∧ x.f3 = y.f3 := by
  cases x; cases y; simp
instance (x y : S61) : Decidable (x = y) := decidable_of_iff _ (S61.ext_iff' x y).symm
instance (x y : S61) : Decidable (sameG x y) := by unfold sameG; infer_instance
theorem app_same {A : Alg} (hA : Comm A) {x y : S61} (v : List Int) (h : sameG x y) : app A v x = app A v y := by
  rcases h with rfl | ⟨rfl, h⟩
  · rfl
  · unfold app
    rcases h with h | h
    · simp [h, (hA (atI v x.f1) (atI v x.f2)).1]
    · simp [h, (hA (atI v x.f1) (atI v x.f2)).2]
theorem app_rnf {A : Alg} {p s i : Int} {g : S61} {t : Int → Int} {v v' : List Int} (h : okG p s i g) (e : ∀ x, 0 ≤ x → x < i → x = g.f1 ∨ (g.f0 ≠ 6 ∧ x = g.f2) → g.f0 ≠ 1 → g.f0 ≠ 2 → atI v' (t x) = atI v x) : app A v' (rnf t g) = app A v g := by
  unfold rnf; unfold okG at h
  split
  · rename_i h1
    unfold app
    rcases h1 with h1 | h1 <;> simp [h1]
  split
  · rename_i h1 h6
    unfold app;simp only [h6, if_neg (show ¬ (6 : Int) = 1 by decide), if_neg (show ¬ (6 : Int) = 2 by decide), if_true];rw [e g.f1 (by omega) (by omega) (.inl rfl) (by omega) (by omega)]
  · rename_i h1 h6
    unfold app;simp only [if_neg (show ¬ g.f0 = 1 by omega), if_neg (show ¬ g.f0 = 2 by omega), if_neg h6];rw [e g.f1 (by omega) (by omega) (.inl rfl) (by omega) (by omega), e g.f2 (by omega) (by omega) (.inr ⟨h6, rfl⟩) (by omega) (by omega)]
structure Shr (p s : Int) (gs l : List S61) (t : Int → Int) (N : Int → Prop) : Prop where
  rng : ∀ i : Int, 0 ≤ i → i < gs.length → N i → 0 ≤ t i ∧ t i < l.length
  onto : ∀ j : Int, 0 ≤ j → j < l.length → ∃ i : Int, 0 ≤ i ∧ i < gs.length ∧ N i ∧ t i = j
  vals : ∀ A, Comm A → ∀ i : Int, 0 ≤ i → i < gs.length → N i → atI (L.vals A l) (t i) = atI (L.vals A gs) i
  ok : okL p s l
  cnt : ∀ f : S61 → Bool, (∀ g t, f (rnf t g) = f g) → (l.filter f).length ≤ (gs.filter f).length
theorem Shr.nil (p s : Int) (t : Int → Int) (N : Int → Prop) : Shr p s [] [] t N :=
  ⟨fun i h0 h1 => by simp at h1; omega, fun i h0 h1 => by simp at h1; omega, fun _ _ i h0 h1 => by simp at h1; omega, okL_nil p s, fun _ _ => Nat.le_refl _⟩
theorem vals_left (A : Alg) {l : List S61} {g : S61} {i : Int} (h0 : 0 ≤ i) (h1 : i < l.length) : atI (vals A (l ++ [g])) i = atI (vals A l) i := by
  rw [vals_snoc]; exact atI_left (by rw [vals_len]; exact h1) h0
theorem vals_last (A : Alg) (l : List S61) (g : S61) : atI (vals A (l ++ [g])) l.length = app A (vals A l) g := by
  rw [vals_snoc, show (l.length : Int) = ((vals A l).length : Nat) by rw [vals_len], atI_last]
def uses (g : S61) (x : Int) : Prop := g.f0 ≠ 1 ∧ g.f0 ≠ 2 ∧ (x = g.f1 ∨ (g.f0 ≠ 6 ∧ x = g.f2))
theorem uses_lt {p s i : Int} {g : S61} (h : okG p s i g) {x : Int} (hx : uses g x) : 0 ≤ x ∧ x < i := by
  obtain ⟨h1, h2, h3⟩ := hx;obtain ⟨a, b, c⟩ := okG_ops h h1 h2
  rcases h3 with rfl | ⟨h6, rfl⟩
  · exact ⟨a, b⟩
  · exact c h6
theorem Shr.new_ok {p s : Int} {gs l : List S61} {t : Int → Int} {N : Int → Prop} (h : Shr p s gs l t N) {g : S61} (hg : okG p s gs.length g)
    (hN : ∀ x, uses g x → N x) : okG p s l.length (rnf t g) := by
  refine rnf_ok hg fun h1 h2 => ?_
  have u1 : uses g g.f1 := ⟨h1, h2, .inl rfl⟩;obtain ⟨a, b⟩ := uses_lt hg u1;obtain ⟨c, d⟩ := h.rng _ a b (hN _ u1);refine ⟨c, d, fun h6 => ?_⟩;have u2 : uses g g.f2 := ⟨h1, h2, .inr ⟨h6, rfl⟩⟩;obtain ⟨a, b⟩ := uses_lt hg u2;exact h.rng _ a b (hN _ u2)
theorem Shr.new_val {p s : Int} {gs l : List S61} {t : Int → Int} {N : Int → Prop} (h : Shr p s gs l t N) {g : S61} (hg : okG p s gs.length g)
    (hN : ∀ x, uses g x → N x) {A : Alg} (hA : Comm A) : app A (L.vals A l) (rnf t g) = app A (L.vals A gs) g :=
  app_rnf hg fun x x0 x1 xe h1 h2 => h.vals A hA x x0 x1 (hN x ⟨h1, h2, xe⟩)
theorem Shr.stay {p s : Int} {gs l : List S61} {t t' : Int → Int} {N : Int → Prop} (h : Shr p s gs l t N) {g : S61} (hg : okG p s gs.length g)
    (ht : ∀ x : Int, 0 ≤ x → x < gs.length → t' x = t x) (hl : t' gs.length = l.length)
    (hN : ∀ x, uses g x → N x) (hN' : N gs.length) : Shr p s (gs ++ [g]) (l ++ [rnf t g]) t' N := by
  refine ⟨?_, ?_, ?_, okL_snoc h.ok (h.new_ok hg hN), ?_⟩
  · intro i i0 i1 iN
    simp only [List.length_append, List.length_cons, List.length_nil] at i1 ⊢
    by_cases e : i < gs.length
    · rw [ht i i0 e]; have := h.rng i i0 e iN; omega
    · rw [show i = gs.length by omega, hl]; omega
  · intro j j0 j1
    simp only [List.length_append, List.length_cons, List.length_nil] at j1 ⊢
    by_cases e : j < l.length
    · obtain ⟨i, i0, i1, iN, ij⟩ := h.onto j j0 e
      exact ⟨i, i0, by omega, iN, by rw [ht i i0 i1]; exact ij⟩
    · exact ⟨gs.length, by omega, by omega, hN', by rw [hl]; omega⟩
  · intro A hA i i0 i1 iN
    simp only [List.length_append, List.length_cons, List.length_nil] at i1
    by_cases e : i < gs.length
    · have r := h.rng i i0 e iN
      rw [ht i i0 e, vals_left A r.1 r.2, vals_left A i0 e];exact h.vals A hA i i0 e iN
    · rw [show i = gs.length by omega, hl, vals_last, vals_last]
      exact h.new_val hg hN hA
  · intro f hf
    have := h.cnt f hf;rw [List.filter_append, List.filter_append, List.length_append, List.length_append]
    have e : ([rnf t g].filter f).length = ([g].filter f).length := by
      simp only [List.filter_cons, hf, List.filter_nil]
      split <;> rfl
    omega
theorem Shr.other {p s : Int} {gs l : List S61} {t t' : Int → Int} {N : Int → Prop} (h : Shr p s gs l t N) {g : S61} (hg : okG p s gs.length g)
    (ht : ∀ x : Int, 0 ≤ x → x < gs.length → t' x = t x) (hN : N gs.length → (∀ x, uses g x → N x) ∧ 0 ≤ t' gs.length ∧ t' gs.length < l.length ∧ sameG (atG l (t' gs.length)) (rnf t g)) : Shr p s (gs ++ [g]) l t' N := by
  refine ⟨?_, ?_, ?_, h.ok, ?_⟩
  · intro i i0 i1 iN
    simp only [List.length_append, List.length_cons, List.length_nil] at i1 ⊢
    by_cases e : i < gs.length
    · rw [ht i i0 e]; exact h.rng i i0 e iN
    · have hi : i = gs.length := by omega
      subst hi;exact ⟨(hN iN).2.1, (hN iN).2.2.1⟩
  · intro j j0 j1
    obtain ⟨i, i0, i1, iN, ij⟩ := h.onto j j0 j1;exact ⟨i, i0, by simp; omega, iN, by rw [ht i i0 i1]; exact ij⟩
  · intro A hA i i0 i1 iN
    simp only [List.length_append, List.length_cons, List.length_nil] at i1
    by_cases e : i < gs.length
    · rw [ht i i0 e, vals_left A i0 e]
      exact h.vals A hA i i0 e iN
    · have hi : i = gs.length := by omega
      subst hi;obtain ⟨n1, n2, n3, n4⟩ := hN iN;rw [vals_last, vals_at A l h.ok _ n2 n3, app_same hA _ n4];exact h.new_val hg n1 hA
  · intro f hf
    have := h.cnt f hf;rw [List.filter_append, List.length_append]
    omega
def findS (l : List S61) (g : S61) : Nat := l.findIdx fun x => decide (sameG x g)
def shStep (st : List S61 × List Int) (g : S61) : List S61 × List Int :=
  let g' := rnf (atI st.2) g
  let k := findS st.1 g'
  (if k = st.1.length then st.1 ++ [g'] else st.1, st.2 ++ [(k : Int)])
def shL (gs : List S61) : List S61 × List Int := gs.foldl shStep ([], [])
theorem shL_snoc (gs : List S61) (g : S61) : shL (gs ++ [g]) = shStep (shL gs) g := by simp [shL, List.foldl_append]
theorem shL_len (gs : List S61) : (shL gs).2.length = gs.length := by
  refine snoc_ind (P := fun gs => (shL gs).2.length = gs.length) rfl (fun gs g ih => ?_) gs;rw [shL_snoc]; simp [shStep, ih]
theorem findS_le (l : List S61) (g : S61) : findS l g ≤ l.length := List.findIdx_le_length
theorem findS_same {l : List S61} {g : S61} (h : findS l g < l.length) : sameG (atG l (findS l g)) g := by
  have := List.findIdx_getElem (w := h);unfold atG;rw [List.getD_eq_getElem?_getD, Int.toNat_natCast, List.getElem?_eq_getElem h];exact of_decide_eq_true this
theorem findS_none {l : List S61} {g : S61} (h : findS l g = l.length) : ∀ x ∈ l, ¬ sameG x g := by
  unfold findS at h;rw [List.findIdx_eq_length] at h;intro x hx
  simpa using h x hx
theorem shL_shr {p s : Int} (gs : List S61) : okL p s gs → Shr p s gs (shL gs).1 (atI (shL gs).2) (fun _ => True) := by
  refine snoc_ind (P := fun gs => okL p s gs → Shr p s gs (shL gs).1 (atI (shL gs).2) (fun _ => True)) (fun _ => Shr.nil p s _ _) (fun gs g ih h => ?_) gs;obtain ⟨h1, h2⟩ := okL_cut h;have hlen := shL_len gs
  have ht : ∀ (k x : Int), 0 ≤ x → x < gs.length → atI ((shL gs).2 ++ [k]) x = atI (shL gs).2 x := fun k x x0 x1 => atI_left (by omega) x0
  have hk : ∀ k : Int, atI ((shL gs).2 ++ [k]) gs.length = k := fun k => by rw [← hlen]; exact atI_last _ _
  rw [shL_snoc];unfold shStep;simp only;have hle := findS_le (shL gs).1 (rnf (atI (shL gs).2) g)
  split
  · rename_i e
    exact (ih h1).stay h2 (ht _) (by rw [hk, e]) (fun _ _ => trivial) trivial
  · rename_i e
    refine (ih h1).other h2 (ht _) fun _ => ⟨fun _ _ => trivial, by rw [hk]; omega, by rw [hk]; omega, ?_⟩
    rw [hk];exact findS_same (by omega)
def apart (l : List S61) : Prop := l.Pairwise fun x y => ¬ sameG x y
theorem shL_apart (gs : List S61) : apart (shL gs).1 := by
  refine snoc_ind (P := fun gs => apart (shL gs).1) List.Pairwise.nil (fun gs g ih => ?_) gs;rw [shL_snoc];unfold shStep;simp only
  split
  · rename_i e
    refine List.pairwise_append.2 ⟨ih, List.pairwise_singleton _ _, fun x hx y hy => ?_⟩;obtain rfl := List.mem_singleton.1 hy;exact findS_none e x hx
  · exact ih
def idx (n : Nat) : List Int := (List.range n).map fun i : Nat => (i : Int)
theorem idx_succ (n : Nat) : idx (n + 1) = idx n ++ [(n : Int)] := by simp [idx, List.range_succ]
theorem idx_at {n : Nat} {x : Int} (h0 : 0 ≤ x) (h1 : x < n) : atI (idx n) x = x := by
  unfold atI idx;rw [List.getD_eq_getElem?_getD, List.getElem?_map, List.getElem?_range (by omega)];simp; omega
theorem shL_id {p s : Int} (l : List S61) : okL p s l → apart l → shL l = (l, idx l.length) := by
  refine snoc_ind (P := fun l => okL p s l → apart l → shL l = (l, idx l.length)) (fun _ _ => rfl) (fun l g ih h ha => ?_) l;obtain ⟨h1, h2⟩ := okL_cut h;obtain ⟨a1, a2, a3⟩ := List.pairwise_append.1 ha;rw [shL_snoc, ih h1 a1];unfold shStep
  have e : rnf (atI (idx l.length)) g = g := rnf_id h2 fun x x0 x1 => idx_at x0 x1
  simp only [e]
  have ef : findS l g = l.length := by
    unfold findS;rw [List.findIdx_eq_length];intro x hx
    simpa using a3 x hx g (List.mem_singleton.2 rfl)
  simp [ef, idx_succ]
end Go.Proofs.Ytmlbliggbkfjnaa.L
/- Gates that nobody asks for; levels. -/
namespace Go.Proofs.Ytmlbliggbkfjnaa.L
open Go.RowKit Go.Proofs.YtmlbliggbkfjnaaW.PrintWords Go.Proofs.Ytmlbliggbkfjnaa.J
def atB (l : List Bool) (i : Int) : Bool := l.getD i.toNat false
theorem atB_set {l : List Bool} {x : Int} (x0 : 0 ≤ x) (x1 : x < l.length) {i : Int} (i0 : 0 ≤ i) : atB (l.set x.toNat true) i = true ↔ atB l i = true ∨ i = x := by
  unfold atB;rw [List.getD_eq_getElem?_getD, List.getD_eq_getElem?_getD, List.getElem?_set]
  by_cases e : i = x
  · subst e
    rw [if_pos rfl, if_pos (by omega)];simp
  · rw [if_neg (by omega)]
    simp [e]
def mkStep (gs : List S61) (a : List Bool) (i : Nat) : List Bool :=
  if atB a i = true ∧ (atG gs i).f0 ≠ 1 ∧ (atG gs i).f0 ≠ 2 then
    (if (atG gs i).f0 = 6 then a.set (atG gs i).f1.toNat true else (a.set (atG gs i).f1.toNat true).set (atG gs i).f2.toNat true)
  else a
def mkM (gs : List S61) : Nat → List Bool → List Bool
  | 0, a => a
  | m + 1, a => mkM gs m (mkStep gs a m)
theorem mkStep_len (gs : List S61) (a : List Bool) (i : Nat) : (mkStep gs a i).length = a.length := by
  unfold mkStep
  split
  · split <;> simp
  · rfl
theorem mkM_len (gs : List S61) : ∀ (m : Nat) (a : List Bool), (mkM gs m a).length = a.length
  | 0, a => rfl
  | m + 1, a => by unfold mkM; rw [mkM_len gs m, mkStep_len]
inductive Live (gs : List S61) (N0 : Int → Prop) : Int → Prop
  | base (x : Int) : N0 x → Live gs N0 x
  | use (i x : Int) : Live gs N0 i → 0 ≤ i → i < gs.length → uses (atG gs i) x → Live gs N0 x
theorem mkStep_iff {p s : Int} {gs : List S61} (hok : okL p s gs) {a : List Bool} (ha : a.length = gs.length) {m : Nat} (hm : m < gs.length) {x : Int} (x0 : 0 ≤ x) :
    atB (mkStep gs a m) x = true ↔ atB a x = true ∨ (atB a m = true ∧ uses (atG gs m) x) := by
  have hg := okL_at hok (i := m) (by omega) (by omega);unfold mkStep
  split
  · rename_i c
    obtain ⟨c1, c2, c3⟩ := c;obtain ⟨o1, o2, o3⟩ := okG_ops hg c2 c3
    split
    · rename_i c6
      rw [atB_set o1 (by omega) x0]
      constructor
      · rintro (h | rfl)
        · exact .inl h
        · exact .inr ⟨c1, c2, c3, .inl rfl⟩
      · rintro (h | ⟨_, _, _, h | ⟨h6, _⟩⟩)
        · exact .inl h
        · exact .inr h
        · exact absurd c6 h6
    · rename_i c6
      obtain ⟨o3, o4⟩ := o3 c6;rw [atB_set o3 (by simp; omega) x0, atB_set o1 (by omega) x0]
      constructor
      · rintro ((h | rfl) | rfl)
        · exact .inl h
        · exact .inr ⟨c1, c2, c3, .inl rfl⟩
        · exact .inr ⟨c1, c2, c3, .inr ⟨c6, rfl⟩⟩
      · rintro (h | ⟨_, _, _, h | ⟨_, h⟩⟩)
        · exact .inl (.inl h)
        · exact .inl (.inr h)
        · exact .inr h
  · rename_i c
    constructor
    · exact .inl
    · rintro (h | ⟨h1, h2, h3, _⟩)
      · exact h
      · exact absurd ⟨h1, h2, h3⟩ c
theorem mkM_live {p s : Int} {gs : List S61} (hok : okL p s gs) {N0 : Int → Prop} (h0 : ∀ x, N0 x → 0 ≤ x ∧ x < gs.length) : ∀ (m : Nat) (a : List Bool), m ≤ gs.length → a.length = gs.length →
    (∀ x, 0 ≤ x → atB a x = true → Live gs N0 x) → (∀ x, N0 x → atB a x = true) → (∀ i : Int, m ≤ i → i < gs.length → atB a i = true → ∀ x, uses (atG gs i) x → atB a x = true) →
    ∀ x, 0 ≤ x → (atB (mkM gs m a) x = true ↔ Live gs N0 x)
  | 0, a, _, ha, h1, h2, h3 => by
    intro x x0
    constructor
    · exact h1 x x0
    · intro hl
      clear x0
      have : 0 ≤ x ∧ atB a x = true := by
        induction hl with
        | base x hx => exact ⟨(h0 x hx).1, h2 x hx⟩
        | use i x _ i0 i1 hu ih => exact ⟨(uses_lt (okL_at hok i0 i1) hu).1, h3 i (by omega) i1 ih.2 x hu⟩
      exact this.2
  | m + 1, a, hm, ha, h1, h2, h3 => by
    unfold mkM
    have hs := fun {x : Int} x0 => mkStep_iff hok ha (m := m) (by omega) (x := x) x0
    refine mkM_live hok h0 m _ (by omega) (by rw [mkStep_len]; exact ha) ?_ ?_ ?_
    · intro x x0 hx
      rcases (hs x0).1 hx with h | ⟨h, hu⟩
      · exact h1 x x0 h
      · exact .use m x (h1 m (by omega) h) (by omega) (by omega) hu
    · intro x hx
      exact (hs (h0 x hx).1).2 (.inl (h2 x hx))
    · intro i i0 i1 hi x hu
      have hux := uses_lt (okL_at hok (by omega) i1) hu
      by_cases e : i = m
      · subst e
        have : atB a m = true := by
          rcases (hs (by omega)).1 hi with h | ⟨h, _⟩
          · exact h
          · exact h
        exact (hs hux.1).2 (.inr ⟨this, hu⟩)
      · have : atB a i = true := by
          rcases (hs (by omega)).1 hi with h | ⟨h, hu'⟩
          · exact h
          · have := uses_lt (okL_at hok (by omega) (by omega)) hu'
            omega
        exact (hs hux.1).2 (.inl (h3 i (by omega) i1 this x hu))
def prStep (a : List Bool) (st : List S61 × List Int) (g : S61) : List S61 × List Int :=
  if atB a st.2.length = true then (st.1 ++ [rnf (atI st.2) g], st.2 ++ [(st.1.length : Int)]) else (st.1, st.2 ++ [0])
def prL (a : List Bool) (gs : List S61) : List S61 × List Int := gs.foldl (prStep a) ([], [])
theorem prL_snoc (a : List Bool) (gs : List S61) (g : S61) : prL a (gs ++ [g]) = prStep a (prL a gs) g := by simp [prL, List.foldl_append]
theorem prL_len (a : List Bool) (gs : List S61) : (prL a gs).2.length = gs.length := by
  refine snoc_ind (P := fun gs => (prL a gs).2.length = gs.length) rfl (fun gs g ih => ?_) gs;rw [prL_snoc]; unfold prStep; split <;> simp [ih]
theorem prL_shr {p s : Int} {a : List Bool} (gs : List S61) : okL p s gs → (∀ i : Int, 0 ≤ i → i < gs.length → atB a i = true → ∀ x, uses (atG gs i) x → atB a x = true) →
    Shr p s gs (prL a gs).1 (atI (prL a gs).2) (fun i => atB a i = true) := by
  refine snoc_ind (P := fun gs => okL p s gs → (∀ i : Int, 0 ≤ i → i < gs.length → atB a i = true → ∀ x, uses (atG gs i) x → atB a x = true) → Shr p s gs (prL a gs).1 (atI (prL a gs).2) (fun i => atB a i = true)) (fun _ _ => Shr.nil p s _ _) (fun gs g ih h hc => ?_) gs;obtain ⟨h1, h2⟩ := okL_cut h;have hlen := prL_len a gs
  have ht : ∀ (k x : Int), 0 ≤ x → x < gs.length → atI ((prL a gs).2 ++ [k]) x = atI (prL a gs).2 x := fun k x x0 x1 => atI_left (by omega) x0
  have hk : ∀ k : Int, atI ((prL a gs).2 ++ [k]) gs.length = k := fun k => by rw [← hlen]; exact atI_last _ _
  have hc1 : ∀ i : Int, 0 ≤ i → i < gs.length → atB a i = true → ∀ x, uses (atG gs i) x → atB a x = true := fun i i0 i1 hi x hu => hc i i0 (by simp; omega) hi x (by rw [atG_left i1 i0]; exact hu)
  rw [prL_snoc];unfold prStep;rw [hlen]
  split
  · rename_i e
    refine (ih h1 hc1).stay h2 (ht _) (hk _) (fun x hu => hc gs.length (by omega) (by simp; omega) e x ?_) e;rw [atG_last]; exact hu
  · rename_i e
    exact (ih h1 hc1).other h2 (ht _) fun he => absurd he e
theorem prL_at {p s : Int} {a : List Bool} (gs : List S61) : okL p s gs → ∀ i : Int, 0 ≤ i → i < gs.length → atB a i = true →
    0 ≤ atI (prL a gs).2 i ∧ atI (prL a gs).2 i < (prL a gs).1.length ∧ atG (prL a gs).1 (atI (prL a gs).2 i) = rnf (atI (prL a gs).2) (atG gs i) := by
  refine snoc_ind (P := fun gs => okL p s gs → ∀ i : Int, 0 ≤ i → i < gs.length → atB a i = true → 0 ≤ atI (prL a gs).2 i ∧ atI (prL a gs).2 i < (prL a gs).1.length ∧ atG (prL a gs).1 (atI (prL a gs).2 i) = rnf (atI (prL a gs).2) (atG gs i)) (fun _ i i0 i1 => by simp at i1; omega) (fun gs g ih h i i0 i1 hi => ?_) gs;obtain ⟨h1, h2⟩ := okL_cut h;have hlen := prL_len a gs
  have ht : ∀ (k x : Int), 0 ≤ x → x < gs.length → atI ((prL a gs).2 ++ [k]) x = atI (prL a gs).2 x := fun k x x0 x1 => atI_left (by omega) x0
  have hk : ∀ k : Int, atI ((prL a gs).2 ++ [k]) gs.length = k := fun k => by rw [← hlen]; exact atI_last _ _
  simp only [List.length_append, List.length_cons, List.length_nil] at i1;rw [prL_snoc];unfold prStep;rw [hlen]
  by_cases e : i < gs.length
  · obtain ⟨r1, r2, r3⟩ := ih h1 i i0 e hi
    have hg := okL_at h1 i0 e
    split
    · simp only [List.length_append, List.length_cons, List.length_nil]
      rw [ht _ i i0 e];refine ⟨r1, by omega, ?_⟩;rw [atG_left r2 r1, atG_left e i0, r3]
      exact rnf_congr hg fun x x0 x1 => (ht _ x x0 (by omega)).symm
    · simp only
      rw [ht _ i i0 e];refine ⟨r1, r2, ?_⟩;rw [atG_left e i0, r3]
      exact rnf_congr hg fun x x0 x1 => (ht _ x x0 (by omega)).symm
  · have hi' : i = gs.length := by omega
    subst hi';rw [if_pos hi];simp only [List.length_append, List.length_cons, List.length_nil];rw [hk, atG_last, atG_last];exact ⟨by omega, by omega, rnf_congr h2 fun x x0 x1 => (ht _ x x0 x1).symm⟩
theorem prL_id {p s : Int} {a : List Bool} (l : List S61) : okL p s l → (∀ i : Int, 0 ≤ i → i < l.length → atB a i = true) → prL a l = (l, idx l.length) := by
  refine snoc_ind (P := fun l => okL p s l → (∀ i : Int, 0 ≤ i → i < l.length → atB a i = true) → prL a l = (l, idx l.length)) (fun _ _ => rfl) (fun l g ih h ha => ?_) l;obtain ⟨h1, h2⟩ := okL_cut h
  have e := ih h1 fun i i0 i1 => ha i i0 (by simp; omega)
  rw [prL_snoc, e];unfold prStep
  have hl : (idx l.length).length = l.length := by simp [idx]
  simp only [hl];rw [if_pos (ha l.length (by omega) (by simp; omega)), rnf_id h2 fun x x0 x1 => idx_at x0 x1];simp [idx_succ]
theorem uses_rnf {g : S61} {t : Int → Int} {x : Int} (h : uses g x) : uses (rnf t g) (t x) := by
  obtain ⟨h1, h2, h3⟩ := h;refine ⟨by rw [rnf_kind]; exact h1, by rw [rnf_kind]; exact h2, ?_⟩;rw [rnf_kind];unfold rnf;rw [if_neg (by omega)]
  rcases h3 with rfl | ⟨h6, rfl⟩
  · split <;> exact .inl rfl
  · rw [if_neg h6]; exact .inr ⟨h6, rfl⟩
theorem pruned_live {p s : Int} {gs : List S61} {a : List Bool} {N0 N0' : Int → Prop} (hok : okL p s gs) (ha : ∀ x, 0 ≤ x → (atB a x = true ↔ Live gs N0 x)) (h0 : ∀ x, N0 x → 0 ≤ x ∧ x < gs.length)
    (h0' : ∀ x, N0 x → N0' (atI (prL a gs).2 x)) (j : Int) (j0 : 0 ≤ j) (j1 : j < (prL a gs).1.length) : Live (prL a gs).1 N0' j := by
  have hc : ∀ i : Int, 0 ≤ i → i < gs.length → atB a i = true → ∀ x, uses (atG gs i) x → atB a x = true := fun i i0 i1 hi x hu =>
    (ha x (uses_lt (okL_at hok i0 i1) hu).1).2 (.use i x ((ha i i0).1 hi) i0 i1 hu)
  obtain ⟨i, i0, i1, iN, ij⟩ := (prL_shr gs hok hc).onto j j0 j1;have hl := (ha i i0).1 iN
  have key : ∀ x, Live gs N0 x → 0 ≤ x ∧ x < gs.length ∧ Live (prL a gs).1 N0' (atI (prL a gs).2 x) := by
    intro x hx
    induction hx with
    | base x hx => exact ⟨(h0 x hx).1, (h0 x hx).2, .base _ (h0' x hx)⟩
    | use i x hi i0 i1 hu ih =>
      have hb := uses_lt (okL_at hok i0 i1) hu;obtain ⟨r1, r2, r3⟩ := prL_at gs hok i i0 i1 ((ha i i0).2 hi);refine ⟨hb.1, by omega, .use _ _ ih.2.2 r1 r2 ?_⟩;rw [r3]; exact uses_rnf hu
  rw [← ij]; exact (key i hl).2.2
end Go.Proofs.Ytmlbliggbkfjnaa.L
/- The program's way to leave out gates that are alike comes to the reference's. -/
namespace Go.Proofs.Ytmlbliggbkfjnaa.L
open Go.RowKit Go.Proofs.YtmlbliggbkfjnaaW.PrintWords Go.Proofs.Ytmlbliggbkfjnaa.J
def canon (g : S61) : S61 := if (g.f0 = 3 ∨ g.f0 = 5) ∧ g.f1 > g.f2 then ⟨g.f0, g.f2, g.f1, g.f3⟩ else g
def findM (g : S61) : List (S61 × Int) → Option Int
  | [] => none
  | x :: M => if g = x.1 then some x.2 else findM g M
def atM (M : List (S61 × Int)) (i : Int) : S61 × Int := M.getD i.toNat (⟨0, 0, 0, 0⟩, 0)
def spStep (st : List Int × List (S61 × Int)) (g : S61) : List Int × List (S61 × Int) :=
  match findM (canon (rnf (atI st.1) g)) st.2 with
  | some k => (st.1 ++ [k], st.2)
  | none => (st.1 ++ [(st.1.length : Int)], st.2 ++ [(canon (rnf (atI st.1) g), (st.1.length : Int))])
def spL (gs : List S61) : List Int × List (S61 × Int) := gs.foldl spStep ([], [])
theorem spL_snoc (gs : List S61) (g : S61) : spL (gs ++ [g]) = spStep (spL gs) g := by simp [spL, List.foldl_append]
theorem spL_len (gs : List S61) : (spL gs).1.length = gs.length := by
  refine snoc_ind (P := fun gs => (spL gs).1.length = gs.length) rfl (fun gs g ih => ?_) gs;rw [spL_snoc]; unfold spStep; split <;> simp [ih]
def mvStep (st : Int → Bool) (t : Int → Int) (z : List S61 × List Int) (g : S61) : List S61 × List Int :=
  if st z.2.length = true then (z.1 ++ [rnf (fun x => atI z.2 (t x)) g], z.2 ++ [(z.1.length : Int)]) else (z.1, z.2 ++ [0])
def mvL (st : Int → Bool) (t : Int → Int) (gs : List S61) : List S61 × List Int := gs.foldl (mvStep st t) ([], [])
theorem mvL_snoc (st : Int → Bool) (t : Int → Int) (gs : List S61) (g : S61) : mvL st t (gs ++ [g]) = mvStep st t (mvL st t gs) g := by simp [mvL, List.foldl_append]
theorem mvL_len (st : Int → Bool) (t : Int → Int) (gs : List S61) : (mvL st t gs).2.length = gs.length := by
  refine snoc_ind (P := fun gs => (mvL st t gs).2.length = gs.length) rfl (fun gs g ih => ?_) gs;rw [mvL_snoc]; unfold mvStep; split <;> simp [ih]
theorem mvL_congr {p s : Int} {st st' : Int → Bool} {t t' : Int → Int} (gs : List S61) : okL p s gs → (∀ x : Int, 0 ≤ x → x < gs.length → st x = st' x ∧ t x = t' x) → mvL st t gs = mvL st' t' gs := by
  refine snoc_ind (P := fun gs => okL p s gs → (∀ x : Int, 0 ≤ x → x < gs.length → st x = st' x ∧ t x = t' x) → mvL st t gs = mvL st' t' gs) (fun _ _ => rfl) (fun gs g ih h e => ?_) gs;obtain ⟨h1, h2⟩ := okL_cut h;rw [mvL_snoc, mvL_snoc, ih h1 fun x x0 x1 => e x x0 (by simp; omega)];unfold mvStep;rw [mvL_len, (e gs.length (by omega) (by simp; omega)).1];rw [rnf_congr (t := fun x => atI (mvL st' t' gs).2 (t x)) (t' := fun x => atI (mvL st' t' gs).2 (t' x)) h2 fun x x0 x1 => by rw [(e x x0 (by simp; omega)).2]]
theorem rnf_rnf (f t : Int → Int) (g : S61) : rnf f (rnf t g) = rnf (fun x => f (t x)) g := by
  by_cases h : g.f0 = 1 ∨ g.f0 = 2
  · unfold rnf; simp only [if_pos h]
  · by_cases h6 : g.f0 = 6
    · unfold rnf; simp [h6]
    · unfold rnf; simp only [if_neg h, if_neg h6]
theorem canon_kind (g : S61) : (canon g).f0 = g.f0 := by unfold canon; split <;> rfl
theorem canon_same {p s i j L : Int} {f : Int → Int} (hf : ∀ x y, 0 ≤ x → x < L → 0 ≤ y → y < L → f x = f y → x = y) {x y : S61} (hx : okG p s i x) (hy : okG p s j y) (hi : i ≤ L) (hj : j ≤ L) :
    canon (rnf f y) = canon (rnf f x) ↔ sameG x y := by
  by_cases hk : x.f0 = y.f0
  · have fe : ∀ a b, 0 ≤ a → a < L → 0 ≤ b → b < L → (f a = f b ↔ a = b) := fun a b a0 a1 b0 b1 => ⟨hf a b a0 a1 b0 b1, fun e => by rw [e]⟩
    have sm : sameG x y ↔ (x.f1 = y.f1 ∧ x.f2 = y.f2 ∧ x.f3 = y.f3) ∨ ((x.f0 = 3 ∨ x.f0 = 5) ∧ x.f2 = y.f1 ∧ x.f1 = y.f2 ∧ x.f3 = y.f3) := by
      unfold sameG;rw [S61.ext_iff', S61.ext_iff'];simp only [hk, true_and]
      constructor
      · rintro (h | ⟨h, h'⟩)
        · exact .inl h
        · exact .inr ⟨h', h⟩
      · rintro (h | ⟨h', h⟩)
        · exact .inl h
        · exact .inr ⟨h, h'⟩
    rw [sm];clear sm
    rcases hx with hx | hx | hx | hx
    · have e1 : rnf f x = x := by unfold rnf; rw [if_pos (.inl hx.1)]
      have e2 : rnf f y = y := by unfold rnf; rw [if_pos (.inl (by omega))]
      have c1 : canon x = x := by unfold canon; rw [if_neg (by omega)]
      have c2 : canon y = y := by unfold canon; rw [if_neg (by omega)]
      rw [e1, e2, c1, c2, S61.ext_iff']
      omega
    · have e1 : rnf f x = x := by unfold rnf; rw [if_pos (.inr hx.1)]
      have e2 : rnf f y = y := by unfold rnf; rw [if_pos (.inr (by omega))]
      have c1 : canon x = x := by unfold canon; rw [if_neg (by omega)]
      have c2 : canon y = y := by unfold canon; rw [if_neg (by omega)]
      rw [e1, e2, c1, c2, S61.ext_iff']
      omega
    · have n12 : ¬ (x.f0 = 1 ∨ x.f0 = 2) := by omega
      have n6 : ¬ x.f0 = 6 := by omega
      obtain ⟨y1, y2, y3⟩ := okG_ops hy (by omega) (by omega);obtain ⟨y3, y4⟩ := y3 (by omega);have f11 := fe x.f1 y.f1 (by omega) (by omega) (by omega) (by omega);have f12 := fe x.f1 y.f2 (by omega) (by omega) (by omega) (by omega);have f21 := fe x.f2 y.f1 (by omega) (by omega) (by omega) (by omega);have f22 := fe x.f2 y.f2 (by omega) (by omega) (by omega) (by omega)
      have e1 : rnf f x = ⟨x.f0, f x.f1, f x.f2, x.f3⟩ := by unfold rnf; rw [if_neg n12, if_neg n6]
      have e2 : rnf f y = ⟨y.f0, f y.f1, f y.f2, y.f3⟩ := by unfold rnf; rw [if_neg (by omega), if_neg (by omega)]
      rw [e1, e2, ← hk];rw [← f11, ← f12, ← f21, ← f22];generalize f x.f1 = A;generalize f x.f2 = B;generalize f y.f1 = C;generalize f y.f2 = D;generalize x.f3 = X;generalize y.f3 = Y;have h0 := hx.1;generalize x.f0 = K at *;clear hx hy f11 f12 f21 f22 e1 e2 fe hf hk n12 n6;unfold canon;simp only
      by_cases c : K = 3 ∨ K = 5
      · by_cases c1 : A > B <;> by_cases c2 : C > D <;> simp [c, c1, c2] <;> omega
      · simp [c, eq_comm]
    · have n12 : ¬ (x.f0 = 1 ∨ x.f0 = 2) := by omega
      obtain ⟨y1, y2, y3⟩ := okG_ops hy (by omega) (by omega);have f11 := fe x.f1 y.f1 (by omega) (by omega) (by omega) (by omega)
      have e1 : rnf f x = ⟨x.f0, f x.f1, x.f2, x.f3⟩ := by unfold rnf; rw [if_neg n12, if_pos hx.1]
      have e2 : rnf f y = ⟨y.f0, f y.f1, y.f2, y.f3⟩ := by unfold rnf; rw [if_neg (by omega), if_pos (by omega)]
      have c1 : canon ⟨x.f0, f x.f1, x.f2, x.f3⟩ = ⟨x.f0, f x.f1, x.f2, x.f3⟩ := by unfold canon; rw [if_neg (by show ¬ ((x.f0 = 3 ∨ x.f0 = 5) ∧ _); omega)]
      have c2 : canon ⟨y.f0, f y.f1, y.f2, y.f3⟩ = ⟨y.f0, f y.f1, y.f2, y.f3⟩ := by unfold canon; rw [if_neg (by show ¬ ((y.f0 = 3 ∨ y.f0 = 5) ∧ _); omega)]
      rw [e1, e2, c1, c2, S61.ext_iff'];simp only
      omega
  · constructor
    · intro h
      have := congrArg S61.f0 h;rw [canon_kind, canon_kind, rnf_kind, rnf_kind] at this;exact absurd this.symm hk
    · intro h
      exfalso
      rcases h with rfl | ⟨rfl, _⟩
      · exact hk rfl
      · exact hk rfl
theorem find_par (key g : S61) : ∀ (M : List (S61 × Int)) (l : List S61), M.length = l.length → (∀ j : Int, 0 ≤ j → j < l.length → (key = (atM M j).1 ↔ sameG (atG l j) g)) →
    findM key M = if findS l g < l.length then some (atM M (findS l g)).2 else none
  | [], [], _, _ => by simp [findM]
  | [], _ :: _, h, _ => by simp at h
  | _ :: _, [], h, _ => by simp at h
  | m :: M, x :: l, h, hj => by
    have h0 := hj 0 (by omega) (by simp);have e0 : (key = m.1 ↔ sameG x g) := h0;unfold findM findS;rw [List.findIdx_cons]
    by_cases e : sameG x g
    · rw [if_pos (e0.2 e)]
      simp [e, atM]
    · rw [if_neg (fun h' => e (e0.1 h'))]
      have ih := find_par key g M l (by simpa using h) fun j j0 j1 => by
        have := hj (j + 1) (by omega) (by simp; omega)
        have t1 : atM (m :: M) (j + 1) = atM M j := by
          unfold atM; rw [show (j + 1).toNat = j.toNat + 1 by omega]; rfl
        have t2 : atG (x :: l) (j + 1) = atG l j := by
          unfold atG; rw [show (j + 1).toNat = j.toNat + 1 by omega]; rfl
        rw [t1, t2] at this;exact this
      rw [ih];simp only [e, decide_false, Bool.cond_false, List.length_cons, Nat.add_lt_add_iff_right];unfold findS
      split
      · congr 1
      · rfl
structure SInv (gs : List S61) (pl : List Int) : Prop where
  len : (spL gs).2.length = (shL gs).1.length
  pls : pl.length = gs.length
  a : ∀ i : Int, 0 ≤ i → i < gs.length → 0 ≤ atI (shL gs).2 i ∧ atI (shL gs).2 i < (shL gs).1.length ∧ atI (spL gs).1 i = (atM (spL gs).2 (atI (shL gs).2 i)).2
  b : ∀ j : Int, 0 ≤ j → j < (shL gs).1.length → 0 ≤ (atM (spL gs).2 j).2 ∧ (atM (spL gs).2 j).2 < gs.length ∧ atI (shL gs).2 (atM (spL gs).2 j).2 = j ∧ atI (spL gs).1 (atM (spL gs).2 j).2 = (atM (spL gs).2 j).2
  c : ∀ j : Int, 0 ≤ j → j < (shL gs).1.length → (atM (spL gs).2 j).1 = canon (rnf (fun x => (atM (spL gs).2 x).2) (atG (shL gs).1 j))
  d : mvL (fun i => atI (spL gs).1 i == i) (atI (spL gs).1) gs = ((shL gs).1, pl)
  e : ∀ j : Int, 0 ≤ j → j < (shL gs).1.length → atI pl (atM (spL gs).2 j).2 = j
theorem atM_left {l m : List (S61 × Int)} {i : Int} (h1 : i < l.length) (h0 : 0 ≤ i) : atM (l ++ m) i = atM l i := by
  unfold atM;rw [List.getD_eq_getElem?_getD, List.getD_eq_getElem?_getD, List.getElem?_append_left (by omega)]
theorem atM_last (l : List (S61 × Int)) (x : S61 × Int) : atM (l ++ [x]) l.length = x := by
  simp [atM, List.getD_eq_getElem?_getD]
theorem share_inv {p s : Int} (gs : List S61) : okL p s gs → ∃ pl, SInv gs pl := by
  refine snoc_ind (P := fun gs => okL p s gs → ∃ pl, SInv gs pl) (fun _ => ⟨[], ⟨rfl, rfl, fun i i0 i1 => ?_, fun i i0 i1 => ?_, fun i i0 i1 => ?_, rfl, fun i i0 i1 => ?_⟩⟩) (fun gs g ih h => ?_) gs
  · exact absurd i1 (by simp; omega)
  · exact absurd i1 (by simp [shL]; omega)
  · exact absurd i1 (by simp [shL]; omega)
  · exact absurd i1 (by simp [shL]; omega)
  obtain ⟨h1, h2⟩ := okL_cut h;obtain ⟨pl, I⟩ := ih h1;have lt := shL_len gs;have ls := spL_len gs;have hsh := shL_shr gs h1
  have hg' : okG p s (shL gs).1.length (rnf (atI (shL gs).2) g) := hsh.new_ok h2 fun _ _ => trivial
  have key : canon (rnf (atI (spL gs).1) g) = canon (rnf (fun x => (atM (spL gs).2 x).2) (rnf (atI (shL gs).2) g)) := by
    rw [rnf_rnf]
    congr 1
    exact rnf_congr h2 fun x x0 x1 => (I.a x x0 x1).2.2
  have inj : ∀ x y, 0 ≤ x → x < ((shL gs).1.length : Int) → 0 ≤ y → y < ((shL gs).1.length : Int) → (atM (spL gs).2 x).2 = (atM (spL gs).2 y).2 → x = y := fun x y x0 x1 y0 y1 e => by
    have e1 := (I.b x x0 x1).2.2.1;have e2 := (I.b y y0 y1).2.2.1;rw [e, e2] at e1;exact e1.symm
  have fnd := find_par (canon (rnf (atI (spL gs).1) g)) (rnf (atI (shL gs).2) g) (spL gs).2 (shL gs).1 I.len fun j j0 j1 => by
    rw [I.c j j0 j1, key];exact canon_same inj (okL_at hsh.ok j0 j1) hg' (by omega) (Int.le_refl _)
  have hle := findS_le (shL gs).1 (rnf (atI (shL gs).2) g)
  have mono : ∀ k : Int, mvL (fun i => atI ((spL gs).1 ++ [k]) i == i) (atI ((spL gs).1 ++ [k])) gs = ((shL gs).1, pl) := fun k => by
    rw [← I.d]
    refine mvL_congr gs h1 fun x x0 x1 => ?_
    rw [atI_left (by omega) x0];exact ⟨rfl, rfl⟩
  by_cases hk : findS (shL gs).1 (rnf (atI (shL gs).2) g) < (shL gs).1.length
  · rw [if_pos hk] at fnd
    generalize hkk : findS (shL gs).1 (rnf (atI (shL gs).2) g) = k at *
    have es : spL (gs ++ [g]) = ((spL gs).1 ++ [(atM (spL gs).2 (k : Int)).2], (spL gs).2) := by
      rw [spL_snoc]; unfold spStep; rw [fnd]
    have et : shL (gs ++ [g]) = ((shL gs).1, (shL gs).2 ++ [(k : Int)]) := by
      rw [shL_snoc]; unfold shStep; simp only; rw [hkk, if_neg (by omega)]
    obtain ⟨bk0, bk1, bk2, bk3⟩ := I.b k (by omega) (by omega);refine ⟨pl ++ [0], ?_, ?_, ?_, ?_, ?_, ?_, ?_⟩
    · rw [es, et]; exact I.len
    · simp [I.pls]
    · rw [es, et]
      intro i i0 i1;simp only [List.length_append, List.length_cons, List.length_nil] at i1
      by_cases e : i < gs.length
      · rw [atI_left (by omega) i0, atI_left (by omega) i0]; exact I.a i i0 e
      · have hi : i = gs.length := by omega
        have p1 : atI ((spL gs).1 ++ [(atM (spL gs).2 (k : Int)).2]) i = (atM (spL gs).2 (k : Int)).2 := by rw [hi, ← ls, atI_last]
        have p2 : atI ((shL gs).2 ++ [(k : Int)]) i = k := by rw [hi, ← lt, atI_last]
        simp only;rw [p1, p2];exact ⟨by omega, by omega, rfl⟩
    · rw [es, et]
      intro j j0 j1;obtain ⟨b0, b1, b2, b3⟩ := I.b j j0 j1;simp only;refine ⟨b0, by simp; omega, ?_, ?_⟩
      · rw [atI_left (by omega) b0]; exact b2
      · rw [atI_left (by omega) b0]; exact b3
    · rw [es, et]
      exact I.c
    · rw [es, et]
      simp only;rw [mvL_snoc, mono];unfold mvStep;simp only [I.pls];rw [← ls, atI_last, if_neg];simp only [beq_iff_eq]
      omega
    · rw [es, et]
      intro j j0 j1;obtain ⟨b0, b1, b2, b3⟩ := I.b j j0 j1;simp only;rw [atI_left (by rw [I.pls]; exact b1) b0];exact I.e j j0 j1
  · rw [if_neg hk] at fnd
    have hk' : findS (shL gs).1 (rnf (atI (shL gs).2) g) = (shL gs).1.length := by omega
    have es : spL (gs ++ [g]) = ((spL gs).1 ++ [(gs.length : Int)], (spL gs).2 ++ [(canon (rnf (atI (spL gs).1) g), (gs.length : Int))]) := by
      rw [spL_snoc]; unfold spStep; rw [fnd]; simp only [ls]
    have et : shL (gs ++ [g]) = ((shL gs).1 ++ [rnf (atI (shL gs).2) g], (shL gs).2 ++ [((shL gs).1.length : Int)]) := by
      rw [shL_snoc]; unfold shStep; simp only; rw [hk', if_pos rfl]
    have mle : ∀ j : Int, 0 ≤ j → j < (shL gs).1.length → atM ((spL gs).2 ++ [(canon (rnf (atI (spL gs).1) g), (gs.length : Int))]) j = atM (spL gs).2 j := fun j j0 j1 => atM_left (by rw [I.len]; exact j1) j0
    have mla : atM ((spL gs).2 ++ [(canon (rnf (atI (spL gs).1) g), (gs.length : Int))]) (shL gs).1.length = (canon (rnf (atI (spL gs).1) g), (gs.length : Int)) := by
      rw [← I.len]; exact atM_last _ _
    refine ⟨pl ++ [((shL gs).1.length : Int)], ?_, ?_, ?_, ?_, ?_, ?_, ?_⟩
    · rw [es, et]; simp [I.len]
    · simp [I.pls]
    · rw [es, et]
      intro i i0 i1;simp only [List.length_append, List.length_cons, List.length_nil] at i1 ⊢
      by_cases e : i < gs.length
      · obtain ⟨a0, a1, a2⟩ := I.a i i0 e
        rw [atI_left (by omega) i0, atI_left (by omega) i0, mle _ a0 a1];exact ⟨a0, by omega, a2⟩
      · have hi : i = gs.length := by omega
        have p1 : atI ((spL gs).1 ++ [(gs.length : Int)]) i = gs.length := by rw [hi, ← ls, atI_last]
        have p2 : atI ((shL gs).2 ++ [((shL gs).1.length : Int)]) i = (shL gs).1.length := by rw [hi, ← lt, atI_last]
        rw [p1, p2, mla];exact ⟨by omega, by omega, rfl⟩
    · rw [es, et]
      intro j j0 j1;simp only [List.length_append, List.length_cons, List.length_nil] at j1 ⊢
      by_cases e : j < (shL gs).1.length
      · obtain ⟨b0, b1, b2, b3⟩ := I.b j j0 e
        rw [mle j j0 e, atI_left (by omega) b0, atI_left (by omega) b0];exact ⟨b0, by omega, b2, b3⟩
      · have hj : j = (shL gs).1.length := by omega
        have p1 : atI ((spL gs).1 ++ [(gs.length : Int)]) (gs.length : Int) = gs.length := by
          have := atI_last (spL gs).1 (gs.length : Int); rw [ls] at this; exact this
        have p2 : atI ((shL gs).2 ++ [((shL gs).1.length : Int)]) (gs.length : Int) = (shL gs).1.length := by
          have := atI_last (shL gs).2 ((shL gs).1.length : Int); rw [lt] at this; exact this
        rw [hj, mla];exact ⟨by show (0 : Int) ≤ (gs.length : Int); omega, by show (gs.length : Int) < _; omega, p2, p1⟩
    · rw [es, et]
      intro j j0 j1;simp only [List.length_append, List.length_cons, List.length_nil] at j1 ⊢
      by_cases e : j < (shL gs).1.length
      · rw [mle j j0 e, atG_left e j0, I.c j j0 e]
        congr 1
        exact rnf_congr (okL_at hsh.ok j0 e) fun x x0 x1 => by rw [mle x x0 (by omega)]
      · have hj : j = (shL gs).1.length := by omega
        rw [hj, mla, atG_last]
        show canon (rnf (atI (spL gs).1) g) = _
        refine key.trans ?_
        congr 1
        exact rnf_congr hg' fun x x0 x1 => by rw [mle x x0 x1]
    · rw [es, et]
      simp only;rw [mvL_snoc, mono];unfold mvStep;simp only [I.pls]
      have p1 : atI ((spL gs).1 ++ [(gs.length : Int)]) (gs.length : Int) = gs.length := by
        have := atI_last (spL gs).1 (gs.length : Int); rw [ls] at this; exact this
      rw [p1, if_pos (by simp)]
      congr 3
      refine rnf_congr h2 fun x x0 x1 => ?_
      obtain ⟨a0, a1, a2⟩ := I.a x x0 x1;rw [atI_left (by omega) x0, a2];exact I.e _ a0 a1
    · rw [es, et]
      intro j j0 j1;simp only [List.length_append, List.length_cons, List.length_nil] at j1
      by_cases e : j < (shL gs).1.length
      · obtain ⟨b0, b1, b2, b3⟩ := I.b j j0 e
        simp only;rw [mle j j0 e, atI_left (by rw [I.pls]; exact b1) b0];exact I.e j j0 e
      · have hj : j = (shL gs).1.length := by omega
        simp only;rw [hj, mla];have := atI_last pl ((shL gs).1.length : Int); rw [I.pls] at this; exact this
theorem share_moved {p s : Int} {gs : List S61} (h : okL p s gs) : ∃ pl, mvL (fun i => atI (spL gs).1 i == i) (atI (spL gs).1) gs = ((shL gs).1, pl) ∧ pl.length = gs.length ∧ ∀ i : Int, 0 ≤ i → i < gs.length → 0 ≤ atI (spL gs).1 i ∧ atI (spL gs).1 i < gs.length ∧ atI pl (atI (spL gs).1 i) = atI (shL gs).2 i := by
  obtain ⟨pl, I⟩ := share_inv gs h;refine ⟨pl, I.d, I.pls, fun i i0 i1 => ?_⟩;obtain ⟨a0, a1, a2⟩ := I.a i i0 i1;obtain ⟨b0, b1, _⟩ := I.b _ a0 a1;rw [a2];exact ⟨b0, b1, I.e _ a0 a1⟩
end Go.Proofs.Ytmlbliggbkfjnaa.L
/- Both tests of a prime answer alike, and what they answer; loops. -/
namespace Go.Proofs.Ytmlbliggbkfjnaa.L
open Go.RowKit Go.Proofs.YtmlbliggbkfjnaaW.PrintWords Go.Proofs.Ytmlbliggbkfjnaa.J
theorem u64_small {n : Int} (h0 : 0 ≤ n) (h1 : n < 18446744073709551616) : IntKind.u64.wrap n = n := by
  simp [IntKind.wrap, IntKind.signed, IntKind.bits]
  omega
theorem w64_small {n : Int} (h0 : -9223372036854775808 ≤ n) (h1 : n < 9223372036854775808) : wrap64 n = n := by
  unfold wrap64
  omega
def free (a : Int) : Prop := ∀ y : Fin 257, 2 ≤ y.val → ((y.val : Int) * (y.val : Int)) ≤ a → a % (y.val : Int) ≠ 0
def isP (a : Int) : Bool := decide (3 ≤ a ∧ a ≤ 65537 ∧ ∀ y : Fin 257, 2 ≤ y.val → ((y.val : Int) * (y.val : Int)) ≤ a → a % (y.val : Int) ≠ 0)
theorem free_of {a : Int} (h : a ≤ 65537) (hf : ∀ y : Fin 257, 2 ≤ y.val → ((y.val : Int) * (y.val : Int)) ≤ a → a % (y.val : Int) ≠ 0) (y : Int) (h2 : 2 ≤ y) (hy : y * y ≤ a) : a % y ≠ 0 := by
  have hb : y < 257 := by
    rcases Int.lt_or_le y 257 with h' | h'
    · exact h'
    · have : 257 * 257 ≤ y * y := Int.mul_le_mul h' h' (by omega) (by omega)
      omega
  have := hf ⟨y.toNat, by omega⟩ (show 2 ≤ y.toNat by omega);simp only at this;rw [show ((y.toNat : Nat) : Int) = y by omega] at this;exact this hy
theorem isP_iff (a : Int) : isP a = true ↔ 3 ≤ a ∧ a ≤ 65537 ∧ ∀ y : Int, 2 ≤ y → y * y ≤ a → a % y ≠ 0 := by
  unfold isP;rw [decide_eq_true_iff]
  constructor
  · rintro ⟨h1, h2, h3⟩
    exact ⟨h1, h2, fun y hy => free_of h2 h3 y hy⟩
  · rintro ⟨h1, h2, h3⟩
    exact ⟨h1, h2, fun y hy hq => h3 y.val (by omega) hq⟩
theorem sq_small {x : Int} (h0 : 0 ≤ x) (h1 : x ≤ 300) : 0 ≤ x * x ∧ x * x ≤ 90000 :=
  ⟨Int.mul_nonneg h0 h0, Int.mul_le_mul h1 h1 h0 (by omega)⟩
theorem ref_loop (a : Int) (h3 : 3 ≤ a) (ha : a ≤ 65537) : ∀ (m : Nat) (x : Int), 2 ≤ x → x + m = 258 → (∀ y : Int, 2 ≤ y → y < x → y * y ≤ a → a % y ≠ 0) → Ev (fun k => qfa.l0 k a x) (isP a)
  | 0, x, h2, hx, hy => by
    have hb : isP a = true := (isP_iff a).2 ⟨h3, ha, fun y y2 yq => hy y y2 (by
      rcases Int.lt_or_le y x with h' | h'
      · exact h'
      · have : 257 * 257 ≤ y * y := Int.mul_le_mul (by omega) (by omega) (by omega) (by omega)
        omega) yq⟩
    rw [hb];refine Ev.step (f := fun k => some true) (fun k => ?_) (Ev.now _);have hq := sq_small (x := x) (by omega) (by omega)
    have : ¬ (x * x ≤ a) := by
      have : 257 * 257 ≤ x * x := Int.mul_le_mul (by omega) (by omega) (by omega) (by omega)
      omega
    simp only [qfa.l0];rw [u64_small hq.1 (by omega), if_neg this]
  | m + 1, x, h2, hx, hy => by
    have hq := sq_small (x := x) (by omega) (by omega)
    by_cases hle : x * x ≤ a
    · by_cases hd : a % x = 0
      · have hb : isP a = false := by
          rw [Bool.eq_false_iff];intro h';exact ((isP_iff a).1 h').2.2 x h2 hle hd
        rw [hb];refine Ev.step (f := fun k => some false) (fun k => ?_) (Ev.now _);simp only [qfa.l0];rw [u64_small hq.1 (by omega), if_pos hle, if_neg (show ¬ x = 0 by omega), if_pos (by rw [Int.tmod_eq_emod_of_nonneg (by omega)]; exact hd)]
      · refine Ev.step (f := fun k => qfa.l0 k a (x + 1)) (fun k => ?_) (ref_loop a h3 ha m (x + 1) (by omega) (by omega) fun y y2 yx yq => ?_)
        · conv => lhs; simp only [qfa.l0]
          rw [u64_small hq.1 (by omega), if_pos hle, if_neg (show ¬ x = 0 by omega), if_neg (by rw [Int.tmod_eq_emod_of_nonneg (by omega)]; exact hd), u64_small (show 0 ≤ x + 1 by omega) (by omega)]
        · rcases Int.lt_or_le y x with h' | h'
          · exact hy y y2 h' yq
          · obtain rfl : y = x := by omega
            exact hd
    · have hb : isP a = true := (isP_iff a).2 ⟨h3, ha, fun y y2 yq => hy y y2 (by
        rcases Int.lt_or_le y x with h' | h'
        · exact h'
        · have : x * x ≤ y * y := Int.mul_le_mul h' h' (by omega) (by omega)
          omega) yq⟩
      rw [hb];refine Ev.step (f := fun k => some true) (fun k => ?_) (Ev.now _);simp only [qfa.l0];rw [u64_small hq.1 (by omega), if_neg hle]
theorem odd_loop (a : Int) (h3 : 3 ≤ a) (ha : a ≤ 65537) (hodd : a % 2 = 1) : ∀ (m : Nat) (x : Int), 3 ≤ x → x % 2 = 1 → x + 2 * m = 259 → (∀ y : Int, 2 ≤ y → y < x → y * y ≤ a → a % y ≠ 0) → Ev (fun k => qma.l0 k a x) (isP a)
  | 0, x, h2, hxo, hx, hy => by
    have hb : isP a = true := (isP_iff a).2 ⟨h3, ha, fun y y2 yq => hy y y2 (by
      rcases Int.lt_or_le y x with h' | h'
      · exact h'
      · have : 257 * 257 ≤ y * y := Int.mul_le_mul (by omega) (by omega) (by omega) (by omega)
        omega) yq⟩
    rw [hb];refine Ev.step (f := fun k => some true) (fun k => ?_) (Ev.now _);have hq := sq_small (x := x) (by omega) (by omega)
    have : ¬ (x * x ≤ a) := by
      have : 257 * 257 ≤ x * x := Int.mul_le_mul (by omega) (by omega) (by omega) (by omega)
      omega
    simp only [qma.l0];rw [u64_small hq.1 (by omega), if_neg this]
  | m + 1, x, h2, hxo, hx, hy => by
    have hq := sq_small (x := x) (by omega) (by omega)
    by_cases hle : x * x ≤ a
    · by_cases hd : a % x = 0
      · have hb : isP a = false := by
          rw [Bool.eq_false_iff];intro h';exact ((isP_iff a).1 h').2.2 x (by omega) hle hd
        rw [hb];refine Ev.step (f := fun k => some false) (fun k => ?_) (Ev.now _);simp only [qma.l0];rw [u64_small hq.1 (by omega), if_pos hle, if_neg (show ¬ x = 0 by omega), if_pos (by rw [Int.tmod_eq_emod_of_nonneg (by omega)]; exact hd)]
      · refine Ev.step (f := fun k => qma.l0 k a (x + 2)) (fun k => ?_) (odd_loop a h3 ha hodd m (x + 2) (by omega) (by omega) (by omega) fun y y2 yx yq => ?_)
        · conv => lhs; simp only [qma.l0]
          rw [u64_small hq.1 (by omega), if_pos hle, if_neg (show ¬ x = 0 by omega), if_neg (by rw [Int.tmod_eq_emod_of_nonneg (by omega)]; exact hd), u64_small (show 0 ≤ x + 2 by omega) (by omega)]
        · rcases Int.lt_or_le y x with h' | h'
          · exact hy y y2 h' yq
          · rcases Int.lt_or_le x y with h'' | h''
            · obtain rfl : y = x + 1 := by omega
              intro h0;have h1 : (2 : Int) ∣ a := Int.dvd_trans (Int.dvd_of_emod_eq_zero (by omega)) (Int.dvd_of_emod_eq_zero h0);have := Int.emod_eq_zero_of_dvd h1
              omega
            · obtain rfl : y = x := by omega
              exact hd
    · have hb : isP a = true := (isP_iff a).2 ⟨h3, ha, fun y y2 yq => hy y y2 (by
        rcases Int.lt_or_le y x with h' | h'
        · exact h'
        · have : x * x ≤ y * y := Int.mul_le_mul h' h' (by omega) (by omega)
          omega) yq⟩
      rw [hb];refine Ev.step (f := fun k => some true) (fun k => ?_) (Ev.now _);simp only [qma.l0];rw [u64_small hq.1 (by omega), if_neg hle]
theorem not_isP {a : Int} (h : ¬ (3 ≤ a ∧ a ≤ 65537)) : isP a = false := by
  rw [Bool.eq_false_iff];intro h';have := (isP_iff a).1 h';exact h ⟨this.1, this.2.1⟩
theorem ref_is (a : Int) : Ev (fun k => qfa.f k a) (isP a) := by
  by_cases h3 : a < 3
  · rw [not_isP (by omega)]
    refine Ev.step (f := fun k => some false) (fun k => ?_) (Ev.now _);simp [qfa.f, qfa.j0, h3]
  · by_cases hb : a > 65537
    · rw [not_isP (by omega)]
      refine Ev.step (f := fun k => some false) (fun k => ?_) (Ev.now _);simp [qfa.f, qfa.j0, h3, hb]
    · refine Ev.step (f := fun k => qfa.l0 k a 2) (fun k => ?_) (ref_loop a (by omega) (by omega) 256 2 (by omega) (by omega) fun y y2 yx => by omega)
      simp [qfa.f, qfa.j0, h3, hb]
theorem field_is (a : Int) : Ev (fun k => qma.f k a) (isP a) := by
  by_cases h3 : a < 3
  · rw [not_isP (by omega)]
    refine Ev.step (f := fun k => some false) (fun k => ?_) (Ev.now _);simp [qma.f, qma.j0, h3]
  · by_cases hb : a > 65537
    · rw [not_isP (by omega)]
      refine Ev.step (f := fun k => some false) (fun k => ?_) (Ev.now _);simp [qma.f, qma.j0, h3, hb]
    · by_cases ho : a % 2 = 0
      · have hp : isP a = false := by
          rw [Bool.eq_false_iff];intro h';exact ((isP_iff a).1 h').2.2 2 (by omega) (by omega) ho
        rw [hp];refine Ev.step (f := fun k => some false) (fun k => ?_) (Ev.now _)
        have ht : Int.tmod a 2 = 0 := by rw [Int.tmod_eq_emod_of_nonneg (by omega)]; exact ho
        simp [qma.f, qma.j0, h3, hb, ht]
      · refine Ev.step (f := fun k => qma.l0 k a 3) (fun k => ?_) (odd_loop a (by omega) (by omega) (by omega) 128 3 (by omega) (by omega) (by omega) fun y y2 yx yq => ?_)
        · have ht : ¬ Int.tmod a 2 = 0 := by rw [Int.tmod_eq_emod_of_nonneg (by omega)]; exact ho
          simp [qma.f, qma.j0, h3, hb, ht]
        · obtain rfl : y = 2 := by omega
          exact ho
theorem Ev.fuel {α : Type} {g : Nat → Option α} {r : α} (n : Nat) (h : ∀ k, g (k + n) = some r) : Ev g r :=
  ⟨n, fun k hk => by obtain ⟨m, rfl⟩ := Nat.exists_eq_add_of_le hk; rw [Nat.add_comm]; exact h m⟩
theorem Ev.steps {α : Type} {g f : Nat → Option α} {r : α} (n : Nat) (h : ∀ k, g (k + n) = f k) (hf : Ev f r) : Ev g r := by
  obtain ⟨K, hK⟩ := hf;exact ⟨K + n, fun k hk => by obtain ⟨m, rfl⟩ := Nat.exists_eq_add_of_le hk; rw [show K + n + m = (K + m) + n by omega, h]; exact hK _ (by omega)⟩
theorem up {α : Type} {g : Nat → Nat → Option α} {R : Nat → α} {n : Nat} (last : Ev (fun k => g k n) (R n)) (step : ∀ i, i < n → Ev (fun k => g k (i + 1)) (R (i + 1)) → Ev (fun k => g k i) (R i)) : ∀ m i : Nat, i + m = n → Ev (fun k => g k i) (R i)
  | 0, i, h => by obtain rfl : i = n := by omega
                  exact last
  | m + 1, i, h => step i (by omega) (up last step m (i + 1) (by omega))
theorem up0 {α : Type} {g : Nat → Nat → Option α} {R : Nat → α} {n : Nat} (last : Ev (fun k => g k n) (R n)) (step : ∀ i, i < n → Ev (fun k => g k (i + 1)) (R (i + 1)) → Ev (fun k => g k i) (R i)) : Ev (fun k => g k 0) (R 0) := up last step n 0 (by omega)
theorem wadd {i : Nat} (h : i < 9223372036854775807) : wrap64 ((i : Int) + 1) = ((i + 1 : Nat) : Int) := by rw [w64_small (by omega) (by omega)]; omega
theorem u64_wf {n : Int} (h : (Lit.int .u64 n).wf = true) : 0 ≤ n ∧ n < 18446744073709551616 := by
  simp [Lit.wf, IntKind.min, IntKind.max, IntKind.signed, IntKind.bits] at h
  omega
end Go.Proofs.Ytmlbliggbkfjnaa.L
/- Both checks of a circuit answer alike, and what they answer. -/
namespace Go.Proofs.Ytmlbliggbkfjnaa.L
open Go.RowKit Go.Proofs.YtmlbliggbkfjnaaW.PrintWords Go.Proofs.Ytmlbliggbkfjnaa.J
def gateV (p s i : Int) (g : S61) : Int :=
  if g.f0 = 1 then (if g.f2 ≠ 0 ∨ g.f3 ≠ 0 then 4 else if g.f1 < 0 ∨ g.f1 ≥ s then 13 else 0)
  else if g.f0 = 2 then (if g.f1 ≠ 0 ∨ g.f2 ≠ 0 then 4 else if g.f3 ≥ p then 2 else 0)
  else if g.f0 = 3 ∨ g.f0 = 4 ∨ g.f0 = 5 then (if g.f3 ≠ 0 then 4 else if g.f1 < 0 ∨ g.f1 ≥ i ∨ g.f2 < 0 ∨ g.f2 ≥ i then 13 else 0)
  else if g.f0 = 6 then (if g.f2 ≠ 0 then 4 else if g.f1 < 0 ∨ g.f1 ≥ i then 13 else if g.f3 ≥ p then 2 else 0)
  else 4
theorem gateV_ok {p s i : Int} {g : S61} (h3 : 0 ≤ g.f3) : gateV p s i g = 0 ↔ okG p s i g := by
  unfold gateV okG
  split
  · split
    · simp; omega
    · split
      · simp; omega
      · simp; omega
  split
  · split
    · simp; omega
    · split
      · simp; omega
      · simp; omega
  split
  · split
    · simp; omega
    · split
      · simp; omega
      · simp; omega
  split
  · split
    · simp; omega
    · split
      · simp; omega
      · split
        · simp; omega
        · simp; omega
  · simp; omega
theorem within_is (b s : Int) : circ_Gate_1.f b s = some (!decide (b < 0 ∨ b ≥ s)) := by
  unfold circ_Gate_1.f
  by_cases h : b < 0
  · rw [if_neg (by omega)]; simp [h]
  · rw [if_pos (by omega)]
    by_cases h' : b < s
    · have : ¬ (b < 0 ∨ b ≥ s) := by omega
      simp [this, h']
    · have : (b < 0 ∨ b ≥ s) := by omega
      simp [this, h']
theorem circ_gate (p s i : Int) (g : S61) (hp : 0 < p) : Ev (fun k => circ_Gate.f k p s i g.f0 g.f1 g.f2 g.f3) (gateV p s i g) := by
  refine Ev.fuel 10 fun k => ?_
  unfold gateV;obtain ⟨a, b, c, d⟩ := g;simp only
  have hp' : ¬ p ≤ 0 := by omega
  by_cases h1 : a = 1
  · subst h1
    have e := within_is b s
    by_cases hb : b < 0 ∨ b ≥ s
    · rw [qqT hb] at e
      by_cases hc : c = 0 <;> by_cases hd : d = 0 <;> simp only [circ_Gate.f, circ_named.f, circ_Gate.j0, circ_Gate.j1, e, if_pos hb] <;> simp [hc, hd, hp']
    · rw [qqF hb] at e
      by_cases hc : c = 0 <;> by_cases hd : d = 0 <;> simp only [circ_Gate.f, circ_named.f, circ_Gate.j0, circ_Gate.j1, e, if_neg hb] <;> simp [hc, hd, hp']
  by_cases h2 : a = 2
  · subst h2
    by_cases hb : b = 0 <;> by_cases hc : c = 0 <;> by_cases hd : d ≥ p <;> simp [circ_Gate.f, circ_named.f, circ_Gate.j0, circ_Gate.j1, hb, hc, hd]
  by_cases h3 : a = 3 ∨ a = 4 ∨ a = 5
  · have e : circ_named.f (k + 10) a = some (false, true, true, false, true) := by
      rcases h3 with rfl | rfl | rfl <;> simp [circ_named.f, circ_named.j0]
    rw [if_neg h1, if_neg h2, if_pos h3];unfold circ_Gate.f;rw [e];have e1 := within_is b i;have e2 := within_is c i
    by_cases hb : b < 0 ∨ b ≥ i
    · rw [qqT hb] at e1
      have hh : b < 0 ∨ b ≥ i ∨ c < 0 ∨ c ≥ i := by omega
      by_cases hd : d = 0 <;> simp only [circ_Gate.j0, circ_Gate.j1, e1, e2, if_pos hh] <;> simp [hd, hp']
    · rw [qqF hb] at e1
      by_cases hc : c < 0 ∨ c ≥ i
      · rw [qqT hc] at e2
        have hh : b < 0 ∨ b ≥ i ∨ c < 0 ∨ c ≥ i := by omega
        by_cases hd : d = 0 <;> simp only [circ_Gate.j0, circ_Gate.j1, e1, e2, if_pos hh] <;> simp [hd, hp']
      · rw [qqF hc] at e2
        have hh : ¬ (b < 0 ∨ b ≥ i ∨ c < 0 ∨ c ≥ i) := by omega
        by_cases hd : d = 0 <;> simp only [circ_Gate.j0, circ_Gate.j1, e1, e2, if_neg hh] <;> simp [hd, hp']
  by_cases h6 : a = 6
  · subst h6
    have e := within_is b i
    by_cases hb : b < 0 ∨ b ≥ i
    · rw [qqT hb] at e
      by_cases hc : c = 0 <;> by_cases hd : d ≥ p <;> simp only [circ_Gate.f, circ_named.f, circ_named.j0, circ_Gate.j0, circ_Gate.j1, e, if_pos hb] <;> simp [hc, hd]
    · rw [qqF hb] at e
      by_cases hc : c = 0 <;> by_cases hd : d ≥ p <;> simp only [circ_Gate.f, circ_named.f, circ_named.j0, circ_Gate.j0, circ_Gate.j1, e, if_neg hb] <;> simp [hc, hd]
  · have e : circ_named.f (k + 10) a = some (false, false, false, false, false) := by
      have h5 : a ≠ 3 ∧ a ≠ 4 ∧ a ≠ 5 := by omega
      simp [circ_named.f, circ_named.j0, h1, h2, h5, h6]
    rw [if_neg h1, if_neg h2, if_neg h3, if_neg h6];unfold circ_Gate.f;rw [e]
    rfl
theorem ref_gate (p s i : Int) (g : S61) : Ev (fun k => qca.f k p s i g.f0 g.f1 g.f2 g.f3) (gateV p s i g) := by
  refine Ev.fuel 10 fun k => ?_
  unfold gateV;obtain ⟨a, b, c, d⟩ := g;simp only
  by_cases h1 : a = 1
  · subst h1
    by_cases hc : c = 0 <;> by_cases hd : d = 0 <;> by_cases hb : b < 0 <;> by_cases hb' : b ≥ s <;> simp [qca.f, qca.j0, qca.j1, qca.j2, qca.j3, qca.j4, hb, hb', hc, hd]
  by_cases h2 : a = 2
  · subst h2
    by_cases hb : b = 0 <;> by_cases hc : c = 0 <;> by_cases hd : d ≥ p <;> simp [qca.f, qca.j0, qca.j1, qca.j2, qca.j3, qca.j4, hb, hc, hd]
  by_cases h3 : a = 3 ∨ a = 4 ∨ a = 5
  · have e : qca.f (k + 10) p s i a b c d = qca.j1 (k + 9) p s i true true false a b c d := by
      rcases h3 with rfl | rfl | rfl <;> simp [qca.f, qca.j0]
    have h1' : ¬ a = 1 := h1;rw [if_neg h1, if_neg h2, if_pos h3, e]
    by_cases hd : d = 0 <;> by_cases hb : b < 0 <;> by_cases hb' : b ≥ i <;> by_cases hc : c < 0 <;> by_cases hc' : c ≥ i <;> simp [qca.j1, qca.j2, qca.j3, qca.j4, h1', hd, hb, hb', hc, hc']
  by_cases h6 : a = 6
  · subst h6
    by_cases hc : c = 0 <;> by_cases hb : b < 0 <;> by_cases hb' : b ≥ i <;> by_cases hd : d ≥ p <;> simp [qca.f, qca.j0, qca.j1, qca.j2, qca.j3, qca.j4, hd, hb, hb', hc]
  · have h5 : a ≠ 3 ∧ a ≠ 4 ∧ a ≠ 5 := by omega
    rw [if_neg h1, if_neg h2, if_neg h3, if_neg h6];simp [qca.f, qca.j0, h1, h2, h5, h6]
def firstE {β : Type} (f : Int → β → Int) : Nat → List β → Int
  | _, [] => 0
  | i, b :: bs => if f i b = 0 then firstE f (i + 1) bs else f i b
theorem firstE_step {β : Type} (f : Int → β → Int) (l : List β) (i : Nat) (h : i < l.length) : firstE f i (l.drop i) = if f i l[i] = 0 then firstE f (i + 1) (l.drop (i + 1)) else f i l[i] := by
  rw [List.drop_eq_getElem_cons h]; rfl
theorem firstE_end {β : Type} (f : Int → β → Int) (l : List β) : firstE f l.length (l.drop l.length) = 0 := by
  rw [List.drop_of_length_le (Nat.le_refl _)]; rfl
theorem firstE_zero {β : Type} (f : Int → β → Int) : ∀ (l : List β) (i : Nat), firstE f i l = 0 ↔ ∀ (j : Nat) b, l[j]? = some b → f ((i + j : Nat) : Int) b = 0
  | [], i => by simp [firstE]
  | b :: l, i => by
    unfold firstE
    constructor
    · intro h j c hc
      split at h
      · rename_i h0
        match j, hc with
        | 0, hc => obtain rfl : b = c := by simpa using hc
                   exact h0
        | j + 1, hc =>
          have := (firstE_zero f l (i + 1)).1 h j c (by simpa using hc);rw [show i + (j + 1) = i + 1 + j by omega]; exact this
      · rename_i h0; exact absurd h h0
    · intro h
      rw [if_pos (show f (i : Int) b = 0 from h 0 b rfl)]
      refine (firstE_zero f l (i + 1)).2 fun j c hc => ?_
      have := h (j + 1) c (by simpa using hc);rw [show i + (j + 1) = i + 1 + j by omega] at this; exact this
def rise (m : Int) : List Int → Bool
  | [] => true
  | x :: xs => decide (m < x ∧ x ≤ 13) && rise x xs
theorem rise_len : ∀ (l : List Int) (m : Int), m ≤ 13 → rise m l = true → (l.length : Int) ≤ 13 - m
  | [], m, h, _ => by simp only [List.length_nil]; omega
  | x :: xs, m, _, h => by
    simp only [rise, Bool.and_eq_true, decide_eq_true_eq] at h;have := rise_len xs x h.1.2 h.2;simp only [List.length_cons]; omega
def badX (n : Int) (l : List Int) : Bool := l.any fun x => decide (x < 0) || decide (x ≥ n)
def exitV (n : Int) (x : S66) : Int := if rise 0 x.f0 = true then (if (x.f1.length : Int) > 1024 then 3 else if badX n x.f1 = true then 13 else 0) else 2
theorem circ_exit (n : Int) (x : S66) (hl : x.f0.length ≤ maxLen) : Ev (fun k => circ_Exit.f k n x.f0 x.f1) (exitV n x) := by
  have hm : x.f0.length ≤ 9223372036854775807 := by simp only [maxLen] at hl; omega
  unfold circ_Exit.f
  have key : ∀ (m i : Nat) (last : Int), i + m = x.f0.length → Ev (fun k => circ_Exit.l0 k last x.f0 (x.f0.length : Int) (i : Int) n x.f0 x.f1) (if rise last (x.f0.drop i) = true then (if (x.f1.length : Int) > 1024 then 3 else if badX n x.f1 = true then 13 else 0) else 2) := by
    intro m
    induction m with
    | zero =>
      intro i last hi;rw [List.drop_of_length_le (by omega)]
      refine Ev.fuel 1 fun k => ?_
      simp only [circ_Exit.l0, rise, if_true];rw [if_neg (by omega)];unfold badX qka.f
      split
      · rfl
      · simp only [Option.bind_some]
        split <;> rfl
    | succ m ih =>
      intro i last hi
      have hlt : i < x.f0.length := by omega
      have hr : rd x.f0 (i : Int) = x.f0[i] := by simp [rd, List.getD_eq_getElem?_getD, hlt]
      rw [List.drop_eq_getElem_cons hlt]
      by_cases h1 : x.f0[i] ≤ last
      · refine Ev.step (f := fun k => some 2) (fun k => ?_) ?_
        · simp only [circ_Exit.l0]
          rw [if_pos (by omega), if_pos (by omega), if_pos (by omega), hr, if_pos h1]
        · have hf : rise last (x.f0[i] :: x.f0.drop (i + 1)) = false := by
            simp only [rise];rw [show decide (last < x.f0[i] ∧ x.f0[i] ≤ 13) = false by rw [decide_eq_false_iff_not]; omega, Bool.false_and]
          rw [if_neg (by rw [hf]; decide)]; exact Ev.now _
      by_cases h2 : x.f0[i] > 13
      · refine Ev.step (f := fun k => some 2) (fun k => ?_) ?_
        · simp only [circ_Exit.l0]
          rw [if_pos (by omega), if_pos (by omega), if_pos (by omega), hr, if_neg h1, if_pos h2]
        · have hf : rise last (x.f0[i] :: x.f0.drop (i + 1)) = false := by
            simp only [rise];rw [show decide (last < x.f0[i] ∧ x.f0[i] ≤ 13) = false by rw [decide_eq_false_iff_not]; omega, Bool.false_and]
          rw [if_neg (by rw [hf]; decide)]; exact Ev.now _
      · have hd : decide (last < x.f0[i] ∧ x.f0[i] ≤ 13) = true := by simp; omega
        have he : rise last (x.f0[i] :: x.f0.drop (i + 1)) = rise x.f0[i] (x.f0.drop (i + 1)) := by
          simp only [rise];rw [hd, Bool.true_and]
        rw [he];refine Ev.step (f := fun k => circ_Exit.l0 k x.f0[i] x.f0 (x.f0.length : Int) ((i + 1 : Nat) : Int) n x.f0 x.f1) (fun k => ?_) (ih (i + 1) x.f0[i] (by omega));simp only [circ_Exit.l0];rw [if_pos (by omega), if_pos (by omega), if_pos (by omega), hr, if_neg h1, if_neg h2, wadd (by omega)]
  exact key x.f0.length 0 0 (by omega)
theorem ref_rising (l : List Int) (hl : l.length ≤ maxLen) : Ev (fun k => qea.f k 13 l) (rise 0 l) := by
  have hm : l.length ≤ 9223372036854775807 := by simp only [maxLen] at hl; omega
  unfold qea.f
  have key : ∀ (m i : Nat), i + m = l.length → (0 < i → 1 ≤ atI l ((i : Int) - 1)) → Ev (fun k => qea.l0 k 13 l l (l.length : Int) (i : Int)) (rise (if i = 0 then 0 else atI l ((i : Int) - 1)) (l.drop i)) := by
    intro m
    induction m with
    | zero =>
      intro i hi _;rw [List.drop_of_length_le (by omega)]
      refine Ev.fuel 1 fun k => ?_
      simp only [qea.l0, rise];rw [if_neg (by omega)]
    | succ m ih =>
      intro i hi h0
      have hlt : i < l.length := by omega
      have hr : rd l (i : Int) = l[i] := by simp [rd, List.getD_eq_getElem?_getD, hlt]
      have ha : atI l ((i + 1 : Nat) - 1 : Int) = l[i] := by rw [show ((i + 1 : Nat) - 1 : Int) = (i : Int) by omega]; exact hr
      rw [List.drop_eq_getElem_cons hlt];simp only [rise]
      have stop : (l[i] < 1 ∨ l[i] > 13 ∨ (0 < i ∧ atI l ((i : Int) - 1) ≥ l[i])) → Ev (fun k => qea.l0 k 13 l l (l.length : Int) (i : Int)) false := by
        intro hs
        refine Ev.fuel 1 fun k => ?_
        simp only [qea.l0];rw [if_pos (by omega), if_pos (by omega), if_pos (by omega), hr]
        by_cases a1 : l[i] < 1
        · rw [if_pos a1]
        rw [if_neg a1]
        by_cases a2 : l[i] > 13
        · rw [if_pos a2]
        rw [if_neg a2]
        have a3 : 0 < i ∧ atI l ((i : Int) - 1) ≥ l[i] := by omega
        rw [if_pos (by omega), w64_small (by omega) (by omega), if_pos (by omega), if_pos (by omega), if_pos (by exact a3.2)]
      by_cases c : l[i] < 1 ∨ l[i] > 13 ∨ (0 < i ∧ atI l ((i : Int) - 1) ≥ l[i])
      · have e : decide ((if i = 0 then 0 else atI l ((i : Int) - 1)) < l[i] ∧ l[i] ≤ 13) = false := by
          rw [decide_eq_false_iff_not]
          split
          · omega
          · rename_i hne
            have := h0 (by omega)
            omega
        rw [e, Bool.false_and];exact stop c
      · have e : decide ((if i = 0 then 0 else atI l ((i : Int) - 1)) < l[i] ∧ l[i] ≤ 13) = true := by
          rw [decide_eq_true_iff]
          split <;> omega
        rw [e, Bool.true_and];have := ih (i + 1) (by omega) (fun _ => by rw [ha]; omega);rw [if_neg (by omega), ha] at this;refine Ev.step (f := fun k => qea.l0 k 13 l l (l.length : Int) ((i + 1 : Nat) : Int)) (fun k => ?_) this;simp only [qea.l0];rw [if_pos (by omega), if_pos (by omega), if_pos (by omega), hr, if_neg (by omega), if_neg (by omega), wadd (by omega)]
        by_cases hi0 : (i : Int) > 0
        · rw [if_pos hi0, w64_small (by omega) (by omega), if_pos (by omega), if_pos (by omega), if_neg (by show ¬ (atI l ((i : Int) - 1) ≥ l[i]); omega)]
        · rw [if_neg hi0]
  have := key l.length 0 (by omega) (by omega)
  simpa using this
theorem ref_exit (n : Int) (x : S66) (hl : x.f0.length ≤ maxLen) : Ev (fun k => qja.f k n x.f0 x.f1) (exitV n x) := by
  unfold qja.f exitV;refine Ev.bind (ref_rising x.f0 hl) ?_
  by_cases hr : rise 0 x.f0 = true
  · simp only [if_pos hr]
    by_cases h1 : (x.f1.length : Int) > 1024
    · simp only [if_pos h1]; exact Ev.now _
    simp only [if_neg h1]
    refine up0 (g := fun k i => qja.l0 k n x.f1 (x.f1.length : Int) (i : Int)) (R := fun i => if badX n (x.f1.drop i) = true then 13 else 0) (n := x.f1.length) ?_ fun i hi h => ?_
    · rw [List.drop_of_length_le (Nat.le_refl _)]
      refine Ev.fuel 1 fun k => ?_
      simp only [qja.l0];rw [if_neg (by omega)]
      rfl
    · have hr : rd x.f1 (i : Int) = x.f1[i] := by simp [rd, List.getD_eq_getElem?_getD, hi]
      rw [List.drop_eq_getElem_cons hi];unfold badX at h ⊢;rw [List.any_cons]
      by_cases a1 : x.f1[i] < 0
      · refine Ev.fuel 1 fun k => ?_
        simp only [qja.l0];rw [if_pos (by omega), if_pos (by omega), if_pos (by omega), hr, if_pos a1];simp [a1]
      by_cases a2 : x.f1[i] ≥ n
      · refine Ev.fuel 1 fun k => ?_
        simp only [qja.l0];rw [if_pos (by omega), if_pos (by omega), if_pos (by omega), hr, if_neg a1, if_pos a2];simp [a2]
      · rw [show (decide (x.f1[i] < 0) || decide (x.f1[i] ≥ n)) = false by simp; omega, Bool.false_or]
        refine Ev.step (f := fun k => qja.l0 k n x.f1 (x.f1.length : Int) ((i + 1 : Nat) : Int)) (fun k => ?_) h;simp only [qja.l0];rw [if_pos (by omega), if_pos (by omega), if_pos (by omega), hr, if_neg a1, if_neg a2, wadd (by omega)]
  · simp only [if_neg hr]; exact Ev.now _
def badS (s : List S64) : Bool := s.any fun x => decide (x.f0 < 1) || decide (x.f0 > 13)
def checkV (p : Int) (s : List S64) (g : List S61) (x : List S66) : Int :=
  if isP p = true then (if (s.length : Int) > 256 ∨ (g.length : Int) > 65536 ∨ (x.length : Int) > 4096 then 3 else if badS s = true then 2 else
    if firstE (gateV p s.length) 0 g = 0 then firstE (fun _ => exitV g.length) 0 x else firstE (gateV p s.length) 0 g) else 2
theorem rdX_at {x : List S66} {i : Nat} (h : i < x.length) : rd_T66 x (i : Int) = x[i] := by simp [rd_T66, List.getD_eq_getElem?_getD, h]
theorem rdG_get {x : List S61} {i : Nat} (h : i < x.length) : rd_T61 x (i : Int) = x[i] := by simp [rd_T61, List.getD_eq_getElem?_getD, h]
theorem rdS_at {x : List S64} {i : Nat} (h : i < x.length) : rd_T64 x (i : Int) = x[i] := by simp [rd_T64, List.getD_eq_getElem?_getD, h]
theorem circ_check_exits (s : List S64) (g : List S61) (x : List S66) (hx : (x.length : Int) ≤ 4096) (hl : ∀ e ∈ x, e.f0.length ≤ maxLen) : Ev (fun k => circ_Check.l1 k x (x.length : Int) 0 s g x) (firstE (fun _ => exitV g.length) 0 x) := by
  refine up0 (g := fun k i => circ_Check.l1 k x (x.length : Int) (i : Int) s g x) (R := fun i => firstE (fun _ => exitV g.length) i (x.drop i)) (n := x.length) ?_ fun i hi h => ?_
  · rw [firstE_end]
    refine Ev.fuel 1 fun k => ?_
    simp only [circ_Check.l1];rw [if_neg (by omega)]
  · rw [firstE_step _ _ _ hi]
    refine Ev.step (f := fun k => (circ_Exit.f k (g.length : Int) x[i].f0 x[i].f1).bind fun aa => (if aa = 0 then (circ_Check.l1 k x (x.length : Int) ((i + 1 : Nat) : Int) s g x) else (some aa))) (fun k => ?_) (Ev.bind (circ_exit _ x[i] (hl _ (List.getElem_mem hi))) ?_)
    · simp only [circ_Check.l1]
      rw [if_pos (by omega), if_pos (by omega), if_pos (by omega), rdX_at hi, wadd (by omega)]
    · by_cases e : exitV g.length x[i] = 0
      · simp only [if_pos e]; exact h
      · simp only [if_neg e]; exact Ev.now _
theorem circ_check (p : Int) (s : List S64) (g : List S61) (x : List S66) (hl : ∀ e ∈ x, e.f0.length ≤ maxLen) : Ev (fun k => circ_Check.f k p s g x) (checkV p s g x) := by
  unfold circ_Check.f checkV;refine Ev.bind (field_is p) ?_
  by_cases hp : isP p = true
  · simp only [if_pos hp]
    have hp3 := ((isP_iff p).1 hp).1
    have j0t : Ev (fun k => circ_Check.j0 k p true s g x) 3 := Ev.fuel 1 fun k => by simp [circ_Check.j0]
    by_cases h1 : (s.length : Int) > 256
    · simp only [if_pos h1, if_pos (show (s.length : Int) > 256 ∨ (g.length : Int) > 65536 ∨ (x.length : Int) > 4096 from .inl h1)]; exact j0t
    by_cases h2 : (g.length : Int) > 65536
    · simp only [if_neg h1, if_pos h2, if_pos (show (s.length : Int) > 256 ∨ (g.length : Int) > 65536 ∨ (x.length : Int) > 4096 from .inr (.inl h2))]; exact j0t
    by_cases h3 : (x.length : Int) > 4096
    · simp only [if_neg h1, if_neg h2, qqT h3, if_pos (show (s.length : Int) > 256 ∨ (g.length : Int) > 65536 ∨ (x.length : Int) > 4096 from .inr (.inr h3))]; exact j0t
    simp only [if_neg h1, if_neg h2, qqF h3, if_neg (show ¬ ((s.length : Int) > 256 ∨ (g.length : Int) > 65536 ∨ (x.length : Int) > 4096) by omega)]
    have hs : api_Slot_60.f s = some (badS s) := by
      unfold api_Slot_60.f badS
      congr 2
      funext y
      unfold circ_Check_1.f
      by_cases hy : y.f0 < 1
      · simp [hy]
      · simp [hy]
    refine Ev.step (f := fun k => (api_Slot_60.f s).bind fun ab => (if ab = true then (some 2) else (circ_Check.l0 k p g (g.length : Int) 0 s g x))) (fun k => by simp [circ_Check.j0]) ?_;rw [hs]
    by_cases hb : badS s = true
    · simp only [Option.bind_some, if_pos hb]; exact Ev.now _
    simp only [Option.bind_some, if_neg hb];have hx := circ_check_exits s g x (by omega) hl
    refine up0 (g := fun k i => circ_Check.l0 k p g (g.length : Int) (i : Int) s g x) (R := fun i => if firstE (gateV p s.length) i (g.drop i) = 0 then firstE (fun _ => exitV g.length) 0 x else firstE (gateV p s.length) i (g.drop i)) (n := g.length) ?_ fun i hi h => ?_
    · rw [firstE_end, if_pos rfl]
      refine Ev.step (f := fun k => circ_Check.l1 k x (x.length : Int) 0 s g x) (fun k => ?_) hx;simp only [circ_Check.l0];rw [if_neg (by omega)]
    · rw [firstE_step _ _ _ hi]
      refine Ev.step (f := fun k => (circ_Gate.f k p (s.length : Int) (i : Int) g[i].f0 g[i].f1 g[i].f2 g[i].f3).bind fun aa => (if aa = 0 then (circ_Check.l0 k p g (g.length : Int) ((i + 1 : Nat) : Int) s g x) else (some aa))) (fun k => ?_) (Ev.bind (circ_gate p _ _ g[i] (by omega)) ?_)
      · simp only [circ_Check.l0]
        rw [if_pos (by omega), if_pos (by omega), if_pos (by omega), rdG_get hi, wadd (by omega)]
      · by_cases e : gateV p s.length i g[i] = 0
        · simp only [if_pos e]; exact h
        · simp only [if_neg e]; exact Ev.now _
  · simp only [if_neg hp]; exact Ev.now _
theorem ref_check_exits (s : List S64) (g : List S61) (x : List S66) (hx : (x.length : Int) ≤ 4096) (hl : ∀ e ∈ x, e.f0.length ≤ maxLen) : Ev (fun k => qda.l2 k x (x.length : Int) 0 s g x) (firstE (fun _ => exitV g.length) 0 x) := by
  refine up0 (g := fun k i => qda.l2 k x (x.length : Int) (i : Int) s g x) (R := fun i => firstE (fun _ => exitV g.length) i (x.drop i)) (n := x.length) ?_ fun i hi h => ?_
  · rw [firstE_end]
    refine Ev.fuel 1 fun k => ?_
    simp only [qda.l2];rw [if_neg (by omega)]
  · rw [firstE_step _ _ _ hi]
    refine Ev.step (f := fun k => (qja.f k (g.length : Int) x[i].f0 x[i].f1).bind fun aa => (if aa = 0 then (qda.l2 k x (x.length : Int) ((i + 1 : Nat) : Int) s g x) else (some aa))) (fun k => ?_) (Ev.bind (ref_exit _ x[i] (hl _ (List.getElem_mem hi))) ?_)
    · simp only [qda.l2]
      rw [if_pos (by omega), if_pos (by omega), if_pos (by omega), rdX_at hi, wadd (by omega)]
    · by_cases e : exitV g.length x[i] = 0
      · simp only [if_pos e]; exact h
      · simp only [if_neg e]; exact Ev.now _
theorem ref_check (p : Int) (s : List S64) (g : List S61) (x : List S66) (hl : ∀ e ∈ x, e.f0.length ≤ maxLen) : Ev (fun k => qda.f k p s g x) (checkV p s g x) := by
  unfold qda.f checkV;refine Ev.bind (ref_is p) ?_
  by_cases hp : isP p = true
  · simp only [if_pos hp]
    have hp3 := ((isP_iff p).1 hp).1
    have j0t : Ev (fun k => qda.j0 k p true s g x) 3 := Ev.fuel 1 fun k => by simp [qda.j0]
    by_cases h1 : (s.length : Int) > 256
    · simp only [if_pos h1, if_pos (show (s.length : Int) > 256 ∨ (g.length : Int) > 65536 ∨ (x.length : Int) > 4096 from .inl h1)]; exact j0t
    by_cases h2 : (g.length : Int) > 65536
    · simp only [if_neg h1, if_pos h2, if_pos (show (s.length : Int) > 256 ∨ (g.length : Int) > 65536 ∨ (x.length : Int) > 4096 from .inr (.inl h2))]; exact j0t
    by_cases h3 : (x.length : Int) > 4096
    · simp only [if_neg h1, if_neg h2, qqT h3, if_pos (show (s.length : Int) > 256 ∨ (g.length : Int) > 65536 ∨ (x.length : Int) > 4096 from .inr (.inr h3))]; exact j0t
    simp only [if_neg h1, if_neg h2, qqF h3, if_neg (show ¬ ((s.length : Int) > 256 ∨ (g.length : Int) > 65536 ∨ (x.length : Int) > 4096) by omega)];refine Ev.step (f := fun k => qda.l0 k p s (s.length : Int) 0 s g x) (fun k => by simp [qda.j0]) ?_;have hx := ref_check_exits s g x (by omega) hl
    have hg : Ev (fun k => qda.l1 k p g (g.length : Int) 0 s g x) (if firstE (gateV p s.length) 0 g = 0 then firstE (fun _ => exitV g.length) 0 x else firstE (gateV p s.length) 0 g) := by
      refine up0 (g := fun k i => qda.l1 k p g (g.length : Int) (i : Int) s g x) (R := fun i => if firstE (gateV p s.length) i (g.drop i) = 0 then firstE (fun _ => exitV g.length) 0 x else firstE (gateV p s.length) i (g.drop i)) (n := g.length) ?_ fun i hi h => ?_
      · rw [firstE_end, if_pos rfl]
        refine Ev.step (f := fun k => qda.l2 k x (x.length : Int) 0 s g x) (fun k => ?_) hx;simp only [qda.l1];rw [if_neg (by omega)]
      · rw [firstE_step _ _ _ hi]
        refine Ev.step (f := fun k => (qca.f k p (s.length : Int) (i : Int) g[i].f0 g[i].f1 g[i].f2 g[i].f3).bind fun aa => (if aa = 0 then (qda.l1 k p g (g.length : Int) ((i + 1 : Nat) : Int) s g x) else (some aa))) (fun k => ?_) (Ev.bind (ref_gate p _ _ g[i]) ?_)
        · simp only [qda.l1]
          rw [if_pos (by omega), if_pos (by omega), if_pos (by omega), rdG_get hi, wadd (by omega)]
        · by_cases e : gateV p s.length i g[i] = 0
          · simp only [if_pos e]; exact h
          · simp only [if_neg e]; exact Ev.now _
    refine up0 (g := fun k i => qda.l0 k p s (s.length : Int) (i : Int) s g x) (R := fun i => if badS (s.drop i) = true then 2 else (if firstE (gateV p s.length) 0 g = 0 then firstE (fun _ => exitV g.length) 0 x else firstE (gateV p s.length) 0 g)) (n := s.length) ?_ fun i hi h => ?_
    · rw [List.drop_of_length_le (Nat.le_refl _)]
      refine Ev.step (f := fun k => qda.l1 k p g (g.length : Int) 0 s g x) (fun k => ?_) hg;simp only [qda.l0];rw [if_neg (by omega)]
    · rw [List.drop_eq_getElem_cons hi]
      unfold badS at h ⊢;rw [List.any_cons]
      by_cases a1 : s[i].f0 < 1
      · refine Ev.fuel 1 fun k => ?_
        simp only [qda.l0];rw [if_pos (by omega), if_pos (by omega), if_pos (by omega), rdS_at hi, if_pos a1];simp [a1]
      by_cases a2 : s[i].f0 > 13
      · refine Ev.fuel 1 fun k => ?_
        simp only [qda.l0];rw [if_pos (by omega), if_pos (by omega), if_pos (by omega), rdS_at hi, if_neg a1, if_pos a2];simp [a2]
      · rw [show (decide (s[i].f0 < 1) || decide (s[i].f0 > 13)) = false by simp; omega, Bool.false_or]
        refine Ev.step (f := fun k => qda.l0 k p s (s.length : Int) ((i + 1 : Nat) : Int) s g x) (fun k => ?_) h;simp only [qda.l0];rw [if_pos (by omega), if_pos (by omega), if_pos (by omega), rdS_at hi, if_neg a1, if_neg a2, wadd (by omega)]
  · simp only [if_neg hp]; exact Ev.now _
structure Good (p : Int) (s : List S64) (g : List S61) (x : List S66) : Prop where
  prime : isP p = true
  ls : s.length ≤ 256
  lg : g.length ≤ 65536
  lx : x.length ≤ 4096
  slots : badS s = false
  gates : okL p s.length g
  exits : ∀ e ∈ x, exitV g.length e = 0
theorem good_of {p : Int} {s : List S64} {g : List S61} {x : List S66} (h : checkV p s g x = 0) (h3 : ∀ e ∈ g, 0 ≤ e.f3) : Good p s g x := by
  unfold checkV at h
  split at h
  · rename_i hp
    split at h
    · cases h
    rename_i hl
    split at h
    · cases h
    rename_i hb
    split at h
    · rename_i hg
      refine ⟨hp, by omega, by omega, by omega, by simpa using hb, ?_, ?_⟩
      · intro i y hy
        have := (firstE_zero _ g 0).1 hg i y hy;rw [Nat.zero_add] at this;exact (gateV_ok (h3 y (List.mem_of_getElem? hy))).1 this
      · intro e he
        obtain ⟨j, hj⟩ := List.getElem?_of_mem he;exact (firstE_zero _ x 0).1 h j e hj
    · rename_i hg; exact absurd h hg
  · cases h
theorem Good.check {p : Int} {s : List S64} {g : List S61} {x : List S66} (h : Good p s g x) : checkV p s g x = 0 := by
  have hg : firstE (gateV p s.length) 0 g = 0 := (firstE_zero _ g 0).2 fun j b hb => by
    have := h.gates j b hb;rw [Nat.zero_add];exact (gateV_ok (by unfold okG at this; omega)).2 this
  have hx : firstE (fun _ => exitV g.length) 0 x = 0 := (firstE_zero _ x 0).2 fun j b hb => h.exits b (List.mem_of_getElem? hb)
  unfold checkV;have := h.ls;have := h.lg;have := h.lx;rw [if_pos h.prime, if_neg (by omega), h.slots, hg, hx]
  rfl
theorem Good.pos {p : Int} {s : List S64} {g : List S61} {x : List S66} (h : Good p s g x) : 0 < p := by
  have := (isP_iff p).1 h.prime; omega
theorem Good.small {p : Int} {s : List S64} {g : List S61} {x : List S66} (h : Good p s g x) : p ≤ 65537 := by
  have := (isP_iff p).1 h.prime; omega
theorem exitV_zero {n : Int} {e : S66} (h : exitV n e = 0) : e.f0.length ≤ 13 ∧ e.f1.length ≤ 1024 ∧ ∀ x ∈ e.f1, 0 ≤ x ∧ x < n := by
  unfold exitV at h
  split at h
  · rename_i hr
    split at h
    · cases h
    rename_i hl
    split at h
    · cases h
    rename_i hb;have := rise_len _ _ (by omega) hr;refine ⟨by omega, by omega, fun x hx => ?_⟩;rw [Bool.not_eq_true] at hb;unfold badX at hb;have := List.any_eq_false.1 hb x hx;simp at this
    omega
  · cases h
theorem exitV_map {n n' : Int} {e : S66} {f : Int → Int} (h : exitV n e = 0) (hf : ∀ x, 0 ≤ x → x < n → x ∈ e.f1 → 0 ≤ f x ∧ f x < n') : exitV n' ⟨e.f0, e.f1.map f⟩ = 0 := by
  obtain ⟨h1, h2, h3⟩ := exitV_zero h
  have hr : rise 0 e.f0 = true := by
    unfold exitV at h
    split at h
    · assumption
    · cases h
  unfold exitV;simp only;rw [if_pos hr, List.length_map, if_neg (by omega), if_neg];unfold badX;rw [Bool.not_eq_true, List.any_eq_false];intro y hy;obtain ⟨x, hx, rfl⟩ := List.mem_map.1 hy;have := h3 x hx;have := hf x this.1 this.2 hx;simp; omega
theorem Good.other {p : Int} {s : List S64} {g g' : List S61} {x : List S66} {f : Int → Int} (h : Good p s g x) (hg : okL p s.length g') (hl : g'.length ≤ g.length)
    (hf : ∀ e ∈ x, ∀ y ∈ e.f1, 0 ≤ f y ∧ f y < g'.length) : Good p s g' (x.map fun e => ⟨e.f0, e.f1.map f⟩) :=
  ⟨h.prime, h.ls, by have := h.lg; omega, by rw [List.length_map]; exact h.lx, h.slots, hg, fun e he => by
    obtain ⟨e', he', rfl⟩ := List.mem_map.1 he
    exact exitV_map (h.exits e' he') fun y _ _ hy => hf e' he' y hy⟩
end Go.Proofs.Ytmlbliggbkfjnaa.L
/- Both ways to fold a circuit answer alike, and what they answer; copies of a circuit. -/
namespace Go.Proofs.Ytmlbliggbkfjnaa.L
open Go.RowKit Go.Proofs.YtmlbliggbkfjnaaW.PrintWords Go.Proofs.Ytmlbliggbkfjnaa.J
theorem mul_small {p a b : Int} (hp : p ≤ 65537) (ha : 0 ≤ a) (ha' : a < p) (hb : 0 ≤ b) (hb' : b < p) : 0 ≤ a * b ∧ a * b < 18446744073709551616 := by
  have h1 : a * b ≤ 65537 * 65537 := Int.mul_le_mul (by omega) (by omega) hb (by omega);exact ⟨Int.mul_nonneg ha hb, by omega⟩
theorem times_at {p a b : Int} (h0 : 0 < p) (hp : p ≤ 65537) (ha : 0 ≤ a) (ha' : a < p) (hb : 0 ≤ b) (hb' : b < p) : qna.f p a b = some (a * b % p) := by
  obtain ⟨h1, h2⟩ := mul_small hp ha ha' hb hb';unfold qna.f field_mul.f;simp only [u64_small h1 h2, if_neg (show ¬ p = 0 by omega), Option.bind_some, Int.tmod_eq_emod_of_nonneg h1]
theorem plus_at {p a b : Int} (h0 : 0 < p) (hp : p ≤ 65537) (ha : 0 ≤ a) (ha' : a < p) (hb : 0 ≤ b) (hb' : b < p) : qta.f p a b = some ((a + b) % p) := by
  unfold qta.f;rw [u64_small (n := a + b) (by omega) (by omega)]
  by_cases h : a + b ≥ p
  · rw [if_pos h, u64_small (by omega) (by omega)]
    rw [show (a + b) % p = a + b - p by rw [← Int.sub_emod_right, Int.emod_eq_of_lt (by omega) (by omega)]]
  · rw [if_neg h, Int.emod_eq_of_lt (by omega) (by omega)]
theorem minus_at {p a b : Int} (h0 : 0 < p) (hp : p ≤ 65537) (ha : 0 ≤ a) (ha' : a < p) (hb : 0 ≤ b) (hb' : b < p) : qsa.f p a b = some ((a + p - b) % p) := by
  unfold qsa.f;rw [if_neg (show ¬ p = 0 by omega), u64_small (n := p - b) (by omega) (by omega), Int.tmod_eq_emod_of_nonneg (by omega)];rw [plus_at h0 hp ha ha' (Int.emod_nonneg _ (by omega)) (Int.emod_lt_of_pos _ h0), Option.bind_some]
  congr 1
  rw [Int.add_emod_emod]
  congr 1
  omega
theorem of_at {p a b : Int} (k : Int) (h0 : 0 < p) (hp : p ≤ 65537) (ha : 0 ≤ a) (ha' : a < p) (hb : 0 ≤ b) (hb' : b < p) (hk : k = 3 ∨ k = 4 ∨ k = 5) : circ_Of.f p k 0 1 0 [] [a, b] = some (opV p k a b) := by
  have e0 : rd [a, b] 0 = a := rfl;have e1 : rd [a, b] 1 = b := rfl
  rcases hk with rfl | rfl | rfl
  · simp [circ_Of.f, opV, e0, e1, plus_at h0 hp ha ha' hb hb']
  · simp [circ_Of.f, opV, e0, e1, minus_at h0 hp ha ha' hb hb']
  · simp [circ_Of.f, opV, e0, e1, times_at h0 hp ha ha' hb hb']
theorem k_range {p s i : Int} {g : S61} (h : okG p s i g) (hk : g.f0 = 2 ∨ g.f0 = 6) : 0 ≤ g.f3 ∧ g.f3 < p := by
  unfold okG at h; omega
def stepR (o : Option S61) (g : S61) : Int × Int × Int × Int × Bool := match o with
  | some g' => (g'.f0, g'.f1, g'.f2, g'.f3, true)
  | none => (g.f0, g.f1, g.f2, g.f3, false)
theorem folded_at {p s : Int} (h0 : 0 < p) (hp : p ≤ 65537) {D R : List S61} {g : S61} (hD : okL p s D) (hg : okG p s D.length g) : Ev (fun k => tune_folded.f k p (D ++ R) g.f0 g.f1 g.f2 g.f3) (stepR (foldStep p D g) g) := by
  refine Ev.fuel 12 fun k => ?_
  obtain ⟨a, b, c, d⟩ := g
  rcases hg with h | h | h | h
  · obtain rfl : a = 1 := h.1
    simp [tune_folded.f, tune_folded.j0, foldStep, stepR]
  · obtain rfl : a = 2 := h.1
    simp [tune_folded.f, tune_folded.j0, foldStep, stepR]
  · obtain ⟨hk, b0, b1, c0, c1, hd⟩ := h
    simp only at hk b0 b1 c0 c1 hd;subst hd;have hA := okL_at hD b0 b1;have hB := okL_at hD c0 c1;have eA : rd_T61 (D ++ R) b = atG D b := atG_left b1 b0;have eB : rd_T61 (D ++ R) c = atG D c := atG_left c1 c0
    have b2 : b < ((D ++ R).length : Int) := by simp; omega
    have c2 : c < ((D ++ R).length : Int) := by simp; omega
    have kA := k_range hA;have kB := k_range hB
    have hop : (atG D b).f0 = 2 → (atG D c).f0 = 2 → circ_Of.f p a 0 1 0 [] [(atG D b).f3, (atG D c).f3] = some (opV p a (atG D b).f3 (atG D c).f3) := fun h1 h2 =>
      of_at a h0 hp (kA (.inl h1)).1 (kA (.inl h1)).2 (kB (.inl h2)).1 (kB (.inl h2)).2 hk
    unfold foldStep;simp only;generalize atG D b = A at *;generalize atG D c = B at *;generalize D ++ R = E at *
    rcases hk with rfl | rfl | rfl
    · by_cases hA2 : A.f0 = 2 <;> by_cases hB2 : B.f0 = 2 <;> simp [tune_folded.f, tune_folded.j0, tune_folded.j1, tune_folded.j2, tune_folded.j3, tune_folded.j4, tune_folded.j5, tune_folded.j6, tune_folded_1.f, tune_folded_2.f, b0, b2, c0, c2, eA, eB, stepR, hA2, hB2, hop] <;> simp_all [tune_folded_1.f, tune_folded_2.f]
    · by_cases hA2 : A.f0 = 2 <;> by_cases hB2 : B.f0 = 2 <;> by_cases hbc : b = c <;> simp [tune_folded.f, tune_folded.j0, tune_folded.j1, tune_folded.j2, tune_folded.j3, tune_folded.j4, tune_folded.j5, tune_folded.j6, tune_folded_1.f, tune_folded_2.f, b0, b2, c0, c2, eA, eB, stepR, hA2, hB2, hop, hbc] <;> simp_all [tune_folded_1.f, tune_folded_2.f]
    · by_cases hA2 : A.f0 = 2 <;> by_cases hB2 : B.f0 = 2 <;> simp [tune_folded.f, tune_folded.j0, tune_folded.j1, tune_folded.j2, tune_folded.j3, tune_folded.j4, tune_folded.j5, tune_folded.j6, tune_folded_1.f, tune_folded_2.f, b0, b2, c0, c2, eA, eB, stepR, hA2, hB2, hop] <;> simp_all [tune_folded_1.f, tune_folded_2.f]
  · obtain ⟨hk, b0, b1, c0, d0, d1⟩ := h
    simp only at hk b0 b1 c0 d0 d1;subst hk; subst c0;have hA := okL_at hD b0 b1;have eA : rd_T61 (D ++ R) b = atG D b := atG_left b1 b0
    have b2 : b < ((D ++ R).length : Int) := by simp; omega
    have c2 : (0 : Int) < ((D ++ R).length : Int) := by omega
    have kA := k_range hA
    have hop : (atG D b).f0 = 2 ∨ (atG D b).f0 = 6 → qna.f p (atG D b).f3 d = some ((atG D b).f3 * d % p) := fun h1 =>
      times_at h0 hp (kA h1).1 (kA h1).2 d0 d1
    unfold foldStep;simp only;generalize atG D b = A at *;generalize D ++ R = E at *;generalize rd_T61 E 0 = B at *
    have cE : E ≠ [] := by rintro rfl; simp at c2
    by_cases hA2 : A.f0 = 2
    · simp [tune_folded.f, tune_folded.j0, tune_folded.j1, tune_folded.j2, tune_folded_1.f, b0, b2, c2, cE, eA, stepR, hA2, hop (.inl hA2)]
    · by_cases hd : d = 0
      · simp [tune_folded.f, tune_folded.j0, tune_folded.j1, tune_folded.j2, tune_folded.j3, tune_folded.j4, tune_folded.j5, tune_folded_1.f, b0, b2, c2, cE, eA, stepR, hA2, hd]
      · by_cases hA6 : A.f0 = 6
        · simp [tune_folded.f, tune_folded.j0, tune_folded.j1, tune_folded.j2, tune_folded.j3, tune_folded.j4, tune_folded.j5, tune_folded.j6, tune_folded_2.f, b0, b2, c2, cE, eA, stepR, hA2, hd, hA6, hop (.inr hA6)]
        · simp [tune_folded.f, tune_folded.j0, tune_folded.j1, tune_folded.j2, tune_folded.j3, tune_folded.j4, tune_folded.j5, tune_folded.j6, b0, b2, c2, cE, eA, stepR, hA2, hd, hA6]
theorem take_more {α : Type} (l : List α) {i : Nat} (h : i < l.length) : l.take i ++ [l[i]] = l.take (i + 1) := by
  rw [List.take_add_one, List.getElem?_eq_getElem h]; rfl
theorem Good.exit {p : Int} {s : List S64} {g : List S61} {x : List S66} (h : Good p s g x) : ∀ e ∈ x, e.f0.length ≤ 13 ∧ e.f1.length ≤ 1024 := fun e he => by
  have := exitV_zero (h.exits e he); exact ⟨this.1, this.2.1⟩
theorem own_at (s : List S64) (g : List S61) (x : List S66) (hs : s.length ≤ 256) (hg : g.length ≤ 65536) (hx : x.length ≤ 4096) (he : ∀ e ∈ x, e.f0.length ≤ 13 ∧ e.f1.length ≤ 1024) : Ev (fun k => tune_Own.f k s g x) (s, g, x) := by
  unfold tune_Own.f api_Slot_64.f api_Gate_65.f;rw [if_pos (by omega), if_pos (by omega)];simp only [Option.bind_some]
  refine up0 (g := fun k i => tune_Own.l0 k x (x.length : Int) (i : Int) s g (x.take i)) (R := fun _ => (s, g, x)) (n := x.length) ?_ fun i hi h => ?_
  · rw [List.take_length]
    refine Ev.fuel 1 fun k => ?_
    simp only [tune_Own.l0];rw [if_neg (by omega)]
  · refine Ev.step (f := fun k => tune_Own.l0 k x (x.length : Int) ((i + 1 : Nat) : Int) s g (x.take (i + 1))) (fun k => ?_) h
    have := he _ (List.getElem_mem hi);simp only [tune_Own.l0];rw [if_pos (by omega), if_pos (by omega), if_pos (by omega), rdX_at hi];unfold qla.f;rw [if_pos (by omega), if_pos (by omega)];simp only [Option.bind_some];rw [if_pos (by rw [List.length_take]; omega), wadd (by omega), take_more x hi]
theorem folds_len (p : Int) (l : List S61) : (folds p [] l).length = l.length := by simp [folds, snocs_len]
theorem folds_more (p : Int) (l : List S61) {i : Nat} (h : i < l.length) : folds p [] (l.take (i + 1)) = folds p [] (l.take i) ++ [foldG p (folds p [] (l.take i)) l[i]] := by
  rw [← take_more l h]; exact snocs_snoc _ _ _ _
theorem okL_take {p s : Int} {l : List S61} (h : okL p s l) (n : Nat) : okL p s (l.take n) := by
  have : l = l.take n ++ l.drop n := (List.take_append_drop n l).symm;rw [this] at h; exact okL_app h
theorem okG_nth {p s : Int} {l : List S61} (h : okL p s l) {i : Nat} (hi : i < l.length) : okG p s i l[i] := h i _ (List.getElem?_eq_getElem hi)
theorem set_mid {α : Type} (D : List α) (y z : α) (R : List α) : (D ++ y :: R).set D.length z = D ++ z :: R := by
  rw [List.set_append_right _ _ (Nat.le_refl _), Nat.sub_self]; rfl
theorem fold_inner {p s : Int} (h0 : 0 < p) (hp : p ≤ 65537) (sl : List S64) (x : List S66) (n : Int) {D R : List S61} (hD : okL p s D) {r : (List S64) × (List S61) × (List S66) × Int} : ∀ (m : Nat) (y : S61), meas D.length y < m → okG p s D.length y →
    Ev (fun k => tune_Fold.l1 k p (D.length : Int) false n (D.length : Int) sl (D ++ foldN p D m y :: R) x) r → Ev (fun k => tune_Fold.l1 k p (D.length : Int) true n (D.length : Int) sl (D ++ y :: R) x) r
  | 0, y, hm, _, _ => by omega
  | m + 1, y, hm, hy, h => by
    have hr : rd_T61 (D ++ y :: R) (D.length : Int) = y := by simp [rd_T61, List.getD_eq_getElem?_getD]
    have hl : (D.length : Int) < ((D ++ y :: R).length : Int) := by simp; omega
    have hf := folded_at (R := y :: R) h0 hp hD hy;refine Ev.step (f := fun k => (tune_folded.f k p (D ++ y :: R) y.f0 y.f1 y.f2 y.f3).bind fun aa => (tune_Fold.l1 k p (D.length : Int) aa.2.2.2.2 n (D.length : Int) sl ((D ++ y :: R).set D.length (⟨aa.1, aa.2.1, aa.2.2.1, aa.2.2.2.1⟩ : S61)) x)) (fun k => ?_) (Ev.bind hf ?_)
    · simp only [tune_Fold.l1]
      rw [if_pos trivial, if_pos (by omega), if_pos hl, hr]
      rfl
    · unfold foldN at h
      cases e : foldStep p D y with
      | none =>
        rw [e] at h;simp only [stepR, set_mid];exact h
      | some y' =>
        rw [e] at h;simp only [stepR, set_mid];obtain ⟨o1, o2⟩ := fold_ok h0 hD hy e;exact fold_inner h0 hp sl x n hD m y' (by omega) o1 h
theorem tune_fold {p : Int} {s : List S64} {g : List S61} {x : List S66} (G : Good p s g x) : Ev (fun k => tune_Fold.f k p s g x) (s, folds p [] g, x, 0) := by
  unfold tune_Fold.f;have hlx := G.exit;refine Ev.bind (circ_check p s g x fun e he => by have := (hlx e he).1; simp only [maxLen]; omega) ?_;rw [G.check];simp only [if_true];refine Ev.bind (own_at s g x G.ls G.lg G.lx hlx) ?_;simp only
  refine up0 (g := fun k i => tune_Fold.l0 k p (g.length : Int) (i : Int) s (folds p [] (g.take i) ++ g.drop i) x) (R := fun _ => (s, folds p [] g, x, 0)) (n := g.length) ?_ fun i hi h => ?_
  · rw [List.take_length, List.drop_of_length_le (Nat.le_refl _), List.append_nil]
    refine Ev.fuel 1 fun k => ?_
    simp only [tune_Fold.l0];rw [if_neg (by omega)]
  · have hD : okL p s.length (folds p [] (g.take i)) := folds_ok G.pos _ (okL_take G.gates i)
    have hl : (folds p [] (g.take i)).length = i := by rw [folds_len, List.length_take]; omega
    have hg := okG_nth G.gates hi;rw [folds_more p g hi] at h;rw [List.drop_eq_getElem_cons hi];have hlg := G.lg;refine Ev.step (f := fun k => tune_Fold.l1 k p (i : Int) true (g.length : Int) (i : Int) s (folds p [] (g.take i) ++ g[i] :: g.drop (i + 1)) x) (fun k => ?_) ?_
    · simp only [tune_Fold.l0]
      rw [if_pos (by omega)]
    · have := fold_inner (r := (s, folds p [] g, x, 0)) G.pos G.small s x (g.length : Int) (R := g.drop (i + 1)) hD (i + 2) g[i] (by rw [hl]; exact meas_lt hg) (by rw [hl]; exact hg)
      rw [hl] at this;refine this ?_;refine Ev.step (f := fun k => tune_Fold.l0 k p (g.length : Int) ((i + 1 : Nat) : Int) s (folds p [] (g.take i) ++ foldN p (folds p [] (g.take i)) (i + 2) g[i] :: g.drop (i + 1)) x) (fun k => ?_) ?_
      · simp only [tune_Fold.l1]
        rw [if_neg (by decide), wadd (by omega)]
      · have e : foldG p (folds p [] (g.take i)) g[i] = foldN p (folds p [] (g.take i)) (i + 2) g[i] := by unfold foldG; rw [hl]
        rw [e, List.append_assoc] at h;exact h
end Go.Proofs.Ytmlbliggbkfjnaa.L
/- Gates named by new numbers in the exits: both ways answer alike, and what they answer; gates that stay. -/
namespace Go.Proofs.Ytmlbliggbkfjnaa.L
open Go.RowKit Go.Proofs.YtmlbliggbkfjnaaW.PrintWords Go.Proofs.Ytmlbliggbkfjnaa.J
def mapX (f : Int → Int) (x : List S66) : List S66 := x.map fun e => ⟨e.f0, e.f1.map f⟩
def half {α : Type} (f : α → α) (l : List α) (j : Nat) : List α := (l.take j).map f ++ l.drop j
theorem half_len {α : Type} (f : α → α) (l : List α) (j : Nat) : (half f l j).length = l.length := by
  unfold half; rw [List.length_append, List.length_map, List.length_take, List.length_drop]; omega
theorem half_zero {α : Type} (f : α → α) (l : List α) : half f l 0 = l := by simp [half]
theorem half_end {α : Type} (f : α → α) (l : List α) : half f l l.length = l.map f := by simp [half]
theorem half_at {α : Type} (f : α → α) (l : List α) {j : Nat} (h : j < l.length) : (half f l j)[j]? = some l[j] := by
  unfold half
  have hl : ((l.take j).map f).length = j := by rw [List.length_map, List.length_take]; omega
  rw [List.getElem?_append_right (by omega), hl, Nat.sub_self, List.getElem?_drop];simp [h]
theorem half_set {α : Type} (f : α → α) (l : List α) {j : Nat} (h : j < l.length) : (half f l j).set j (f l[j]) = half f l (j + 1) := by
  unfold half
  have hl : ((l.take j).map f).length = j := by rw [List.length_map, List.length_take]; omega
  rw [List.drop_eq_getElem_cons h, List.set_append_right _ _ (by omega), hl, Nat.sub_self, List.set_cons_zero, ← take_more l h, List.map_append, List.append_assoc]
  rfl
theorem half_same {α : Type} (f : α → α) (l : List α) {j : Nat} (h : j < l.length) : (half f l j).set j l[j] = half f l j := by
  have := half_at f l h
  apply List.ext_getElem?
  intro i;rw [List.getElem?_set]
  split
  · rename_i e
    subst e;rw [if_pos (by rw [half_len]; exact h), this]
  · rfl
def midX (f : Int → Int) (x : List S66) (i : Nat) (h : i < x.length) (j : Nat) : List S66 := (half (fun e : S66 => ⟨e.f0, e.f1.map f⟩) x i).set i ⟨x[i].f0, half f x[i].f1 j⟩
theorem midX_zero (f : Int → Int) (x : List S66) (i : Nat) (h : i < x.length) : midX f x i h 0 = half (fun e : S66 => ⟨e.f0, e.f1.map f⟩) x i := by
  unfold midX; rw [half_zero]; exact half_same _ x h
theorem midX_end (f : Int → Int) (x : List S66) (i : Nat) (h : i < x.length) : midX f x i h x[i].f1.length = half (fun e : S66 => ⟨e.f0, e.f1.map f⟩) x (i + 1) := by
  unfold midX; rw [half_end]; exact half_set (fun e : S66 => (⟨e.f0, e.f1.map f⟩ : S66)) x h
theorem midX_at (f : Int → Int) (x : List S66) (i : Nat) (h : i < x.length) (j : Nat) : rd_T66 (midX f x i h j) (i : Int) = ⟨x[i].f0, half f x[i].f1 j⟩ := by
  unfold midX rd_T66;rw [List.getD_eq_getElem?_getD, Int.toNat_natCast, List.getElem?_set_self (by rw [half_len]; exact h)]
  rfl
theorem midX_len (f : Int → Int) (x : List S66) (i : Nat) (h : i < x.length) (j : Nat) : (midX f x i h j).length = x.length := by
  unfold midX; rw [List.length_set, half_len]
theorem midX_set (f : Int → Int) (x : List S66) (i : Nat) (h : i < x.length) (j : Nat) (hj : j < x[i].f1.length) : (midX f x i h j).set i ⟨x[i].f0, (half f x[i].f1 j).set j (f x[i].f1[j])⟩ = midX f x i h (j + 1) := by
  unfold midX;rw [List.set_set, half_set f x[i].f1 hj]
theorem rd_half (f : Int → Int) (l : List Int) {j : Nat} (h : j < l.length) : rd (half f l j) (j : Int) = l[j] := by
  unfold rd;rw [List.getD_eq_getElem?_getD, Int.toNat_natCast, half_at f l h]
  rfl
theorem rd_pad (D : List Int) (n : Nat) (i : Int) : rd (D ++ List.replicate n 0) i = atI D i := by
  unfold rd atI;rw [List.getD_eq_getElem?_getD, List.getD_eq_getElem?_getD, List.getElem?_append]
  split
  · rfl
  · rename_i h
    rw [List.getElem?_eq_none (l := D) (by omega), List.getElem?_replicate]
    split <;> rfl
theorem pad_set (D : List Int) {n : Nat} (v : Int) : (D ++ List.replicate (n + 1) 0).set D.length v = (D ++ [v]) ++ List.replicate n 0 := by
  rw [List.replicate_succ, set_mid, List.append_assoc]; rfl
theorem mv_more (st : Int → Bool) (t : Int → Int) (g : List S61) {i : Nat} (h : i < g.length) : mvL st t (g.take (i + 1)) = mvStep st t (mvL st t (g.take i)) g[i] := by
  rw [← take_more g h, mvL_snoc]
theorem mvL_few (st : Int → Bool) (t : Int → Int) (gs : List S61) : (mvL st t gs).1.length ≤ gs.length := by
  refine snoc_ind (P := fun gs => (mvL st t gs).1.length ≤ gs.length) (Nat.le_refl _) (fun gs g ih => ?_) gs;rw [mvL_snoc];unfold mvStep
  split <;> simp <;> omega
theorem tune_exits {p : Int} {s : List S64} {g : List S61} {x : List S66} (G : Good p s g x) (l : List S61) (P : List Int) (tto : Int → Option Int) (t : Int → Int) (ht : ∀ e ∈ x, ∀ y ∈ e.f1, tto y = some (t y) ∧ 0 ≤ t y ∧ t y < P.length) :
    Ev (fun k => tune_moved.l1 tto k P (x.length : Int) 0 s l x) (s, l, mapX (fun y => atI P (t y)) x) := by
  have hx := G.lx;have h0 := half_zero (fun e : S66 => (⟨e.f0, e.f1.map (fun y => atI P (t y))⟩ : S66)) x
  have key := up0 (g := fun k i => tune_moved.l1 tto k P (x.length : Int) (i : Int) s l (half (fun e : S66 => ⟨e.f0, e.f1.map (fun y => atI P (t y))⟩) x i)) (R := fun _ => (s, l, mapX (fun y => atI P (t y)) x)) (n := x.length) ?_ fun i hi h => ?_
  · rw [h0] at key; exact key
  · rw [half_end]
    refine Ev.fuel 1 fun k => ?_
    simp only [tune_moved.l1];rw [if_neg (by omega)]
    rfl
  · have he := (G.exit _ (List.getElem_mem hi)).2
    have hy := ht _ (List.getElem_mem hi);refine Ev.step (f := fun k => tune_moved.l2 tto k P (x.length : Int) (i : Int) (x[i].f1.length : Int) 0 s l (midX (fun y => atI P (t y)) x i hi 0)) (fun k => ?_) ?_
    · simp only [tune_moved.l1]
      rw [← midX_zero (fun y => atI P (t y)) x i hi, midX_at, midX_len, if_pos (by omega), if_pos (by omega), if_pos (by omega), half_zero]
    · refine up0 (g := fun k j => tune_moved.l2 tto k P (x.length : Int) (i : Int) (x[i].f1.length : Int) (j : Int) s l (midX (fun y => atI P (t y)) x i hi j)) (R := fun _ => (s, l, mapX (fun y => atI P (t y)) x)) (n := x[i].f1.length) ?_ fun j hj h' => ?_
      · rw [midX_end]
        refine Ev.step (f := fun k => tune_moved.l1 tto k P (x.length : Int) ((i + 1 : Nat) : Int) s l (half (fun e : S66 => ⟨e.f0, e.f1.map (fun y => atI P (t y))⟩) x (i + 1))) (fun k => ?_) h;simp only [tune_moved.l2];rw [if_neg (by omega), wadd (by omega)]
      · refine Ev.step (f := fun k => tune_moved.l2 tto k P (x.length : Int) (i : Int) (x[i].f1.length : Int) ((j + 1 : Nat) : Int) s l (midX (fun y => atI P (t y)) x i hi (j + 1))) (fun k => ?_) h'
        obtain ⟨y1, y2, y3⟩ := hy _ (List.getElem_mem hj);simp only [tune_moved.l2];simp only [midX_at];rw [half_len, rd_half _ _ hj, if_pos (by omega), if_pos (by omega), if_pos (by omega), y1, Option.bind_some, if_pos y2, if_pos y3, wadd (by omega), Int.toNat_natCast, Int.toNat_natCast];rw [show rd P (t x[i].f1[j]) = atI P (t x[i].f1[j]) from rfl, midX_set (fun y => atI P (t y)) _ _ _ _ hj]
theorem tune_moved_at {p : Int} {s : List S64} {g : List S61} {x : List S66} (G : Good p s g x) (st : Int → Int → Int → Int → Int → Option Bool) (tto : Int → Option Int) (sb : Int → Bool) (t : Int → Int)
    (hs : ∀ (i : Int) a b c d, 0 ≤ i → i < g.length → st i a b c d = some (sb i)) (ht : ∀ y : Int, 0 ≤ y → y < g.length → tto y = some (t y) ∧ 0 ≤ t y ∧ t y < g.length) :
    Ev (fun k => tune_moved.f st tto k s g x) (s, (mvL sb t g).1, mapX (fun y => atI (mvL sb t g).2 (t y)) x) := by
  unfold tune_moved.f;have hlg := G.lg;refine Ev.bind (own_at s g x G.ls G.lg G.lx G.exit) ?_;simp only [if_pos (show 0 ≤ (g.length : Int) by omega), Int.toNat_natCast, if_pos (show g.length ≤ 35184372088832 by omega)]
  refine up0 (g := fun k i => tune_moved.l0 st tto k ((mvL sb t (g.take i)).2 ++ List.replicate (g.length - i) 0) g (g.length : Int) (i : Int) s (mvL sb t (g.take i)).1 x) (R := fun _ => (s, (mvL sb t g).1, mapX (fun y => atI (mvL sb t g).2 (t y)) x)) (n := g.length) ?_ fun i hi h => ?_
  · rw [List.take_length, Nat.sub_self, List.replicate_zero, List.append_nil]
    refine Ev.step (f := fun k => tune_moved.l1 tto k (mvL sb t g).2 (x.length : Int) 0 s (mvL sb t g).1 x) (fun k => ?_) (tune_exits G _ _ tto t fun e he y hy => ?_)
    · simp only [tune_moved.l0]
      rw [if_neg (by omega)]
    · have hv := (exitV_zero (G.exits e he)).2.2 y hy
      have := ht y hv.1 hv.2;rw [mvL_len]; exact this
  · have hl : (mvL sb t (g.take i)).2.length = i := by rw [mvL_len, List.length_take]; omega
    have hf := mvL_few sb t (g.take i);rw [List.length_take] at hf;have hg := okG_nth G.gates hi;rw [mv_more sb t g hi] at h;unfold mvStep at h;rw [hl] at h;have hgi : rd_T61 g (i : Int) = g[i] := rdG_get hi;generalize g[i] = y at *;generalize (mvL sb t (g.take i)).1 = l at *;generalize (mvL sb t (g.take i)).2 = P at *
    have hL : ((P ++ List.replicate (g.length - i) 0).length : Int) = g.length := by rw [List.length_append, List.length_replicate]; omega
    have hset : ∀ v : Int, (P ++ List.replicate (g.length - i) 0).set i v = (P ++ [v]) ++ List.replicate (g.length - (i + 1)) 0 := fun v => by
      have := pad_set P (n := g.length - (i + 1)) v;rw [hl, show g.length - (i + 1) + 1 = g.length - i by omega] at this; exact this
    have hst := hs (i : Int) y.f0 y.f1 y.f2 y.f3 (by omega) (by omega)
    by_cases hb : sb (i : Int) = true
    · rw [if_pos hb] at h
      refine Ev.steps (f := fun k => tune_moved.l0 st tto k ((P ++ [(l.length : Int)]) ++ List.replicate (g.length - (i + 1)) 0) g (g.length : Int) ((i + 1 : Nat) : Int) s (l ++ [rnf (fun x => atI P (t x)) y]) x) 2 (fun k => ?_) h;simp only [tune_moved.l0];rw [if_pos (by omega), if_pos (by omega), if_pos (by omega), hgi, hst, Option.bind_some, if_pos hb];obtain ⟨a, b, c, d⟩ := y;simp only
      by_cases h12 : a = 1 ∨ a = 2
      · have e : (if a = 1 then tune_moved.j1 st tto (k + 1) (P ++ List.replicate (g.length - i) 0) (i : Int) g (g.length : Int) (i : Int) false s l x a b c d else tune_moved.j1 st tto (k + 1) (P ++ List.replicate (g.length - i) 0) (i : Int) g (g.length : Int) (i : Int) (a != 2) s l x a b c d) = tune_moved.j1 st tto (k + 1) (P ++ List.replicate (g.length - i) 0) (i : Int) g (g.length : Int) (i : Int) false s l x a b c d := by
          rcases h12 with rfl | rfl <;> rfl
        rw [e];simp only [tune_moved.j1];rw [if_neg (by decide), if_pos (by omega), if_pos (by omega), if_pos (by omega), Int.toNat_natCast, hset, wadd (by omega)];rw [show rnf (fun x => atI P (t x)) ⟨a, b, c, d⟩ = ⟨a, b, c, d⟩ by unfold rnf; rw [if_pos h12]]
      · have h1 : ¬ a = 1 := by omega
        have h2 : (a != 2) = true := by simp; omega
        obtain ⟨o1, o2, o3⟩ := okG_ops hg h1 (by show a ≠ 2; omega);simp only at o1 o2 o3;obtain ⟨t1, t2, t3⟩ := ht b o1 (by omega);rw [if_neg h1, h2];simp only [tune_moved.j1];rw [if_pos trivial, t1, Option.bind_some, if_pos t2, if_pos (by omega), rd_pad]
        by_cases h6 : a = 6
        · rw [if_pos h6, if_pos (by omega), if_pos (by omega), if_pos (by omega), Int.toNat_natCast, hset, wadd (by omega)]
          rw [show rnf (fun x => atI P (t x)) ⟨a, b, c, d⟩ = ⟨a, atI P (t b), c, d⟩ by unfold rnf; rw [if_neg h12, if_pos h6]]
        · obtain ⟨o3, o4⟩ := o3 h6
          obtain ⟨u1, u2, u3⟩ := ht c o3 (by omega);rw [if_neg h6, u1, Option.bind_some, if_pos u2, if_pos (by omega), if_pos (by omega), if_pos (by omega), if_pos (by omega), Int.toNat_natCast, hset, wadd (by omega), rd_pad];rw [show rnf (fun x => atI P (t x)) ⟨a, b, c, d⟩ = ⟨a, atI P (t b), atI P (t c), d⟩ by unfold rnf; rw [if_neg h12, if_neg h6]]
    · rw [if_neg hb] at h
      rw [List.append_assoc] at h
      have e : [(0 : Int)] ++ List.replicate (g.length - (i + 1)) 0 = List.replicate (g.length - i) 0 := by
        rw [show g.length - i = g.length - (i + 1) + 1 by omega, List.replicate_succ]; rfl
      rw [e] at h;refine Ev.step (f := fun k => tune_moved.l0 st tto k (P ++ List.replicate (g.length - i) 0) g (g.length : Int) ((i + 1 : Nat) : Int) s l x) (fun k => ?_) h;simp only [tune_moved.l0];rw [if_pos (by omega), if_pos (by omega), if_pos (by omega), hgi, hst, Option.bind_some, if_neg hb, wadd (by omega)]
end Go.Proofs.Ytmlbliggbkfjnaa.L
/- Both ways to leave out gates that are alike answer alike, and what they answer. -/
namespace Go.Proofs.Ytmlbliggbkfjnaa.L
open Go.RowKit Go.Proofs.YtmlbliggbkfjnaaW.PrintWords Go.Proofs.Ytmlbliggbkfjnaa.J
theorem shL_few (gs : List S61) : (shL gs).1.length ≤ gs.length := by
  refine snoc_ind (P := fun gs => (shL gs).1.length ≤ gs.length) (Nat.le_refl _) (fun gs g ih => ?_) gs;rw [shL_snoc];unfold shStep;simp only
  split <;> simp <;> omega
theorem find_at (y : S61) : ∀ M : List (S61 × Int), tune_Share.find y M = findM y M
  | [] => rfl
  | m :: M => by
    unfold tune_Share.find findM;rw [find_at y M]
    have e : tune_Share.same y m.1 = decide (y = m.1) := by
      unfold tune_Share.same
      by_cases h : y = m.1
      · rw [qqT h, h]; simp
      · rw [qqF h, Bool.eq_false_iff]
        intro hc
        apply h
        rw [S61.ext_iff']
        simpa [Bool.and_eq_true] using hc
    rw [e]
    by_cases h : y = m.1
    · rw [if_pos h, if_pos (qqT h)]
    · rw [if_neg h, if_neg (by rw [qqF h]; decide)]
theorem sp_more (g : List S61) {i : Nat} (h : i < g.length) : spL (g.take (i + 1)) = spStep (spL (g.take i)) g[i] := by rw [← take_more g h, spL_snoc]
theorem tune_share {p : Int} {s : List S64} {g : List S61} {x : List S66} (G : Good p s g x) : Ev (fun k => tune_Share.f k p s g x) (s, (shL g).1, mapX (atI (shL g).2) x, 0) := by
  unfold tune_Share.f;have hlg := G.lg;have hlx := G.exit;refine Ev.bind (circ_check p s g x fun e he => by have := (hlx e he).1; simp only [maxLen]; omega) ?_;rw [G.check];simp only [if_true, if_pos (show 0 ≤ (g.length : Int) by omega), Int.toNat_natCast, if_pos (show g.length ≤ 35184372088832 by omega)]
  refine up0 (g := fun k i => tune_Share.l0 k g (g.length : Int) (i : Int) s g x (spL (g.take i)).2 false ((spL (g.take i)).1 ++ List.replicate (g.length - i) 0)) (R := fun _ => (s, (shL g).1, mapX (atI (shL g).2) x, 0)) (n := g.length) ?_ fun i hi h => ?_
  · rw [List.take_length, Nat.sub_self, List.replicate_zero, List.append_nil]
    obtain ⟨pl, hm, hpl, hat⟩ := share_moved G.gates;have hl := spL_len g
    have mv := tune_moved_at G (tune_Share.st (spL g).1) (tune_Share.tto (spL g).1) (fun i => atI (spL g).1 i == i) (atI (spL g).1) (fun i a b c d i0 i1 => by unfold tune_Share.st; rw [if_pos ⟨i0, by omega⟩]; rfl)
      (fun y y0 y1 => ⟨by unfold tune_Share.tto; rw [if_pos ⟨y0, by omega⟩]; rfl, (hat y y0 y1).1, (hat y y0 y1).2.1⟩)
    rw [hm] at mv
    have e : mapX (fun y => atI pl (atI (spL g).1 y)) x = mapX (atI (shL g).2) x := by
      unfold mapX
      refine List.map_congr_left fun e he => ?_
      congr 1
      refine List.map_congr_left fun y hy => ?_
      have hv := (exitV_zero (G.exits e he)).2.2 y hy;exact (hat y hv.1 hv.2).2.2
    simp only at mv;rw [e] at mv;refine Ev.step (f := fun k => (tune_moved.f (tune_Share.st (spL g).1) (tune_Share.tto (spL g).1) k s g x).bind fun aa => (some (aa.1, aa.2.1, aa.2.2, 0))) (fun k => ?_) (Ev.bind mv (Ev.now _));simp only [tune_Share.l0];rw [if_neg (by omega)]
  · have hl : (spL (g.take i)).1.length = i := by rw [spL_len, List.length_take]; omega
    have hg := okG_nth G.gates hi;rw [sp_more g hi] at h;unfold spStep at h;rw [hl] at h;have hgi : rd_T61 g (i : Int) = g[i] := rdG_get hi;generalize g[i] = y at *;generalize (spL (g.take i)).1 = P at *;generalize (spL (g.take i)).2 = M at *
    have hL : ((P ++ List.replicate (g.length - i) 0).length : Int) = g.length := by rw [List.length_append, List.length_replicate]; omega
    have hset : ∀ v : Int, (P ++ List.replicate (g.length - i) 0).set i v = (P ++ [v]) ++ List.replicate (g.length - (i + 1)) 0 := fun v => by
      have := pad_set P (n := g.length - (i + 1)) v;rw [hl, show g.length - (i + 1) + 1 = g.length - i by omega] at this; exact this
    have last : ∀ (c : S61), c = canon (rnf (atI P) y) → Ev (fun k => tune_Share.j4 k (i : Int) g (g.length : Int) (i : Int) s g x M false (P ++ List.replicate (g.length - i) 0) c.f0 c.f1 c.f2 c.f3) (s, (shL g).1, mapX (atI (shL g).2) x, 0) := by
      intro c hc;rw [← hc] at h
      have hk : tune_Share.look M c.f0 c.f1 c.f2 c.f3 = some (match findM c M with | some i => (i, true) | none => (0, false)) := by
        unfold tune_Share.look; rw [find_at]; rfl
      have hp : tune_Share.put M c.f0 c.f1 c.f2 c.f3 (i : Int) = if findM c M = none then some (M ++ [(c, (i : Int))]) else none := by
        unfold tune_Share.put; rw [find_at]
      cases e : findM c M with
      | some v =>
        rw [e] at h hk;simp only at h hk;refine Ev.step (f := fun k => tune_Share.l0 k g (g.length : Int) ((i + 1 : Nat) : Int) s g x M false ((P ++ [v]) ++ List.replicate (g.length - (i + 1)) 0)) (fun k => ?_) h;simp only [tune_Share.j4];rw [hk, Option.bind_some, if_pos rfl, if_pos (by omega), if_pos (by omega), Int.toNat_natCast, hset, wadd (by omega)]
      | none =>
        rw [e] at h hk hp;simp only at h hk;rw [if_pos rfl] at hp;refine Ev.step (f := fun k => tune_Share.l0 k g (g.length : Int) ((i + 1 : Nat) : Int) s g x (M ++ [(c, (i : Int))]) false ((P ++ [(i : Int)]) ++ List.replicate (g.length - (i + 1)) 0)) (fun k => ?_) h;simp only [tune_Share.j4];rw [hk, Option.bind_some, if_neg (by decide), hp, Option.bind_some, if_pos (by omega), if_pos (by omega), Int.toNat_natCast, hset, wadd (by omega)]
    have mid : ∀ (c : S61), c = rnf (atI P) y → Ev (fun k => tune_Share.j2 k (i : Int) g (g.length : Int) (i : Int) s g x M false (P ++ List.replicate (g.length - i) 0) c.f0 c.f1 c.f2 c.f3) (s, (shL g).1, mapX (atI (shL g).2) x, 0) := by
      intro c hc
      by_cases h35 : c.f0 = 3 ∨ c.f0 = 5
      · by_cases hgt : c.f1 > c.f2
        · have e : canon (rnf (atI P) y) = ⟨c.f0, c.f2, c.f1, c.f3⟩ := by rw [← hc]; unfold canon; rw [if_pos ⟨h35, hgt⟩]
          refine Ev.steps (f := fun k => tune_Share.j4 k (i : Int) g (g.length : Int) (i : Int) s g x M false (P ++ List.replicate (g.length - i) 0) c.f0 c.f2 c.f1 c.f3) 2 (fun k => ?_) (last ⟨c.f0, c.f2, c.f1, c.f3⟩ e.symm)
          rcases h35 with q | q <;> simp [tune_Share.j2, tune_Share.j3, q, hgt]
        · have e : canon (rnf (atI P) y) = c := by rw [← hc]; unfold canon; rw [if_neg (fun h' => hgt h'.2)]
          refine Ev.steps (f := fun k => tune_Share.j4 k (i : Int) g (g.length : Int) (i : Int) s g x M false (P ++ List.replicate (g.length - i) 0) c.f0 c.f1 c.f2 c.f3) 2 (fun k => ?_) (last c e.symm);have hle : ¬ c.f2 < c.f1 := hgt
          rcases h35 with q | q <;> simp [tune_Share.j2, tune_Share.j3, q, hle]
      · have e : canon (rnf (atI P) y) = c := by rw [← hc]; unfold canon; rw [if_neg (fun h' => h35 h'.1)]
        refine Ev.steps (f := fun k => tune_Share.j4 k (i : Int) g (g.length : Int) (i : Int) s g x M false (P ++ List.replicate (g.length - i) 0) c.f0 c.f1 c.f2 c.f3) 2 (fun k => ?_) (last c e.symm)
        have q3 : ¬ c.f0 = 3 := fun q => h35 (.inl q)
        have q5 : ¬ c.f0 = 5 := fun q => h35 (.inr q)
        simp [tune_Share.j2, tune_Share.j3, q3, q5]
    have rdp : ∀ z : Int, rd (P ++ List.replicate (g.length - i) 0) z = atI P z := fun z => rd_pad _ _ _
    obtain ⟨a, b, c, d⟩ := y
    by_cases h12 : a = 1 ∨ a = 2
    · have e : rnf (atI P) ⟨a, b, c, d⟩ = ⟨a, b, c, d⟩ := by unfold rnf; rw [if_pos h12]
      refine Ev.steps (f := fun k => tune_Share.j2 k (i : Int) g (g.length : Int) (i : Int) s g x M false (P ++ List.replicate (g.length - i) 0) a b c d) 2 (fun k => ?_) (mid ⟨a, b, c, d⟩ e.symm);simp only [tune_Share.l0];rw [if_pos (by omega), if_pos (by omega), if_pos (by omega), hgi]
      rcases h12 with rfl | rfl <;> simp [tune_Share.j1]
    · have h1 : ¬ a = 1 := by omega
      have h2 : (a != 2) = true := by simp; omega
      obtain ⟨o1, o2, o3⟩ := okG_ops hg h1 (by show a ≠ 2; omega);simp only at o1 o2 o3
      by_cases h6 : a = 6
      · have e : rnf (atI P) ⟨a, b, c, d⟩ = ⟨a, atI P b, c, d⟩ := by unfold rnf; rw [if_neg h12, if_pos h6]
        refine Ev.steps (f := fun k => tune_Share.j2 k (i : Int) g (g.length : Int) (i : Int) s g x M false (P ++ List.replicate (g.length - i) 0) a (atI P b) c d) 2 (fun k => ?_) (mid ⟨a, atI P b, c, d⟩ e.symm);simp only [tune_Share.l0];rw [if_pos (by omega), if_pos (by omega), if_pos (by omega), hgi];simp only;rw [if_neg h1, h2];simp only [tune_Share.j1];rw [if_pos trivial, if_pos o1, if_pos (by omega), if_pos h6, rdp]
      · obtain ⟨o3, o4⟩ := o3 h6
        have e : rnf (atI P) ⟨a, b, c, d⟩ = ⟨a, atI P b, atI P c, d⟩ := by unfold rnf; rw [if_neg h12, if_neg h6]
        refine Ev.steps (f := fun k => tune_Share.j2 k (i : Int) g (g.length : Int) (i : Int) s g x M false (P ++ List.replicate (g.length - i) 0) a (atI P b) (atI P c) d) 2 (fun k => ?_) (mid ⟨a, atI P b, atI P c, d⟩ e.symm);simp only [tune_Share.l0];rw [if_pos (by omega), if_pos (by omega), if_pos (by omega), hgi];simp only;rw [if_neg h1, h2];simp only [tune_Share.j1];rw [if_pos trivial, if_pos o1, if_pos (by omega), if_neg h6, if_pos o3, if_pos (by omega), rdp, rdp]
theorem Good.shared {p : Int} {s : List S64} {g : List S61} {x : List S66} (G : Good p s g x) : Good p s (shL g).1 (mapX (atI (shL g).2) x) := by
  have h := shL_shr g G.gates
  exact G.other h.ok (shL_few g) fun e he y hy => by
    have hv := (exitV_zero (G.exits e he)).2.2 y hy;exact h.rng y hv.1 hv.2 trivial
theorem mapX_id {f : Int → Int} {x : List S66} (h : ∀ e ∈ x, ∀ y ∈ e.f1, f y = y) : mapX f x = x := by
  unfold mapX
  have e : ∀ e ∈ x, (⟨e.f0, e.f1.map f⟩ : S66) = e := fun e he => by
    have := List.map_congr_left (g := id) fun y hy => h e he y hy
    rw [this, List.map_id]
  have := List.map_congr_left e;rw [this];exact List.map_id x
theorem Good.folded {p : Int} {s : List S64} {g : List S61} {x : List S66} (G : Good p s g x) : Good p s (folds p [] g) x := by
  have h := G.other (f := fun y => y) (folds_ok G.pos g G.gates) (by rw [folds_len]; exact Nat.le_refl _) fun e he y hy => by
    rw [folds_len]; exact (exitV_zero (G.exits e he)).2.2 y hy
  have e := mapX_id (f := fun y => y) (x := x) fun _ _ _ _ => rfl
  unfold mapX at e;rw [e] at h;exact h
end Go.Proofs.Ytmlbliggbkfjnaa.L
