/- Part 4 of the proof of TuneLevels: what the functions compute as plain Lean functions, that the machine comes to just these answers, and that the answer is true; no conditions. -/
import Derived.Test.YtmlbliggbkfjnaaTuneLevelsZ0
import Derived.Test.YtmlbliggbkfjnaaTuneLevelsZ1
import Derived.Test.YtmlbliggbkfjnaaTuneLevelsZ2
import Derived.Test.YtmlbliggbkfjnaaTuneLevelsZ3
import Derived.Laws.EntriesVeiled
import Derived.Deep.Slices
import Derived.ChangeArms
import Derived.DataReads
import Derived.SizedLaws
import Derived.WideShapes
import Derived.OpenShut
import Derived.Test.YtmlbliggbkfjnaaRows
import Derived.JoinedOf
import Derived.KernelRfl
import Derived.WalkKit
import Derived.ProofKit
import Derived.ShutString
import Derived.ChangeOld
import Derived.Below
set_option linter.unusedSimpArgs false
set_option linter.unusedVariables false
set_option maxHeartbeats 8000000
set_option maxRecDepth 100000
namespace Go.Proofs.Ytmlbliggbkfjnaa.J
open Go.RowKit Go.Proofs.YtmlbliggbkfjnaaW.PrintWords Go.Proofs.YtmlbliggbkfjnaaW.PrintLast Go.Proofs.YtmlbliggbkfjnaaW.PrintMore
attribute [local go_sem] max2_int min2_int max_two min_two max_three min_three max_four min_four
def tune_Tune.f (k : Nat) (a0 : Int) (ae : List (S64)) (af : List (S61)) (ag : List (S66)) : Option ((List (S64)) × (List (S61)) × (List (S66)) × Int) := (tune_Fold.f k a0 ae af ag).bind fun aa => (if aa.2.2.2 = 0 then ((tune_Share.f k a0 aa.1 aa.2.1 aa.2.2.1).bind fun ab => (if ab.2.2.2 = 0 then ((tune_Prune.f k a0 ab.1 ab.2.1 ab.2.2.1).bind fun ad => (if ad.2.2.2 = 0 then (some (ad.1, ad.2.1, ad.2.2.1, 0)) else (some (([] : List (S64)), ([] : List (S61)), ([] : List (S66)), ad.2.2.2)))) else (some (([] : List (S64)), ([] : List (S61)), ([] : List (S66)), ab.2.2.2)))) else (some (([] : List (S64)), ([] : List (S61)), ([] : List (S66)), aa.2.2.2)))
theorem tune_Tune.mono : ∀ a0 a1 a2 a3 k, LeO (tune_Tune.f k a0 a1 a2 a3) (tune_Tune.f (k + 1) a0 a1 a2 a3) := by
 intro a0 a1 a2 a3 k;unfold tune_Tune.f
 repeat' first
   | (with_reducible exact tune_Fold.mono _ _ _ _ _)
   | (with_reducible exact tune_Prune.mono _ _ _ _ _)
   | (with_reducible exact tune_Share.mono _ _ _ _ _)
   | (with_reducible exact LeO.refl _)
   | (with_reducible exact LeO.none _)
   | (with_reducible refine LeO.ite ?_ ?_)
   | (with_reducible refine LeO.bind ?_ (fun _ => ?_))
   | exact tune_Fold.mono _ _ _ _ _
   | exact tune_Prune.mono _ _ _ _ _
   | exact tune_Share.mono _ _ _ _ _
   | exact LeO.none _
   | refine LeO.ite ?_ ?_
   | refine LeO.bind ?_ (fun _ => ?_)
theorem tune_Tune.calls (k : Nat) (a0 : Int) (aB : Option Addr) (aC : Nat) (av : List (S64)) (aD : Option Addr) (aE : Nat) (aw : List (S61)) (aF : Option Addr) (aG : Nat) (ax : List (S66)) (r1 : List (S64)) (r2 : List (S61)) (r3 : List (S66)) (r4 : Int) (w : World) (bp : Kd.C k64 w aB av.length av) (bq : av.length ≤ aC) (br : Kd.C k61 w aD aw.length aw) (bt : aw.length ≤ aE) (bu : Kd.C k66 w aF ax.length ax) (bv : ax.length ≤ aG) (h : tune_Tune.f k a0 av aw ax = some (r1, r2, r3, r4)) :
  Calls Try.prog 24 #[.int .u64 a0, .agg #[.slice aB av.length aC, .slice aD aw.length aE, .slice aF ax.length aG]] w fun e w' => ∃ v0_ v1_ v2_ : Value, e = .returned (.tuple #[.agg #[v0_, v1_, v2_], .int .i64 r4]) ∧ Kd.R k64 64 w' w.heap.size (fun _ => True) v0_ r1 ∧ Kd.R k61 61 w' w.heap.size (fun _ => True) v1_ r2 ∧ Kd.S k66 66 w' w.heap.size (fun _ => True) v2_ r3 ∧ Below w.heap.size w w' := by
 have hu26 := Try.underlying26;have hu85 := Try.underlying85;have aW := Aside0.mk bp;have aX := Aside0.mk bq;clear bp bq;have aY := Aside0.mk br;have aZ := Aside0.mk bt;clear br bt;have ba := Aside0.mk bu;have bb := Aside0.mk bv;clear bu bv;have HB := Aside0.mk (Below.refl w.heap.size w);have H : ((tune_Fold.f k a0 av aw ax).bind fun aN => (if aN.2.2.2 = 0 then ((tune_Share.f k a0 aN.1 aN.2.1 aN.2.2.1).bind fun aO => (if aO.2.2.2 = 0 then ((tune_Prune.f k a0 aO.1 aO.2.1 aO.2.2.1).bind fun aP => (if aP.2.2.2 = 0 then (some (aP.1, aP.2.1, aP.2.2.1, 0)) else (some (([] : List (S64)), ([] : List (S61)), ([] : List (S66)), aP.2.2.2)))) else (some (([] : List (S64)), ([] : List (S61)), ([] : List (S66)), aO.2.2.2)))) else (some (([] : List (S64)), ([] : List (S61)), ([] : List (S66)), aN.2.2.2)))) = some (r1, r2, r3, r4) := h;clear h;replace H := Option.bind_eq_some_iff.mp H;obtain ⟨⟨ay, az, aA, bg⟩, A30, H⟩ := H;(try dsimp only at H);have A3 := Aside0.mk A30;clear A30
 by_cases c4 : bg = 0
 rotate_left
 ·rw [if_neg c4] at H
  have cl := beq_eq_false_iff_ne.mpr c4;have cm := bne_iff_ne.mpr c4;simp only [Option.some.injEq, Prod.mk.injEq] at H;obtain ⟨rfl, rfl, rfl, rfl⟩ := H;go_enter Try.func24, Try.ntmps24
  have bw : ∀ w : World, (Instr.index 85 (.agg #[.func (.func 16) #[] #[], .func (.func 20) #[] #[], .func (.func 22) #[] #[]]) (.int .i64 0)).run Try.prog w = .ok (.func (.func 16) #[] #[]) w := fun w => by kernel_rfl
  have bx : ∀ w : World, (Instr.index 85 (.agg #[.func (.func 16) #[] #[], .func (.func 20) #[] #[], .func (.func 22) #[] #[]]) (.int .i64 1)).run Try.prog w = .ok (.func (.func 20) #[] #[]) w := fun w => by kernel_rfl
  have bz : ∀ w : World, (Instr.index 85 (.agg #[.func (.func 16) #[] #[], .func (.func 20) #[] #[], .func (.func 22) #[] #[]]) (.int .i64 2)).run Try.prog w = .ok (.func (.func 22) #[] #[]) w := fun w => by kernel_rfl
  go_wp2_with (first | ((with_reducible refine gate_dst (N := 3) rfl ?_); refine box_event ?hg (N := 3) ?hd (cs := #[.slice aB av.length aC, .slice aD aw.length aE, .slice aF ax.length aG]) (t := 26) ?hr ?_; (case hd => rfl); (case hg => rfl); (case hr => first | (go_simp; done) | (go_simp; rfl)); intro au hg w76 hbox hb; have aa := am hbox; have bh := kG HB hg; have bi := kG HB hg; replace HB := kH HB hb; clear hb hbox hg) | ((with_reducible refine gate_dst (N := 4) rfl ?_); refine box_event ?hg (N := 4) ?hd (cs := #[.slice none 0 0, .slice none 0 0, .slice none 0 0]) (t := 26) ?hr ?_; (case hd => rfl); (case hg => rfl); (case hr => first | (go_simp; done) | (go_simp; rfl)); intro ao hg w77 hbox hb; have ab := am hbox; have bj := kG HB hg; have bk := kG HB hg; replace HB := kH HB hb; have ah := kP aa hg; have ai := kQ aa hg; replace aa := kU aa hb; clear hb hbox hg) | ((with_reducible refine gate_dst (N := 6) rfl ?_); refine box_event ?hg (N := 6) ?hd (cs := #[.nilFunc, .nilFunc, .nilFunc]) (t := 85) ?hr ?_; (case hd => rfl); (case hg => rfl); (case hr => first | (go_simp; done) | (go_simp; rfl)); intro bl hg w78 hbox hb; have ag := am hbox; have bm := kG HB hg; have bn := kG HB hg; replace HB := kH HB hb; have aj := kP aa hg; have ak := kQ aa hg; replace aa := kU aa hb; have al := kP ab hg; have an := kQ ab hg; replace ab := kU ab hb; clear hb hbox hg; have cW := ak.out; have cX := aj.out; have cY := an.out; have cZ := al.out; have Z81 := kz3 ag; have da := ah.out; have db := ai.out; have Z83 := kz3 aa));refine wp_loop_rounds 4 ?_;rw [rounds_succ];go_wp2_with (first | ((with_reducible refine gate_dst (N := 19) rfl ?_); refine api_Slot_78.goesT0 (some 19) rfl rfl Try.func16 (by kernel_rfl) rfl #[.int .u64 a0, .agg #[.slice aB av.length aC, .slice aD aw.length aE, .slice aF ax.length aG]] rfl rfl (by (try simp only [qM1, qM2, qM3]); first | done | rfl) ?_; (with_reducible refine (tune_Fold.calls k a0 _ _ av _ _ aw _ _ ax ay az aA bg _ ?side1 ?side2 ?side3 ?side4 ?side5 ?side6 A3.out).mono ?_); (case side1 => exact Kd.C_below aW.out (kh HB)); (case side2 => exact aX.out); (case side3 => exact Kd.C_below aY.out (kh HB)); (case side4 => exact aZ.out); (case side5 => exact Kd.C_below ba.out (kh HB)); (case side6 => exact bb.out); rintro e w84 ⟨bA, bB, bC, rfl, ho0, ho1, ho2, hb⟩; refine ⟨_, rfl, ?_⟩; have ad := kLR ho0 HB; have ae := kLR ho1 HB; have af := kLS ho2 HB; replace aa := kU aa hb; replace ab := kU ab hb; replace ag := kO (o' := .cells #[.func (.func 16) #[] #[], .func (.func 20) #[] #[], .func (.func 22) #[] #[]] 85 (0, 0)) ag hb; replace HB := kH HB hb; (try clear hb); (try clear hb2); (try clear hk); (try clear hi); (try clear ho0); (try clear ho1); (try clear ho2); obtain ⟨dw, dx, cn⟩ := Kd.R_slice ad.out; subst cn; have Z86 := kz3 aa; obtain ⟨dy, dz, co⟩ := Kd.R_slice ae.out; subst co; obtain ⟨dA, dB, cp⟩ := Kd.S_slice af.out; subst cp; have Z89 := kz3 ab));refine bodyPost_ret (results_ct rfl _ _ ao 26 #[.slice none 0 0, .slice none 0 0, .slice none 0 0] (0, 0) _ rfl (kg ab) Try.underlying26 rfl (by kernel_rfl)) rfl ?_;exact ⟨_, _, _, er, by first | exact Kd.R_nil _ _ _ _ _ | exact Kd.N_nil _ _ _ _ _ | exact Kd.V_nil _ _ _ _ _ | exact Kd.Q_nil _ _ _ _ _ | exact Kd.S_nil _ _ _ _ _, by first | exact Kd.R_nil _ _ _ _ _ | exact Kd.N_nil _ _ _ _ _ | exact Kd.V_nil _ _ _ _ _ | exact Kd.Q_nil _ _ _ _ _ | exact Kd.S_nil _ _ _ _ _, by first | exact Kd.S_nil _ _ _ _ _ | exact Kd.N_nil _ _ _ _ _ | exact Kd.V_nil _ _ _ _ _ | exact Kd.Q_nil _ _ _ _ _ | exact Kd.R_nil _ _ _ _ _, kh HB⟩
 rw [if_pos c4] at H;have cl := beq_iff_eq.mpr c4;have cm := bne_eq_false_iff_eq.mpr c4;clear c4;replace H := Option.bind_eq_some_iff.mp H;obtain ⟨⟨aH, aI, aJ, bo⟩, A50, H⟩ := H;(try dsimp only at H);have A5 := Aside0.mk A50;clear A50
 by_cases c6 : bo = 0
 rotate_left
 ·rw [if_neg c6] at H
  have cq := beq_eq_false_iff_ne.mpr c6;have cr := bne_iff_ne.mpr c6;simp only [Option.some.injEq, Prod.mk.injEq] at H;obtain ⟨rfl, rfl, rfl, rfl⟩ := H;go_enter Try.func24, Try.ntmps24
  have bw : ∀ w : World, (Instr.index 85 (.agg #[.func (.func 16) #[] #[], .func (.func 20) #[] #[], .func (.func 22) #[] #[]]) (.int .i64 0)).run Try.prog w = .ok (.func (.func 16) #[] #[]) w := fun w => by kernel_rfl
  have bx : ∀ w : World, (Instr.index 85 (.agg #[.func (.func 16) #[] #[], .func (.func 20) #[] #[], .func (.func 22) #[] #[]]) (.int .i64 1)).run Try.prog w = .ok (.func (.func 20) #[] #[]) w := fun w => by kernel_rfl
  have bz : ∀ w : World, (Instr.index 85 (.agg #[.func (.func 16) #[] #[], .func (.func 20) #[] #[], .func (.func 22) #[] #[]]) (.int .i64 2)).run Try.prog w = .ok (.func (.func 22) #[] #[]) w := fun w => by kernel_rfl
  go_wp2_with (first | ((with_reducible refine gate_dst (N := 3) rfl ?_); refine box_event ?hg (N := 3) ?hd (cs := #[.slice aB av.length aC, .slice aD aw.length aE, .slice aF ax.length aG]) (t := 26) ?hr ?_; (case hd => rfl); (case hg => rfl); (case hr => first | (go_simp; done) | (go_simp; rfl)); intro au hg w57 hbox hb; have aa := am hbox; have bh := kG HB hg; have bi := kG HB hg; replace HB := kH HB hb; clear hb hbox hg) | ((with_reducible refine gate_dst (N := 4) rfl ?_); refine box_event ?hg (N := 4) ?hd (cs := #[.slice none 0 0, .slice none 0 0, .slice none 0 0]) (t := 26) ?hr ?_; (case hd => rfl); (case hg => rfl); (case hr => first | (go_simp; done) | (go_simp; rfl)); intro ao hg w58 hbox hb; have ab := am hbox; have bj := kG HB hg; have bk := kG HB hg; replace HB := kH HB hb; have ah := kP aa hg; have ai := kQ aa hg; replace aa := kU aa hb; clear hb hbox hg) | ((with_reducible refine gate_dst (N := 6) rfl ?_); refine box_event ?hg (N := 6) ?hd (cs := #[.nilFunc, .nilFunc, .nilFunc]) (t := 85) ?hr ?_; (case hd => rfl); (case hg => rfl); (case hr => first | (go_simp; done) | (go_simp; rfl)); intro bl hg w59 hbox hb; have ag := am hbox; have bm := kG HB hg; have bn := kG HB hg; replace HB := kH HB hb; have aj := kP aa hg; have ak := kQ aa hg; replace aa := kU aa hb; have al := kP ab hg; have an := kQ ab hg; replace ab := kU ab hb; clear hb hbox hg; have dc := ak.out; have dd := aj.out; have de := an.out; have df := al.out; have Z62 := kz3 ag; have dg := ah.out; have dh := ai.out; have Z64 := kz3 aa));refine wp_loop_rounds 4 ?_;rw [rounds_succ];go_wp2_with (first | ((with_reducible refine gate_dst (N := 19) rfl ?_); refine api_Slot_78.goesT0 (some 19) rfl rfl Try.func16 (by kernel_rfl) rfl #[.int .u64 a0, .agg #[.slice aB av.length aC, .slice aD aw.length aE, .slice aF ax.length aG]] rfl rfl (by (try simp only [qM1, qM2, qM3]); first | done | rfl) ?_; (with_reducible refine (tune_Fold.calls k a0 _ _ av _ _ aw _ _ ax ay az aA bg _ ?side1 ?side2 ?side3 ?side4 ?side5 ?side6 A3.out).mono ?_); (case side1 => exact Kd.C_below aW.out (kh HB)); (case side2 => exact aX.out); (case side3 => exact Kd.C_below aY.out (kh HB)); (case side4 => exact aZ.out); (case side5 => exact Kd.C_below ba.out (kh HB)); (case side6 => exact bb.out); rintro e w65 ⟨bA, bB, bC, rfl, ho0, ho1, ho2, hb⟩; refine ⟨_, rfl, ?_⟩; have ad := kLR ho0 HB; have ae := kLR ho1 HB; have af := kLS ho2 HB; replace aa := kU aa hb; replace ab := kU ab hb; replace ag := kO (o' := .cells #[.func (.func 16) #[] #[], .func (.func 20) #[] #[], .func (.func 22) #[] #[]] 85 (0, 0)) ag hb; replace HB := kH HB hb; (try clear hb); (try clear hb2); (try clear hk); (try clear hi); (try clear ho0); (try clear ho1); (try clear ho2); obtain ⟨bE, bF, ct⟩ := Kd.R_slice ad.out; subst ct; have Z67 := kz3 aa; obtain ⟨bG, bH, cu⟩ := Kd.R_slice ae.out; subst cu; obtain ⟨bI, bJ, cv⟩ := Kd.S_slice af.out; subst cv));rw [rounds_succ];go_wp2_with (first | ((with_reducible refine gate_dst (N := 19) rfl ?_); refine api_Slot_78.goesT0 (some 19) rfl rfl Try.func20 (by kernel_rfl) rfl #[.int .u64 a0, .agg #[.slice bE ay.length bF, .slice bG az.length bH, .slice bI aA.length bJ]] rfl rfl (by (try simp only [qM1, qM2, qM3]); first | done | rfl) ?_; (with_reducible refine (tune_Share.calls k a0 _ _ ay _ _ az _ _ aA aH aI aJ bo _ ?side1 ?side2 ?side3 ?side4 ?side5 ?side6 A5.out).mono ?_); (case side1 => exact (Kd.R_reads' (kt ad aa)).2.2); (case side2 => exact (Kd.R_reads' ad.out).2.1); (case side3 => exact (Kd.R_reads' (kt ae aa)).2.2); (case side4 => exact (Kd.R_reads' ae.out).2.1); (case side5 => exact (Kd.S_reads' (ks af aa)).2.2); (case side6 => exact (Kd.S_reads' af.out).2.1); rintro e w70 ⟨bK, bL, bM, rfl, ho0, ho1, ho2, hb⟩; refine ⟨_, rfl, ?_⟩; have ap := Aside0.mk (Kd.R_lower (Kd.R_new' ho0 (Kd.R_lt (kt ad aa))) (below_size (kh HB))); replace ad := Aside0.mk (Kd.R_elder' (kt ad aa) (Kd.R_base ho0) hb); have aq := Aside0.mk (Kd.R_lower (Kd.R_new' ho1 (Kd.R_lt (kt ae aa))) (below_size (kh HB))); replace ae := Aside0.mk (Kd.R_elder' (kt ae aa) (Kd.R_base ho1) hb); have ar := Aside0.mk (Kd.S_lower (Kd.S_new' ho2 (Kd.S_lt (ks af aa))) (below_size (kh HB))); replace af := Aside0.mk (Kd.S_elder' (ks af aa) (Kd.S_base ho2) hb); replace aa := kO (o' := .cells #[.slice bE ay.length bF, .slice bG az.length bH, .slice bI aA.length bJ] 26 (0, 0)) aa hb; replace ab := kU ab hb; replace ag := kU ag hb; replace HB := kH HB hb; (try clear hb); (try clear hb2); (try clear hk); (try clear hi); (try clear ho0); (try clear ho1); (try clear ho2); obtain ⟨dC, dD, cw⟩ := Kd.R_slice ap.out; subst cw; have Z72 := kz3 aa; obtain ⟨dE, dF, cx⟩ := Kd.R_slice aq.out; subst cx; obtain ⟨dG, dH, cy⟩ := Kd.S_slice ar.out; subst cy; have Z75 := kz3 ab));refine bodyPost_ret (results_ct rfl _ _ ao 26 #[.slice none 0 0, .slice none 0 0, .slice none 0 0] (0, 0) _ rfl (kg ab) Try.underlying26 rfl (by kernel_rfl)) rfl ?_;exact ⟨_, _, _, er, by first | exact Kd.R_nil _ _ _ _ _ | exact Kd.N_nil _ _ _ _ _ | exact Kd.V_nil _ _ _ _ _ | exact Kd.Q_nil _ _ _ _ _ | exact Kd.S_nil _ _ _ _ _, by first | exact Kd.R_nil _ _ _ _ _ | exact Kd.N_nil _ _ _ _ _ | exact Kd.V_nil _ _ _ _ _ | exact Kd.Q_nil _ _ _ _ _ | exact Kd.S_nil _ _ _ _ _, by first | exact Kd.S_nil _ _ _ _ _ | exact Kd.N_nil _ _ _ _ _ | exact Kd.V_nil _ _ _ _ _ | exact Kd.Q_nil _ _ _ _ _ | exact Kd.R_nil _ _ _ _ _, kh HB⟩
 rw [if_pos c6] at H;have cq := beq_iff_eq.mpr c6;have cr := bne_eq_false_iff_eq.mpr c6;clear c6;replace H := Option.bind_eq_some_iff.mp H;obtain ⟨⟨aK, aL, aM, bD⟩, A70, H⟩ := H;(try dsimp only at H);have A7 := Aside0.mk A70;clear A70
 by_cases c8 : bD = 0
 rotate_left
 ·rw [if_neg c8] at H
  have cz := beq_eq_false_iff_ne.mpr c8;have cA := bne_iff_ne.mpr c8;simp only [Option.some.injEq, Prod.mk.injEq] at H;obtain ⟨rfl, rfl, rfl, rfl⟩ := H;go_enter Try.func24, Try.ntmps24
  have bw : ∀ w : World, (Instr.index 85 (.agg #[.func (.func 16) #[] #[], .func (.func 20) #[] #[], .func (.func 22) #[] #[]]) (.int .i64 0)).run Try.prog w = .ok (.func (.func 16) #[] #[]) w := fun w => by kernel_rfl
  have bx : ∀ w : World, (Instr.index 85 (.agg #[.func (.func 16) #[] #[], .func (.func 20) #[] #[], .func (.func 22) #[] #[]]) (.int .i64 1)).run Try.prog w = .ok (.func (.func 20) #[] #[]) w := fun w => by kernel_rfl
  have bz : ∀ w : World, (Instr.index 85 (.agg #[.func (.func 16) #[] #[], .func (.func 20) #[] #[], .func (.func 22) #[] #[]]) (.int .i64 2)).run Try.prog w = .ok (.func (.func 22) #[] #[]) w := fun w => by kernel_rfl
  go_wp2_with (first | ((with_reducible refine gate_dst (N := 3) rfl ?_); refine box_event ?hg (N := 3) ?hd (cs := #[.slice aB av.length aC, .slice aD aw.length aE, .slice aF ax.length aG]) (t := 26) ?hr ?_; (case hd => rfl); (case hg => rfl); (case hr => first | (go_simp; done) | (go_simp; rfl)); intro au hg w33 hbox hb; have aa := am hbox; have bh := kG HB hg; have bi := kG HB hg; replace HB := kH HB hb; clear hb hbox hg) | ((with_reducible refine gate_dst (N := 4) rfl ?_); refine box_event ?hg (N := 4) ?hd (cs := #[.slice none 0 0, .slice none 0 0, .slice none 0 0]) (t := 26) ?hr ?_; (case hd => rfl); (case hg => rfl); (case hr => first | (go_simp; done) | (go_simp; rfl)); intro ao hg w34 hbox hb; have ab := am hbox; have bj := kG HB hg; have bk := kG HB hg; replace HB := kH HB hb; have ah := kP aa hg; have ai := kQ aa hg; replace aa := kU aa hb; clear hb hbox hg) | ((with_reducible refine gate_dst (N := 6) rfl ?_); refine box_event ?hg (N := 6) ?hd (cs := #[.nilFunc, .nilFunc, .nilFunc]) (t := 85) ?hr ?_; (case hd => rfl); (case hg => rfl); (case hr => first | (go_simp; done) | (go_simp; rfl)); intro bl hg w35 hbox hb; have ag := am hbox; have bm := kG HB hg; have bn := kG HB hg; replace HB := kH HB hb; have aj := kP aa hg; have ak := kQ aa hg; replace aa := kU aa hb; have al := kP ab hg; have an := kQ ab hg; replace ab := kU ab hb; clear hb hbox hg; have di := ak.out; have dj := aj.out; have dk := an.out; have dl := al.out; have Z38 := kz3 ag; have dm := ah.out; have dn := ai.out; have Z40 := kz3 aa));refine wp_loop_rounds 4 ?_;rw [rounds_succ];go_wp2_with (first | ((with_reducible refine gate_dst (N := 19) rfl ?_); refine api_Slot_78.goesT0 (some 19) rfl rfl Try.func16 (by kernel_rfl) rfl #[.int .u64 a0, .agg #[.slice aB av.length aC, .slice aD aw.length aE, .slice aF ax.length aG]] rfl rfl (by (try simp only [qM1, qM2, qM3]); first | done | rfl) ?_; (with_reducible refine (tune_Fold.calls k a0 _ _ av _ _ aw _ _ ax ay az aA bg _ ?side1 ?side2 ?side3 ?side4 ?side5 ?side6 A3.out).mono ?_); (case side1 => exact Kd.C_below aW.out (kh HB)); (case side2 => exact aX.out); (case side3 => exact Kd.C_below aY.out (kh HB)); (case side4 => exact aZ.out); (case side5 => exact Kd.C_below ba.out (kh HB)); (case side6 => exact bb.out); rintro e w41 ⟨bA, bB, bC, rfl, ho0, ho1, ho2, hb⟩; refine ⟨_, rfl, ?_⟩; have ad := kLR ho0 HB; have ae := kLR ho1 HB; have af := kLS ho2 HB; replace aa := kU aa hb; replace ab := kU ab hb; replace ag := kO (o' := .cells #[.func (.func 16) #[] #[], .func (.func 20) #[] #[], .func (.func 22) #[] #[]] 85 (0, 0)) ag hb; replace HB := kH HB hb; (try clear hb); (try clear hb2); (try clear hk); (try clear hi); (try clear ho0); (try clear ho1); (try clear ho2); obtain ⟨bN, bO, cB⟩ := Kd.R_slice ad.out; subst cB; have Z43 := kz3 aa; obtain ⟨bP, bQ, cC⟩ := Kd.R_slice ae.out; subst cC; obtain ⟨bR, bS, cD⟩ := Kd.S_slice af.out; subst cD));rw [rounds_succ];go_wp2_with (first | ((with_reducible refine gate_dst (N := 19) rfl ?_); refine api_Slot_78.goesT0 (some 19) rfl rfl Try.func20 (by kernel_rfl) rfl #[.int .u64 a0, .agg #[.slice bN ay.length bO, .slice bP az.length bQ, .slice bR aA.length bS]] rfl rfl (by (try simp only [qM1, qM2, qM3]); first | done | rfl) ?_; (with_reducible refine (tune_Share.calls k a0 _ _ ay _ _ az _ _ aA aH aI aJ bo _ ?side1 ?side2 ?side3 ?side4 ?side5 ?side6 A5.out).mono ?_); (case side1 => exact (Kd.R_reads' (kt ad aa)).2.2); (case side2 => exact (Kd.R_reads' ad.out).2.1); (case side3 => exact (Kd.R_reads' (kt ae aa)).2.2); (case side4 => exact (Kd.R_reads' ae.out).2.1); (case side5 => exact (Kd.S_reads' (ks af aa)).2.2); (case side6 => exact (Kd.S_reads' af.out).2.1); rintro e w46 ⟨bK, bL, bM, rfl, ho0, ho1, ho2, hb⟩; refine ⟨_, rfl, ?_⟩; have ap := Aside0.mk (Kd.R_lower (Kd.R_new' ho0 (Kd.R_lt (kt ad aa))) (below_size (kh HB))); replace ad := Aside0.mk (Kd.R_elder' (kt ad aa) (Kd.R_base ho0) hb); have aq := Aside0.mk (Kd.R_lower (Kd.R_new' ho1 (Kd.R_lt (kt ae aa))) (below_size (kh HB))); replace ae := Aside0.mk (Kd.R_elder' (kt ae aa) (Kd.R_base ho1) hb); have ar := Aside0.mk (Kd.S_lower (Kd.S_new' ho2 (Kd.S_lt (ks af aa))) (below_size (kh HB))); replace af := Aside0.mk (Kd.S_elder' (ks af aa) (Kd.S_base ho2) hb); replace aa := kO (o' := .cells #[.slice bN ay.length bO, .slice bP az.length bQ, .slice bR aA.length bS] 26 (0, 0)) aa hb; replace ab := kU ab hb; replace ag := kU ag hb; replace HB := kH HB hb; (try clear hb); (try clear hb2); (try clear hk); (try clear hi); (try clear ho0); (try clear ho1); (try clear ho2); obtain ⟨bT, bU, cE⟩ := Kd.R_slice ap.out; subst cE; have Z48 := kz3 aa; obtain ⟨bV, bW, cF⟩ := Kd.R_slice aq.out; subst cF; obtain ⟨bX, bY, cG⟩ := Kd.S_slice ar.out; subst cG));rw [rounds_succ];go_wp2_with (first | ((with_reducible refine gate_dst (N := 19) rfl ?_); refine api_Slot_78.goesT0 (some 19) rfl rfl Try.func22 (by kernel_rfl) rfl #[.int .u64 a0, .agg #[.slice bT aH.length bU, .slice bV aI.length bW, .slice bX aJ.length bY]] rfl rfl (by (try simp only [qM1, qM2, qM3]); first | done | rfl) ?_; (with_reducible refine (tune_Prune.calls k a0 _ _ aH _ _ aI _ _ aJ aK aL aM bD _ ?side1 ?side2 ?side3 ?side4 ?side5 ?side6 A7.out).mono ?_); (case side1 => exact (Kd.R_reads' (kt ap aa)).2.2); (case side2 => exact (Kd.R_reads' ap.out).2.1); (case side3 => exact (Kd.R_reads' (kt aq aa)).2.2); (case side4 => exact (Kd.R_reads' aq.out).2.1); (case side5 => exact (Kd.S_reads' (ks ar aa)).2.2); (case side6 => exact (Kd.S_reads' ar.out).2.1); rintro e w51 ⟨cH, cI, cJ, rfl, ho0, ho1, ho2, hb⟩; refine ⟨_, rfl, ?_⟩; have bc := Aside0.mk (Kd.R_lower (Kd.R_new' (Kd.R_new' ho0 (Kd.R_lt (kt ad aa))) (Kd.R_lt (kt ap aa))) (below_size (kh HB))); replace ad := Aside0.mk (Kd.R_elder' (kt ad aa) (Kd.R_base ho0) hb); replace ap := Aside0.mk (Kd.R_elder' (kt ap aa) (Kd.R_base ho0) hb); have bd := Aside0.mk (Kd.R_lower (Kd.R_new' (Kd.R_new' ho1 (Kd.R_lt (kt ae aa))) (Kd.R_lt (kt aq aa))) (below_size (kh HB))); replace ae := Aside0.mk (Kd.R_elder' (kt ae aa) (Kd.R_base ho1) hb); replace aq := Aside0.mk (Kd.R_elder' (kt aq aa) (Kd.R_base ho1) hb); have bf := Aside0.mk (Kd.S_lower (Kd.S_new' (Kd.S_new' ho2 (Kd.S_lt (ks af aa))) (Kd.S_lt (ks ar aa))) (below_size (kh HB))); replace af := Aside0.mk (Kd.S_elder' (ks af aa) (Kd.S_base ho2) hb); replace ar := Aside0.mk (Kd.S_elder' (ks ar aa) (Kd.S_base ho2) hb); replace aa := kO (o' := .cells #[.slice bT aH.length bU, .slice bV aI.length bW, .slice bX aJ.length bY] 26 (0, 0)) aa hb; replace ab := kU ab hb; replace ag := kU ag hb; replace HB := kH HB hb; (try clear hb); (try clear hb2); (try clear hk); (try clear hi); (try clear ho0); (try clear ho1); (try clear ho2); obtain ⟨dI, dJ, cK⟩ := Kd.R_slice bc.out; subst cK; have Z53 := kz3 aa; obtain ⟨dK, dL, cL⟩ := Kd.R_slice bd.out; subst cL; obtain ⟨dM, dN, cM⟩ := Kd.S_slice bf.out; subst cM; have Z56 := kz3 ab));refine bodyPost_ret (results_ct rfl _ _ ao 26 #[.slice none 0 0, .slice none 0 0, .slice none 0 0] (0, 0) _ rfl (kg ab) Try.underlying26 rfl (by kernel_rfl)) rfl ?_;exact ⟨_, _, _, er, by first | exact Kd.R_nil _ _ _ _ _ | exact Kd.N_nil _ _ _ _ _ | exact Kd.V_nil _ _ _ _ _ | exact Kd.Q_nil _ _ _ _ _ | exact Kd.S_nil _ _ _ _ _, by first | exact Kd.R_nil _ _ _ _ _ | exact Kd.N_nil _ _ _ _ _ | exact Kd.V_nil _ _ _ _ _ | exact Kd.Q_nil _ _ _ _ _ | exact Kd.S_nil _ _ _ _ _, by first | exact Kd.S_nil _ _ _ _ _ | exact Kd.N_nil _ _ _ _ _ | exact Kd.V_nil _ _ _ _ _ | exact Kd.Q_nil _ _ _ _ _ | exact Kd.R_nil _ _ _ _ _, kh HB⟩
 rw [if_pos c8] at H;have cz := beq_iff_eq.mpr c8;have cA := bne_eq_false_iff_eq.mpr c8;clear c8;simp only [Option.some.injEq, Prod.mk.injEq] at H;obtain ⟨rfl, rfl, rfl, rfl⟩ := H;go_enter Try.func24, Try.ntmps24
 have bw : ∀ w : World, (Instr.index 85 (.agg #[.func (.func 16) #[] #[], .func (.func 20) #[] #[], .func (.func 22) #[] #[]]) (.int .i64 0)).run Try.prog w = .ok (.func (.func 16) #[] #[]) w := fun w => by kernel_rfl
 have bx : ∀ w : World, (Instr.index 85 (.agg #[.func (.func 16) #[] #[], .func (.func 20) #[] #[], .func (.func 22) #[] #[]]) (.int .i64 1)).run Try.prog w = .ok (.func (.func 20) #[] #[]) w := fun w => by kernel_rfl
 have bz : ∀ w : World, (Instr.index 85 (.agg #[.func (.func 16) #[] #[], .func (.func 20) #[] #[], .func (.func 22) #[] #[]]) (.int .i64 2)).run Try.prog w = .ok (.func (.func 22) #[] #[]) w := fun w => by kernel_rfl
 go_wp2_with (first | ((with_reducible refine gate_dst (N := 3) rfl ?_); refine box_event ?hg (N := 3) ?hd (cs := #[.slice aB av.length aC, .slice aD aw.length aE, .slice aF ax.length aG]) (t := 26) ?hr ?_; (case hd => rfl); (case hg => rfl); (case hr => first | (go_simp; done) | (go_simp; rfl)); intro au hg w9 hbox hb; have aa := am hbox; have bh := kG HB hg; have bi := kG HB hg; replace HB := kH HB hb; clear hb hbox hg) | ((with_reducible refine gate_dst (N := 4) rfl ?_); refine box_event ?hg (N := 4) ?hd (cs := #[.slice none 0 0, .slice none 0 0, .slice none 0 0]) (t := 26) ?hr ?_; (case hd => rfl); (case hg => rfl); (case hr => first | (go_simp; done) | (go_simp; rfl)); intro ao hg w10 hbox hb; have ab := am hbox; have bj := kG HB hg; have bk := kG HB hg; replace HB := kH HB hb; have ah := kP aa hg; have ai := kQ aa hg; replace aa := kU aa hb; clear hb hbox hg) | ((with_reducible refine gate_dst (N := 6) rfl ?_); refine box_event ?hg (N := 6) ?hd (cs := #[.nilFunc, .nilFunc, .nilFunc]) (t := 85) ?hr ?_; (case hd => rfl); (case hg => rfl); (case hr => first | (go_simp; done) | (go_simp; rfl)); intro bl hg w11 hbox hb; have ag := am hbox; have bm := kG HB hg; have bn := kG HB hg; replace HB := kH HB hb; have aj := kP aa hg; have ak := kQ aa hg; replace aa := kU aa hb; have al := kP ab hg; have an := kQ ab hg; replace ab := kU ab hb; clear hb hbox hg; have dp := ak.out; have dq := aj.out; have dr := an.out; have dt := al.out; have Z14 := kz3 ag; have du := ah.out; have dv := ai.out; have Z16 := kz3 aa));refine wp_loop_rounds 4 ?_;rw [rounds_succ];go_wp2_with (first | ((with_reducible refine gate_dst (N := 19) rfl ?_); refine api_Slot_78.goesT0 (some 19) rfl rfl Try.func16 (by kernel_rfl) rfl #[.int .u64 a0, .agg #[.slice aB av.length aC, .slice aD aw.length aE, .slice aF ax.length aG]] rfl rfl (by (try simp only [qM1, qM2, qM3]); first | done | rfl) ?_; (with_reducible refine (tune_Fold.calls k a0 _ _ av _ _ aw _ _ ax ay az aA bg _ ?side1 ?side2 ?side3 ?side4 ?side5 ?side6 A3.out).mono ?_); (case side1 => exact Kd.C_below aW.out (kh HB)); (case side2 => exact aX.out); (case side3 => exact Kd.C_below aY.out (kh HB)); (case side4 => exact aZ.out); (case side5 => exact Kd.C_below ba.out (kh HB)); (case side6 => exact bb.out); rintro e w17 ⟨bA, bB, bC, rfl, ho0, ho1, ho2, hb⟩; refine ⟨_, rfl, ?_⟩; have ad := kLR ho0 HB; have ae := kLR ho1 HB; have af := kLS ho2 HB; replace aa := kU aa hb; replace ab := kU ab hb; replace ag := kO (o' := .cells #[.func (.func 16) #[] #[], .func (.func 20) #[] #[], .func (.func 22) #[] #[]] 85 (0, 0)) ag hb; replace HB := kH HB hb; (try clear hb); (try clear hb2); (try clear hk); (try clear hi); (try clear ho0); (try clear ho1); (try clear ho2); obtain ⟨bZ, ca, cN⟩ := Kd.R_slice ad.out; subst cN; have Z19 := kz3 aa; obtain ⟨cb, cc, cO⟩ := Kd.R_slice ae.out; subst cO; obtain ⟨cd, ce, cP⟩ := Kd.S_slice af.out; subst cP));rw [rounds_succ];go_wp2_with (first | ((with_reducible refine gate_dst (N := 19) rfl ?_); refine api_Slot_78.goesT0 (some 19) rfl rfl Try.func20 (by kernel_rfl) rfl #[.int .u64 a0, .agg #[.slice bZ ay.length ca, .slice cb az.length cc, .slice cd aA.length ce]] rfl rfl (by (try simp only [qM1, qM2, qM3]); first | done | rfl) ?_; (with_reducible refine (tune_Share.calls k a0 _ _ ay _ _ az _ _ aA aH aI aJ bo _ ?side1 ?side2 ?side3 ?side4 ?side5 ?side6 A5.out).mono ?_); (case side1 => exact (Kd.R_reads' (kt ad aa)).2.2); (case side2 => exact (Kd.R_reads' ad.out).2.1); (case side3 => exact (Kd.R_reads' (kt ae aa)).2.2); (case side4 => exact (Kd.R_reads' ae.out).2.1); (case side5 => exact (Kd.S_reads' (ks af aa)).2.2); (case side6 => exact (Kd.S_reads' af.out).2.1); rintro e w22 ⟨bK, bL, bM, rfl, ho0, ho1, ho2, hb⟩; refine ⟨_, rfl, ?_⟩; have ap := Aside0.mk (Kd.R_lower (Kd.R_new' ho0 (Kd.R_lt (kt ad aa))) (below_size (kh HB))); replace ad := Aside0.mk (Kd.R_elder' (kt ad aa) (Kd.R_base ho0) hb); have aq := Aside0.mk (Kd.R_lower (Kd.R_new' ho1 (Kd.R_lt (kt ae aa))) (below_size (kh HB))); replace ae := Aside0.mk (Kd.R_elder' (kt ae aa) (Kd.R_base ho1) hb); have ar := Aside0.mk (Kd.S_lower (Kd.S_new' ho2 (Kd.S_lt (ks af aa))) (below_size (kh HB))); replace af := Aside0.mk (Kd.S_elder' (ks af aa) (Kd.S_base ho2) hb); replace aa := kO (o' := .cells #[.slice bZ ay.length ca, .slice cb az.length cc, .slice cd aA.length ce] 26 (0, 0)) aa hb; replace ab := kU ab hb; replace ag := kU ag hb; replace HB := kH HB hb; (try clear hb); (try clear hb2); (try clear hk); (try clear hi); (try clear ho0); (try clear ho1); (try clear ho2); obtain ⟨cf, cg, cQ⟩ := Kd.R_slice ap.out; subst cQ; have Z24 := kz3 aa; obtain ⟨ch, ci, cR⟩ := Kd.R_slice aq.out; subst cR; obtain ⟨cj, ck, cS⟩ := Kd.S_slice ar.out; subst cS));rw [rounds_succ];go_wp2_with (first | ((with_reducible refine gate_dst (N := 19) rfl ?_); refine api_Slot_78.goesT0 (some 19) rfl rfl Try.func22 (by kernel_rfl) rfl #[.int .u64 a0, .agg #[.slice cf aH.length cg, .slice ch aI.length ci, .slice cj aJ.length ck]] rfl rfl (by (try simp only [qM1, qM2, qM3]); first | done | rfl) ?_; (with_reducible refine (tune_Prune.calls k a0 _ _ aH _ _ aI _ _ aJ aK aL aM bD _ ?side1 ?side2 ?side3 ?side4 ?side5 ?side6 A7.out).mono ?_); (case side1 => exact (Kd.R_reads' (kt ap aa)).2.2); (case side2 => exact (Kd.R_reads' ap.out).2.1); (case side3 => exact (Kd.R_reads' (kt aq aa)).2.2); (case side4 => exact (Kd.R_reads' aq.out).2.1); (case side5 => exact (Kd.S_reads' (ks ar aa)).2.2); (case side6 => exact (Kd.S_reads' ar.out).2.1); rintro e w27 ⟨cH, cI, cJ, rfl, ho0, ho1, ho2, hb⟩; refine ⟨_, rfl, ?_⟩; have bc := Aside0.mk (Kd.R_lower (Kd.R_new' (Kd.R_new' ho0 (Kd.R_lt (kt ad aa))) (Kd.R_lt (kt ap aa))) (below_size (kh HB))); replace ad := Aside0.mk (Kd.R_elder' (kt ad aa) (Kd.R_base ho0) hb); replace ap := Aside0.mk (Kd.R_elder' (kt ap aa) (Kd.R_base ho0) hb); have bd := Aside0.mk (Kd.R_lower (Kd.R_new' (Kd.R_new' ho1 (Kd.R_lt (kt ae aa))) (Kd.R_lt (kt aq aa))) (below_size (kh HB))); replace ae := Aside0.mk (Kd.R_elder' (kt ae aa) (Kd.R_base ho1) hb); replace aq := Aside0.mk (Kd.R_elder' (kt aq aa) (Kd.R_base ho1) hb); have bf := Aside0.mk (Kd.S_lower (Kd.S_new' (Kd.S_new' ho2 (Kd.S_lt (ks af aa))) (Kd.S_lt (ks ar aa))) (below_size (kh HB))); replace af := Aside0.mk (Kd.S_elder' (ks af aa) (Kd.S_base ho2) hb); replace ar := Aside0.mk (Kd.S_elder' (ks ar aa) (Kd.S_base ho2) hb); replace aa := kO (o' := .cells #[.slice cf aH.length cg, .slice ch aI.length ci, .slice cj aJ.length ck] 26 (0, 0)) aa hb; replace ab := kU ab hb; replace ag := kU ag hb; replace HB := kH HB hb; (try clear hb); (try clear hb2); (try clear hk); (try clear hi); (try clear ho0); (try clear ho1); (try clear ho2); obtain ⟨aQ, aR, cT⟩ := Kd.R_slice bc.out; subst cT; have Z29 := kz3 aa; obtain ⟨aS, aT, cU⟩ := Kd.R_slice bd.out; subst cU; obtain ⟨aU, aV, cV⟩ := Kd.S_slice bf.out; subst cV; have Z32 := kz3 ab));rw [rounds_succ];go_wp2;refine bodyPost_ret (results_ct rfl _ _ ao 26 #[.slice aQ aK.length aR, .slice aS aL.length aT, .slice aU aM.length aV] (0, 0) _ rfl (kg ab) Try.underlying26 rfl (by kernel_rfl)) rfl ?_;exact ⟨_, _, _, er, by (with_reducible repeat first | apply Kd.R_alloc | apply Kd.R_drewN | apply Kd.R_drew); exact Kd.R_mono (Kd.R_far (p := ⟨ao, 2, none⟩) (Kd.R_far (p := ⟨ao, 1, none⟩) (Kd.R_far (p := ⟨ao, 0, none⟩) (Kd.R_far (p := ⟨au, 2, none⟩) (Kd.R_far (p := ⟨au, 1, none⟩) (Kd.R_far (p := ⟨au, 0, none⟩) (Kd.R_types (Kd.R_types bc.out aa.out (by decide)) ab.out (by decide)) (fun _ hk => hk.1.2) (.slice aQ aK.length aR)) (fun _ hk => hk.1.2) (.slice aS aL.length aT)) (fun _ hk => hk.1.2) (.slice aU aM.length aV)) (fun _ hk => hk.2) (.slice aQ aK.length aR)) (fun _ hk => hk.2) (.slice aS aL.length aT)) (fun _ hk => hk.2) (.slice aU aM.length aV)) (fun _ hk => trivial), by (with_reducible repeat first | apply Kd.R_alloc | apply Kd.R_drewN | apply Kd.R_drew); exact Kd.R_mono (Kd.R_far (p := ⟨ao, 2, none⟩) (Kd.R_far (p := ⟨ao, 1, none⟩) (Kd.R_far (p := ⟨ao, 0, none⟩) (Kd.R_far (p := ⟨au, 2, none⟩) (Kd.R_far (p := ⟨au, 1, none⟩) (Kd.R_far (p := ⟨au, 0, none⟩) (Kd.R_types (Kd.R_types bd.out aa.out (by decide)) ab.out (by decide)) (fun _ hk => hk.1.2) (.slice aQ aK.length aR)) (fun _ hk => hk.1.2) (.slice aS aL.length aT)) (fun _ hk => hk.1.2) (.slice aU aM.length aV)) (fun _ hk => hk.2) (.slice aQ aK.length aR)) (fun _ hk => hk.2) (.slice aS aL.length aT)) (fun _ hk => hk.2) (.slice aU aM.length aV)) (fun _ hk => trivial), by (with_reducible repeat first | apply Kd.S_alloc | apply Kd.S_drewN | apply Kd.S_drew); exact Kd.S_mono (Kd.S_far (p := ⟨ao, 2, none⟩) (Kd.S_far (p := ⟨ao, 1, none⟩) (Kd.S_far (p := ⟨ao, 0, none⟩) (Kd.S_far (p := ⟨au, 2, none⟩) (Kd.S_far (p := ⟨au, 1, none⟩) (Kd.S_far (p := ⟨au, 0, none⟩) (Kd.S_types (Kd.S_types bf.out aa.out (by decide)) ab.out (by decide)) (fun _ hk => hk.1.2) (.slice aQ aK.length aR)) (fun _ hk => hk.1.2) (.slice aS aL.length aT)) (fun _ hk => hk.1.2) (.slice aU aM.length aV)) (fun _ hk => hk.2) (.slice aQ aK.length aR)) (fun _ hk => hk.2) (.slice aS aL.length aT)) (fun _ hk => hk.2) (.slice aU aM.length aV)) (fun _ hk => trivial), kh HB⟩
theorem eqA61 (d : Nat) (w : World) (x0 y0 : Int) (x1 y1 : Int) (x2 y2 : Int) (x3 y3 : Int) :
  (Op.equalIn (d + 2) 61 (.agg #[.int .i64 x0, .int .i64 x1, .int .i64 x2, .int .u64 x3]) (.agg #[.int .i64 y0, .int .i64 y1, .int .i64 y2, .int .u64 y3])).run Try.prog w = .ok (x0 == y0 && (x1 == y1 && (x2 == y2 && (x3 == y3)))) w := by
 refine eqA_of Try.underlying61 (by kernel_rfl) ?_;refine eqf_cons (by rfl) (by go_simp; rfl) (by go_simp; rfl) (by go_simp) ?_;refine eqf_cons (by rfl) (by go_simp; rfl) (by go_simp; rfl) (by go_simp) ?_;refine eqf_cons (by rfl) (by go_simp; rfl) (by go_simp; rfl) (by go_simp) ?_;exact eqf_last (by rfl) (by go_simp; rfl) (by go_simp; rfl) (by go_simp)
theorem eqA64 (d : Nat) (w : World) (x0 y0 : Int) (x1 y1 : Bool) :
  (Op.equalIn (d + 2) 64 (.agg #[.int .i64 x0, .bool x1]) (.agg #[.int .i64 y0, .bool y1])).run Try.prog w = .ok (x0 == y0 && (x1 == y1)) w := by
 refine eqA_of Try.underlying64 (by kernel_rfl) ?_;refine eqf_cons (by rfl) (by go_simp; rfl) (by go_simp; rfl) (by go_simp) ?_;exact eqf_last (by rfl) (by go_simp; rfl) (by go_simp; rfl) (by go_simp)
def qea.l0 : Nat → List Int → List Int → Int → Int → Option (Bool)
 | 0, _, _, _, _ => none
 | k + 1, x0, x1, x12, x13 => if x13 < x12 then (if 0 ≤ x13 then (if x13 < (x0.length : Int) then (if x13 < (x1.length : Int) then (if (rd x0 x13) = (rd x1 x13) then (qea.l0 k x0 x1 x12 (wrap64 (x13 + 1))) else (some false)) else (none)) else (none)) else (none)) else (some true)
def qea.f (k : Nat) (l0 : List Int) (l1 : List Int) : Option (Bool) := if (l0.length : Int) = (l1.length : Int) then (qea.l0 k l0 l1 (l0.length : Int) 0) else (some false)
theorem qea.mono_l : ∀ k, (∀ y0 y1 y2 y3, LeO (qea.l0 k y0 y1 y2 y3) (qea.l0 (k + 1) y0 y1 y2 y3))
 | 0 => fun _ _ _ _ r h => by simp [qea.l0] at h
 | k + 1 => by
  have ih0 := qea.mono_l k
  ·intro y0 y1 y2 y3
   unfold qea.l0
   repeat' first
   | (with_reducible exact ih0 _ _ _ _)
   | (with_reducible exact LeO.refl _)
   | (with_reducible exact LeO.none _)
   | (with_reducible refine LeO.ite ?_ ?_)
   | (with_reducible refine LeO.bind ?_ (fun _ => ?_))
   | exact ih0 _ _ _ _
   | exact LeO.none _
   | refine LeO.ite ?_ ?_
   | refine LeO.bind ?_ (fun _ => ?_)
theorem qea.mono : ∀ a0 a1 k, LeO (qea.f k a0 a1) (qea.f (k + 1) a0 a1) := by
 intro a0 a1 k;have ih0 := qea.mono_l k;unfold qea.f
 repeat' first
   | (with_reducible exact ih0 _ _ _ _)
   | (with_reducible exact LeO.refl _)
   | (with_reducible exact LeO.none _)
   | (with_reducible refine LeO.ite ?_ ?_)
   | (with_reducible refine LeO.bind ?_ (fun _ => ?_))
   | exact ih0 _ _ _ _
   | exact LeO.none _
   | refine LeO.ite ?_ ?_
   | refine LeO.bind ?_ (fun _ => ?_)
theorem qea.calls (k : Nat) (A0 : Option Addr) (c0 : Nat) (l0 : List Int) (A1 : Option Addr) (c1 : Nat) (l1 : List Int) (r : Bool) (w : World) (hr0 : Kd.C (Kd.int .i64) w A0 l0.length l0) (hc0 : l0.length ≤ c0) (hr1 : Kd.C (Kd.int .i64) w A1 l1.length l1) (hc1 : l1.length ≤ c1) (h : qea.f k l0 l1 = some r) :
  Calls Try.prog 56 #[.slice A0 l0.length c0, .slice A1 l1.length c1] w fun e w' => e = .returned (.bool r) ∧ Drawn0 w w' := by
 have HR0 := Aside0.mk hr0;have HC0 := Aside0.mk hc0;clear hr0 hc0;have HR1 := Aside0.mk hr1;have HC1 := Aside0.mk hc1;clear hr1 hc1;have H : (if (l0.length : Int) = (l1.length : Int) then (qea.l0 k l0 l1 (l0.length : Int) 0) else (some false)) = some r := h;clear h
 by_cases c3 : (l0.length : Int) = (l1.length : Int)
 rotate_left
 ·rw [if_neg c3] at H
  have ak := beq_eq_false_iff_ne.mpr c3;have al := bne_iff_ne.mpr c3
  have an : (l0.length == l1.length) = false := by first | simpa using c3 | (simp at c3 ⊢; omega)
  obtain rfl := Option.some.inj H;go_enter Try.func56, Try.ntmps56;go_wp2
  repeat (go_quiet (fail); try go_wp2)
  go_ret;exact ⟨et, by repeat (first | exact Drawn0.refl _ | apply Drawn0.step)⟩
 rw [if_pos c3] at H;have ak := beq_iff_eq.mpr c3;have al := bne_eq_false_iff_eq.mpr c3
 have an : (l0.length == l1.length) = true := by first | simpa using c3 | (simp at c3 ⊢; omega)
 clear c3;have H' := Aside0.mk H;clear H;go_enter Try.func56, Try.ntmps56;go_wp2
 repeat (go_quiet (fail); try go_wp2)
 go_loopg [13] k (fun kq v13 w' => ∃ (aa : Int), v13 = .int .i64 aa ∧ Aside0 (qea.l0 kq l0 l1 (l0.length : Int) aa = some r) ∧ Aside0 (kq ≤ k) ∧ Drawn0 w w')
 case atStart => exact ⟨(0), et, H', ⟨Nat.le_refl _⟩, by repeat (first | exact Drawn0.refl _ | apply Drawn0.step)⟩
 case round =>
  clear H';(try clear ak al an);obtain ⟨aa, rfl, HA, HK1, ⟨m1, rfl⟩⟩ := hrel
  cases gk with
  | zero => exact absurd HA.out (by simp [qea.l0])
  | succ k1 =>
   have H := HA.out;clear HA;simp only [qea.l0] at H
   by_cases c4 : aa < (l0.length : Int)
   rotate_left
   ·rw [if_neg c4] at H
    have aq := decide_eq_false c4;clear c4;obtain rfl := Option.some.inj H;go_wp2
    repeat (go_quiet (fail); try go_wp2)
    go_ret;exact ⟨et, by repeat (first | exact Drawn0.refl _ | apply Drawn0.step)⟩
   rw [if_pos c4] at H;have aq := decide_eq_true c4;clear c4
   by_cases c5 : 0 ≤ aa
   rotate_left
   ·rw [if_neg c5] at H
    exact absurd H (by simp)
   rw [if_pos c5] at H;have av := decide_eq_true c5;clear c5
   by_cases c6 : aa < (l0.length : Int)
   rotate_left
   ·rw [if_neg c6] at H
    exact absurd H (by simp)
   rw [if_pos c6] at H;have aw := decide_eq_true c6;clear c6
   by_cases c7 : aa < (l1.length : Int)
   rotate_left
   ·rw [if_neg c7] at H
    exact absurd H (by simp)
   rw [if_pos c7] at H;have ax := decide_eq_true c7;clear c7
   by_cases c8 : (rd l0 aa) = (rd l1 aa)
   rotate_left
   ·rw [if_neg c8] at H
    have ar := beq_eq_false_iff_ne.mpr c8;have au := bne_iff_ne.mpr c8;obtain rfl := Option.some.inj H;have ab : 0 ≤ (aa : Int) := od;have ad : aa < (l0.length : Int) := od;obtain ⟨ao, ai, ag⟩ := Kd.at_int HR0.out aa ab ad;cases ai;replace ab := eq_true ab; replace ad := eq_true ad;have ae : 0 ≤ (aa : Int) := od;have af : aa < (l1.length : Int) := od;obtain ⟨ap, aj, ah⟩ := Kd.at_int HR1.out aa ae af;cases aj;replace ae := eq_true ae; replace af := eq_true af;go_wp2
    repeat (go_quiet (fail); try go_wp2)
    go_ret;exact ⟨et, by repeat (first | exact Drawn0.refl _ | apply Drawn0.step)⟩
   rw [if_pos c8] at H;have ar := beq_iff_eq.mpr c8;have au := bne_eq_false_iff_eq.mpr c8;clear c8;have H' := Aside0.mk H;clear H;have ab : 0 ≤ (aa : Int) := od;have ad : aa < (l0.length : Int) := od;obtain ⟨ao, ai, ag⟩ := Kd.at_int HR0.out aa ab ad;cases ai;replace ab := eq_true ab; replace ad := eq_true ad;have ae : 0 ≤ (aa : Int) := od;have af : aa < (l1.length : Int) := od;obtain ⟨ap, aj, ah⟩ := Kd.at_int HR1.out aa ae af;cases aj;replace ae := eq_true ae; replace af := eq_true af;go_wp2
   repeat (go_quiet (fail); try go_wp2)
   go_roundg k1
   case measure => have := HK1.out; omega
   case rel => exact ⟨(wrap64 (aa + 1)), et, H', ⟨by have := HK1.out; omega⟩, by repeat (first | exact Drawn0.refl _ | apply Drawn0.step)⟩
end Go.Proofs.Ytmlbliggbkfjnaa.J
namespace Go.Proofs.Ytmlbliggbkfjnaa.J
open Go.RowKit Go.Proofs.YtmlbliggbkfjnaaW.PrintWords Go.Proofs.YtmlbliggbkfjnaaW.PrintLast Go.Proofs.YtmlbliggbkfjnaaW.PrintMore
attribute [local go_sem] max2_int min2_int max_two min_two max_three min_three max_four min_four
attribute [local go_sem high] eqA61 eqA64
mutual
def qba.j0 : Nat → Bool → List (S64) → List (S61) → List (S66) → List (S64) → List (S61) → List (S66) → Option (Bool)
 | 0, _, _, _, _, _, _, _ => none
 | k + 1, x32, ad, aa, ae, af, ab, ag => if x32 = true then (some false) else (qba.l0 k (ad.length : Int) 0 ad aa ae af ab ag)
def qba.l0 : Nat → Int → Int → List (S64) → List (S61) → List (S66) → List (S64) → List (S61) → List (S66) → Option (Bool)
 | 0, _, _, _, _, _, _, _, _ => none
 | k + 1, x35, x36, ad, aa, ae, af, ab, ag => if x36 < x35 then (if 0 ≤ x36 then (if x36 < (ad.length : Int) then (if x36 < (af.length : Int) then (if (!(((rd_T64 ad x36).f0) == ((rd_T64 af x36).f0)) || (!(((rd_T64 ad x36).f1) == ((rd_T64 af x36).f1)))) = true then (some false) else (qba.l0 k x35 (wrap64 (x36 + 1)) ad aa ae af ab ag)) else (none)) else (none)) else (none)) else (qba.l1 k (aa.length : Int) 0 ad aa ae af ab ag)
def qba.l1 : Nat → Int → Int → List (S64) → List (S61) → List (S66) → List (S64) → List (S61) → List (S66) → Option (Bool)
 | 0, _, _, _, _, _, _, _, _ => none
 | k + 1, x53, x54, ad, aa, ae, af, ab, ag => if x54 < x53 then (if 0 ≤ x54 then (if x54 < (aa.length : Int) then (if x54 < (ab.length : Int) then (if (!(((rd_T61 aa x54).f0) == ((rd_T61 ab x54).f0)) || (!(((rd_T61 aa x54).f1) == ((rd_T61 ab x54).f1)) || (!(((rd_T61 aa x54).f2) == ((rd_T61 ab x54).f2)) || (!(((rd_T61 aa x54).f3) == ((rd_T61 ab x54).f3)))))) = true then (some false) else (qba.l1 k x53 (wrap64 (x54 + 1)) ad aa ae af ab ag)) else (none)) else (none)) else (none)) else (qba.l2 k (ae.length : Int) 0 ad aa ae af ab ag)
def qba.l2 : Nat → Int → Int → List (S64) → List (S61) → List (S66) → List (S64) → List (S61) → List (S66) → Option (Bool)
 | 0, _, _, _, _, _, _, _, _ => none
 | k + 1, x71, x72, ad, aa, ae, af, ab, ag => if x72 < x71 then (if 0 ≤ x72 then (if x72 < (ae.length : Int) then (if x72 < (ag.length : Int) then ((qea.f k ((rd_T66 ae x72).f0) ((rd_T66 ag x72).f0)).bind fun ah => (if ah = true then ((qea.f k ((rd_T66 ae x72).f1) ((rd_T66 ag x72).f1)).bind fun ai => (if ai = true then (qba.l2 k x71 (wrap64 (x72 + 1)) ad aa ae af ab ag) else (some false))) else (some false))) else (none)) else (none)) else (none)) else (some true)
end
def qba.f (k : Nat) (aa : List (S64)) (ab : List (S61)) (ad : List (S66)) (ae : List (S64)) (af : List (S61)) (ag : List (S66)) : Option (Bool) := if (aa.length : Int) = (ae.length : Int) then (if (ab.length : Int) = (af.length : Int) then (qba.j0 k ((ad.length : Int) != (ag.length : Int)) aa ab ad ae af ag) else (qba.j0 k true aa ab ad ae af ag)) else (qba.j0 k true aa ab ad ae af ag)
theorem qba.mono_l : ∀ k, (∀ y0 y1 y2 y3 y4 y5 y6, LeO (qba.j0 k y0 y1 y2 y3 y4 y5 y6) (qba.j0 (k + 1) y0 y1 y2 y3 y4 y5 y6)) ∧ (∀ y0 y1 y2 y3 y4 y5 y6 y7, LeO (qba.l0 k y0 y1 y2 y3 y4 y5 y6 y7) (qba.l0 (k + 1) y0 y1 y2 y3 y4 y5 y6 y7)) ∧ (∀ y0 y1 y2 y3 y4 y5 y6 y7, LeO (qba.l1 k y0 y1 y2 y3 y4 y5 y6 y7) (qba.l1 (k + 1) y0 y1 y2 y3 y4 y5 y6 y7)) ∧ (∀ y0 y1 y2 y3 y4 y5 y6 y7, LeO (qba.l2 k y0 y1 y2 y3 y4 y5 y6 y7) (qba.l2 (k + 1) y0 y1 y2 y3 y4 y5 y6 y7))
 | 0 => ⟨fun _ _ _ _ _ _ _ r h => by simp [qba.j0] at h, fun _ _ _ _ _ _ _ _ r h => by simp [qba.l0] at h, fun _ _ _ _ _ _ _ _ r h => by simp [qba.l1] at h, fun _ _ _ _ _ _ _ _ r h => by simp [qba.l2] at h⟩
 | k + 1 => by
  obtain ⟨ih0, ih1, ih2, ih3⟩ := qba.mono_l k;refine ⟨?_, ?_, ?_, ?_⟩
  ·intro y0 y1 y2 y3 y4 y5 y6
   unfold qba.j0
   repeat' first
   | (with_reducible exact ih0 _ _ _ _ _ _ _)
   | (with_reducible exact ih1 _ _ _ _ _ _ _ _)
   | (with_reducible exact ih2 _ _ _ _ _ _ _ _)
   | (with_reducible exact ih3 _ _ _ _ _ _ _ _)
   | (with_reducible exact qea.mono _ _ _)
   | (with_reducible exact LeO.refl _)
   | (with_reducible exact LeO.none _)
   | (with_reducible refine LeO.ite ?_ ?_)
   | (with_reducible refine LeO.bind ?_ (fun _ => ?_))
   | exact ih0 _ _ _ _ _ _ _
   | exact ih1 _ _ _ _ _ _ _ _
   | exact ih2 _ _ _ _ _ _ _ _
   | exact ih3 _ _ _ _ _ _ _ _
   | exact qea.mono _ _ _
   | exact LeO.none _
   | refine LeO.ite ?_ ?_
   | refine LeO.bind ?_ (fun _ => ?_)
  ·intro y0 y1 y2 y3 y4 y5 y6 y7
   unfold qba.l0
   repeat' first
   | (with_reducible exact ih0 _ _ _ _ _ _ _)
   | (with_reducible exact ih1 _ _ _ _ _ _ _ _)
   | (with_reducible exact ih2 _ _ _ _ _ _ _ _)
   | (with_reducible exact ih3 _ _ _ _ _ _ _ _)
   | (with_reducible exact qea.mono _ _ _)
   | (with_reducible exact LeO.refl _)
   | (with_reducible exact LeO.none _)
   | (with_reducible refine LeO.ite ?_ ?_)
   | (with_reducible refine LeO.bind ?_ (fun _ => ?_))
   | exact ih0 _ _ _ _ _ _ _
   | exact ih1 _ _ _ _ _ _ _ _
   | exact ih2 _ _ _ _ _ _ _ _
   | exact ih3 _ _ _ _ _ _ _ _
   | exact qea.mono _ _ _
   | exact LeO.none _
   | refine LeO.ite ?_ ?_
   | refine LeO.bind ?_ (fun _ => ?_)
  ·intro y0 y1 y2 y3 y4 y5 y6 y7
   unfold qba.l1
   repeat' first
   | (with_reducible exact ih0 _ _ _ _ _ _ _)
   | (with_reducible exact ih1 _ _ _ _ _ _ _ _)
   | (with_reducible exact ih2 _ _ _ _ _ _ _ _)
   | (with_reducible exact ih3 _ _ _ _ _ _ _ _)
   | (with_reducible exact qea.mono _ _ _)
   | (with_reducible exact LeO.refl _)
   | (with_reducible exact LeO.none _)
   | (with_reducible refine LeO.ite ?_ ?_)
   | (with_reducible refine LeO.bind ?_ (fun _ => ?_))
   | exact ih0 _ _ _ _ _ _ _
   | exact ih1 _ _ _ _ _ _ _ _
   | exact ih2 _ _ _ _ _ _ _ _
   | exact ih3 _ _ _ _ _ _ _ _
   | exact qea.mono _ _ _
   | exact LeO.none _
   | refine LeO.ite ?_ ?_
   | refine LeO.bind ?_ (fun _ => ?_)
  ·intro y0 y1 y2 y3 y4 y5 y6 y7
   unfold qba.l2
   repeat' first
   | (with_reducible exact ih0 _ _ _ _ _ _ _)
   | (with_reducible exact ih1 _ _ _ _ _ _ _ _)
   | (with_reducible exact ih2 _ _ _ _ _ _ _ _)
   | (with_reducible exact ih3 _ _ _ _ _ _ _ _)
   | (with_reducible exact qea.mono _ _ _)
   | (with_reducible exact LeO.refl _)
   | (with_reducible exact LeO.none _)
   | (with_reducible refine LeO.ite ?_ ?_)
   | (with_reducible refine LeO.bind ?_ (fun _ => ?_))
   | exact ih0 _ _ _ _ _ _ _
   | exact ih1 _ _ _ _ _ _ _ _
   | exact ih2 _ _ _ _ _ _ _ _
   | exact ih3 _ _ _ _ _ _ _ _
   | exact qea.mono _ _ _
   | exact LeO.none _
   | refine LeO.ite ?_ ?_
   | refine LeO.bind ?_ (fun _ => ?_)
theorem qba.mono : ∀ a0 a1 a2 a3 a4 a5 k, LeO (qba.f k a0 a1 a2 a3 a4 a5) (qba.f (k + 1) a0 a1 a2 a3 a4 a5) := by
 intro a0 a1 a2 a3 a4 a5 k;obtain ⟨ih0, ih1, ih2, ih3⟩ := qba.mono_l k;unfold qba.f
 repeat' first
   | (with_reducible exact ih0 _ _ _ _ _ _ _)
   | (with_reducible exact ih1 _ _ _ _ _ _ _ _)
   | (with_reducible exact ih2 _ _ _ _ _ _ _ _)
   | (with_reducible exact ih3 _ _ _ _ _ _ _ _)
   | (with_reducible exact qea.mono _ _ _)
   | (with_reducible exact LeO.refl _)
   | (with_reducible exact LeO.none _)
   | (with_reducible refine LeO.ite ?_ ?_)
   | (with_reducible refine LeO.bind ?_ (fun _ => ?_))
   | exact ih0 _ _ _ _ _ _ _
   | exact ih1 _ _ _ _ _ _ _ _
   | exact ih2 _ _ _ _ _ _ _ _
   | exact ih3 _ _ _ _ _ _ _ _
   | exact qea.mono _ _ _
   | exact LeO.none _
   | refine LeO.ite ?_ ?_
   | refine LeO.bind ?_ (fun _ => ?_)
def qba.T6 : Bool × List (List Nat × List Nat) := (true, [([], []), ([0], [0]), ([], []), ([1, 2], [1, 2]), ([3], [3]), ([], []), ([5], [5]), ([], []), ([6, 7], [6, 7]), ([8], [8]), ([4, 9], [4, 9])])
def qba.B6 : List Nat := [0, 1, 0, 7, 15, 0, 32, 0, 224, 480, 1023]
theorem qba.tab6 : rtab .any (opsOf Try.f29 6) = qba.T6 := by kernel_rfl
theorem qba.bits6 : waitsOk qba.T6.2 qba.B6 = true := by kernel_rfl
def qba.T12 : Bool × List (List Nat × List Nat) := (true, [([], []), ([0], [0]), ([], []), ([1, 2], [1, 2]), ([3], [3]), ([], []), ([5], [5]), ([], []), ([6, 7], [6, 7]), ([8], [8]), ([4, 9], [4, 9])])
def qba.B12 : List Nat := [0, 1, 0, 7, 15, 0, 32, 0, 224, 480, 1023]
theorem qba.tab12 : rtab .any (opsOf Try.f29 12) = qba.T12 := by kernel_rfl
theorem qba.bits12 : waitsOk qba.T12.2 qba.B12 = true := by kernel_rfl
def qba.T18 : Bool × List (List Nat × List Nat) := (true, [([], []), ([0], [0]), ([], []), ([1, 2], [1, 2]), ([3], [3]), ([4], [4]), ([], []), ([6], [6]), ([], []), ([7, 8], [7, 8]), ([9], [9]), ([10], [10]), ([5, 11], [5, 11]), ([12], [12]), ([13, 12], [13]), ([14], [14]), ([15, 14], [14, 15]), ([14], [14]), ([16, 17, 14], [14, 16, 17]), ([18, 14], [14, 18]), ([19, 14], [14, 19]), ([14], [14]), ([21, 14], [14, 21]), ([14], [14]), ([22, 23, 14], [14, 22, 23]), ([24, 14], [14, 24]), ([25, 14], [14, 25]), ([20, 26, 14, 14], [14, 20, 26]), ([27, 14], [14, 27]), ([14, 28], [14, 28])])
def qba.B18 : List Nat := [0, 1, 0, 7, 15, 31, 0, 64, 0, 448, 960, 1984, 4095, 8191, 16383, 32767, 65535, 32767, 262143, 524287, 1048575, 32767, 2129919, 32767, 14712831, 31490047, 65044479, 134217727, 268435455, 536870911]
theorem qba.tab18 : rtab .any (opsOf Try.f29 18) = qba.T18 := by kernel_rfl
theorem qba.bits18 : waitsOk qba.T18.2 qba.B18 = true := by kernel_rfl
theorem qba.calls (k : Nat) (bI : Option Addr) (bo : Nat) (ap : List (S64)) (bJ : Option Addr) (bp : Nat) (ah : List (S61)) (bM : Option Addr) (bq : Nat) (ag : List (S66)) (bK : Option Addr) (br : Nat) (aq : List (S64)) (bL : Option Addr) (bt : Nat) (aj : List (S61)) (bN : Option Addr) (bu : Nat) (ai : List (S66)) (r : Bool) (w : World) (cH : Kd.C k64 w bI ap.length ap) (cI : ap.length ≤ bo) (cJ : Kd.C k61 w bJ ah.length ah) (cK : ah.length ≤ bp) (cL : Kd.C k66 w bM ag.length ag) (cM : ag.length ≤ bq) (cN : Kd.C k64 w bK aq.length aq) (cO : aq.length ≤ br) (cP : Kd.C k61 w bL aj.length aj) (cQ : aj.length ≤ bt) (cR : Kd.C k66 w bN ai.length ai) (cS : ai.length ≤ bu) (h : qba.f k ap ah ag aq aj ai = some r) :
  Calls Try.prog 29 #[.agg #[.slice bI ap.length bo, .slice bJ ah.length bp, .slice bM ag.length bq], .agg #[.slice bK aq.length br, .slice bL aj.length bt, .slice bN ai.length bu]] w fun e w' => e = .returned (.bool r) ∧ Below w.heap.size w w' := by
 have hu26 := Try.underlying26;have hu64 := Try.underlying64;have hu61 := Try.underlying61;have cT := Aside0.mk cH;have dB := Aside0.mk cI;clear cH cI;have cU := Aside0.mk cJ;have dC := Aside0.mk cK;clear cJ cK;have ci := Aside0.mk cL;have dD := Aside0.mk cM;clear cL cM;have cV := Aside0.mk cN;have dE := Aside0.mk cO;clear cN cO;have cW := Aside0.mk cP;have dF := Aside0.mk cQ;clear cP cQ;have cj := Aside0.mk cR;have dG := Aside0.mk cS;clear cR cS;have HB := Aside0.mk (Below.refl w.heap.size w);have H : (if (ap.length : Int) = (aq.length : Int) then (if (ah.length : Int) = (aj.length : Int) then (qba.j0 k ((ag.length : Int) != (ai.length : Int)) ap ah ag aq aj ai) else (qba.j0 k true ap ah ag aq aj ai)) else (qba.j0 k true ap ah ag aq aj ai)) = some r := h;clear h;have HC3 := Aside0.mk H;clear H;go_enter Try.func29, Try.ntmps29;go_upto_region 1 with (first | ((with_reducible refine gate_dst (N := 2) rfl ?_); (try (refine gate_guard (by rfl) ?_; dsimp only)); refine box_event ?hg (N := 2) ?hd (cs := #[.slice bI ap.length bo, .slice bJ ah.length bp, .slice bM ag.length bq]) (t := 26) ?hr ?_; (case hd => rfl); (case hg => rfl); (case hr => first | (go_simp; done) | (go_simp; rfl)); intro ar hg w4 hbox hb; have ad := am hbox; have dH := kG HB hg; have dI := kG HB hg; replace HB := kH HB hb; clear hb hbox hg) | ((with_reducible refine gate_dst (N := 3) rfl ?_); (try (refine gate_guard (by rfl) ?_; dsimp only)); refine box_event ?hg (N := 3) ?hd (cs := #[.slice bK aq.length br, .slice bL aj.length bt, .slice bN ai.length bu]) (t := 26) ?hr ?_; (case hd => rfl); (case hg => rfl); (case hr => first | (go_simp; done) | (go_simp; rfl)); intro au hg w5 hbox hb; have ae := am hbox; have dJ := kG HB hg; have dK := kG HB hg; replace HB := kH HB hb; have aT := kP ad hg; have aU := kQ ad hg; replace ad := kU ad hb; clear hb hbox hg));(try simp only [Act.put, qS1, qS2, qS3]);go_cut [32] (fun v32 wc => ∃ (kq : Nat) (cx : Bool), v32 = .bool cx ∧ Aside0 (qba.j0 kq cx ap ah ag aq aj ai = some r) ∧ Aside0 (kq ≤ k) ∧ Aside0 (wc.heap[ar]? = some (.cells #[(.slice bI ap.length bo), (.slice bJ ah.length bp), (.slice bM ag.length bq)] 26 (0, 0))) ∧ Aside0 (wc.heap[au]? = some (.cells #[(.slice bK aq.length br), (.slice bL aj.length bt), (.slice bN ai.length bu)] 26 (0, 0))) ∧ Aside0 (Below w.heap.size w wc))
 case first =>
  have H := HC3.out;clear HC3
  by_cases c6 : (ap.length : Int) = (aq.length : Int)
  rotate_left
  ·rw [if_neg c6] at H
   have cA := beq_eq_false_iff_ne.mpr c6;have du := bne_iff_ne.mpr c6
   have dv : (ap.length == aq.length) = false := by first | simpa using c6 | (simp at c6 ⊢; omega)
   (first | rw [cA] | (simp only [i64_w, i32_w]; rw [cA]) | skip);have H' := Aside0.mk H;clear H;have dL := aT.out;have dM := aU.out;have Z15 := kz3 ad;have Z16 := kz3 ae;go_wp2;go_meet
   case rel => exact ⟨_, (true), et, H', ⟨by first | omega | exact Nat.le_refl _⟩, ⟨kg ad⟩, ⟨kg ae⟩, ⟨kh HB⟩⟩
  rw [if_pos c6] at H;have cA := beq_iff_eq.mpr c6;have du := bne_eq_false_iff_eq.mpr c6
  have dv : (ap.length == aq.length) = true := by first | simpa using c6 | (simp at c6 ⊢; omega)
  clear c6;(first | rw [cA] | (simp only [i64_w, i32_w]; rw [cA]) | skip)
  by_cases c7 : (ah.length : Int) = (aj.length : Int)
  rotate_left
  ·rw [if_neg c7] at H
   have dw := beq_eq_false_iff_ne.mpr c7;have dx := bne_iff_ne.mpr c7
   have dy : (ah.length == aj.length) = false := by first | simpa using c7 | (simp at c7 ⊢; omega)
   have H' := Aside0.mk H;clear H;have dN := aT.out;have dO := aU.out;have Z12 := kz3 ad;have Z13 := kz3 ae;go_wp2;go_meet
   case rel => exact ⟨_, (true), et, H', ⟨by first | omega | exact Nat.le_refl _⟩, ⟨kg ad⟩, ⟨kg ae⟩, ⟨kh HB⟩⟩
  rw [if_pos c7] at H;have dw := beq_iff_eq.mpr c7;have dx := bne_eq_false_iff_eq.mpr c7
  have dy : (ah.length == aj.length) = true := by first | simpa using c7 | (simp at c7 ⊢; omega)
  clear c7;have H' := Aside0.mk H;clear H;have ee := aT.out;have ef := aU.out;have Z9 := kz3 ad;have Z10 := kz3 ae;go_wp2;go_meet
  case rel => exact ⟨_, (((ag.length : Int) != (ai.length : Int))), et, H', ⟨by first | omega | exact Nat.le_refl _⟩, ⟨kg ad⟩, ⟨kg ae⟩, ⟨kh HB⟩⟩
 clear HC3;obtain ⟨kq, cx, rfl, HA, HJ2, ad, ae, HB⟩ := hcut
 cases kq with
 | zero => exact absurd HA.out (by simp [qba.j0])
 | succ kj2 =>
  have H := HA.out;clear HA;simp only [qba.j0] at H
  by_cases c17 : cx = true
  ·subst c17
   replace H := ifT H;obtain rfl := Option.some.inj H;go_wp2;go_ret;exact ⟨er, kh HB⟩
  replace c17 := Bool.eq_false_iff.mpr c17;subst c17;replace H := ifF H;have H' := Aside0.mk H;clear H;have dP := aT.out;have dQ := aU.out;have Z19 := kz3 ad;go_wp2;go_loopg [36] kj2 (fun kq v36 w' => ∃ (af : Int), v36 = .int .i64 af ∧ Aside0 (qba.l0 kq (ap.length : Int) af ap ah ag aq aj ai = some r) ∧ Aside0 (kq ≤ kj2) ∧ Aside0 (w'.heap[ar]? = some (.cells #[(.slice bI ap.length bo), (.slice bJ ah.length bp), (.slice bM ag.length bq)] 26 (0, 0))) ∧ Aside0 (w'.heap[au]? = some (.cells #[(.slice bK aq.length br), (.slice bL aj.length bt), (.slice bN ai.length bu)] 26 (0, 0))) ∧ Aside0 (Below w.heap.size w w'))
  case atStart => exact ⟨(0), et, H', ⟨Nat.le_refl _⟩, ⟨kg ad⟩, ⟨kg ae⟩, ⟨kh HB⟩⟩
  case round =>
   clear H';(try clear c17 Z19);obtain ⟨af, rfl, HA, HK2, ad, ae, HB⟩ := hrel
   cases gk with
   | zero => exact absurd HA.out (by simp [qba.l0])
   | succ k2 =>
    have H := HA.out;clear HA;simp only [qba.l0] at H
    by_cases c20 : af < (ap.length : Int)
    ·rw [if_pos c20] at H
     have cX := decide_eq_true c20;clear c20
     by_cases c21 : 0 ≤ af
     rotate_left
     ·rw [if_neg c21] at H
      exact absurd H (by simp)
     rw [if_pos c21] at H;have dR := decide_eq_true c21;clear c21
     by_cases c22 : af < (ap.length : Int)
     rotate_left
     ·rw [if_neg c22] at H
      exact absurd H (by simp)
     rw [if_pos c22] at H;have dS := decide_eq_true c22;clear c22
     by_cases c23 : af < (aq.length : Int)
     rotate_left
     ·rw [if_neg c23] at H
      exact absurd H (by simp)
     rw [if_pos c23] at H;have dT := decide_eq_true c23;clear c23
     by_cases c24 : (!(((rd_T64 ap af).f0) == ((rd_T64 aq af).f0)) || (!(((rd_T64 ap af).f1) == ((rd_T64 aq af).f1)))) = true
     ·rw [if_pos c24] at H
      have dn : (!(((rd_T64 ap af).f0) == ((rd_T64 aq af).f0)) || (!(((rd_T64 ap af).f1) == ((rd_T64 aq af).f1)))) = true := c24;clear c24;obtain rfl := Option.some.inj H;(try go_wp2);replace ad := kD ad; replace ae := kD ae; replace HB := kE HB;have ck : 0 ≤ (af : Int) := od;have cl : af < (ap.length : Int) := od;obtain ⟨bv, cZ, aB, aC⟩ := at_T64 cT.out af ck cl;have bS := aC; have bT := aB;cases cZ;replace aB := (HB.out.cell (World.block_lt_of_cell? w _ aB)).trans aB;replace aC := (HB.out.cell (World.block_lt_of_cell? w _ aC)).trans aC;replace ck := eq_true ck; replace cl := eq_true cl;have cm : 0 ≤ (af : Int) := od;have cn : af < (aq.length : Int) := od;obtain ⟨bw, da, aD, aE⟩ := at_T64 cV.out af cm cn;have bU := aE; have bV := aD;cases da;replace aD := (HB.out.cell (World.block_lt_of_cell? w _ aD)).trans aD;replace aE := (HB.out.cell (World.block_lt_of_cell? w _ aE)).trans aE;replace cm := eq_true cm; replace cn := eq_true cn;refine start_ (n := 11) (S := fun w' => w'.cell? ⟨ar, 0, none⟩ = some (.slice (some bv) ap.length bo) ∧ w'.cell? ⟨ar, 1, none⟩ = some (.slice bJ ah.length bp) ∧ w'.cell? ⟨ar, 2, none⟩ = some (.slice bM ag.length bq) ∧ w'.cell? ⟨au, 0, none⟩ = some (.slice (some bw) aq.length br) ∧ w'.cell? ⟨au, 1, none⟩ = some (.slice bL aj.length bt) ∧ w'.cell? ⟨au, 2, none⟩ = some (.slice bN ai.length bu) ∧ w'.cell? (bv.add ((af).toNat * 2)) = some (.int .i64 ((rd_T64 ap af).f0)) ∧ w'.cell? ⟨(bv.add ((af).toNat * 2)).block, (bv.add ((af).toNat * 2)).off + 1, none⟩ = some (.bool ((rd_T64 ap af).f1)) ∧ w'.cell? (bw.add ((af).toNat * 2)) = some (.int .i64 ((rd_T64 aq af).f0)) ∧ w'.cell? ⟨(bw.add ((af).toNat * 2)).block, (bw.add ((af).toNat * 2)).off + 1, none⟩ = some (.bool ((rd_T64 aq af).f1))) (ds := []) (bs 11 0) (by kernel_rfl) rfl rfl ⟨kk ad 0, kk ad 1, kk ad 2, kk ae 0, kk ae 1, kk ae 2, (kq HB bT), (kq HB bS), (kq HB bV), (kq HB bU)⟩ (fun hHeld => ?_); refine with_tabW qba.tab6 qba.bits6 (fun HT_ HW_ => ?_);generalize wr.drew = w25 at ad ae HB aB aC aD aE hHeld ⊢;refine pu 0 (some 39) (bs 11 1) HT_ ?_;refine pu 2 (some 41) (bs 11 5) HT_ ?_;refine pu 5 (some 44) (bs 11 37) HT_ ?_;refine pu 7 (some 46) (bs 11 165) HT_ ?_;refine ta 1 (some 40) (bs 11 167) HT_ HW_ hHeld ?_;refine pu 3 (some 42) (bs 11 175) HT_ ?_;refine ta 4 (some 43) (bs 11 191) HT_ HW_ hHeld ?_;refine ta 6 (some 45) (bs 11 255) HT_ HW_ hHeld ?_;refine pu 8 (some 47) (bs 11 511) HT_ ?_;refine ta 9 (some 48) (bs 11 1023) HT_ HW_ hHeld ?_;refine pu 10 (some 49) (bs 11 2047) HT_ ?_;refine done_ (done_of HT_.out (by kernel_rfl)) ?_;(try go_wp2);go_ret;exact ⟨er, kh HB⟩
     rw [if_neg c24] at H
     have dn : (!(((rd_T64 ap af).f0) == ((rd_T64 aq af).f0)) || (!(((rd_T64 ap af).f1) == ((rd_T64 aq af).f1)))) = false := by simpa using c24
     clear c24;have H' := Aside0.mk H;clear H;(try go_wp2);replace ad := kD ad; replace ae := kD ae; replace HB := kE HB;have ck : 0 ≤ (af : Int) := od;have cl : af < (ap.length : Int) := od;obtain ⟨bv, cZ, aB, aC⟩ := at_T64 cT.out af ck cl;have bS := aC; have bT := aB;cases cZ;replace aB := (HB.out.cell (World.block_lt_of_cell? w _ aB)).trans aB;replace aC := (HB.out.cell (World.block_lt_of_cell? w _ aC)).trans aC;replace ck := eq_true ck; replace cl := eq_true cl;have cm : 0 ≤ (af : Int) := od;have cn : af < (aq.length : Int) := od;obtain ⟨bw, da, aD, aE⟩ := at_T64 cV.out af cm cn;have bU := aE; have bV := aD;cases da;replace aD := (HB.out.cell (World.block_lt_of_cell? w _ aD)).trans aD;replace aE := (HB.out.cell (World.block_lt_of_cell? w _ aE)).trans aE;replace cm := eq_true cm; replace cn := eq_true cn;refine start_ (n := 11) (S := fun w' => w'.cell? ⟨ar, 0, none⟩ = some (.slice (some bv) ap.length bo) ∧ w'.cell? ⟨ar, 1, none⟩ = some (.slice bJ ah.length bp) ∧ w'.cell? ⟨ar, 2, none⟩ = some (.slice bM ag.length bq) ∧ w'.cell? ⟨au, 0, none⟩ = some (.slice (some bw) aq.length br) ∧ w'.cell? ⟨au, 1, none⟩ = some (.slice bL aj.length bt) ∧ w'.cell? ⟨au, 2, none⟩ = some (.slice bN ai.length bu) ∧ w'.cell? (bv.add ((af).toNat * 2)) = some (.int .i64 ((rd_T64 ap af).f0)) ∧ w'.cell? ⟨(bv.add ((af).toNat * 2)).block, (bv.add ((af).toNat * 2)).off + 1, none⟩ = some (.bool ((rd_T64 ap af).f1)) ∧ w'.cell? (bw.add ((af).toNat * 2)) = some (.int .i64 ((rd_T64 aq af).f0)) ∧ w'.cell? ⟨(bw.add ((af).toNat * 2)).block, (bw.add ((af).toNat * 2)).off + 1, none⟩ = some (.bool ((rd_T64 aq af).f1))) (ds := []) (bs 11 0) (by kernel_rfl) rfl rfl ⟨kk ad 0, kk ad 1, kk ad 2, kk ae 0, kk ae 1, kk ae 2, (kq HB bT), (kq HB bS), (kq HB bV), (kq HB bU)⟩ (fun hHeld => ?_); refine with_tabW qba.tab6 qba.bits6 (fun HT_ HW_ => ?_);generalize wr.drew = w26 at ad ae HB aB aC aD aE hHeld ⊢;refine pu 0 (some 39) (bs 11 1) HT_ ?_;refine pu 2 (some 41) (bs 11 5) HT_ ?_;refine pu 5 (some 44) (bs 11 37) HT_ ?_;refine pu 7 (some 46) (bs 11 165) HT_ ?_;refine ta 1 (some 40) (bs 11 167) HT_ HW_ hHeld ?_;refine pu 3 (some 42) (bs 11 175) HT_ ?_;refine ta 4 (some 43) (bs 11 191) HT_ HW_ hHeld ?_;refine ta 6 (some 45) (bs 11 255) HT_ HW_ hHeld ?_;refine pu 8 (some 47) (bs 11 511) HT_ ?_;refine ta 9 (some 48) (bs 11 1023) HT_ HW_ hHeld ?_;refine pu 10 (some 49) (bs 11 2047) HT_ ?_;refine done_ (done_of HT_.out (by kernel_rfl)) ?_;(try go_wp2);go_roundg k2
     case measure => have := HJ2.out; have := HK2.out; omega
     case rel => exact ⟨(wrap64 (af + 1)), et, H', ⟨by have := HJ2.out; have := HK2.out; omega⟩, ⟨kg ad⟩, ⟨kg ae⟩, ⟨kh HB⟩⟩
    rw [if_neg c20] at H;have cX := decide_eq_false c20;clear c20;have H' := Aside0.mk H;clear H;have dU := aT.out;have dV := aU.out;have Z28 := kz3 ad;go_wp2;go_loopg [54] k2 (fun kq v54 w' => ∃ (ab : Int), v54 = .int .i64 ab ∧ Aside0 (qba.l1 kq (ah.length : Int) ab ap ah ag aq aj ai = some r) ∧ Aside0 (kq ≤ k2) ∧ Aside0 (w'.heap[ar]? = some (.cells #[(.slice bI ap.length bo), (.slice bJ ah.length bp), (.slice bM ag.length bq)] 26 (0, 0))) ∧ Aside0 (w'.heap[au]? = some (.cells #[(.slice bK aq.length br), (.slice bL aj.length bt), (.slice bN ai.length bu)] 26 (0, 0))) ∧ Aside0 (Below w.heap.size w w'))
    case atStart => exact ⟨(0), et, H', ⟨Nat.le_refl _⟩, ⟨kg ad⟩, ⟨kg ae⟩, ⟨kh HB⟩⟩
    case round =>
     clear H';(try clear cX c21 Z28);obtain ⟨ab, rfl, HA, HK3, ad, ae, HB⟩ := hrel
     cases gk with
     | zero => exact absurd HA.out (by simp [qba.l1])
     | succ k3 =>
      have H := HA.out;clear HA;simp only [qba.l1] at H
      by_cases c29 : ab < (ah.length : Int)
      ·rw [if_pos c29] at H
       have cY := decide_eq_true c29;clear c29
       by_cases c30 : 0 ≤ ab
       rotate_left
       ·rw [if_neg c30] at H
        exact absurd H (by simp)
       rw [if_pos c30] at H;have dW := decide_eq_true c30;clear c30
       by_cases c31 : ab < (ah.length : Int)
       rotate_left
       ·rw [if_neg c31] at H
        exact absurd H (by simp)
       rw [if_pos c31] at H;have dX := decide_eq_true c31;clear c31
       by_cases c32 : ab < (aj.length : Int)
       rotate_left
       ·rw [if_neg c32] at H
        exact absurd H (by simp)
       rw [if_pos c32] at H;have dY := decide_eq_true c32;clear c32
       by_cases c33 : (!(((rd_T61 ah ab).f0) == ((rd_T61 aj ab).f0)) || (!(((rd_T61 ah ab).f1) == ((rd_T61 aj ab).f1)) || (!(((rd_T61 ah ab).f2) == ((rd_T61 aj ab).f2)) || (!(((rd_T61 ah ab).f3) == ((rd_T61 aj ab).f3)))))) = true
       ·rw [if_pos c33] at H
        have dp : (!(((rd_T61 ah ab).f0) == ((rd_T61 aj ab).f0)) || (!(((rd_T61 ah ab).f1) == ((rd_T61 aj ab).f1)) || (!(((rd_T61 ah ab).f2) == ((rd_T61 aj ab).f2)) || (!(((rd_T61 ah ab).f3) == ((rd_T61 aj ab).f3)))))) = true := c33;clear c33;obtain rfl := Option.some.inj H;(try go_wp2);replace ad := kD ad; replace ae := kD ae; replace HB := kE HB;have co : 0 ≤ (ab : Int) := od;have cp : ab < (ah.length : Int) := od;obtain ⟨aR, db, aF, aG, aH, aI⟩ := at_T61 cU.out ab co cp;have bW := aI; have bX := aH; have bY := aG; have bZ := aF;cases db;replace aF := (HB.out.cell (World.block_lt_of_cell? w _ aF)).trans aF;replace aG := (HB.out.cell (World.block_lt_of_cell? w _ aG)).trans aG;replace aH := (HB.out.cell (World.block_lt_of_cell? w _ aH)).trans aH;replace aI := (HB.out.cell (World.block_lt_of_cell? w _ aI)).trans aI;replace co := eq_true co; replace cp := eq_true cp;have cq : 0 ≤ (ab : Int) := od;have cr : ab < (aj.length : Int) := od;obtain ⟨aS, dc, aJ, aK, aL, aM⟩ := at_T61 cW.out ab cq cr;have ca := aM; have cb := aL; have cc := aK; have cd := aJ;cases dc;replace aJ := (HB.out.cell (World.block_lt_of_cell? w _ aJ)).trans aJ;replace aK := (HB.out.cell (World.block_lt_of_cell? w _ aK)).trans aK;replace aL := (HB.out.cell (World.block_lt_of_cell? w _ aL)).trans aL;replace aM := (HB.out.cell (World.block_lt_of_cell? w _ aM)).trans aM;replace cq := eq_true cq; replace cr := eq_true cr;refine start_ (n := 11) (S := fun w' => w'.cell? ⟨ar, 0, none⟩ = some (.slice bI ap.length bo) ∧ w'.cell? ⟨ar, 1, none⟩ = some (.slice (some aR) ah.length bp) ∧ w'.cell? ⟨ar, 2, none⟩ = some (.slice bM ag.length bq) ∧ w'.cell? ⟨au, 0, none⟩ = some (.slice bK aq.length br) ∧ w'.cell? ⟨au, 1, none⟩ = some (.slice (some aS) aj.length bt) ∧ w'.cell? ⟨au, 2, none⟩ = some (.slice bN ai.length bu) ∧ w'.cell? (aR.add ((ab).toNat * 4)) = some (.int .i64 ((rd_T61 ah ab).f0)) ∧ w'.cell? ⟨(aR.add ((ab).toNat * 4)).block, (aR.add ((ab).toNat * 4)).off + 1, none⟩ = some (.int .i64 ((rd_T61 ah ab).f1)) ∧ w'.cell? ⟨(aR.add ((ab).toNat * 4)).block, (aR.add ((ab).toNat * 4)).off + 2, none⟩ = some (.int .i64 ((rd_T61 ah ab).f2)) ∧ w'.cell? ⟨(aR.add ((ab).toNat * 4)).block, (aR.add ((ab).toNat * 4)).off + 3, none⟩ = some (.int .u64 ((rd_T61 ah ab).f3)) ∧ w'.cell? (aS.add ((ab).toNat * 4)) = some (.int .i64 ((rd_T61 aj ab).f0)) ∧ w'.cell? ⟨(aS.add ((ab).toNat * 4)).block, (aS.add ((ab).toNat * 4)).off + 1, none⟩ = some (.int .i64 ((rd_T61 aj ab).f1)) ∧ w'.cell? ⟨(aS.add ((ab).toNat * 4)).block, (aS.add ((ab).toNat * 4)).off + 2, none⟩ = some (.int .i64 ((rd_T61 aj ab).f2)) ∧ w'.cell? ⟨(aS.add ((ab).toNat * 4)).block, (aS.add ((ab).toNat * 4)).off + 3, none⟩ = some (.int .u64 ((rd_T61 aj ab).f3))) (ds := []) (bs 11 0) (by kernel_rfl) rfl rfl ⟨kk ad 0, kk ad 1, kk ad 2, kk ae 0, kk ae 1, kk ae 2, (kq HB bZ), (kq HB bY), (kq HB bX), (kq HB bW), (kq HB cd), (kq HB cc), (kq HB cb), (kq HB ca)⟩ (fun hHeld => ?_); refine with_tabW qba.tab12 qba.bits12 (fun HT_ HW_ => ?_);generalize wr.drew = w34 at ad ae HB aF aG aH aI aJ aK aL aM hHeld ⊢;refine pu 0 (some 57) (bs 11 1) HT_ ?_;refine pu 2 (some 59) (bs 11 5) HT_ ?_;refine pu 5 (some 62) (bs 11 37) HT_ ?_;refine pu 7 (some 64) (bs 11 165) HT_ ?_;refine ta 1 (some 58) (bs 11 167) HT_ HW_ hHeld ?_;refine pu 3 (some 60) (bs 11 175) HT_ ?_;refine ta 4 (some 61) (bs 11 191) HT_ HW_ hHeld ?_;refine ta 6 (some 63) (bs 11 255) HT_ HW_ hHeld ?_;refine pu 8 (some 65) (bs 11 511) HT_ ?_;refine ta 9 (some 66) (bs 11 1023) HT_ HW_ hHeld ?_;refine pu 10 (some 67) (bs 11 2047) HT_ ?_;refine done_ (done_of HT_.out (by kernel_rfl)) ?_;(try go_wp2);go_ret;exact ⟨er, kh HB⟩
       rw [if_neg c33] at H
       have dp : (!(((rd_T61 ah ab).f0) == ((rd_T61 aj ab).f0)) || (!(((rd_T61 ah ab).f1) == ((rd_T61 aj ab).f1)) || (!(((rd_T61 ah ab).f2) == ((rd_T61 aj ab).f2)) || (!(((rd_T61 ah ab).f3) == ((rd_T61 aj ab).f3)))))) = false := by simpa using c33
       clear c33;have H' := Aside0.mk H;clear H;(try go_wp2);replace ad := kD ad; replace ae := kD ae; replace HB := kE HB;have co : 0 ≤ (ab : Int) := od;have cp : ab < (ah.length : Int) := od;obtain ⟨aR, db, aF, aG, aH, aI⟩ := at_T61 cU.out ab co cp;have bW := aI; have bX := aH; have bY := aG; have bZ := aF;cases db;replace aF := (HB.out.cell (World.block_lt_of_cell? w _ aF)).trans aF;replace aG := (HB.out.cell (World.block_lt_of_cell? w _ aG)).trans aG;replace aH := (HB.out.cell (World.block_lt_of_cell? w _ aH)).trans aH;replace aI := (HB.out.cell (World.block_lt_of_cell? w _ aI)).trans aI;replace co := eq_true co; replace cp := eq_true cp;have cq : 0 ≤ (ab : Int) := od;have cr : ab < (aj.length : Int) := od;obtain ⟨aS, dc, aJ, aK, aL, aM⟩ := at_T61 cW.out ab cq cr;have ca := aM; have cb := aL; have cc := aK; have cd := aJ;cases dc;replace aJ := (HB.out.cell (World.block_lt_of_cell? w _ aJ)).trans aJ;replace aK := (HB.out.cell (World.block_lt_of_cell? w _ aK)).trans aK;replace aL := (HB.out.cell (World.block_lt_of_cell? w _ aL)).trans aL;replace aM := (HB.out.cell (World.block_lt_of_cell? w _ aM)).trans aM;replace cq := eq_true cq; replace cr := eq_true cr;refine start_ (n := 11) (S := fun w' => w'.cell? ⟨ar, 0, none⟩ = some (.slice bI ap.length bo) ∧ w'.cell? ⟨ar, 1, none⟩ = some (.slice (some aR) ah.length bp) ∧ w'.cell? ⟨ar, 2, none⟩ = some (.slice bM ag.length bq) ∧ w'.cell? ⟨au, 0, none⟩ = some (.slice bK aq.length br) ∧ w'.cell? ⟨au, 1, none⟩ = some (.slice (some aS) aj.length bt) ∧ w'.cell? ⟨au, 2, none⟩ = some (.slice bN ai.length bu) ∧ w'.cell? (aR.add ((ab).toNat * 4)) = some (.int .i64 ((rd_T61 ah ab).f0)) ∧ w'.cell? ⟨(aR.add ((ab).toNat * 4)).block, (aR.add ((ab).toNat * 4)).off + 1, none⟩ = some (.int .i64 ((rd_T61 ah ab).f1)) ∧ w'.cell? ⟨(aR.add ((ab).toNat * 4)).block, (aR.add ((ab).toNat * 4)).off + 2, none⟩ = some (.int .i64 ((rd_T61 ah ab).f2)) ∧ w'.cell? ⟨(aR.add ((ab).toNat * 4)).block, (aR.add ((ab).toNat * 4)).off + 3, none⟩ = some (.int .u64 ((rd_T61 ah ab).f3)) ∧ w'.cell? (aS.add ((ab).toNat * 4)) = some (.int .i64 ((rd_T61 aj ab).f0)) ∧ w'.cell? ⟨(aS.add ((ab).toNat * 4)).block, (aS.add ((ab).toNat * 4)).off + 1, none⟩ = some (.int .i64 ((rd_T61 aj ab).f1)) ∧ w'.cell? ⟨(aS.add ((ab).toNat * 4)).block, (aS.add ((ab).toNat * 4)).off + 2, none⟩ = some (.int .i64 ((rd_T61 aj ab).f2)) ∧ w'.cell? ⟨(aS.add ((ab).toNat * 4)).block, (aS.add ((ab).toNat * 4)).off + 3, none⟩ = some (.int .u64 ((rd_T61 aj ab).f3))) (ds := []) (bs 11 0) (by kernel_rfl) rfl rfl ⟨kk ad 0, kk ad 1, kk ad 2, kk ae 0, kk ae 1, kk ae 2, (kq HB bZ), (kq HB bY), (kq HB bX), (kq HB bW), (kq HB cd), (kq HB cc), (kq HB cb), (kq HB ca)⟩ (fun hHeld => ?_); refine with_tabW qba.tab12 qba.bits12 (fun HT_ HW_ => ?_);generalize wr.drew = w35 at ad ae HB aF aG aH aI aJ aK aL aM hHeld ⊢;refine pu 0 (some 57) (bs 11 1) HT_ ?_;refine pu 2 (some 59) (bs 11 5) HT_ ?_;refine pu 5 (some 62) (bs 11 37) HT_ ?_;refine pu 7 (some 64) (bs 11 165) HT_ ?_;refine ta 1 (some 58) (bs 11 167) HT_ HW_ hHeld ?_;refine pu 3 (some 60) (bs 11 175) HT_ ?_;refine ta 4 (some 61) (bs 11 191) HT_ HW_ hHeld ?_;refine ta 6 (some 63) (bs 11 255) HT_ HW_ hHeld ?_;refine pu 8 (some 65) (bs 11 511) HT_ ?_;refine ta 9 (some 66) (bs 11 1023) HT_ HW_ hHeld ?_;refine pu 10 (some 67) (bs 11 2047) HT_ ?_;refine done_ (done_of HT_.out (by kernel_rfl)) ?_;(try go_wp2);go_roundg k3
       case measure => have := HJ2.out; have := HK2.out; have := HK3.out; omega
       case rel => exact ⟨(wrap64 (ab + 1)), et, H', ⟨by have := HJ2.out; have := HK2.out; have := HK3.out; omega⟩, ⟨kg ad⟩, ⟨kg ae⟩, ⟨kh HB⟩⟩
      rw [if_neg c29] at H;have cY := decide_eq_false c29;clear c29;have H' := Aside0.mk H;clear H;have dZ := aT.out;have ea := aU.out;have Z37 := kz3 ad;go_wp2;go_loopg [72] k3 (fun kq v72 w' => ∃ (aa : Int), v72 = .int .i64 aa ∧ Aside0 (qba.l2 kq (ag.length : Int) aa ap ah ag aq aj ai = some r) ∧ Aside0 (kq ≤ k3) ∧ Aside0 (w'.heap[ar]? = some (.cells #[(.slice bI ap.length bo), (.slice bJ ah.length bp), (.slice bM ag.length bq)] 26 (0, 0))) ∧ Aside0 (w'.heap[au]? = some (.cells #[(.slice bK aq.length br), (.slice bL aj.length bt), (.slice bN ai.length bu)] 26 (0, 0))) ∧ Aside0 (Below w.heap.size w w'))
      case atStart => exact ⟨(0), et, H', ⟨Nat.le_refl _⟩, ⟨kg ad⟩, ⟨kg ae⟩, ⟨kh HB⟩⟩
      case round =>
       clear H';(try clear cY c30 Z37);obtain ⟨aa, rfl, HA, HK4, ad, ae, HB⟩ := hrel
       cases gk with
       | zero => exact absurd HA.out (by simp [qba.l2])
       | succ k4 =>
        have H := HA.out;clear HA;simp only [qba.l2] at H
        by_cases c38 : aa < (ag.length : Int)
        rotate_left
        ·rw [if_neg c38] at H
         have dq := decide_eq_false c38;clear c38;obtain rfl := Option.some.inj H;go_wp2;go_ret;exact ⟨er, kh HB⟩
        rw [if_pos c38] at H;have dq := decide_eq_true c38;clear c38
        by_cases c39 : 0 ≤ aa
        rotate_left
        ·rw [if_neg c39] at H
         exact absurd H (by simp)
        rw [if_pos c39] at H;have eb := decide_eq_true c39;clear c39
        by_cases c40 : aa < (ag.length : Int)
        rotate_left
        ·rw [if_neg c40] at H
         exact absurd H (by simp)
        rw [if_pos c40] at H;have ec := decide_eq_true c40;clear c40
        by_cases c41 : aa < (ai.length : Int)
        rotate_left
        ·rw [if_neg c41] at H
         exact absurd H (by simp)
        rw [if_pos c41] at H;have ed := decide_eq_true c41;clear c41;replace H := Option.bind_eq_some_iff.mp H;obtain ⟨dz, dr, H⟩ := H;(try dsimp only at H);have A42 := Aside0.mk dr;clear dr
        by_cases c43 : dz = true
        rotate_left
        ·replace c43 := Bool.eq_false_iff.mpr c43
         subst c43;replace H := ifF H;obtain rfl := Option.some.inj H;(try go_wp2);replace ad := kD ad; replace ae := kD ae; replace HB := kE HB;have bO : 0 ≤ (aa : Int) := od;have bP : aa < (ag.length : Int) := od;obtain ⟨az, bb, bc, bg, bh, cB, ak, al, aV, hi286_0, aW, hi286_1⟩ := at_T66 ci.out aa bO bP;have aN := al; have aO := ak;cases cB;replace ak := (HB.out.cell (World.block_lt_of_cell? w _ ak)).trans ak;replace al := (HB.out.cell (World.block_lt_of_cell? w _ al)).trans al;have aX := Aside0.mk hi286_0;have bx := Aside0.mk aV;clear hi286_0 aV;have bz := Aside0.mk hi286_1;have cy := Aside0.mk aW;clear hi286_1 aW; replace bO := eq_true bO; replace bP := eq_true bP;have bQ : 0 ≤ (aa : Int) := od;have bR : aa < (ai.length : Int) := od;obtain ⟨aA, bd, bf, bi, bj, cC, an, ao, aY, hi287_0, aZ, hi287_1⟩ := at_T66 cj.out aa bQ bR;have aP := ao; have aQ := an;cases cC;replace an := (HB.out.cell (World.block_lt_of_cell? w _ an)).trans an;replace ao := (HB.out.cell (World.block_lt_of_cell? w _ ao)).trans ao;have ba := Aside0.mk hi287_0;have bA := Aside0.mk aY;clear hi287_0 aY;have bB := Aside0.mk hi287_1;have cz := Aside0.mk aZ;clear hi287_1 aZ; replace bQ := eq_true bQ; replace bR := eq_true bR;refine start_ (n := 30) (S := fun w' => w'.cell? ⟨ar, 0, none⟩ = some (.slice bI ap.length bo) ∧ w'.cell? ⟨ar, 1, none⟩ = some (.slice bJ ah.length bp) ∧ w'.cell? ⟨ar, 2, none⟩ = some (.slice (some az) ag.length bq) ∧ w'.cell? ⟨au, 0, none⟩ = some (.slice bK aq.length br) ∧ w'.cell? ⟨au, 1, none⟩ = some (.slice bL aj.length bt) ∧ w'.cell? ⟨au, 2, none⟩ = some (.slice (some aA) ai.length bu) ∧ w'.cell? (az.add ((aa).toNat * 2)) = some (.slice bb ((rd_T66 ag aa).f0).length bc) ∧ w'.cell? ⟨(az.add ((aa).toNat * 2)).block, (az.add ((aa).toNat * 2)).off + 1, none⟩ = some (.slice bg ((rd_T66 ag aa).f1).length bh) ∧ w'.cell? (aA.add ((aa).toNat * 2)) = some (.slice bd ((rd_T66 ai aa).f0).length bf) ∧ w'.cell? ⟨(aA.add ((aa).toNat * 2)).block, (aA.add ((aa).toNat * 2)).off + 1, none⟩ = some (.slice bi ((rd_T66 ai aa).f1).length bj)) (ds := []) (bs 30 0) (by kernel_rfl) rfl rfl ⟨kk ad 0, kk ad 1, kk ad 2, kk ae 0, kk ae 1, kk ae 2, (kq HB aO), (kq HB aN), (kq HB aQ), (kq HB aP)⟩ (fun hHeld => ?_); refine with_tabW qba.tab18 qba.bits18 (fun HT_ HW_ => ?_);generalize wr.drew = w48 at ad ae HB aX bz ba bB ak al an ao hHeld ⊢;refine pu 0 (some 75) (bs 30 1) HT_ ?_;refine pu 2 (some 77) (bs 30 5) HT_ ?_;refine pu 6 (some 81) (bs 30 69) HT_ ?_;refine pu 8 (some 83) (bs 30 325) HT_ ?_;refine ta 1 (some 76) (bs 30 327) HT_ HW_ hHeld ?_;refine pu 3 (some 78) (bs 30 335) HT_ ?_;refine pu 4 (some 79) (bs 30 351) HT_ ?_;refine ta 5 (some 80) (bs 30 383) HT_ HW_ hHeld ?_;refine ta 7 (some 82) (bs 30 511) HT_ HW_ hHeld ?_;refine pu 9 (some 84) (bs 30 1023) HT_ ?_;refine pu 10 (some 85) (bs 30 2047) HT_ ?_;refine ta 11 (some 86) (bs 30 4095) HT_ HW_ hHeld ?_;refine one_ (i := 12) (N := some 87) (bs 30 8191) rfl rfl (one_of HT_.out (by kernel_rfl)) (by decide) (fun K hK => ?_);refine goes_ Try.func56 (by kernel_rfl) rfl #[.slice bb ((rd_T66 ag aa).f0).length bc, .slice bd ((rd_T66 ai aa).f0).length bf] (by rfl) rfl rfl (by (try simp only [qM1, qM2, qM3]); first | done | rfl) ?_;(with_reducible refine (qea.calls k4 _ _ ((rd_T66 ag aa).f0) _ _ ((rd_T66 ai aa).f0) false _ ?side1 ?side2 ?side3 ?side4 A42.out).mono ?_);(case side1 => repeat (first | exact (Kd.C_below aX.out HB.out) | (with_reducible first | refine Kd.C_alloc ?_ _ | refine Kd.C_drewN ?_ _ | refine Kd.C_drew ?_)));(case side2 => exact bx.out);(case side3 => repeat (first | exact (Kd.C_below ba.out HB.out) | (with_reducible first | refine Kd.C_alloc ?_ _ | refine Kd.C_drewN ?_ _ | refine Kd.C_drew ?_)));(case side4 => exact bA.out);rintro e w' ⟨rfl, ⟨nd, rfl⟩⟩;refine ⟨_, rfl, ?_⟩;refine hK.out _ _ ⟨kk ad 0, kk ad 1, kk ad 2, kk ae 0, kk ae 1, kk ae 2, (kq HB aO), (kq HB aN), (kq HB aQ), (kq HB aP)⟩ (fun hHeld => ?_);clear hK K;refine no (some 87) ?_;refine pu 13 (some 88) (bs 30 16383) HT_ ?_;refine pu 14 (some 89) (bs 30 32767) HT_ ?_;refine pure_ (i := 15) (N := some 90) (v := undef) (a' := ?_) (bs 30 65535) rfl rfl (any_of HT_.out (by kernel_rfl)) (fun _ _ _ h => h) (Or.inr ⟨by rfl, rfl⟩) ?_ ?_
         rotate_left
         ·simp only [Act.put, qS1, qS2, qS3, i64_w, i32_w]
          rfl
         refine pure_ (i := 16) (N := some 91) (v := undef) (a' := ?_) (bs 30 131071) rfl rfl (any_of HT_.out (by kernel_rfl)) (fun _ _ _ h => h) (Or.inr ⟨by rfl, rfl⟩) ?_ ?_
         rotate_left
         ·simp only [Act.put, qS1, qS2, qS3, i64_w, i32_w]
          rfl
         refine pure_ (i := 17) (N := some 92) (v := undef) (a' := ?_) (bs 30 262143) rfl rfl (any_of HT_.out (by kernel_rfl)) (fun _ _ _ h => h) (Or.inr ⟨by rfl, rfl⟩) ?_ ?_
         rotate_left
         ·simp only [Act.put, qS1, qS2, qS3, i64_w, i32_w]
          rfl
         refine pure_ (i := 18) (N := some 93) (v := undef) (a' := ?_) (bs 30 524287) rfl rfl (any_of HT_.out (by kernel_rfl)) (fun _ _ _ h => h) (Or.inr ⟨by rfl, rfl⟩) ?_ ?_
         rotate_left
         ·simp only [Act.put, qS1, qS2, qS3, i64_w, i32_w]
          rfl
         refine pure_ (i := 19) (N := some 94) (v := undef) (a' := ?_) (bs 30 1048575) rfl rfl (any_of HT_.out (by kernel_rfl)) (fun _ _ _ h => h) (Or.inr ⟨by rfl, rfl⟩) ?_ ?_
         rotate_left
         ·simp only [Act.put, qS1, qS2, qS3, i64_w, i32_w]
          rfl
         refine pure_ (i := 20) (N := some 95) (v := undef) (a' := ?_) (bs 30 2097151) rfl rfl (any_of HT_.out (by kernel_rfl)) (fun _ _ _ h => h) (Or.inr ⟨by rfl, rfl⟩) ?_ ?_
         rotate_left
         ·simp only [Act.put, qS1, qS2, qS3, i64_w, i32_w]
          rfl
         refine pure_ (i := 21) (N := some 96) (v := undef) (a' := ?_) (bs 30 4194303) rfl rfl (any_of HT_.out (by kernel_rfl)) (fun _ _ _ h => h) (Or.inr ⟨by rfl, rfl⟩) ?_ ?_
         rotate_left
         ·simp only [Act.put, qS1, qS2, qS3, i64_w, i32_w]
          rfl
         refine pure_ (i := 22) (N := some 97) (v := undef) (a' := ?_) (bs 30 8388607) rfl rfl (any_of HT_.out (by kernel_rfl)) (fun _ _ _ h => h) (Or.inr ⟨by rfl, rfl⟩) ?_ ?_
         rotate_left
         ·simp only [Act.put, qS1, qS2, qS3, i64_w, i32_w]
          rfl
         refine pure_ (i := 23) (N := some 98) (v := undef) (a' := ?_) (bs 30 16777215) rfl rfl (any_of HT_.out (by kernel_rfl)) (fun _ _ _ h => h) (Or.inr ⟨by rfl, rfl⟩) ?_ ?_
         rotate_left
         ·simp only [Act.put, qS1, qS2, qS3, i64_w, i32_w]
          rfl
         refine pure_ (i := 24) (N := some 99) (v := undef) (a' := ?_) (bs 30 33554431) rfl rfl (any_of HT_.out (by kernel_rfl)) (fun _ _ _ h => h) (Or.inr ⟨by rfl, rfl⟩) ?_ ?_
         rotate_left
         ·simp only [Act.put, qS1, qS2, qS3, i64_w, i32_w]
          rfl
         refine pure_ (i := 25) (N := some 100) (v := undef) (a' := ?_) (bs 30 67108863) rfl rfl (any_of HT_.out (by kernel_rfl)) (fun _ _ _ h => h) (Or.inr ⟨by rfl, rfl⟩) ?_ ?_
         rotate_left
         ·simp only [Act.put, qS1, qS2, qS3, i64_w, i32_w]
          rfl
         refine pure_ (i := 26) (N := some 101) (v := undef) (a' := ?_) (bs 30 134217727) rfl rfl (any_of HT_.out (by kernel_rfl)) (fun _ _ _ h => h) (Or.inr ⟨by rfl, rfl⟩) ?_ ?_
         rotate_left
         ·simp only [Act.put, qS1, qS2, qS3, i64_w, i32_w]
          rfl
         refine pure_ (i := 27) (N := some 102) (v := undef) (a' := ?_) (bs 30 268435455) rfl rfl (any_of HT_.out (by kernel_rfl)) (fun _ _ _ h => h) (Or.inr ⟨by rfl, rfl⟩) ?_ ?_
         rotate_left
         ·simp only [Act.put, qS1, qS2, qS3, i64_w, i32_w]
          rfl
         refine pure_ (i := 28) (N := some 103) (v := undef) (a' := ?_) (bs 30 536870911) rfl rfl (any_of HT_.out (by kernel_rfl)) (fun _ _ _ h => h) (Or.inr ⟨by rfl, rfl⟩) ?_ ?_
         rotate_left
         ·simp only [Act.put, qS1, qS2, qS3, i64_w, i32_w]
          rfl
         refine pu 29 (some 104) (bs 30 1073741823) HT_ ?_;refine done_ (done_of HT_.out (by kernel_rfl)) ?_;(try go_wp2);go_ret;exact ⟨er, kh HB⟩
        subst c43;replace H := ifT H;replace H := Option.bind_eq_some_iff.mp H;obtain ⟨dA, dt, H⟩ := H;(try dsimp only at H);have A44 := Aside0.mk dt;clear dt
        by_cases c45 : dA = true
        rotate_left
        ·replace c45 := Bool.eq_false_iff.mpr c45
         subst c45;replace H := ifF H;obtain rfl := Option.some.inj H;(try go_wp2);replace ad := kD ad; replace ae := kD ae; replace HB := kE HB;have bO : 0 ≤ (aa : Int) := od;have bP : aa < (ag.length : Int) := od;obtain ⟨az, bb, bc, bg, bh, cB, ak, al, aV, hi286_0, aW, hi286_1⟩ := at_T66 ci.out aa bO bP;have aN := al; have aO := ak;cases cB;replace ak := (HB.out.cell (World.block_lt_of_cell? w _ ak)).trans ak;replace al := (HB.out.cell (World.block_lt_of_cell? w _ al)).trans al;have aX := Aside0.mk hi286_0;have bx := Aside0.mk aV;clear hi286_0 aV;have bz := Aside0.mk hi286_1;have cy := Aside0.mk aW;clear hi286_1 aW; replace bO := eq_true bO; replace bP := eq_true bP;have bQ : 0 ≤ (aa : Int) := od;have bR : aa < (ai.length : Int) := od;obtain ⟨aA, bd, bf, bi, bj, cC, an, ao, aY, hi287_0, aZ, hi287_1⟩ := at_T66 cj.out aa bQ bR;have aP := ao; have aQ := an;cases cC;replace an := (HB.out.cell (World.block_lt_of_cell? w _ an)).trans an;replace ao := (HB.out.cell (World.block_lt_of_cell? w _ ao)).trans ao;have ba := Aside0.mk hi287_0;have bA := Aside0.mk aY;clear hi287_0 aY;have bB := Aside0.mk hi287_1;have cz := Aside0.mk aZ;clear hi287_1 aZ; replace bQ := eq_true bQ; replace bR := eq_true bR;have ct : 0 ≤ (aa : Int) := od;have cu : aa < (ag.length : Int) := od;obtain ⟨cD, dd, de, df, dg, dh, av, aw, bC, hi289_0, bD, hi289_1⟩ := at_T66 ci.out aa ct cu;have bk := aw; have bl := av;obtain rfl : az = cD := (by injection dh);replace av := (HB.out.cell (World.block_lt_of_cell? w _ av)).trans av;replace aw := (HB.out.cell (World.block_lt_of_cell? w _ aw)).trans aw;have ce := Aside0.mk hi289_0;have cF := Aside0.mk bC;clear hi289_0 bC;have bE := Aside0.mk hi289_1;have cf := Aside0.mk bD;clear hi289_1 bD; replace ct := eq_true ct; replace cu := eq_true cu;have ea_ := Option.some.inj (ak.symm.trans av)
         injection ea_ with ea_ en_ ec_
         subst ea_;subst ec_;clear en_;have ea_ := Option.some.inj (al.symm.trans aw)
         injection ea_ with ea_ en_ ec_
         subst ea_;subst ec_;clear en_;have cv : 0 ≤ (aa : Int) := od;have cw : aa < (ai.length : Int) := od;obtain ⟨cE, di, dj, dk, dl, dm, ax, ay, bF, hi290_0, bG, hi290_1⟩ := at_T66 cj.out aa cv cw;have bm := ay; have bn := ax;obtain rfl : aA = cE := (by injection dm);replace ax := (HB.out.cell (World.block_lt_of_cell? w _ ax)).trans ax;replace ay := (HB.out.cell (World.block_lt_of_cell? w _ ay)).trans ay;have cg := Aside0.mk hi290_0;have cG := Aside0.mk bF;clear hi290_0 bF;have bH := Aside0.mk hi290_1;have ch := Aside0.mk bG;clear hi290_1 bG; replace cv := eq_true cv; replace cw := eq_true cw;have ea_ := Option.some.inj (an.symm.trans ax)
         injection ea_ with ea_ en_ ec_
         subst ea_;subst ec_;clear en_;have ea_ := Option.some.inj (ao.symm.trans ay)
         injection ea_ with ea_ en_ ec_
         subst ea_;subst ec_;clear en_;refine start_ (n := 30) (S := fun w' => w'.cell? ⟨ar, 0, none⟩ = some (.slice bI ap.length bo) ∧ w'.cell? ⟨ar, 1, none⟩ = some (.slice bJ ah.length bp) ∧ w'.cell? ⟨ar, 2, none⟩ = some (.slice (some az) ag.length bq) ∧ w'.cell? ⟨au, 0, none⟩ = some (.slice bK aq.length br) ∧ w'.cell? ⟨au, 1, none⟩ = some (.slice bL aj.length bt) ∧ w'.cell? ⟨au, 2, none⟩ = some (.slice (some aA) ai.length bu) ∧ w'.cell? (az.add ((aa).toNat * 2)) = some (.slice bb ((rd_T66 ag aa).f0).length bc) ∧ w'.cell? ⟨(az.add ((aa).toNat * 2)).block, (az.add ((aa).toNat * 2)).off + 1, none⟩ = some (.slice bg ((rd_T66 ag aa).f1).length bh) ∧ w'.cell? (aA.add ((aa).toNat * 2)) = some (.slice bd ((rd_T66 ai aa).f0).length bf) ∧ w'.cell? ⟨(aA.add ((aa).toNat * 2)).block, (aA.add ((aa).toNat * 2)).off + 1, none⟩ = some (.slice bi ((rd_T66 ai aa).f1).length bj) ∧ w'.cell? (az.add ((aa).toNat * 2)) = some (.slice bb ((rd_T66 ag aa).f0).length bc) ∧ w'.cell? ⟨(az.add ((aa).toNat * 2)).block, (az.add ((aa).toNat * 2)).off + 1, none⟩ = some (.slice bg ((rd_T66 ag aa).f1).length bh) ∧ w'.cell? (aA.add ((aa).toNat * 2)) = some (.slice bd ((rd_T66 ai aa).f0).length bf) ∧ w'.cell? ⟨(aA.add ((aa).toNat * 2)).block, (aA.add ((aa).toNat * 2)).off + 1, none⟩ = some (.slice bi ((rd_T66 ai aa).f1).length bj)) (ds := []) (bs 30 0) (by kernel_rfl) rfl rfl ⟨kk ad 0, kk ad 1, kk ad 2, kk ae 0, kk ae 1, kk ae 2, (kq HB aO), (kq HB aN), (kq HB aQ), (kq HB aP), (kq HB bl), (kq HB bk), (kq HB bn), (kq HB bm)⟩ (fun hHeld => ?_); refine with_tabW qba.tab18 qba.bits18 (fun HT_ HW_ => ?_);generalize wr.drew = w47 at ad ae HB aX bz ba bB ce bE cg bH ak al an ao av aw ax ay hHeld ⊢;refine pu 0 (some 75) (bs 30 1) HT_ ?_;refine pu 2 (some 77) (bs 30 5) HT_ ?_;refine pu 6 (some 81) (bs 30 69) HT_ ?_;refine pu 8 (some 83) (bs 30 325) HT_ ?_;refine ta 1 (some 76) (bs 30 327) HT_ HW_ hHeld ?_;refine pu 3 (some 78) (bs 30 335) HT_ ?_;refine pu 4 (some 79) (bs 30 351) HT_ ?_;refine ta 5 (some 80) (bs 30 383) HT_ HW_ hHeld ?_;refine ta 7 (some 82) (bs 30 511) HT_ HW_ hHeld ?_;refine pu 9 (some 84) (bs 30 1023) HT_ ?_;refine pu 10 (some 85) (bs 30 2047) HT_ ?_;refine ta 11 (some 86) (bs 30 4095) HT_ HW_ hHeld ?_;refine one_ (i := 12) (N := some 87) (bs 30 8191) rfl rfl (one_of HT_.out (by kernel_rfl)) (by decide) (fun K hK => ?_);refine goes_ Try.func56 (by kernel_rfl) rfl #[.slice bb ((rd_T66 ag aa).f0).length bc, .slice bd ((rd_T66 ai aa).f0).length bf] (by rfl) rfl rfl (by (try simp only [qM1, qM2, qM3]); first | done | rfl) ?_;(with_reducible refine (qea.calls k4 _ _ ((rd_T66 ag aa).f0) _ _ ((rd_T66 ai aa).f0) true _ ?side1 ?side2 ?side3 ?side4 A42.out).mono ?_);(case side1 => repeat (first | exact (Kd.C_below aX.out HB.out) | (with_reducible first | refine Kd.C_alloc ?_ _ | refine Kd.C_drewN ?_ _ | refine Kd.C_drew ?_)));(case side2 => exact bx.out);(case side3 => repeat (first | exact (Kd.C_below ba.out HB.out) | (with_reducible first | refine Kd.C_alloc ?_ _ | refine Kd.C_drewN ?_ _ | refine Kd.C_drew ?_)));(case side4 => exact bA.out);rintro e w' ⟨rfl, ⟨nd, rfl⟩⟩;refine ⟨_, rfl, ?_⟩;refine hK.out _ _ ⟨kk ad 0, kk ad 1, kk ad 2, kk ae 0, kk ae 1, kk ae 2, (kq HB aO), (kq HB aN), (kq HB aQ), (kq HB aP), (kq HB bl), (kq HB bk), (kq HB bn), (kq HB bm)⟩ (fun hHeld => ?_);clear hK K;refine no (some 87) ?_;refine pu 13 (some 88) (bs 30 16383) HT_ ?_;refine pu 14 (some 89) (bs 30 32767) HT_ ?_;refine pu 15 (some 90) (bs 30 65535) HT_ ?_;refine pu 17 (some 92) (bs 30 196607) HT_ ?_;refine pu 21 (some 96) (bs 30 2293759) HT_ ?_;refine pu 23 (some 98) (bs 30 10682367) HT_ ?_;refine ta 16 (some 91) (bs 30 10747903) HT_ HW_ hHeld ?_;refine pu 18 (some 93) (bs 30 11010047) HT_ ?_;refine pu 19 (some 94) (bs 30 11534335) HT_ ?_;refine ta 20 (some 95) (bs 30 12582911) HT_ HW_ hHeld ?_;refine ta 22 (some 97) (bs 30 16777215) HT_ HW_ hHeld ?_;refine pu 24 (some 99) (bs 30 33554431) HT_ ?_;refine pu 25 (some 100) (bs 30 67108863) HT_ ?_;refine ta 26 (some 101) (bs 30 134217727) HT_ HW_ hHeld ?_;refine one_ (i := 27) (N := some 102) (bs 30 268435455) rfl rfl (one_of HT_.out (by kernel_rfl)) (by decide) (fun K hK => ?_);refine goes_ Try.func56 (by kernel_rfl) rfl #[.slice bg ((rd_T66 ag aa).f1).length bh, .slice bi ((rd_T66 ai aa).f1).length bj] (by rfl) rfl rfl (by (try simp only [qM1, qM2, qM3]); first | done | rfl) ?_;(with_reducible refine (qea.calls k4 _ _ ((rd_T66 ag aa).f1) _ _ ((rd_T66 ai aa).f1) false _ ?side1 ?side2 ?side3 ?side4 A44.out).mono ?_);(case side1 => repeat (first | exact (Kd.C_below bE.out (kh HB)) | (with_reducible first | refine Kd.C_alloc ?_ _ | refine Kd.C_drewN ?_ _ | refine Kd.C_drew ?_)));(case side2 => exact cf.out);(case side3 => repeat (first | exact (Kd.C_below bH.out (kh HB)) | (with_reducible first | refine Kd.C_alloc ?_ _ | refine Kd.C_drewN ?_ _ | refine Kd.C_drew ?_)));(case side4 => exact ch.out);rintro e w' ⟨rfl, ⟨nd, rfl⟩⟩;refine ⟨_, rfl, ?_⟩;refine hK.out _ _ ⟨kk ad 0, kk ad 1, kk ad 2, kk ae 0, kk ae 1, kk ae 2, (kq HB aO), (kq HB aN), (kq HB aQ), (kq HB aP), (kq HB bl), (kq HB bk), (kq HB bn), (kq HB bm)⟩ (fun hHeld => ?_);clear hK K;refine no (some 102) ?_;refine pu 28 (some 103) (bs 30 536870911) HT_ ?_;refine pu 29 (some 104) (bs 30 1073741823) HT_ ?_;refine done_ (done_of HT_.out (by kernel_rfl)) ?_;(try go_wp2);go_ret;exact ⟨er, kh HB⟩
        subst c45;replace H := ifT H;have H' := Aside0.mk H;clear H;(try go_wp2);replace ad := kD ad; replace ae := kD ae; replace HB := kE HB;have bO : 0 ≤ (aa : Int) := od;have bP : aa < (ag.length : Int) := od;obtain ⟨az, bb, bc, bg, bh, cB, ak, al, aV, hi286_0, aW, hi286_1⟩ := at_T66 ci.out aa bO bP;have aN := al; have aO := ak;cases cB;replace ak := (HB.out.cell (World.block_lt_of_cell? w _ ak)).trans ak;replace al := (HB.out.cell (World.block_lt_of_cell? w _ al)).trans al;have aX := Aside0.mk hi286_0;have bx := Aside0.mk aV;clear hi286_0 aV;have bz := Aside0.mk hi286_1;have cy := Aside0.mk aW;clear hi286_1 aW; replace bO := eq_true bO; replace bP := eq_true bP;have bQ : 0 ≤ (aa : Int) := od;have bR : aa < (ai.length : Int) := od;obtain ⟨aA, bd, bf, bi, bj, cC, an, ao, aY, hi287_0, aZ, hi287_1⟩ := at_T66 cj.out aa bQ bR;have aP := ao; have aQ := an;cases cC;replace an := (HB.out.cell (World.block_lt_of_cell? w _ an)).trans an;replace ao := (HB.out.cell (World.block_lt_of_cell? w _ ao)).trans ao;have ba := Aside0.mk hi287_0;have bA := Aside0.mk aY;clear hi287_0 aY;have bB := Aside0.mk hi287_1;have cz := Aside0.mk aZ;clear hi287_1 aZ; replace bQ := eq_true bQ; replace bR := eq_true bR;have ct : 0 ≤ (aa : Int) := od;have cu : aa < (ag.length : Int) := od;obtain ⟨cD, dd, de, df, dg, dh, av, aw, bC, hi289_0, bD, hi289_1⟩ := at_T66 ci.out aa ct cu;have bk := aw; have bl := av;obtain rfl : az = cD := (by injection dh);replace av := (HB.out.cell (World.block_lt_of_cell? w _ av)).trans av;replace aw := (HB.out.cell (World.block_lt_of_cell? w _ aw)).trans aw;have ce := Aside0.mk hi289_0;have cF := Aside0.mk bC;clear hi289_0 bC;have bE := Aside0.mk hi289_1;have cf := Aside0.mk bD;clear hi289_1 bD; replace ct := eq_true ct; replace cu := eq_true cu;have ea_ := Option.some.inj (ak.symm.trans av)
        injection ea_ with ea_ en_ ec_
        subst ea_;subst ec_;clear en_;have ea_ := Option.some.inj (al.symm.trans aw)
        injection ea_ with ea_ en_ ec_
        subst ea_;subst ec_;clear en_;have cv : 0 ≤ (aa : Int) := od;have cw : aa < (ai.length : Int) := od;obtain ⟨cE, di, dj, dk, dl, dm, ax, ay, bF, hi290_0, bG, hi290_1⟩ := at_T66 cj.out aa cv cw;have bm := ay; have bn := ax;obtain rfl : aA = cE := (by injection dm);replace ax := (HB.out.cell (World.block_lt_of_cell? w _ ax)).trans ax;replace ay := (HB.out.cell (World.block_lt_of_cell? w _ ay)).trans ay;have cg := Aside0.mk hi290_0;have cG := Aside0.mk bF;clear hi290_0 bF;have bH := Aside0.mk hi290_1;have ch := Aside0.mk bG;clear hi290_1 bG; replace cv := eq_true cv; replace cw := eq_true cw;have ea_ := Option.some.inj (an.symm.trans ax)
        injection ea_ with ea_ en_ ec_
        subst ea_;subst ec_;clear en_;have ea_ := Option.some.inj (ao.symm.trans ay)
        injection ea_ with ea_ en_ ec_
        subst ea_;subst ec_;clear en_;refine start_ (n := 30) (S := fun w' => w'.cell? ⟨ar, 0, none⟩ = some (.slice bI ap.length bo) ∧ w'.cell? ⟨ar, 1, none⟩ = some (.slice bJ ah.length bp) ∧ w'.cell? ⟨ar, 2, none⟩ = some (.slice (some az) ag.length bq) ∧ w'.cell? ⟨au, 0, none⟩ = some (.slice bK aq.length br) ∧ w'.cell? ⟨au, 1, none⟩ = some (.slice bL aj.length bt) ∧ w'.cell? ⟨au, 2, none⟩ = some (.slice (some aA) ai.length bu) ∧ w'.cell? (az.add ((aa).toNat * 2)) = some (.slice bb ((rd_T66 ag aa).f0).length bc) ∧ w'.cell? ⟨(az.add ((aa).toNat * 2)).block, (az.add ((aa).toNat * 2)).off + 1, none⟩ = some (.slice bg ((rd_T66 ag aa).f1).length bh) ∧ w'.cell? (aA.add ((aa).toNat * 2)) = some (.slice bd ((rd_T66 ai aa).f0).length bf) ∧ w'.cell? ⟨(aA.add ((aa).toNat * 2)).block, (aA.add ((aa).toNat * 2)).off + 1, none⟩ = some (.slice bi ((rd_T66 ai aa).f1).length bj) ∧ w'.cell? (az.add ((aa).toNat * 2)) = some (.slice bb ((rd_T66 ag aa).f0).length bc) ∧ w'.cell? ⟨(az.add ((aa).toNat * 2)).block, (az.add ((aa).toNat * 2)).off + 1, none⟩ = some (.slice bg ((rd_T66 ag aa).f1).length bh) ∧ w'.cell? (aA.add ((aa).toNat * 2)) = some (.slice bd ((rd_T66 ai aa).f0).length bf) ∧ w'.cell? ⟨(aA.add ((aa).toNat * 2)).block, (aA.add ((aa).toNat * 2)).off + 1, none⟩ = some (.slice bi ((rd_T66 ai aa).f1).length bj)) (ds := []) (bs 30 0) (by kernel_rfl) rfl rfl ⟨kk ad 0, kk ad 1, kk ad 2, kk ae 0, kk ae 1, kk ae 2, (kq HB aO), (kq HB aN), (kq HB aQ), (kq HB aP), (kq HB bl), (kq HB bk), (kq HB bn), (kq HB bm)⟩ (fun hHeld => ?_); refine with_tabW qba.tab18 qba.bits18 (fun HT_ HW_ => ?_);generalize wr.drew = w46 at ad ae HB aX bz ba bB ce bE cg bH ak al an ao av aw ax ay hHeld ⊢;refine pu 0 (some 75) (bs 30 1) HT_ ?_;refine pu 2 (some 77) (bs 30 5) HT_ ?_;refine pu 6 (some 81) (bs 30 69) HT_ ?_;refine pu 8 (some 83) (bs 30 325) HT_ ?_;refine ta 1 (some 76) (bs 30 327) HT_ HW_ hHeld ?_;refine pu 3 (some 78) (bs 30 335) HT_ ?_;refine pu 4 (some 79) (bs 30 351) HT_ ?_;refine ta 5 (some 80) (bs 30 383) HT_ HW_ hHeld ?_;refine ta 7 (some 82) (bs 30 511) HT_ HW_ hHeld ?_;refine pu 9 (some 84) (bs 30 1023) HT_ ?_;refine pu 10 (some 85) (bs 30 2047) HT_ ?_;refine ta 11 (some 86) (bs 30 4095) HT_ HW_ hHeld ?_;refine one_ (i := 12) (N := some 87) (bs 30 8191) rfl rfl (one_of HT_.out (by kernel_rfl)) (by decide) (fun K hK => ?_);refine goes_ Try.func56 (by kernel_rfl) rfl #[.slice bb ((rd_T66 ag aa).f0).length bc, .slice bd ((rd_T66 ai aa).f0).length bf] (by rfl) rfl rfl (by (try simp only [qM1, qM2, qM3]); first | done | rfl) ?_;(with_reducible refine (qea.calls k4 _ _ ((rd_T66 ag aa).f0) _ _ ((rd_T66 ai aa).f0) true _ ?side1 ?side2 ?side3 ?side4 A42.out).mono ?_);(case side1 => repeat (first | exact (Kd.C_below aX.out HB.out) | (with_reducible first | refine Kd.C_alloc ?_ _ | refine Kd.C_drewN ?_ _ | refine Kd.C_drew ?_)));(case side2 => exact bx.out);(case side3 => repeat (first | exact (Kd.C_below ba.out HB.out) | (with_reducible first | refine Kd.C_alloc ?_ _ | refine Kd.C_drewN ?_ _ | refine Kd.C_drew ?_)));(case side4 => exact bA.out);rintro e w' ⟨rfl, ⟨nd, rfl⟩⟩;refine ⟨_, rfl, ?_⟩;refine hK.out _ _ ⟨kk ad 0, kk ad 1, kk ad 2, kk ae 0, kk ae 1, kk ae 2, (kq HB aO), (kq HB aN), (kq HB aQ), (kq HB aP), (kq HB bl), (kq HB bk), (kq HB bn), (kq HB bm)⟩ (fun hHeld => ?_);clear hK K;refine no (some 87) ?_;refine pu 13 (some 88) (bs 30 16383) HT_ ?_;refine pu 14 (some 89) (bs 30 32767) HT_ ?_;refine pu 15 (some 90) (bs 30 65535) HT_ ?_;refine pu 17 (some 92) (bs 30 196607) HT_ ?_;refine pu 21 (some 96) (bs 30 2293759) HT_ ?_;refine pu 23 (some 98) (bs 30 10682367) HT_ ?_;refine ta 16 (some 91) (bs 30 10747903) HT_ HW_ hHeld ?_;refine pu 18 (some 93) (bs 30 11010047) HT_ ?_;refine pu 19 (some 94) (bs 30 11534335) HT_ ?_;refine ta 20 (some 95) (bs 30 12582911) HT_ HW_ hHeld ?_;refine ta 22 (some 97) (bs 30 16777215) HT_ HW_ hHeld ?_;refine pu 24 (some 99) (bs 30 33554431) HT_ ?_;refine pu 25 (some 100) (bs 30 67108863) HT_ ?_;refine ta 26 (some 101) (bs 30 134217727) HT_ HW_ hHeld ?_;refine one_ (i := 27) (N := some 102) (bs 30 268435455) rfl rfl (one_of HT_.out (by kernel_rfl)) (by decide) (fun K hK => ?_);refine goes_ Try.func56 (by kernel_rfl) rfl #[.slice bg ((rd_T66 ag aa).f1).length bh, .slice bi ((rd_T66 ai aa).f1).length bj] (by rfl) rfl rfl (by (try simp only [qM1, qM2, qM3]); first | done | rfl) ?_;(with_reducible refine (qea.calls k4 _ _ ((rd_T66 ag aa).f1) _ _ ((rd_T66 ai aa).f1) true _ ?side1 ?side2 ?side3 ?side4 A44.out).mono ?_);(case side1 => repeat (first | exact (Kd.C_below bE.out (kh HB)) | (with_reducible first | refine Kd.C_alloc ?_ _ | refine Kd.C_drewN ?_ _ | refine Kd.C_drew ?_)));(case side2 => exact cf.out);(case side3 => repeat (first | exact (Kd.C_below bH.out (kh HB)) | (with_reducible first | refine Kd.C_alloc ?_ _ | refine Kd.C_drewN ?_ _ | refine Kd.C_drew ?_)));(case side4 => exact ch.out);rintro e w' ⟨rfl, ⟨nd, rfl⟩⟩;refine ⟨_, rfl, ?_⟩;refine hK.out _ _ ⟨kk ad 0, kk ad 1, kk ad 2, kk ae 0, kk ae 1, kk ae 2, (kq HB aO), (kq HB aN), (kq HB aQ), (kq HB aP), (kq HB bl), (kq HB bk), (kq HB bn), (kq HB bm)⟩ (fun hHeld => ?_);clear hK K;refine no (some 102) ?_;refine pu 28 (some 103) (bs 30 536870911) HT_ ?_;refine pu 29 (some 104) (bs 30 1073741823) HT_ ?_;refine done_ (done_of HT_.out (by kernel_rfl)) ?_;(try go_wp2);go_roundg k4
        case measure => have := HJ2.out; have := HK2.out; have := HK3.out; have := HK4.out; omega
        case rel => exact ⟨(wrap64 (aa + 1)), et, H', ⟨by have := HJ2.out; have := HK2.out; have := HK3.out; have := HK4.out; omega⟩, ⟨kg ad⟩, ⟨kg ae⟩, ⟨kh HB⟩⟩
end Go.Proofs.Ytmlbliggbkfjnaa.J
namespace Go.Proofs.Ytmlbliggbkfjnaa.J
open Go.RowKit Go.Proofs.YtmlbliggbkfjnaaW.PrintWords Go.Proofs.YtmlbliggbkfjnaaW.PrintLast Go.Proofs.YtmlbliggbkfjnaaW.PrintMore
attribute [local go_sem] max2_int min2_int max_two min_two max_three min_three max_four min_four
def qja.f (k : Nat)  : Option (Bool) := (some (([(⟨1, false⟩ : S64)] : List (S64)) : List (S64))).bind fun ab => ((tune_Tune.f k 7 ab (([(⟨2, 0, 0, 2⟩ : S61), (⟨1, 0, 0, 0⟩ : S61), (⟨5, 0, 1, 0⟩ : S61), (⟨5, 2, 2, 0⟩ : S61)] : List (S61))) (([(⟨([] : List Int), (([3] : List Int))⟩ : S66)] : List (S66)))).bind fun aa => (if aa.2.2.2 = 0 then ((qba.f k aa.1 aa.2.1 aa.2.2.1 ab (([(⟨1, 0, 0, 0⟩ : S61), (⟨6, 0, 0, 2⟩ : S61), (⟨5, 1, 1, 0⟩ : S61)] : List (S61))) (([(⟨([] : List Int), (([2] : List Int))⟩ : S66)] : List (S66)))).bind fun ad => (if ad = true then ((tune_Levels.f k aa.1 aa.2.1 aa.2.2.1).bind fun ae => ((qda.f k ae (([0, 0, 1] : List Int))).bind fun af => (some af))) else (some false))) else (some false)))
theorem qja.mono : ∀ k, LeO (qja.f k ) (qja.f (k + 1) ) := by
 intro  k;unfold qja.f
 repeat' first
   | (with_reducible exact qda.mono _ _ _)
   | (with_reducible exact qba.mono _ _ _ _ _ _ _)
   | (with_reducible exact tune_Levels.mono _ _ _ _)
   | (with_reducible exact tune_Tune.mono _ _ _ _ _)
   | (with_reducible exact LeO.refl _)
   | (with_reducible exact LeO.none _)
   | (with_reducible refine LeO.ite ?_ ?_)
   | (with_reducible refine LeO.bind ?_ (fun _ => ?_))
   | exact qda.mono _ _ _
   | exact qba.mono _ _ _ _ _ _ _
   | exact tune_Levels.mono _ _ _ _
   | exact tune_Tune.mono _ _ _ _ _
   | exact LeO.none _
   | refine LeO.ite ?_ ?_
   | refine LeO.bind ?_ (fun _ => ?_)
theorem qja.calls (k : Nat)  (r : Bool) (w : World) (h : qja.f k  = some r) (hrt : r = true := by rfl) :
  Calls Try.prog 15 #[] w fun e w' => e = .returned (.bool r) ∧ Below w.heap.size w w' := by
 have HRT := Aside0.mk hrt;clear hrt;have hu64 := Try.underlying64;have hu61 := Try.underlying61;have hu66 := Try.underlying66;have hu26 := Try.underlying26;have HB := Aside0.mk (Below.refl w.heap.size w);have H : ((some (([(⟨1, false⟩ : S64)] : List (S64)) : List (S64))).bind fun ai => ((tune_Tune.f k 7 ai (([(⟨2, 0, 0, 2⟩ : S61), (⟨1, 0, 0, 0⟩ : S61), (⟨5, 0, 1, 0⟩ : S61), (⟨5, 2, 2, 0⟩ : S61)] : List (S61))) (([(⟨([] : List Int), (([3] : List Int))⟩ : S66)] : List (S66)))).bind fun aa => (if aa.2.2.2 = 0 then ((qba.f k aa.1 aa.2.1 aa.2.2.1 ai (([(⟨1, 0, 0, 0⟩ : S61), (⟨6, 0, 0, 2⟩ : S61), (⟨5, 1, 1, 0⟩ : S61)] : List (S61))) (([(⟨([] : List Int), (([2] : List Int))⟩ : S66)] : List (S66)))).bind fun aB => (if aB = true then ((tune_Levels.f k aa.1 aa.2.1 aa.2.2.1).bind fun ay => ((qda.f k ay (([0, 0, 1] : List Int))).bind fun az => (some az))) else (some false))) else (some false)))) = some r := h;clear h;obtain ⟨ai, aS⟩ : ∃ y_ : List (S64), y_ = (([(⟨1, false⟩ : S64)] : List (S64))) := ⟨_, rfl⟩
 replace H : ((tune_Tune.f k 7 ai (([(⟨2, 0, 0, 2⟩ : S61), (⟨1, 0, 0, 0⟩ : S61), (⟨5, 0, 1, 0⟩ : S61), (⟨5, 2, 2, 0⟩ : S61)] : List (S61))) (([(⟨([] : List Int), (([3] : List Int))⟩ : S66)] : List (S66)))).bind fun aa => (if aa.2.2.2 = 0 then ((qba.f k aa.1 aa.2.1 aa.2.2.1 ai (([(⟨1, 0, 0, 0⟩ : S61), (⟨6, 0, 0, 2⟩ : S61), (⟨5, 1, 1, 0⟩ : S61)] : List (S61))) (([(⟨([] : List Int), (([2] : List Int))⟩ : S66)] : List (S66)))).bind fun aB => (if aB = true then ((tune_Levels.f k aa.1 aa.2.1 aa.2.2.1).bind fun ay => ((qda.f k ay (([0, 0, 1] : List Int))).bind fun az => (some az))) else (some false))) else (some false))) = some r := by first | (rw [aS]; with_reducible exact H) | (have H2_ := (Option.bind_some _ _).symm.trans H; rw [aS]; with_reducible exact H2_) | (have H2_ := (Option.bind_some _ _).symm.trans H; with_reducible exact H2_) | with_reducible exact H | (rw [aS]; exact H) | exact H
 have bu := Aside0.mk aS;clear aS;obtain ⟨ar, aT⟩ : ∃ y_ : List (S61), y_ = (([(⟨2, 0, 0, 2⟩ : S61), (⟨1, 0, 0, 0⟩ : S61), (⟨5, 0, 1, 0⟩ : S61), (⟨5, 2, 2, 0⟩ : S61)] : List (S61))) := ⟨_, rfl⟩
 replace H : ((tune_Tune.f k 7 ai ar (([(⟨([] : List Int), (([3] : List Int))⟩ : S66)] : List (S66)))).bind fun aa => (if aa.2.2.2 = 0 then ((qba.f k aa.1 aa.2.1 aa.2.2.1 ai (([(⟨1, 0, 0, 0⟩ : S61), (⟨6, 0, 0, 2⟩ : S61), (⟨5, 1, 1, 0⟩ : S61)] : List (S61))) (([(⟨([] : List Int), (([2] : List Int))⟩ : S66)] : List (S66)))).bind fun aB => (if aB = true then ((tune_Levels.f k aa.1 aa.2.1 aa.2.2.1).bind fun ay => ((qda.f k ay (([0, 0, 1] : List Int))).bind fun az => (some az))) else (some false))) else (some false))) = some r := by first | (rw [aT]; with_reducible exact H) | (have H2_ := (Option.bind_some _ _).symm.trans H; rw [aT]; with_reducible exact H2_) | (have H2_ := (Option.bind_some _ _).symm.trans H; with_reducible exact H2_) | with_reducible exact H | (rw [aT]; exact H) | exact H
 have bv := Aside0.mk aT;clear aT;obtain ⟨bb, aU⟩ : ∃ y_ : List Int, y_ = (([3] : List Int)) := ⟨_, rfl⟩
 replace H : ((tune_Tune.f k 7 ai ar (([(⟨([] : List Int), bb⟩ : S66)] : List (S66)))).bind fun aa => (if aa.2.2.2 = 0 then ((qba.f k aa.1 aa.2.1 aa.2.2.1 ai (([(⟨1, 0, 0, 0⟩ : S61), (⟨6, 0, 0, 2⟩ : S61), (⟨5, 1, 1, 0⟩ : S61)] : List (S61))) (([(⟨([] : List Int), (([2] : List Int))⟩ : S66)] : List (S66)))).bind fun aB => (if aB = true then ((tune_Levels.f k aa.1 aa.2.1 aa.2.2.1).bind fun ay => ((qda.f k ay (([0, 0, 1] : List Int))).bind fun az => (some az))) else (some false))) else (some false))) = some r := by first | (rw [aU]; with_reducible exact H) | (have H2_ := (Option.bind_some _ _).symm.trans H; rw [aU]; with_reducible exact H2_) | (have H2_ := (Option.bind_some _ _).symm.trans H; with_reducible exact H2_) | with_reducible exact H | (rw [aU]; exact H) | exact H
 have bw := Aside0.mk aU;clear aU;obtain ⟨aC, aV⟩ : ∃ y_ : List (S66), y_ = (([(⟨([] : List Int), bb⟩ : S66)] : List (S66))) := ⟨_, rfl⟩
 replace H : ((tune_Tune.f k 7 ai ar aC).bind fun aa => (if aa.2.2.2 = 0 then ((qba.f k aa.1 aa.2.1 aa.2.2.1 ai (([(⟨1, 0, 0, 0⟩ : S61), (⟨6, 0, 0, 2⟩ : S61), (⟨5, 1, 1, 0⟩ : S61)] : List (S61))) (([(⟨([] : List Int), (([2] : List Int))⟩ : S66)] : List (S66)))).bind fun aB => (if aB = true then ((tune_Levels.f k aa.1 aa.2.1 aa.2.2.1).bind fun ay => ((qda.f k ay (([0, 0, 1] : List Int))).bind fun az => (some az))) else (some false))) else (some false))) = some r := by first | (rw [aV]; with_reducible exact H) | (have H2_ := (Option.bind_some _ _).symm.trans H; rw [aV]; with_reducible exact H2_) | (have H2_ := (Option.bind_some _ _).symm.trans H; with_reducible exact H2_) | with_reducible exact H | (rw [aV]; exact H) | exact H
 have bx := Aside0.mk aV;clear aV;replace H := Option.bind_eq_some_iff.mp H;obtain ⟨⟨aA, au, ax, bo⟩, A10, H⟩ := H;(try dsimp only at H);have A1 := Aside0.mk A10;clear A10;obtain ⟨aI, aW⟩ : ∃ y_ : List (S61), y_ = (([(⟨1, 0, 0, 0⟩ : S61), (⟨6, 0, 0, 2⟩ : S61), (⟨5, 1, 1, 0⟩ : S61)] : List (S61))) := ⟨_, rfl⟩
 replace H : (if bo = 0 then ((qba.f k aA au ax ai aI (([(⟨([] : List Int), (([2] : List Int))⟩ : S66)] : List (S66)))).bind fun aB => (if aB = true then ((tune_Levels.f k aA au ax).bind fun ay => ((qda.f k ay (([0, 0, 1] : List Int))).bind fun az => (some az))) else (some false))) else (some false)) = some r := by first | (rw [aW]; with_reducible exact H) | (have H2_ := (Option.bind_some _ _).symm.trans H; rw [aW]; with_reducible exact H2_) | (have H2_ := (Option.bind_some _ _).symm.trans H; with_reducible exact H2_) | with_reducible exact H | (rw [aW]; exact H) | exact H
 have bz := Aside0.mk aW;clear aW;obtain ⟨bc, aX⟩ : ∃ y_ : List Int, y_ = (([2] : List Int)) := ⟨_, rfl⟩
 replace H : (if bo = 0 then ((qba.f k aA au ax ai aI (([(⟨([] : List Int), bc⟩ : S66)] : List (S66)))).bind fun aB => (if aB = true then ((tune_Levels.f k aA au ax).bind fun ay => ((qda.f k ay (([0, 0, 1] : List Int))).bind fun az => (some az))) else (some false))) else (some false)) = some r := by first | (rw [aX]; with_reducible exact H) | (have H2_ := (Option.bind_some _ _).symm.trans H; rw [aX]; with_reducible exact H2_) | (have H2_ := (Option.bind_some _ _).symm.trans H; with_reducible exact H2_) | with_reducible exact H | (rw [aX]; exact H) | exact H
 have bA := Aside0.mk aX;clear aX;obtain ⟨aQ, aY⟩ : ∃ y_ : List (S66), y_ = (([(⟨([] : List Int), bc⟩ : S66)] : List (S66))) := ⟨_, rfl⟩
 replace H : (if bo = 0 then ((qba.f k aA au ax ai aI aQ).bind fun aB => (if aB = true then ((tune_Levels.f k aA au ax).bind fun ay => ((qda.f k ay (([0, 0, 1] : List Int))).bind fun az => (some az))) else (some false))) else (some false)) = some r := by first | (rw [aY]; with_reducible exact H) | (have H2_ := (Option.bind_some _ _).symm.trans H; rw [aY]; with_reducible exact H2_) | (have H2_ := (Option.bind_some _ _).symm.trans H; with_reducible exact H2_) | with_reducible exact H | (rw [aY]; exact H) | exact H
 have bB := Aside0.mk aY;clear aY
 by_cases c2 : bo = 0
 rotate_left
 ·rw [if_neg c2] at H
  have bI := beq_eq_false_iff_ne.mpr c2;have bJ := bne_iff_ne.mpr c2;exact absurd ((Option.some.inj H).trans HRT.out) (by decide)
 rw [if_pos c2] at H;have bI := beq_iff_eq.mpr c2;have bJ := bne_eq_false_iff_eq.mpr c2;clear c2;replace H := Option.bind_eq_some_iff.mp H;obtain ⟨aB, A30, H⟩ := H;(try dsimp only at H);have A3 := Aside0.mk A30;clear A30
 by_cases c4 : aB = true
 rotate_left
 ·replace c4 := Bool.eq_false_iff.mpr c4
  subst c4;replace H := ifF H;exact absurd ((Option.some.inj H).trans HRT.out) (by decide)
 subst c4;replace H := ifT H;replace H := Option.bind_eq_some_iff.mp H;obtain ⟨ay, A50, H⟩ := H;(try dsimp only at H);have A5 := Aside0.mk A50;clear A50;obtain ⟨bD, aZ⟩ : ∃ y_ : List Int, y_ = (([0, 0, 1] : List Int)) := ⟨_, rfl⟩
 replace H : ((qda.f k ay bD).bind fun az => (some az)) = some r := by first | (rw [aZ]; with_reducible exact H) | (have H2_ := (Option.bind_some _ _).symm.trans H; rw [aZ]; with_reducible exact H2_) | (have H2_ := (Option.bind_some _ _).symm.trans H; with_reducible exact H2_) | with_reducible exact H | (rw [aZ]; exact H) | exact H
 have bC := Aside0.mk aZ;clear aZ;replace H := Option.bind_eq_some_iff.mp H;obtain ⟨az, A60, H⟩ := H;(try dsimp only at H);have A6 := Aside0.mk A60;clear A60;obtain rfl := Option.some.inj H;go_enter Try.func15, Try.ntmps15;go_wp2_with (first | ((with_reducible refine gate_dst (N := 6) rfl ?_); (try (refine gate_guard (by rfl) ?_; dsimp only)); refine Kd.R_lit k64 _ 64 ?hg (N := 6) ?hd (xs := ([(⟨1, false⟩ : S64)] : List (S64))) (inner := [.int .i64 1, .bool false]) (ok := fun _ => True) (okp := fun _ => True) ?hr ?hp (fun _ hk => hk) trivial (Below.refl _ _) (Nat.le_refl _) (by simp) ?_; (case hd => rfl); (case hg => rfl); (case hr => first | (go_simp; done) | (go_simp; rfl)); (case hp => exact (Reps.c2 (show Kd.M k64 _ _ _ (⟨1, false⟩ : S64) [.int .i64 1, .bool false] from (k64_mkM _ _ _ (⟨1, false⟩ : S64) )) (Reps.none _ _))); intro bp w7 ho8 hb hg_ hnew_; clear hg_ hnew_; (first | rw [← bu.out] at ho8 | (simp only [Int.reduceToNat] at ho8; rw [← bu.out] at ho8)); have ab := kLR ho8 HB; replace HB := kH HB hb; clear hb ho8) | ((with_reducible refine gate_dst (N := 11) rfl ?_); (try (refine gate_guard (by rfl) ?_; dsimp only)); refine Kd.R_lit k61 _ 61 ?hg (N := 11) ?hd (xs := ([(⟨2, 0, 0, 2⟩ : S61), (⟨1, 0, 0, 0⟩ : S61), (⟨5, 0, 1, 0⟩ : S61), (⟨5, 2, 2, 0⟩ : S61)] : List (S61))) (inner := [.int .i64 2, .int .i64 0, .int .i64 0, .int .u64 2, .int .i64 1, .int .i64 0, .int .i64 0, .int .u64 0, .int .i64 5, .int .i64 0, .int .i64 1, .int .u64 0, .int .i64 5, .int .i64 2, .int .i64 2, .int .u64 0]) (ok := fun _ => True) (okp := fun _ => True) ?hr ?hp (fun _ hk => hk) trivial (Below.refl _ _) (Nat.le_refl _) (by simp) ?_; (case hd => rfl); (case hg => rfl); (case hr => first | (go_simp; done) | (go_simp; rfl)); (case hp => exact (Reps.c4 (show Kd.M k61 _ _ _ (⟨2, 0, 0, 2⟩ : S61) [.int .i64 2, .int .i64 0, .int .i64 0, .int .u64 2] from (k61_mkM _ _ _ (⟨2, 0, 0, 2⟩ : S61) )) (Reps.c4 (show Kd.M k61 _ _ _ (⟨1, 0, 0, 0⟩ : S61) [.int .i64 1, .int .i64 0, .int .i64 0, .int .u64 0] from (k61_mkM _ _ _ (⟨1, 0, 0, 0⟩ : S61) )) (Reps.c4 (show Kd.M k61 _ _ _ (⟨5, 0, 1, 0⟩ : S61) [.int .i64 5, .int .i64 0, .int .i64 1, .int .u64 0] from (k61_mkM _ _ _ (⟨5, 0, 1, 0⟩ : S61) )) (Reps.c4 (show Kd.M k61 _ _ _ (⟨5, 2, 2, 0⟩ : S61) [.int .i64 5, .int .i64 2, .int .i64 2, .int .u64 0] from (k61_mkM _ _ _ (⟨5, 2, 2, 0⟩ : S61) )) (Reps.none _ _)))))); intro bq w9 ho10 hb hg_ hnew_; clear hg_ hnew_; (first | rw [← bv.out] at ho10 | (simp only [Int.reduceToNat] at ho10; rw [← bv.out] at ho10)); replace ab := kR ab hb; have ad := kLR ho10 HB; replace HB := kH HB hb; clear hb ho10) | ((with_reducible refine gate_dst (N := 12) rfl ?_); (try (refine gate_guard (by rfl) ?_; dsimp only)); refine Kd.R_lit (Kd.int .i64) _ 3 ?hg (N := 12) ?hd (xs := ([3] : List Int)) (inner := [.int .i64 3]) (ok := fun _ => True) (okp := fun _ => True) ?hr ?hp (fun _ hk => hk) trivial (Below.refl _ _) (Nat.le_refl _) (by simp) ?_; (case hd => rfl); (case hg => rfl); (case hr => first | (go_simp; done) | (go_simp; rfl)); (case hp => exact (Reps.one (show Kd.M (Kd.int .i64) _ _ _ 3 [.int .i64 3] from rfl) (Reps.none _ _))); intro ck w11 ho12 hb hg_ hnew_; clear hg_ hnew_; (first | rw [← bw.out] at ho12 | (simp only [Int.reduceToNat] at ho12; rw [← bw.out] at ho12)); replace ab := kR ab hb; replace ad := kR ad hb; have bf := kLR ho12 HB; replace HB := kH HB hb; clear hb ho12; obtain ⟨bE, bF, bK⟩ := Kd.R_slice bf.out; subst bK) | ((with_reducible refine gate_dst (N := 14) rfl ?_); (try (refine gate_guard (by rfl) ?_; dsimp only)); refine Kd.N_lit k66 _ 66 ?hg (N' := 14) ?hd (xs := ([(⟨([] : List Int), bb⟩ : S66)] : List (S66))) (inner := [.slice none 0 0, .slice bE bb.length bF]) (ok := (fun k_ => some k_ ≠ (bp : Value).ownBlock ∧ some k_ ≠ (bq : Value).ownBlock)) (okp := (fun k_ => some k_ ≠ (bp : Value).ownBlock ∧ some k_ ≠ (bq : Value).ownBlock)) ?hr ?hp (fun _ hk => hk) ((show ∀ k_, w11.heap.size ≤ k_ → (fun k_ => some k_ ≠ (bp : Value).ownBlock ∧ some k_ ≠ (bq : Value).ownBlock) k_ from fun k_ hk => ⟨Kd.fresh' (Kd.R_lt (krR ab)) k_ hk, Kd.fresh' (Kd.R_lt (krR ad)) k_ hk⟩) _ (Nat.le_refl _)) (Below.refl _ _) (Nat.le_refl _) (by simp) ?_; (case hd => rfl); (case hg => rfl); (case hr => first | (go_simp; done) | (go_simp; rfl)); (case hp => exact (Reps.c2 (show Kd.FK k66 _ _ (⟨([] : List Int), bb⟩ : S66) [.slice none 0 0, .slice bE bb.length bF] from (k66_mkF _ _ (⟨([] : List Int), bb⟩ : S66) (Nat.le_refl _) (Kd.F_nil _ _ _) (Kd.R_reads' (Kd.R_mono (ok' := (fun k_ => some k_ ≠ (bp : Value).ownBlock ∧ some k_ ≠ (bq : Value).ownBlock)) (Kd.R_apart' (Kd.R_apart' (bf.out) (Kd.R_typed ab.out) (by decide)) (Kd.R_typed ad.out) (by decide)) (fun k_ hk => ⟨hk.1.2, hk.2⟩))).2.1 (Kd.R_F (Kd.R_mono (ok' := (fun k_ => some k_ ≠ (bp : Value).ownBlock ∧ some k_ ≠ (bq : Value).ownBlock)) (Kd.R_apart' (Kd.R_apart' (bf.out) (Kd.R_typed ab.out) (by decide)) (Kd.R_typed ad.out) (by decide)) (fun k_ hk => ⟨hk.1.2, hk.2⟩))))) (Reps.none _ _))); intro cl w14 ho15 hb hg_ hnew_; clear hg_ hnew_; (first | rw [← bx.out] at ho15 | (simp only [Int.reduceToNat] at ho15; rw [← bx.out] at ho15)); replace ab := kR ab hb; replace ad := kR ad hb; have ag := kLN ho15 HB; replace HB := kH HB hb; clear bf; clear hb ho15; obtain ⟨aH, aG, bL⟩ := Kd.N_slice ag.out; subst bL; obtain ⟨aD, aE, bM⟩ := Kd.R_slice ad.out; subst bM; obtain ⟨av, aw, bN⟩ := Kd.R_slice ab.out; subst bN) | ((with_reducible refine gate_dst (N := 1) rfl ?_); (try (refine gate_guard (by rfl) ?_; dsimp only)); refine box_event ?hg (N := 1) ?hd (cs := #[.slice none 0 0, .slice none 0 0, .slice none 0 0]) (t := 26) ?hr ?_; (case hd => rfl); (case hg => rfl); (case hr => first | (go_simp; done) | (go_simp; rfl)); intro an hg w19 hbox hb; replace ab := kR ab hb; replace ad := kR ad hb; replace ag := Aside0.mk (Kd.N_below (Kd.N_elderB (krN ag) an (Nat.le_of_eq hg.symm)) hb); have ae := am hbox; have bY := kG HB hg; have bZ := kG HB hg; replace HB := kH HB hb; clear hb hbox hg; have Z20 := kz3 ae) | ((with_reducible refine gate_callee (f := 24) rfl ?_); refine goesL_ (some 18) rfl rfl Try.func24 (by kernel_rfl) rfl #[.int .u64 7, .agg #[.slice av ai.length aw, .slice aD ar.length aE, .slice aH aC.length aG]] rfl (by (try simp only [qM1, qM2, qM3]); first | done | rfl) ?_; (with_reducible refine (tune_Tune.calls k 7 _ _ ai _ _ ar _ _ aC aA au ax bo _ ?side1 ?side2 ?side3 ?side4 ?side5 ?side6 A1.out).mono ?_); (case side1 => exact (Kd.R_reads' (kt ab ae)).2.2); (case side2 => exact (Kd.R_reads' ab.out).2.1); (case side3 => exact (Kd.R_reads' (kt ad ae)).2.2); (case side4 => exact (Kd.R_reads' ad.out).2.1); (case side5 => refine (Kd.N_reads' (e := 66) (base := w.heap.size) (ok := fun k_ => ((some k_ ≠ (.slice av ai.length aw : Value).ownBlock ∧ some k_ ≠ (.slice aD ar.length aE : Value).ownBlock) ∧ k_ ≠ an)) (n := aC.length) (c := aG) ?_).2.2; exact (by (with_reducible repeat first | apply Kd.N_alloc | apply Kd.N_drewN | apply Kd.N_drew); exact (Kd.N_mono (Kd.N_far (p := ⟨an, 2, none⟩) (Kd.N_far (p := ⟨an, 1, none⟩) (Kd.N_far (p := ⟨an, 0, none⟩) (Kd.N_mono ag.out (fun k_ hk => (⟨hk, hk.2⟩ : _ ∧ k_ ≠ an))) (fun _ hk => hk.2) (.slice av ai.length aw)) (fun _ hk => hk.2) (.slice aD ar.length aE)) (fun _ hk => hk.2) (.slice aH aC.length aG)) (fun _ h_ => h_.1)))); (case side6 => exact (Kd.N_reads' ag.out).2.1); rintro e w21 ⟨bO, bP, cm, rfl, ho0, ho1, ho2, hb⟩; refine ⟨_, rfl, ?_⟩; have aj := Aside0.mk (Kd.R_lower (Kd.R_new' ho0 (Kd.R_lt (kt ab ae))) (below_size (kh HB))); have ah := Aside0.mk (Kd.R_lower (Kd.R_new' ho1 (Kd.R_lt (kt ad ae))) (below_size (kh HB))); have ak := Aside0.mk (Kd.N_lower (Kd.N_mono (ok' := fun k_ => some k_ ≠ (bO : Value).ownBlock ∧ some k_ ≠ (bP : Value).ownBlock ∧ some k_ ≠ (.slice av ai.length aw : Value).ownBlock ∧ some k_ ≠ (.slice aD ar.length aE : Value).ownBlock ∧ some k_ ≠ (.slice aH aC.length aG : Value).ownBlock ∧ k_ ≠ an) (Kd.S_N (Kd.S_bound (Kd.S_apart' (Kd.S_apart' ho2 (Kd.R_typed ho0) (by decide)) (Kd.R_typed ho1) (by decide)))) (fun k_ hk_ => ⟨hk_.1.1.2, hk_.1.2, (Kd.fresh' (Kd.R_lt (kt ab ae)) k_ hk_.2.1), (Kd.fresh' (Kd.R_lt (kt ad ae)) k_ hk_.2.1), (Kd.fresh' (Kd.N_lt (by (with_reducible repeat first | apply Kd.N_alloc | apply Kd.N_drewN | apply Kd.N_drew); exact (Kd.N_mono (Kd.N_far (p := ⟨an, 2, none⟩) (Kd.N_far (p := ⟨an, 1, none⟩) (Kd.N_far (p := ⟨an, 0, none⟩) (Kd.N_mono ag.out (fun k_ hk => (⟨hk, hk.2⟩ : _ ∧ k_ ≠ an))) (fun _ hk => hk.2) (.slice av ai.length aw)) (fun _ hk => hk.2) (.slice aD ar.length aE)) (fun _ hk => hk.2) (.slice aH aC.length aG)) (fun _ h_ => h_.1)))) k_ hk_.2.1), (Kd.freshB (g := an) (o := .cells #[.slice av ai.length aw, .slice aD ar.length aE, .slice aH aC.length aG] 26 (0, 0)) (kg ae) k_ hk_.2.1)⟩)) (below_size (kh HB))); replace ab := Aside0.mk (Kd.R_elder' (kt ab ae) (Kd.R_base ho0) hb); replace ad := Aside0.mk (Kd.R_elder' (kt ad ae) (Kd.R_base ho1) hb); replace ag := Aside0.mk (Kd.N_mono (Kd.N_told (Kd.N_told (Kd.N_told (Kd.N_old (by (with_reducible repeat first | apply Kd.N_alloc | apply Kd.N_drewN | apply Kd.N_drew); exact (Kd.N_mono (Kd.N_far (p := ⟨an, 2, none⟩) (Kd.N_far (p := ⟨an, 1, none⟩) (Kd.N_far (p := ⟨an, 0, none⟩) (Kd.N_mono ag.out (fun k_ hk => (⟨hk, hk.2⟩ : _ ∧ k_ ≠ an))) (fun _ hk => hk.2) (.slice av ai.length aw)) (fun _ hk => hk.2) (.slice aD ar.length aE)) (fun _ hk => hk.2) (.slice aH aC.length aG)) (fun _ h_ => h_.1))) hb) (Kd.R_base ho0)) (Kd.R_base ho1)) (Kd.S_base ho2)) (fun _ h_ => h_.1)); replace ae := kO (o' := .cells #[.slice av ai.length aw, .slice aD ar.length aE, .slice aH aC.length aG] 26 (0, 0)) ae hb; replace HB := kH HB hb; (try clear hb); (try clear hb2); (try clear hk); (try clear hi); (try clear ho0); (try clear ho1); (try clear ho2)) | ((with_reducible refine gate_dst (N := 2) rfl ?_); (try (refine gate_guard (by rfl) ?_; dsimp only)); refine box_event ?hg (N := 2) ?hd (cs := #[.slice none 0 0, .slice none 0 0, .slice none 0 0]) (t := 26) ?hr ?_; (case hd => rfl); (case hg => rfl); (case hr => first | (go_simp; done) | (go_simp; rfl)); intro ap hg w22 hbox hb; replace ab := kR ab hb; replace ad := kR ad hb; replace ag := Aside0.mk (Kd.N_below (Kd.N_elderB (krN ag) ap (Nat.le_of_eq hg.symm)) hb); replace aj := kR aj hb; replace ah := kR ah hb; replace ak := Aside0.mk (Kd.N_below (Kd.N_elderB (krN ak) ap (Nat.le_of_eq hg.symm)) hb); have af := am hbox; have ca := kG HB hg; have cb := kG HB hg; replace HB := kH HB hb; have bh := kP ae hg; have bi := kQ ae hg; replace ae := kU ae hb; clear hb hbox hg; obtain ⟨aM, aN, bQ⟩ := Kd.R_slice aj.out; subst bQ; have cc := bi.out; have cd := bh.out; have Z25 := kz3 af; obtain ⟨aK, aJ, bR⟩ := Kd.R_slice ah.out; subst bR; obtain ⟨aO, aL, bS⟩ := Kd.N_slice ak.out; subst bS; have Z28 := kz3 ae) | ((with_reducible refine gate_dst (N := 26) rfl ?_); (try (refine gate_guard (by rfl) ?_; dsimp only)); refine Kd.R_lit k61 _ 61 ?hg (N := 26) ?hd (xs := ([(⟨1, 0, 0, 0⟩ : S61), (⟨6, 0, 0, 2⟩ : S61), (⟨5, 1, 1, 0⟩ : S61)] : List (S61))) (inner := [.int .i64 1, .int .i64 0, .int .i64 0, .int .u64 0, .int .i64 6, .int .i64 0, .int .i64 0, .int .u64 2, .int .i64 5, .int .i64 1, .int .i64 1, .int .u64 0]) (ok := fun _ => True) (okp := fun _ => True) ?hr ?hp (fun _ hk => hk) trivial (Below.refl _ _) (Nat.le_refl _) (by simp) ?_; (case hd => rfl); (case hg => rfl); (case hr => first | (go_simp; done) | (go_simp; rfl)); (case hp => exact (Reps.c4 (show Kd.M k61 _ _ _ (⟨1, 0, 0, 0⟩ : S61) [.int .i64 1, .int .i64 0, .int .i64 0, .int .u64 0] from (k61_mkM _ _ _ (⟨1, 0, 0, 0⟩ : S61) )) (Reps.c4 (show Kd.M k61 _ _ _ (⟨6, 0, 0, 2⟩ : S61) [.int .i64 6, .int .i64 0, .int .i64 0, .int .u64 2] from (k61_mkM _ _ _ (⟨6, 0, 0, 2⟩ : S61) )) (Reps.c4 (show Kd.M k61 _ _ _ (⟨5, 1, 1, 0⟩ : S61) [.int .i64 5, .int .i64 1, .int .i64 1, .int .u64 0] from (k61_mkM _ _ _ (⟨5, 1, 1, 0⟩ : S61) )) (Reps.none _ _))))); intro br w29 ho30 hb hg_ hnew_; clear hg_ hnew_; (first | rw [← bz.out] at ho30 | (simp only [Int.reduceToNat] at ho30; rw [← bz.out] at ho30)); replace ab := Aside0.mk (Kd.R_below (kt ab af) hb); replace ag := Aside0.mk (Kd.N_elder' (by (with_reducible repeat first | apply Kd.N_alloc | apply Kd.N_drewN | apply Kd.N_drew); exact (Kd.N_mono (Kd.N_far (p := ⟨ap, 2, none⟩) (Kd.N_far (p := ⟨ap, 1, none⟩) (Kd.N_far (p := ⟨ap, 0, none⟩) (Kd.N_mono ag.out (fun k_ hk => (⟨hk, hk.2⟩ : _ ∧ k_ ≠ ap))) (fun _ hk => hk.2) (.slice aM aA.length aN)) (fun _ hk => hk.2) (.slice aK au.length aJ)) (fun _ hk => hk.2) (.slice aO ax.length aL)) (fun _ h_ => h_.1))) (Kd.R_base ho30) hb); replace aj := Aside0.mk (Kd.R_below (kt aj af) hb); replace ak := Aside0.mk (Kd.N_elder' (by (with_reducible repeat first | apply Kd.N_alloc | apply Kd.N_drewN | apply Kd.N_drew); exact (Kd.N_mono (Kd.N_far (p := ⟨ap, 2, none⟩) (Kd.N_far (p := ⟨ap, 1, none⟩) (Kd.N_far (p := ⟨ap, 0, none⟩) (Kd.N_mono ak.out (fun k_ hk => (⟨hk, hk.2⟩ : _ ∧ k_ ≠ ap))) (fun _ hk => hk.2) (.slice aM aA.length aN)) (fun _ hk => hk.2) (.slice aK au.length aJ)) (fun _ hk => hk.2) (.slice aO ax.length aL)) (fun _ h_ => h_.1))) (Kd.R_base ho30) hb); have ao := Aside0.mk (Kd.R_lower (Kd.R_new' (Kd.R_new' ho30 (Kd.R_lt (kt ad af))) (Kd.R_lt (kt ah af))) (below_size (kh HB))); replace ad := Aside0.mk (Kd.R_elder' (kt ad af) (Kd.R_base ho30) hb); replace ah := Aside0.mk (Kd.R_elder' (kt ah af) (Kd.R_base ho30) hb); replace ae := kU ae hb; replace af := kO (o' := .cells #[.slice aM aA.length aN, .slice aK au.length aJ, .slice aO ax.length aL] 26 (0, 0)) af hb; replace HB := kH HB hb; clear hb ho30) | ((with_reducible refine gate_dst (N := 27) rfl ?_); (try (refine gate_guard (by rfl) ?_; dsimp only)); refine Kd.R_lit (Kd.int .i64) _ 3 ?hg (N := 27) ?hd (xs := ([2] : List Int)) (inner := [.int .i64 2]) (ok := fun _ => True) (okp := fun _ => True) ?hr ?hp (fun _ hk => hk) trivial (Below.refl _ _) (Nat.le_refl _) (by simp) ?_; (case hd => rfl); (case hg => rfl); (case hr => first | (go_simp; done) | (go_simp; rfl)); (case hp => exact (Reps.one (show Kd.M (Kd.int .i64) _ _ _ 2 [.int .i64 2] from rfl) (Reps.none _ _))); intro cn w31 ho32 hb hg_ hnew_; clear hg_ hnew_; (first | rw [← bA.out] at ho32 | (simp only [Int.reduceToNat] at ho32; rw [← bA.out] at ho32)); replace ab := kR ab hb; replace ad := kR ad hb; replace ag := Aside0.mk (Kd.N_elder' (krN ag) (Kd.R_base ho32) hb); replace aj := kR aj hb; replace ah := kR ah hb; replace ak := Aside0.mk (Kd.N_elder' (krN ak) (Kd.R_base ho32) hb); replace ao := kR ao hb; have bg := kLR ho32 HB; replace ae := kU ae hb; replace af := kU af hb; replace HB := kH HB hb; clear hb ho32; obtain ⟨bG, bH, bT⟩ := Kd.R_slice bg.out; subst bT) | ((with_reducible refine gate_dst (N := 29) rfl ?_); (try (refine gate_guard (by rfl) ?_; dsimp only)); refine Kd.N_lit k66 _ 66 ?hg (N' := 29) ?hd (xs := ([(⟨([] : List Int), bc⟩ : S66)] : List (S66))) (inner := [.slice none 0 0, .slice bG bc.length bH]) (ok := (fun k_ => some k_ ≠ (.slice av ai.length aw : Value).ownBlock ∧ some k_ ≠ (.slice aD ar.length aE : Value).ownBlock ∧ some k_ ≠ (.slice aH aC.length aG : Value).ownBlock ∧ some k_ ≠ (.slice aM aA.length aN : Value).ownBlock ∧ some k_ ≠ (.slice aK au.length aJ : Value).ownBlock ∧ some k_ ≠ (.slice aO ax.length aL : Value).ownBlock ∧ some k_ ≠ (br : Value).ownBlock ∧ k_ ≠ an ∧ k_ ≠ ap)) (okp := (fun k_ => some k_ ≠ (.slice av ai.length aw : Value).ownBlock ∧ some k_ ≠ (.slice aD ar.length aE : Value).ownBlock ∧ some k_ ≠ (.slice aH aC.length aG : Value).ownBlock ∧ some k_ ≠ (.slice aM aA.length aN : Value).ownBlock ∧ some k_ ≠ (.slice aK au.length aJ : Value).ownBlock ∧ some k_ ≠ (.slice aO ax.length aL : Value).ownBlock ∧ some k_ ≠ (br : Value).ownBlock ∧ k_ ≠ an ∧ k_ ≠ ap)) ?hr ?hp (fun _ hk => hk) ((show ∀ k_, w31.heap.size ≤ k_ → (fun k_ => some k_ ≠ (.slice av ai.length aw : Value).ownBlock ∧ some k_ ≠ (.slice aD ar.length aE : Value).ownBlock ∧ some k_ ≠ (.slice aH aC.length aG : Value).ownBlock ∧ some k_ ≠ (.slice aM aA.length aN : Value).ownBlock ∧ some k_ ≠ (.slice aK au.length aJ : Value).ownBlock ∧ some k_ ≠ (.slice aO ax.length aL : Value).ownBlock ∧ some k_ ≠ (br : Value).ownBlock ∧ k_ ≠ an ∧ k_ ≠ ap) k_ from fun k_ hk => ⟨Kd.fresh' (Kd.R_lt (krR ab)) k_ hk, Kd.fresh' (Kd.R_lt (krR ad)) k_ hk, Kd.fresh' (Kd.N_lt (krN ag)) k_ hk, Kd.fresh' (Kd.R_lt (krR aj)) k_ hk, Kd.fresh' (Kd.R_lt (krR ah)) k_ hk, Kd.fresh' (Kd.N_lt (krN ak)) k_ hk, Kd.fresh' (Kd.R_lt (krR ao)) k_ hk, Kd.freshB (g := an) (o := .cells #[.slice av ai.length aw, .slice aD ar.length aE, .slice aH aC.length aG] 26 (0, 0)) (kb ae) k_ hk, Kd.freshB (g := ap) (o := .cells #[.slice aM aA.length aN, .slice aK au.length aJ, .slice aO ax.length aL] 26 (0, 0)) (kb af) k_ hk⟩) _ (Nat.le_refl _)) (Below.refl _ _) (Nat.le_refl _) (by simp) ?_; (case hd => rfl); (case hg => rfl); (case hr => first | (go_simp; done) | (go_simp; rfl)); (case hp => exact (Reps.c2 (show Kd.FK k66 _ _ (⟨([] : List Int), bc⟩ : S66) [.slice none 0 0, .slice bG bc.length bH] from (k66_mkF _ _ (⟨([] : List Int), bc⟩ : S66) (Nat.le_refl _) (Kd.F_nil _ _ _) (Kd.R_reads' (Kd.R_mono (ok' := (fun k_ => some k_ ≠ (.slice av ai.length aw : Value).ownBlock ∧ some k_ ≠ (.slice aD ar.length aE : Value).ownBlock ∧ some k_ ≠ (.slice aH aC.length aG : Value).ownBlock ∧ some k_ ≠ (.slice aM aA.length aN : Value).ownBlock ∧ some k_ ≠ (.slice aK au.length aJ : Value).ownBlock ∧ some k_ ≠ (.slice aO ax.length aL : Value).ownBlock ∧ some k_ ≠ (br : Value).ownBlock ∧ k_ ≠ an ∧ k_ ≠ ap)) (Kd.R_types (Kd.R_types (Kd.R_apart' (Kd.R_apart' (Kd.R_apart' (Kd.R_apart' (Kd.R_apart' (Kd.R_apart' (Kd.R_apart' (bg.out) (Kd.R_typed ab.out) (by decide)) (Kd.R_typed ad.out) (by decide)) (Kd.N_typed ag.out) (by decide)) (Kd.R_typed aj.out) (by decide)) (Kd.R_typed ah.out) (by decide)) (Kd.N_typed ak.out) (by decide)) (Kd.R_typed ao.out) (by decide)) ae.out (by decide)) af.out (by decide)) (fun k_ hk => ⟨hk.1.1.1.1.1.1.1.1.2, ⟨hk.1.1.1.1.1.1.1.2, ⟨hk.1.1.1.1.1.1.2, ⟨hk.1.1.1.1.1.2, ⟨hk.1.1.1.1.2, ⟨hk.1.1.1.2, ⟨hk.1.1.2, ⟨hk.1.2, hk.2⟩⟩⟩⟩⟩⟩⟩⟩))).2.1 (Kd.R_F (Kd.R_mono (ok' := (fun k_ => some k_ ≠ (.slice av ai.length aw : Value).ownBlock ∧ some k_ ≠ (.slice aD ar.length aE : Value).ownBlock ∧ some k_ ≠ (.slice aH aC.length aG : Value).ownBlock ∧ some k_ ≠ (.slice aM aA.length aN : Value).ownBlock ∧ some k_ ≠ (.slice aK au.length aJ : Value).ownBlock ∧ some k_ ≠ (.slice aO ax.length aL : Value).ownBlock ∧ some k_ ≠ (br : Value).ownBlock ∧ k_ ≠ an ∧ k_ ≠ ap)) (Kd.R_types (Kd.R_types (Kd.R_apart' (Kd.R_apart' (Kd.R_apart' (Kd.R_apart' (Kd.R_apart' (Kd.R_apart' (Kd.R_apart' (bg.out) (Kd.R_typed ab.out) (by decide)) (Kd.R_typed ad.out) (by decide)) (Kd.N_typed ag.out) (by decide)) (Kd.R_typed aj.out) (by decide)) (Kd.R_typed ah.out) (by decide)) (Kd.N_typed ak.out) (by decide)) (Kd.R_typed ao.out) (by decide)) ae.out (by decide)) af.out (by decide)) (fun k_ hk => ⟨hk.1.1.1.1.1.1.1.1.2, ⟨hk.1.1.1.1.1.1.1.2, ⟨hk.1.1.1.1.1.1.2, ⟨hk.1.1.1.1.1.2, ⟨hk.1.1.1.1.2, ⟨hk.1.1.1.2, ⟨hk.1.1.2, ⟨hk.1.2, hk.2⟩⟩⟩⟩⟩⟩⟩⟩))))) (Reps.none _ _))); intro co w34 ho35 hb hg_ hnew_; clear hg_ hnew_; (first | rw [← bB.out] at ho35 | (simp only [Int.reduceToNat] at ho35; rw [← bB.out] at ho35)); replace ab := kR ab hb; replace ad := kR ad hb; replace ag := Aside0.mk (Kd.N_elder' (krN ag) (Kd.N_base ho35) hb); replace aj := kR aj hb; replace ah := kR ah hb; replace ak := Aside0.mk (Kd.N_elder' (krN ak) (Kd.N_base ho35) hb); replace ao := kR ao hb; have aF := kLN ho35 HB; replace ae := kU ae hb; replace af := kU af hb; replace HB := kH HB hb; clear bg; clear hb ho35; obtain ⟨bj, bd, bU⟩ := Kd.N_slice aF.out; subst bU; obtain ⟨ba, aR, bV⟩ := Kd.R_slice ao.out; subst bV) | ((with_reducible refine gate_dst (N := 4) rfl ?_); (try (refine gate_guard (by rfl) ?_; dsimp only)); refine box_event ?hg (N := 4) ?hd (cs := #[.slice none 0 0, .slice none 0 0, .slice none 0 0]) (t := 26) ?hr ?_; (case hd => rfl); (case hg => rfl); (case hr => first | (go_simp; done) | (go_simp; rfl)); intro al hg w38 hbox hb; replace ab := kR ab hb; replace ad := kR ad hb; replace ag := Aside0.mk (Kd.N_below (Kd.N_elderB (krN ag) al (Nat.le_of_eq hg.symm)) hb); replace aj := kR aj hb; replace ah := kR ah hb; replace ak := Aside0.mk (Kd.N_below (Kd.N_elderB (krN ak) al (Nat.le_of_eq hg.symm)) hb); replace ao := kR ao hb; replace aF := Aside0.mk (Kd.N_below (Kd.N_elderB (krN aF) al (Nat.le_of_eq hg.symm)) hb); have aq := am hbox; have ce := kG HB hg; have cf := kG HB hg; replace HB := kH HB hb; have bk := kP ae hg; have bl := kQ ae hg; replace ae := kU ae hb; have bm := kP af hg; have bn := kQ af hg; replace af := kU af hb; clear hb hbox hg; have cg := bl.out; have ch := bk.out; have ci := bn.out; have cj := bm.out; have Z41 := kz3 aq; have Z42 := kz3 af) | (go_at_call 29; (with_reducible refine (qba.calls k _ _ aA _ _ au _ _ ax _ _ ai _ _ aI _ _ aQ true _ ?side1 ?side2 ?side3 ?side4 ?side5 ?side6 ?side7 ?side8 ?side9 ?side10 ?side11 ?side12 A3.out).mono ?_); (case side1 => exact (Kd.R_reads' (kt aj aq)).2.2); (case side2 => exact (Kd.R_reads' aj.out).2.1); (case side3 => refine (Kd.R_reads' (e := 61) (base := w.heap.size) (ok := fun k_ => ((True ∧ some k_ ≠ (.slice aD ar.length aE : Value).ownBlock) ∧ some k_ ≠ (.slice ba aI.length aR : Value).ownBlock)) (n := au.length) (c := aJ) ?_).2.2; exact (kt ah aq)); (case side4 => exact (Kd.R_reads' ah.out).2.1); (case side5 => exact (Kd.N_reads' (e := 66) (base := w.heap.size) (n := ax.length) (c := aL) (by (with_reducible repeat first | apply Kd.N_alloc | apply Kd.N_drewN | apply Kd.N_drew); exact (Kd.N_mono (Kd.N_far (p := ⟨al, 2, none⟩) (Kd.N_far (p := ⟨al, 1, none⟩) (Kd.N_far (p := ⟨al, 0, none⟩) (Kd.N_mono ak.out (fun k_ hk => (⟨hk, hk.2⟩ : _ ∧ k_ ≠ al))) (fun _ hk => hk.2) (.slice av ai.length aw)) (fun _ hk => hk.2) (.slice ba aI.length aR)) (fun _ hk => hk.2) (.slice bj aQ.length bd)) (fun _ h_ => h_.1)))).2.2); (case side6 => exact (Kd.N_reads' ak.out).2.1); (case side7 => exact (Kd.R_reads' (kt ab aq)).2.2); (case side8 => exact (Kd.R_reads' ab.out).2.1); (case side9 => refine (Kd.R_reads' (e := 61) (base := w.heap.size) (ok := fun k_ => ((True ∧ some k_ ≠ (.slice aD ar.length aE : Value).ownBlock) ∧ some k_ ≠ (.slice aK au.length aJ : Value).ownBlock)) (n := aI.length) (c := aR) ?_).2.2; exact (kt ao aq)); (case side10 => exact (Kd.R_reads' ao.out).2.1); (case side11 => refine (Kd.N_reads' (e := 66) (base := w.heap.size) (ok := fun k_ => ((some k_ ≠ (.slice av ai.length aw : Value).ownBlock ∧ (some k_ ≠ (.slice aD ar.length aE : Value).ownBlock ∧ (some k_ ≠ (.slice aH aC.length aG : Value).ownBlock ∧ (some k_ ≠ (.slice aM aA.length aN : Value).ownBlock ∧ (some k_ ≠ (.slice aK au.length aJ : Value).ownBlock ∧ (some k_ ≠ (.slice aO ax.length aL : Value).ownBlock ∧ (some k_ ≠ (.slice ba aI.length aR : Value).ownBlock ∧ (k_ ≠ an ∧ k_ ≠ ap)))))))) ∧ k_ ≠ al)) (n := aQ.length) (c := bd) ?_).2.2; exact (by (with_reducible repeat first | apply Kd.N_alloc | apply Kd.N_drewN | apply Kd.N_drew); exact (Kd.N_mono (Kd.N_far (p := ⟨al, 2, none⟩) (Kd.N_far (p := ⟨al, 1, none⟩) (Kd.N_far (p := ⟨al, 0, none⟩) (Kd.N_mono aF.out (fun k_ hk => (⟨hk, hk.2⟩ : _ ∧ k_ ≠ al))) (fun _ hk => hk.2) (.slice av ai.length aw)) (fun _ hk => hk.2) (.slice ba aI.length aR)) (fun _ hk => hk.2) (.slice bj aQ.length bd)) (fun _ h_ => h_.1)))); (case side12 => exact (Kd.N_reads' aF.out).2.1); rintro e w43 ⟨rfl, hb⟩; replace ab := Aside0.mk (Kd.R_below (kt ab aq) hb); replace ad := Aside0.mk (Kd.R_below (kt ad aq) hb); replace ag := Aside0.mk (Kd.N_below (by (with_reducible repeat first | apply Kd.N_alloc | apply Kd.N_drewN | apply Kd.N_drew); exact (Kd.N_mono (Kd.N_far (p := ⟨al, 2, none⟩) (Kd.N_far (p := ⟨al, 1, none⟩) (Kd.N_far (p := ⟨al, 0, none⟩) (Kd.N_mono ag.out (fun k_ hk => (⟨hk, hk.2⟩ : _ ∧ k_ ≠ al))) (fun _ hk => hk.2) (.slice av ai.length aw)) (fun _ hk => hk.2) (.slice ba aI.length aR)) (fun _ hk => hk.2) (.slice bj aQ.length bd)) (fun _ h_ => h_.1))) hb); replace aj := Aside0.mk (Kd.R_below (kt aj aq) hb); replace ah := Aside0.mk (Kd.R_below (kt ah aq) hb); replace ak := Aside0.mk (Kd.N_below (by (with_reducible repeat first | apply Kd.N_alloc | apply Kd.N_drewN | apply Kd.N_drew); exact (Kd.N_mono (Kd.N_far (p := ⟨al, 2, none⟩) (Kd.N_far (p := ⟨al, 1, none⟩) (Kd.N_far (p := ⟨al, 0, none⟩) (Kd.N_mono ak.out (fun k_ hk => (⟨hk, hk.2⟩ : _ ∧ k_ ≠ al))) (fun _ hk => hk.2) (.slice av ai.length aw)) (fun _ hk => hk.2) (.slice ba aI.length aR)) (fun _ hk => hk.2) (.slice bj aQ.length bd)) (fun _ h_ => h_.1))) hb); replace ao := Aside0.mk (Kd.R_below (kt ao aq) hb); replace aF := Aside0.mk (Kd.N_below (by (with_reducible repeat first | apply Kd.N_alloc | apply Kd.N_drewN | apply Kd.N_drew); exact (Kd.N_mono (Kd.N_far (p := ⟨al, 2, none⟩) (Kd.N_far (p := ⟨al, 1, none⟩) (Kd.N_far (p := ⟨al, 0, none⟩) (Kd.N_mono aF.out (fun k_ hk => (⟨hk, hk.2⟩ : _ ∧ k_ ≠ al))) (fun _ hk => hk.2) (.slice av ai.length aw)) (fun _ hk => hk.2) (.slice ba aI.length aR)) (fun _ hk => hk.2) (.slice bj aQ.length bd)) (fun _ h_ => h_.1))) hb); replace ae := kU ae hb; replace af := kU af hb; replace aq := kO (o' := .cells #[.slice av ai.length aw, .slice ba aI.length aR, .slice bj aQ.length bd] 26 (0, 0)) aq hb; replace HB := kH HB hb; (try clear hb); (try clear hb2); (try clear hk); (try clear hi); have Z44 := kz3 af) | (go_at_call 14; (with_reducible refine (tune_Levels.calls k _ _ aA _ _ au _ _ ax ay _ ?side1 ?side2 ?side3 ?side4 ?side5 ?side6 A5.out).mono ?_); (case side1 => repeat (first | exact (Kd.R_reads' aj.out).2.2 | (with_reducible first | refine Kd.C_alloc ?_ _ | refine Kd.C_drewN ?_ _ | refine Kd.C_drew ?_))); (case side2 => exact (Kd.R_reads' aj.out).2.1); (case side3 => repeat (first | exact (Kd.R_reads' ah.out).2.2 | (with_reducible first | refine Kd.C_alloc ?_ _ | refine Kd.C_drewN ?_ _ | refine Kd.C_drew ?_))); (case side4 => exact (Kd.R_reads' ah.out).2.1); (case side5 => repeat (first | exact (Kd.N_reads' ak.out).2.2 | (with_reducible first | refine Kd.C_alloc ?_ _ | refine Kd.C_drewN ?_ _ | refine Kd.C_drew ?_))); (case side6 => exact (Kd.N_reads' ak.out).2.1); rintro e w45 ⟨cp, rfl, ho0, hb⟩; replace ab := kR ab hb; replace ad := kR ad hb; replace ag := Aside0.mk (Kd.N_elder' (krN ag) (Kd.R_base ho0) hb); replace aj := kR aj hb; replace ah := kR ah hb; replace ak := Aside0.mk (Kd.N_elder' (krN ak) (Kd.R_base ho0) hb); replace ao := kR ao hb; replace aF := Aside0.mk (Kd.N_elder' (krN aF) (Kd.R_base ho0) hb); have aP := kLR ho0 HB; replace ae := kU ae hb; replace af := kU af hb; replace aq := kU aq hb; replace HB := kH HB hb; (try clear hb); (try clear hb2); (try clear hk); (try clear hi); (try clear ho0)) | ((with_reducible refine gate_dst (N := 41) rfl ?_); (try (refine gate_guard (by rfl) ?_; dsimp only)); refine Kd.R_lit (Kd.int .i64) _ 3 ?hg (N := 41) ?hd (xs := ([0, 0, 1] : List Int)) (inner := [.int .i64 0, .int .i64 0, .int .i64 1]) (ok := fun _ => True) (okp := fun _ => True) ?hr ?hp (fun _ hk => hk) trivial (Below.refl _ _) (Nat.le_refl _) (by simp) ?_; (case hd => rfl); (case hg => rfl); (case hr => first | (go_simp; done) | (go_simp; rfl)); (case hp => exact (Reps.one (show Kd.M (Kd.int .i64) _ _ _ 0 [.int .i64 0] from rfl) (Reps.one (show Kd.M (Kd.int .i64) _ _ _ 0 [.int .i64 0] from rfl) (Reps.one (show Kd.M (Kd.int .i64) _ _ _ 1 [.int .i64 1] from rfl) (Reps.none _ _))))); intro cq w46 ho47 hb hg_ hnew_; clear hg_ hnew_; (first | rw [← bC.out] at ho47 | (simp only [Int.reduceToNat] at ho47; rw [← bC.out] at ho47)); replace ab := kR ab hb; replace ad := kR ad hb; replace ag := Aside0.mk (Kd.N_elder' (krN ag) (Kd.R_base ho47) hb); replace aj := kR aj hb; replace ah := kR ah hb; replace ak := Aside0.mk (Kd.N_elder' (krN ak) (Kd.R_base ho47) hb); replace ao := kR ao hb; replace aF := Aside0.mk (Kd.N_elder' (krN aF) (Kd.R_base ho47) hb); have bt := Aside0.mk (Kd.R_lower (Kd.R_new' ho47 (Kd.R_lt (krR aP))) (below_size (kh HB))); replace aP := Aside0.mk (Kd.R_elder' (krR aP) (Kd.R_base ho47) hb); replace ae := kU ae hb; replace af := kU af hb; replace aq := kU aq hb; replace HB := kH HB hb; clear hb ho47; obtain ⟨cr, ct, bW⟩ := Kd.R_slice aP.out; subst bW; obtain ⟨cu, cv, bX⟩ := Kd.R_slice bt.out; subst bX) | (go_at_call 13; (with_reducible refine (qda.calls k _ _ ay _ _ bD az _ ?side1 ?side2 ?side3 ?side4 A6.out).mono ?_); (case side1 => repeat (first | exact (Kd.R_reads' aP.out).2.2 | (with_reducible first | refine Kd.C_alloc ?_ _ | refine Kd.C_drewN ?_ _ | refine Kd.C_drew ?_))); (case side2 => exact (Kd.R_reads' aP.out).2.1); (case side3 => repeat (first | exact (Kd.R_reads' bt.out).2.2 | (with_reducible first | refine Kd.C_alloc ?_ _ | refine Kd.C_drewN ?_ _ | refine Kd.C_drew ?_))); (case side4 => exact (Kd.R_reads' bt.out).2.1); rintro e w' ⟨rfl, ⟨nd, rfl⟩⟩))
 go_ret;exact ⟨er, kh HB⟩
def qka.f (k : Nat) (aa : List (S64)) (ab : List (S61)) (ad : List (S66)) : Option (Bool) := (qca.f k aa ab ad).bind fun ae => ((tune_Levels.f k aa ab ad).bind fun af => ((qda.f k af ae.1).bind fun ag => (if ag = true then ((qja.f k).bind fun ah => (some ah)) else (some false))))
theorem qka.calls (k : Nat) (ah : Option Addr) (ai : Nat) (ad : List (S64)) (aj : Option Addr) (ak : Nat) (ae : List (S61)) (al : Option Addr) (an : Nat) (af : List (S66)) (r : Bool) (w : World) (ap : Kd.C k64 w ah ad.length ad) (aq : ad.length ≤ ai) (ar : Kd.C k61 w aj ae.length ae) (au : ae.length ≤ ak) (av : Kd.C k66 w al af.length af) (aw : af.length ≤ an) (h : qka.f k ad ae af = some r) (hrt : r = true := by rfl) :
  Calls Try.prog 3 #[.agg #[.slice ah ad.length ai, .slice aj ae.length ak, .slice al af.length an]] w fun e w' => e = .returned (.bool r) ∧ Below w.heap.size w w' := by
 have HRT := Aside0.mk hrt;clear hrt;have hu26 := Try.underlying26;have ax := Aside0.mk ap;have ay := Aside0.mk aq;clear ap aq;have az := Aside0.mk ar;have aA := Aside0.mk au;clear ar au;have aB := Aside0.mk av;have aC := Aside0.mk aw;clear av aw;have HB := Aside0.mk (Below.refl w.heap.size w);have H : ((qca.f k ad ae af).bind fun aG => ((tune_Levels.f k ad ae af).bind fun ao => ((qda.f k ao aG.1).bind fun aD => (if aD = true then ((qja.f k).bind fun aE => (some aE)) else (some false))))) = some r := h;clear h;replace H := Option.bind_eq_some_iff.mp H;obtain ⟨⟨aF, aH⟩, A20, H⟩ := H;(try dsimp only at H);have A2 := Aside0.mk A20;clear A20;replace H := Option.bind_eq_some_iff.mp H;obtain ⟨ao, A30, H⟩ := H;(try dsimp only at H);have A3 := Aside0.mk A30;clear A30;replace H := Option.bind_eq_some_iff.mp H;obtain ⟨aD, A40, H⟩ := H;(try dsimp only at H);have A4 := Aside0.mk A40;clear A40
 by_cases c5 : aD = true
 rotate_left
 ·replace c5 := Bool.eq_false_iff.mpr c5
  subst c5;replace H := ifF H;exact absurd ((Option.some.inj H).trans HRT.out) (by decide)
 subst c5;replace H := ifT H;replace H := Option.bind_eq_some_iff.mp H;obtain ⟨aE, A60, H⟩ := H;(try dsimp only at H);have A6 := Aside0.mk A60;clear A60;obtain rfl := Option.some.inj H;go_enter Try.func3, Try.ntmps3;go_wp2_with (first | ((with_reducible refine gate_dst (N := 1) rfl ?_); refine box_event ?hg (N := 1) ?hd (cs := #[.slice ah ad.length ai, .slice aj ae.length ak, .slice al af.length an]) (t := 26) ?hr ?_; (case hd => rfl); (case hg => rfl); (case hr => first | (go_simp; done) | (go_simp; rfl)); intro aO hg w7 hbox hb; have aa := am hbox; have aP := kG HB hg; have aQ := kG HB hg; replace HB := kH HB hb; clear hb hbox hg; have Z8 := kz3 aa) | ((with_reducible refine gate_callee (f := 12) rfl ?_); refine goesL_ (some 7) rfl rfl Try.func12 (by kernel_rfl) rfl #[.agg #[.slice ah ad.length ai, .slice aj ae.length ak, .slice al af.length an]] rfl (by (try simp only [qM1, qM2, qM3]); first | done | rfl) ?_; (with_reducible refine (qca.calls k _ _ ad _ _ ae _ _ af aF aH _ ?side1 ?side2 ?side3 ?side4 ?side5 ?side6 A2.out).mono ?_); (case side1 => repeat (first | exact (Kd.C_below ax.out HB.out) | (with_reducible first | refine Kd.C_alloc ?_ _ | refine Kd.C_drewN ?_ _ | refine Kd.C_drew ?_))); (case side2 => exact ay.out); (case side3 => repeat (first | exact (Kd.C_below az.out HB.out) | (with_reducible first | refine Kd.C_alloc ?_ _ | refine Kd.C_drewN ?_ _ | refine Kd.C_drew ?_))); (case side4 => exact aA.out); (case side5 => repeat (first | exact (Kd.C_below aB.out HB.out) | (with_reducible first | refine Kd.C_alloc ?_ _ | refine Kd.C_drewN ?_ _ | refine Kd.C_drew ?_))); (case side6 => exact aC.out); rintro e w9 ⟨aR, rfl, ho0, hb⟩; refine ⟨_, rfl, ?_⟩; have ab := kLR ho0 HB; replace aa := kU aa hb; replace HB := kH HB hb; (try clear hb); (try clear hb2); (try clear hk); (try clear hi); (try clear ho0); have Z10 := kz3 aa) | ((with_reducible refine gate_callee (f := 14) rfl ?_); refine goesL_ (some 11) rfl rfl Try.func14 (by kernel_rfl) rfl #[.agg #[.slice ah ad.length ai, .slice aj ae.length ak, .slice al af.length an]] rfl (by (try simp only [qM1, qM2, qM3]); first | done | rfl) ?_; (with_reducible refine (tune_Levels.calls k _ _ ad _ _ ae _ _ af ao _ ?side1 ?side2 ?side3 ?side4 ?side5 ?side6 A3.out).mono ?_); (case side1 => repeat (first | exact (Kd.C_below ax.out HB.out) | (with_reducible first | refine Kd.C_alloc ?_ _ | refine Kd.C_drewN ?_ _ | refine Kd.C_drew ?_))); (case side2 => exact ay.out); (case side3 => repeat (first | exact (Kd.C_below az.out HB.out) | (with_reducible first | refine Kd.C_alloc ?_ _ | refine Kd.C_drewN ?_ _ | refine Kd.C_drew ?_))); (case side4 => exact aA.out); (case side5 => repeat (first | exact (Kd.C_below aB.out HB.out) | (with_reducible first | refine Kd.C_alloc ?_ _ | refine Kd.C_drewN ?_ _ | refine Kd.C_drew ?_))); (case side6 => exact aC.out); rintro e w11 ⟨aS, rfl, ho0, hb⟩; refine ⟨_, rfl, ?_⟩; have ag := Aside0.mk (Kd.R_lower (Kd.R_new' ho0 (Kd.R_lt (krR ab))) (below_size (kh HB))); replace ab := Aside0.mk (Kd.R_elder' (krR ab) (Kd.R_base ho0) hb); replace aa := kU aa hb; replace HB := kH HB hb; (try clear hb); (try clear hb2); (try clear hk); (try clear hi); (try clear ho0); obtain ⟨aI, aJ, aK⟩ := Kd.R_slice ag.out; subst aK; obtain ⟨aL, aM, aN⟩ := Kd.R_slice ab.out; subst aN) | ((with_reducible refine gate_callee (f := 13) rfl ?_); refine goesL_ (some 13) rfl rfl Try.func13 (by kernel_rfl) rfl #[.slice aI ao.length aJ, .slice aL aF.length aM] rfl (by (try simp only [qM1, qM2, qM3]); first | done | rfl) ?_; (with_reducible refine (qda.calls k _ _ ao _ _ aF true _ ?side1 ?side2 ?side3 ?side4 A4.out).mono ?_); (case side1 => repeat (first | exact (Kd.R_reads' ag.out).2.2 | (with_reducible first | refine Kd.C_alloc ?_ _ | refine Kd.C_drewN ?_ _ | refine Kd.C_drew ?_))); (case side2 => exact (Kd.R_reads' ag.out).2.1); (case side3 => repeat (first | exact (Kd.R_reads' ab.out).2.2 | (with_reducible first | refine Kd.C_alloc ?_ _ | refine Kd.C_drewN ?_ _ | refine Kd.C_drew ?_))); (case side4 => exact (Kd.R_reads' ab.out).2.1); rintro e w' ⟨rfl, ⟨nd, rfl⟩⟩; refine ⟨_, rfl, ?_⟩) | (go_at_call 15; (with_reducible refine (qja.calls k  aE _ A6.out (by first | rfl | exact HRT.out)).mono ?_); rintro e w14 ⟨rfl, hb⟩; replace ab := kR ab hb; replace ag := kR ag hb; replace aa := kU aa hb; replace HB := kH HB hb; (try clear hb); (try clear hb2); (try clear hk); (try clear hi)));go_ret;exact ⟨er, kh HB⟩
end Go.Proofs.Ytmlbliggbkfjnaa.J
/- What comes in laid out as a type says is a value of a kind, within the bounds that its weights leave: once for every type. -/
namespace Go.Proofs.Ytmlbliggbkfjnaa.Op
open Go.RowKit Go.Proofs.YtmlbliggbkfjnaaW.PrintWords Go.Proofs.YtmlbliggbkfjnaaW.PrintLast Go.Proofs.YtmlbliggbkfjnaaW.PrintMore
def Opens {α : Type} (P : Program) (d : Kd α) (t : TypeId) (wf : α → Prop) : Prop :=
  ∀ (H : Type) (enc : TypeId × Value → H) (w : World) (base fuel : Nat) (spare : Nat → Bool) (held : Bool) (cs : List Value) (x : DataW H × List MemPlace), cs.length = d.sz →
    DataW.trod enc P w base spare held fuel t cs = some x → (x.1.weights P t).all (· ≤ reachBytes) = true → ∃ a, d.K w a cs ∧ wf a
theorem op_int {P : Program} {t : TypeId} {k : IntKind} (ht : P.underlying t = some (.int k)) : Opens P (Kd.int k) t (fun n => (Lit.int k n).wf = true) := by
  intro H enc w base fuel spare held cs x _ h _;obtain ⟨n, rfl, _, hw⟩ := DataW.trod_int ht h;exact ⟨n, rfl, hw⟩
theorem op_bool {P : Program} {t : TypeId} (ht : P.underlying t = some .bool) : Opens P Kd.bool t (fun _ => True) := by
  intro H enc w base fuel spare held cs x _ h _;obtain ⟨n, rfl, _⟩ := DataW.trod_bool ht h;exact ⟨n, rfl, trivial⟩
theorem all_weights {H : Type} {P : Program} {e : TypeId} {p : Nat → Bool} : ∀ (ds : List (DataW H)), (DataW.weightsAll P e ds).all p = true → ∀ d ∈ ds, (d.weights P e).all p = true
  | [], _, d, hd => by simp at hd
  | a :: r, h, d, hd => by
    unfold DataW.weightsAll at h;rw [List.all_append, Bool.and_eq_true] at h
    rcases List.mem_cons.1 hd with rfl | hd
    · exact h.1
    · exact all_weights r h.2 d hd
theorem add_add_ (a : Addr) (i j : Nat) : a.add (i + j) = (a.add i).add j := by
  cases a
  unfold Addr.add
  rcases Nat.eq_zero_or_pos i with hi | hi <;> rcases Nat.eq_zero_or_pos j with hj | hj
  · simp [hi, hj]
  · simp [hi, show j ≠ 0 by omega]
  · simp [hj, show i ≠ 0 by omega]
  · simp [show i ≠ 0 by omega, show j ≠ 0 by omega, Nat.add_assoc]
theorem pick {β : Type} {p : Nat → β → Prop} : ∀ n, (∀ i : Nat, i < n → ∃ q, p i q) → ∃ l : List β, l.length = n ∧ ∀ (i : Nat) (q : β), l[i]? = some q → p i q
  | 0, _ => ⟨[], rfl, fun i q h => by simp at h⟩
  | n + 1, h => by
    obtain ⟨l, hl, hp⟩ := pick n (fun i hi => h i (by omega));obtain ⟨q, hq⟩ := h n (by omega);refine ⟨l ++ [q], by simp [hl], fun i r hr => ?_⟩
    rcases Nat.lt_or_ge i l.length with hi | hi
    · rw [List.getElem?_append_left hi] at hr
      exact hp i r hr
    · rw [List.getElem?_append_right hi] at hr
      have h0 : i - l.length = 0 := by
        rcases Nat.eq_zero_or_pos (i - l.length) with h' | h'
        · exact h'
        · rw [List.getElem?_eq_none (by simp; omega)] at hr; cases hr
      rw [h0] at hr
      obtain rfl : q = r := by simpa using hr
      have : i = n := by omega
      rw [this]; exact hq
theorem weights_at {H : Type} {P : Program} {p : Nat → Bool} : ∀ (ts : List TypeId) (ds : List (DataW H)) (j : Nat) {t : TypeId} {d : DataW H}, (DataW.weightsEach P ts ds).all p = true → ts[j]? = some t → ds[j]? = some d → (d.weights P t).all p = true
  | [], _, _, _, _, _, ht, _ => by simp at ht
  | _ :: _, [], _, _, _, _, _, hd => by simp at hd
  | t :: ts, d :: ds, j, t', d', h, ht, hd => by
    unfold DataW.weightsEach at h;rw [List.all_append, Bool.and_eq_true] at h
    match j, ht, hd with
    | 0, ht, hd =>
      obtain rfl : t = t' := by simpa using ht
      obtain rfl : d = d' := by simpa using hd
      exact h.1
    | j + 1, ht, hd => exact weights_at ts ds j h.2 (by simpa using ht) (by simpa using hd)
theorem op_slice {α : Type} {P : Program} {d : Kd α} {t e : TypeId} {B : Nat} {wf : α → Prop} (ht : P.underlying t = some (.slice e)) (hB : P.bytesOf e = B) (hsz : P.cellsOf e = d.sz) (he : Opens P d e wf) :
    Opens P (Kd.slice e d) t (fun l => l.length ≤ maxLen ∧ l.length * B ≤ 140737488351232 ∧ ∀ a ∈ l, wf a) := by
  intro H enc w base fuel spare held cs x _ h hw
  rcases Go.Deep.open_slice ht h with ⟨rfl, _⟩ | ⟨a, len, cap, m, n, D, Pl, rfl, hb, hl, hm, hmm, rfl, hx⟩
  · exact ⟨[], ⟨none, 0, rfl, Nat.le_refl _, rfl, Nat.zero_le _, fun h0 => absurd h0 (by simp)⟩, by simp, by simp, fun a ha => by simp at ha⟩
  · have hlm : len ≤ m := by rw [hmm]; split <;> omega
    simp only [DataW.weights, ht, List.all_cons, List.all_append, Bool.and_eq_true, List.length_map, List.length_range] at hw;obtain ⟨hw0, hw1, _⟩ := hw
    have each : ∀ i : Nat, i < len → ∃ q : α, wf q ∧ ∃ c : List Value, c.length = d.sz ∧ d.K w q c ∧ ∀ j u, c[j]? = some u → w.cell? (a.add (i * d.sz + j)) = some u := by
      intro i hi;obtain ⟨cs', h1, h2⟩ := hx i (by omega);rw [hsz] at h1;obtain ⟨_, hlen, hcell⟩ := World.cells?_some h1;obtain ⟨y, hK, hwf⟩ := he H enc w base n spare held cs' _ hlen h2 (all_weights _ hw1 _ (List.mem_map.2 ⟨i, List.mem_range.2 hi, rfl⟩));refine ⟨y, hwf, cs', hlen, hK, fun j u hu => ?_⟩
      have hj : j < d.sz := by
        rw [← hlen]
        rcases Nat.lt_or_ge j cs'.length with h' | h'
        · exact h'
        · rw [List.getElem?_eq_none h'] at hu; cases hu
      have := hcell j hj;rw [hu] at this;rw [show a.add (i * d.sz + j) = (a.add (i * d.sz)).add j from add_add_ _ _ _];exact this
    obtain ⟨l, rfl, hl2⟩ := pick len each;refine ⟨l, ⟨some a, cap, rfl, hl, rfl, Nat.le_trans hl hm, fun _ => ⟨a, rfl, fun j p hj => (hl2 j p hj).2⟩⟩, Nat.le_trans hl hm, ?_, ?_⟩
    · have hw2 := of_decide_eq_true hw0
      rw [hB] at hw2;exact Nat.le_trans (Nat.mul_le_mul_right _ (by omega)) hw2
    · intro y hy
      obtain ⟨j, hj⟩ := List.mem_iff_getElem?.1 hy;exact (hl2 j y hj).1
def OpL {β : Type} (P : Program) (d : Kd β) (fs : List Field) (o : Nat) (wf : β → Prop) : Prop :=
  ∀ (H : Type) (enc : TypeId × Value → H) (w : World) (base n : Nat) (spare : Nat → Bool) (held : Bool) (cs : List Value) (xs : List (DataW H × List MemPlace)), cs.length = d.sz → xs.length = fs.length →
    (∀ (i : Nat) (f : Field), fs[i]? = some f → DataW.trod enc P w base spare held n f.type ((cs.drop (f.offset - o)).take (P.cellsOf f.type)) = xs[i]?) →
    (DataW.weightsEach P (fs.map (·.type)) (xs.map (·.1))).all (· ≤ reachBytes) = true → ∃ a, d.K w a cs ∧ wf a
theorem opL_one {β : Type} {P : Program} {d : Kd β} {f : Field} {o : Nat} {wf : β → Prop} (ho : f.offset = o) (hc : P.cellsOf f.type = d.sz) (h : Opens P d f.type wf) : OpL P d [f] o wf := by
  intro H enc w base n spare held cs xs hl hx hf hw
  match xs, hx with
  | [y], _ =>
    have h0 := hf 0 f rfl;rw [ho, Nat.sub_self, List.drop_zero, hc, ← hl, List.take_length] at h0;simp only [List.map_cons, List.map_nil, DataW.weightsEach, List.append_nil] at hw;exact h H enc w base n spare held cs y hl h0 hw
theorem opL_cons {α β : Type} {P : Program} {d1 : Kd α} {d : Kd β} {f : Field} {fs : List Field} {o : Nat} {wf1 : α → Prop} {wf : β → Prop} (ho : f.offset = o) (hc : P.cellsOf f.type = d1.sz) (h1 : Opens P d1 f.type wf1)
    (aa : (fs.all fun g => decide (o + d1.sz ≤ g.offset)) = true) (h : OpL P d fs (o + d1.sz) wf) : OpL P (Kd.pair d1 d) (f :: fs) o (fun x => wf1 x.1 ∧ wf x.2) := by
  have hfs : ∀ g ∈ fs, o + d1.sz ≤ g.offset := fun g hg => of_decide_eq_true (List.all_eq_true.1 aa g hg)
  intro H enc w base n spare held cs xs hl hx hf hw;have hl' : cs.length = d1.sz + d.sz := hl
  match xs, hx with
  | y :: ys, hx =>
    have h0 := hf 0 f rfl;rw [ho, Nat.sub_self, List.drop_zero, hc] at h0;simp only [List.map_cons, DataW.weightsEach, List.all_append, Bool.and_eq_true] at hw;obtain ⟨a, ka, wa⟩ := h1 H enc w base n spare held (cs.take d1.sz) y (by rw [List.length_take]; omega) h0 hw.1
    obtain ⟨b, kb, wb⟩ := h H enc w base n spare held (cs.drop d1.sz) ys (by rw [List.length_drop]; omega) (by simpa using hx) (fun i g hg => by
      have := hf (i + 1) g (by simpa using hg);rw [List.drop_drop];have hg2 := hfs g (List.mem_of_getElem? hg);rw [show d1.sz + (g.offset - (o + d1.sz)) = g.offset - o by omega, this]
      simp) hw.2
    exact ⟨(a, b), ⟨cs.take d1.sz, cs.drop d1.sz, (List.take_append_drop _ _).symm, ka, kb⟩, wa, wb⟩
theorem op_struct {α β : Type} {P : Program} {d : Kd α} {t : TypeId} {fs : Array Field} {wf : α → Prop} {p : β → α} (g : α → β) (hg : ∀ a, p (g a) = a) (ht : P.underlying t = some (.struct fs)) (h : OpL P d fs.toList 0 wf) :
    Opens P (Kd.iso d p) t (fun b => wf (p b)) := by
  intro H enc w base fuel spare held cs x hl hx hw;obtain ⟨xs, n, rfl, rfl, _, hxl, hf⟩ := DataW.trod_struct ht hx;simp only [DataW.weights, ht] at hw
  obtain ⟨a, ka, wa⟩ := h H enc w base n spare held cs xs hl (by simpa using hxl) (fun i f hi => by
    rw [Nat.sub_zero]
    exact hf i f (by simpa using hi)) hw
  refine ⟨g a, ?_, ?_⟩
  · show d.K w (p (g a)) cs
    rw [hg]; exact ka
  · show wf (p (g a))
    rw [hg]; exact wa
theorem op_agg {α : Type} {P : Program} {d : Kd α} {t : TypeId} {fs : Array Field} {wf : α → Prop} (ht : P.underlying t = some (.struct fs)) (h : OpL P d fs.toList 0 wf) : Opens P d t wf :=
  op_struct (d := d) (p := fun a => a) (fun a => a) (fun _ => rfl) ht h
theorem op_array2 {α : Type} {P : Program} {d : Kd α} {t e : TypeId} {wf : α → Prop} (ht : P.underlying t = some (.array 2 e)) (hc : P.cellsOf e = d.sz) (h : Opens P d e wf) : Opens P (Kd.pair d d) t (fun x => wf x.1 ∧ wf x.2) := by
  intro H enc w base fuel spare held cs x hl hx hw;obtain ⟨xs, m, rfl, rfl, _, hxl, hf⟩ := DataW.trod_array ht hx;simp only [DataW.weights, ht] at hw;have hl' : cs.length = d.sz + d.sz := hl
  match xs, hxl with
  | [y, z], _ =>
    have h0 := hf 0 (by omega);have h1 := hf 1 (by omega);rw [Nat.zero_mul, List.drop_zero, hc] at h0;rw [Nat.one_mul, hc, List.take_of_length_le (by rw [List.length_drop]; omega)] at h1;simp only [List.map_cons, List.map_nil, DataW.weightsAll, List.all_append, Bool.and_eq_true] at hw;obtain ⟨a, ka, wa⟩ := h H enc w base m spare held (cs.take d.sz) y (by rw [List.length_take]; omega) h0 hw.1;obtain ⟨b, kb, wb⟩ := h H enc w base m spare held (cs.drop d.sz) z (by rw [List.length_drop]; omega) h1 hw.2.1;exact ⟨(a, b), ⟨cs.take d.sz, cs.drop d.sz, (List.take_append_drop _ _).symm, ka, kb⟩, wa, wb⟩
theorem okWide_arr {P : Program} {W : World} {r : Reach} {b0 : Nat} {t e : TypeId} {n : Nat} {v : Value} (ht : P.underlying t = some (.array n e)) (h : Value.okWide P W r b0 t v) : ∃ cs, v = .agg cs ∧ cs.size = P.cellsOf t := by
  simp only [Value.okWide, ht] at h;obtain ⟨cs, h1, h2, _⟩ := h;exact ⟨cs, h1, h2⟩
theorem okWide_agg {P : Program} {W : World} {r : Reach} {b0 : Nat} {t : TypeId} {fs : Array Field} {v : Value} (ht : P.underlying t = some (.struct fs)) (h : Value.okWide P W r b0 t v) : ∃ cs, v = .agg cs ∧ cs.size = P.cellsOf t := by
  simp only [Value.okWide, ht] at h;obtain ⟨cs, h1, h2, _⟩ := h;exact ⟨cs, h1, h2⟩
theorem arg {α H : Type} {enc : TypeId × Value → H} {P : Program} {d : Kd α} {t : TypeId} {wf : α → Prop} (h : Opens P d t wf) {w : World} {base : Nat} {spare : Nat → Bool} {held : Bool} {v : Value} {x : DataW H} {ps : List MemPlace}
    (hl : v.cells.toList.length = d.sz) (hv : DataW.Trod enc P w base spare held t v x ps) {ts : List TypeId} {ds : List (DataW H)} {j : Nat} (hsz : (DataW.weightsEach P ts ds).all (· ≤ reachBytes) = true) (ht : ts[j]? = some t) (hd : ds[j]? = some x) :
    ∃ a, d.K w a v.cells.toList ∧ wf a := by
  obtain ⟨fuel, hf⟩ := hv;exact h H enc w base fuel spare held _ _ hl hf (weights_at ts ds j hsz ht hd)
end Go.Proofs.Ytmlbliggbkfjnaa.Op
/- Three closed facts over the whole program, with its header's words as numbers. -/
namespace Go.Proofs.Ytmlbliggbkfjnaa.Facts
theorem toList_of (s : String) (l : List Char) (h : s = String.ofList l) : s.toList = l := by rw [h, String.toList_ofList]
def glue : List (List Char) → List Char
  | [] => []
  | [w] => w
  | w :: v :: r => w ++ Char.ofNat 32 :: glue (v :: r)
theorem signs_space (r : List Char) : wordsSigns (Char.ofNat 32 :: r) = [] :: wordsSigns r := rfl
theorem signs_cons (c : Char) (r : List Char) (h : c ≠ Char.ofNat 32) (w : List Char) (ws : List (List Char)) (e : wordsSigns r = w :: ws) : wordsSigns (c :: r) = (c :: w) :: ws := by
  rw [wordsSigns]
  · rw [e]
  · exact h
theorem signs_one : ∀ (w : List Char), (∀ c ∈ w, c ≠ Char.ofNat 32) → wordsSigns w = [w]
  | [], _ => rfl
  | c :: w, h => signs_cons c w (h c (List.mem_cons_self ..)) _ _ (signs_one w (fun d hd => h d (List.mem_cons_of_mem _ hd)))
theorem signs_more (r : List Char) : ∀ (w : List Char), (∀ c ∈ w, c ≠ Char.ofNat 32) → wordsSigns (w ++ Char.ofNat 32 :: r) = w :: wordsSigns r
  | [], _ => signs_space r
  | c :: w, h => signs_cons c _ (h c (List.mem_cons_self ..)) _ _ (signs_more r w (fun d hd => h d (List.mem_cons_of_mem _ hd)))
theorem signs_glue : ∀ (ws : List (List Char)), ws ≠ [] → (∀ w ∈ ws, ∀ c ∈ w, c ≠ Char.ofNat 32) → wordsSigns (glue ws) = ws
  | [], h, _ => absurd rfl h
  | [w], _, h => signs_one w (h w (List.mem_cons_self ..))
  | w :: v :: r, _, h => by
    rw [glue, signs_more _ w (h w (List.mem_cons_self ..)), signs_glue (v :: r) (by simp) (fun u hu => h u (List.mem_cons_of_mem _ hu))]
def W : List (List Char) := (List.map (List.map Char.ofNat) [[104, 97, 114, 110, 101, 115, 115],
  [57, 102, 101, 51, 102, 100, 99, 53, 49, 100, 57, 100, 102, 56, 54, 48, 56, 53, 55, 52, 52, 48, 57, 101, 56, 99, 100, 99, 99, 53, 54, 99, 49, 98, 57, 102, 57, 51, 54, 97, 99, 99, 57, 99, 48, 98, 56, 53, 101, 98, 53, 56, 55, 54, 48, 97, 49, 50, 51, 51, 54, 99, 50, 99],
  [99, 117, 116],
  [97, 116],
  [106, 117, 110, 116, 111, 47, 106, 117, 110, 116, 111, 108, 97, 119, 49, 54, 46, 84, 117, 110, 101, 76, 101, 118, 101, 108, 115],
  [106, 117, 110, 116, 111, 47, 106, 117, 110, 116, 111, 108, 97, 119, 49, 54, 46, 84, 117, 110, 101, 70, 111, 108, 100, 115],
  [106, 117, 110, 116, 111, 47, 106, 117, 110, 116, 111, 108, 97, 119, 49, 54, 46, 84, 117, 110, 101, 83, 104, 97, 114, 101, 115],
  [106, 117, 110, 116, 111, 47, 106, 117, 110, 116, 111, 108, 97, 119, 49, 54, 46, 84, 117, 110, 101, 80, 114, 117, 110, 101, 115],
  [106, 117, 110, 116, 111, 47, 106, 117, 110, 116, 111, 108, 97, 119, 49, 54, 46, 84, 117, 110, 101, 84, 117, 110, 101, 115],
  [106, 117, 110, 116, 111, 47, 106, 117, 110, 116, 111, 108, 97, 119, 49, 54, 46, 84, 117, 110, 101, 83, 97, 109, 101],
  [106, 117, 110, 116, 111, 47, 106, 117, 110, 116, 111, 108, 97, 119, 49, 54, 46, 84, 117, 110, 101, 76, 101, 115, 115],
  [106, 117, 110, 116, 111, 47, 106, 117, 110, 116, 111, 108, 97, 119, 49, 54, 46, 84, 117, 110, 101, 68, 111, 110, 101],
  [106, 117, 110, 116, 111, 47, 106, 117, 110, 116, 111, 108, 97, 119, 49, 54, 46, 84, 117, 110, 101, 82, 111, 117, 110, 100, 115]])
theorem head : Try.pinned.checked.prog.initOrder.toList = glue W := toList_of _ _ (by kernel_rfl)
theorem plain : (W.all fun w => w.all fun c => c.toNat != 32) = true := by kernel_rfl
theorem signs : wordsSigns Try.pinned.checked.prog.initOrder.toList = W := by
  rw [head]
  refine signs_glue W (by simp [W]) fun w hw c hc e => ?_
  have h := List.all_eq_true.1 (List.all_eq_true.1 plain w hw) c hc;rw [e] at h;cases h
theorem words : behindMainWord (wordsSigns Try.pinned.checked.prog.initOrder.toList) = W.drop 2 := by
  rw [signs]
  kernel_rfl
theorem lifts : Try.pinned.checked.prog.headLifts = [] := by
  unfold Program.headLifts;rw [words]
  kernel_rfl
theorem final : Try.pinned.checked.prog.liftsFinal = false := by
  unfold Program.liftsFinal;rw [words, lifts]
  kernel_rfl
theorem made_of (P : Program) (rest : List (List Char)) (h : behindMainWord (wordsSigns P.initOrder.toList) = [Char.ofNat 99, Char.ofNat 117, Char.ofNat 116] :: rest) : P.make = some .cut := by
  unfold Program.make;rw [h]
  kernel_rfl
theorem enters_of (P : Program) (rest : List (List Char)) (h : behindMainWord (wordsSigns P.initOrder.toList) = [Char.ofNat 99, Char.ofNat 117, Char.ofNat 116] :: rest) (hl : P.laysLater = false) (hb : P.bearsReflect = false) (hd : P.doorFits [] = true)
    (hs : stripLifts liftWords ([Char.ofNat 99, Char.ofNat 117, Char.ofNat 116] :: rest) = ([], [Char.ofNat 99, Char.ofNat 117, Char.ofNat 116] :: rest)) : P.mayEnter = true := by
  unfold Program.mayEnter;rw [h];simp only [hs, hl, hb, hd]
  kernel_rfl
theorem made : Try.pinned.checked.prog.make = some .cut := made_of _ (W.drop 3) (words.trans (by kernel_rfl))
theorem enters : Try.pinned.checked.prog.mayEnter = true := enters_of _ (W.drop 3) (words.trans (by kernel_rfl)) (by kernel_rfl) (by kernel_rfl) (by kernel_rfl) (by kernel_rfl)
end Go.Proofs.Ytmlbliggbkfjnaa.Facts
/- Gates: what they may be, what they mean, and their folding. -/
namespace Go.Proofs.Ytmlbliggbkfjnaa.L
open Go.RowKit Go.Proofs.YtmlbliggbkfjnaaW.PrintWords Go.Proofs.Ytmlbliggbkfjnaa.J
def atI (l : List Int) (i : Int) : Int := l.getD i.toNat 0
def atG (l : List S61) (i : Int) : S61 := l.getD i.toNat ⟨0, 0, 0, 0⟩
def okG (p s i : Int) (g : S61) : Prop :=
  (g.f0 = 1 ∧ 0 ≤ g.f1 ∧ g.f1 < s ∧ g.f2 = 0 ∧ g.f3 = 0) ∨
  (g.f0 = 2 ∧ g.f1 = 0 ∧ g.f2 = 0 ∧ 0 ≤ g.f3 ∧ g.f3 < p) ∨
  ((g.f0 = 3 ∨ g.f0 = 4 ∨ g.f0 = 5) ∧ 0 ≤ g.f1 ∧ g.f1 < i ∧ 0 ≤ g.f2 ∧ g.f2 < i ∧ g.f3 = 0) ∨
  (g.f0 = 6 ∧ 0 ≤ g.f1 ∧ g.f1 < i ∧ g.f2 = 0 ∧ 0 ≤ g.f3 ∧ g.f3 < p)
def okL (p s : Int) (l : List S61) : Prop := ∀ (i : Nat) (g : S61), l[i]? = some g → okG p s i g
theorem okL_nil (p s : Int) : okL p s [] := fun i g h => by simp at h
theorem okL_snoc {p s : Int} {l : List S61} {g : S61} (h : okL p s l) (hg : okG p s l.length g) : okL p s (l ++ [g]) := by
  intro i x hx;rw [List.getElem?_append] at hx
  split at hx
  · exact h i x hx
  · rename_i hi
    rw [List.getElem?_singleton] at hx
    split at hx
    · rename_i h0
      obtain rfl := Option.some.inj hx;rw [show i = l.length by omega]; exact hg
    · cases hx
theorem okL_cut {p s : Int} {l : List S61} {g : S61} (h : okL p s (l ++ [g])) : okL p s l ∧ okG p s l.length g := by
  constructor
  · intro i x hx
    refine h i x ?_;rw [List.getElem?_append_left (List.getElem?_eq_some_iff.1 hx).1]; exact hx
  · exact h l.length g (by simp)
theorem okL_at {p s : Int} {l : List S61} (h : okL p s l) {i : Int} (h0 : 0 ≤ i) (h1 : i < l.length) : okG p s i (atG l i) := by
  have hi : i.toNat < l.length := by omega
  have := h i.toNat l[i.toNat] (List.getElem?_eq_getElem hi);unfold atG;rw [List.getD_eq_getElem?_getD, List.getElem?_eq_getElem hi]
  simpa [Int.toNat_of_nonneg h0] using this
theorem atG_left {l m : List S61} {i : Int} (h1 : i < l.length) (h0 : 0 ≤ i) : atG (l ++ m) i = atG l i := by
  unfold atG;rw [List.getD_eq_getElem?_getD, List.getD_eq_getElem?_getD, List.getElem?_append_left (by omega)]
theorem atI_left {l m : List Int} {i : Int} (h1 : i < l.length) (h0 : 0 ≤ i) : atI (l ++ m) i = atI l i := by
  unfold atI;rw [List.getD_eq_getElem?_getD, List.getD_eq_getElem?_getD, List.getElem?_append_left (by omega)]
theorem atI_last (l : List Int) (x : Int) : atI (l ++ [x]) l.length = x := by
  simp [atI, List.getD_eq_getElem?_getD]
theorem atG_last (l : List S61) (x : S61) : atG (l ++ [x]) l.length = x := by
  simp [atG, List.getD_eq_getElem?_getD]
structure Alg where
  inp : Int → Int
  con : Int → Int
  scl : Int → Int → Int
  two : Int → Int → Int → Int
def app (A : Alg) (v : List Int) (g : S61) : Int :=
  if g.f0 = 1 then A.inp g.f1 else if g.f0 = 2 then A.con g.f3 else if g.f0 = 6 then A.scl g.f3 (atI v g.f1) else A.two g.f0 (atI v g.f1) (atI v g.f2)
def snocs {α β : Type} (f : List α → β → α) : List α → List β → List α
  | d, [] => d
  | d, b :: bs => snocs f (d ++ [f d b]) bs
theorem snocs_snoc {α β : Type} (f : List α → β → α) (b : β) : ∀ (bs : List β) (d : List α), snocs f d (bs ++ [b]) = snocs f d bs ++ [f (snocs f d bs) b]
  | [], d => rfl
  | c :: bs, d => by simp only [List.cons_append, snocs]; exact snocs_snoc f b bs _
theorem snocs_len {α β : Type} (f : List α → β → α) : ∀ (bs : List β) (d : List α), (snocs f d bs).length = d.length + bs.length
  | [], d => rfl
  | c :: bs, d => by simp only [snocs, snocs_len f bs, List.length_append, List.length_cons, List.length_nil]; omega
def vals (A : Alg) (l : List S61) : List Int := snocs (app A) [] l
theorem vals_snoc (A : Alg) (l : List S61) (g : S61) : vals A (l ++ [g]) = vals A l ++ [app A (vals A l) g] := snocs_snoc _ _ _ _
theorem vals_len (A : Alg) (l : List S61) : (vals A l).length = l.length := by simp [vals, snocs_len]
theorem app_congr {A : Alg} {p s i : Int} {g : S61} {v v' : List Int} (h : okG p s i g) (e : ∀ x, 0 ≤ x → x < i → atI v x = atI v' x) : app A v g = app A v' g := by
  unfold app;unfold okG at h
  split
  · rfl
  split
  · rfl
  split
  · rw [e g.f1 (by omega) (by omega)]
  · rw [e g.f1 (by omega) (by omega), e g.f2 (by omega) (by omega)]
theorem snoc_ind {α : Type} {P : List α → Prop} (h0 : P []) (h1 : ∀ l x, P l → P (l ++ [x])) (l : List α) : P l := by
  rw [← List.reverse_reverse l]
  induction l.reverse with
  | nil => exact h0
  | cons x r ih => rw [List.reverse_cons]; exact h1 _ _ ih
theorem vals_at (A : Alg) {p s : Int} (l : List S61) : okL p s l → ∀ i : Int, 0 ≤ i → i < l.length → atI (vals A l) i = app A (vals A l) (atG l i) := by
  refine snoc_ind (P := fun l => okL p s l → ∀ i : Int, 0 ≤ i → i < l.length → atI (vals A l) i = app A (vals A l) (atG l i)) ?_ ?_ l
  · intro _ i h0 h1; simp at h1; omega
  · intro l g ih hok i h0 h1
    obtain ⟨hl, hg⟩ := okL_cut hok;have hlen := vals_len A l;rw [vals_snoc]
    by_cases h : i < l.length
    · rw [atI_left (by omega) h0, atG_left h h0, ih hl i h0 h]
      exact app_congr (okL_at hl h0 h) (fun x x0 x1 => (atI_left (by omega) x0).symm)
    · have hi : i = l.length := by simp at h1; omega
      rw [hi, atG_last];rw [show (l.length : Int) = ((vals A l).length : Nat) by rw [hlen], atI_last];exact app_congr hg (fun x x0 x1 => (atI_left (by omega) x0).symm)
end Go.Proofs.Ytmlbliggbkfjnaa.L
/- Gates left out and others named in their place; gates that are alike. -/
namespace Go.Proofs.Ytmlbliggbkfjnaa.L
open Go.RowKit Go.Proofs.YtmlbliggbkfjnaaW.PrintWords Go.Proofs.Ytmlbliggbkfjnaa.J
def rnf (t : Int → Int) (g : S61) : S61 :=
  if g.f0 = 1 ∨ g.f0 = 2 then g else if g.f0 = 6 then ⟨g.f0, t g.f1, g.f2, g.f3⟩ else ⟨g.f0, t g.f1, t g.f2, g.f3⟩
theorem rnf_ok {p s i j : Int} {g : S61} {t : Int → Int} (h : okG p s i g)
    (e : g.f0 ≠ 1 → g.f0 ≠ 2 → 0 ≤ t g.f1 ∧ t g.f1 < j ∧ (g.f0 ≠ 6 → 0 ≤ t g.f2 ∧ t g.f2 < j)) : okG p s j (rnf t g) := by
  unfold rnf
  rcases h with h | h | h | h
  · rw [if_pos (.inl h.1)]; exact .inl h
  · rw [if_pos (.inr h.1)]; exact .inr (.inl h)
  · have h12 : ¬ (g.f0 = 1 ∨ g.f0 = 2) := by omega
    have h6 : ¬ g.f0 = 6 := by omega
    obtain ⟨a, b, c⟩ := e (by omega) (by omega);obtain ⟨c, d⟩ := c h6;rw [if_neg h12, if_neg h6];exact .inr (.inr (.inl ⟨h.1, a, b, c, d, h.2.2.2.2.2⟩))
  · obtain ⟨a, b, c⟩ := e (by omega) (by omega)
    rw [if_neg (by omega), if_pos h.1];exact .inr (.inr (.inr ⟨h.1, a, b, h.2.2.2.1, h.2.2.2.2⟩))
theorem okG_ops {p s i : Int} {g : S61} (h : okG p s i g) (h1 : g.f0 ≠ 1) (h2 : g.f0 ≠ 2) : 0 ≤ g.f1 ∧ g.f1 < i ∧ (g.f0 ≠ 6 → 0 ≤ g.f2 ∧ g.f2 < i) := by
  rcases h with h | h | h | h
  · exact absurd h.1 h1
  · exact absurd h.1 h2
  · exact ⟨h.2.1, h.2.2.1, fun _ => ⟨h.2.2.2.1, h.2.2.2.2.1⟩⟩
  · exact ⟨h.2.1, h.2.2.1, fun h6 => absurd h.1 h6⟩
def Comm (A : Alg) : Prop := ∀ a b, A.two 3 a b = A.two 3 b a ∧ A.two 5 a b = A.two 5 b a
def sameG (x y : S61) : Prop := x = y ∨ ((⟨x.f0, x.f2, x.f1, x.f3⟩ : S61) = y ∧ (x.f0 = 3 ∨ x.f0 = 5))
theorem S61.ext_iff' (x y : S61) : x = y ↔ x.f0 = y.f0 ∧ x.f1 = y.f1 ∧ x.f2 = y.f2 ∧ x.f3 = y.f3 := by
  cases x; cases y; simp
instance (x y : S61) : Decidable (x = y) := decidable_of_iff _ (S61.ext_iff' x y).symm
instance (x y : S61) : Decidable (sameG x y) := by unfold sameG; infer_instance
theorem app_same {A : Alg} (hA : Comm A) {x y : S61} (v : List Int) (h : sameG x y) : app A v x = app A v y := by
  rcases h with rfl | ⟨rfl, h⟩
  · rfl
  · unfold app
    rcases h with h | h
    · simp [h, (hA (atI v x.f1) (atI v x.f2)).1]
    · simp [h, (hA (atI v x.f1) (atI v x.f2)).2]
theorem app_rnf {A : Alg} {p s i : Int} {g : S61} {t : Int → Int} {v v' : List Int} (h : okG p s i g) (e : ∀ x, 0 ≤ x → x < i → x = g.f1 ∨ (g.f0 ≠ 6 ∧ x = g.f2) → g.f0 ≠ 1 → g.f0 ≠ 2 → atI v' (t x) = atI v x) : app A v' (rnf t g) = app A v g := by
  unfold rnf; unfold okG at h
  split
  · rename_i h1
    unfold app
    rcases h1 with h1 | h1 <;> simp [h1]
  split
  · rename_i h1 h6
    unfold app;simp only [h6, if_neg (show ¬ (6 : Int) = 1 by decide), if_neg (show ¬ (6 : Int) = 2 by decide), if_true];rw [e g.f1 (by omega) (by omega) (.inl rfl) (by omega) (by omega)]
  · rename_i h1 h6
    unfold app;simp only [if_neg (show ¬ g.f0 = 1 by omega), if_neg (show ¬ g.f0 = 2 by omega), if_neg h6];rw [e g.f1 (by omega) (by omega) (.inl rfl) (by omega) (by omega), e g.f2 (by omega) (by omega) (.inr ⟨h6, rfl⟩) (by omega) (by omega)]
structure Shr (p s : Int) (gs l : List S61) (t : Int → Int) (N : Int → Prop) : Prop where
  rng : ∀ i : Int, 0 ≤ i → i < gs.length → N i → 0 ≤ t i ∧ t i < l.length
  onto : ∀ j : Int, 0 ≤ j → j < l.length → ∃ i : Int, 0 ≤ i ∧ i < gs.length ∧ N i ∧ t i = j
  vals : ∀ A, Comm A → ∀ i : Int, 0 ≤ i → i < gs.length → N i → atI (L.vals A l) (t i) = atI (L.vals A gs) i
  ok : okL p s l
  cnt : ∀ f : S61 → Bool, (∀ g t, f (rnf t g) = f g) → (l.filter f).length ≤ (gs.filter f).length
theorem Shr.nil (p s : Int) (t : Int → Int) (N : Int → Prop) : Shr p s [] [] t N :=
  ⟨fun i h0 h1 => by simp at h1; omega, fun i h0 h1 => by simp at h1; omega, fun _ _ i h0 h1 => by simp at h1; omega, okL_nil p s, fun _ _ => Nat.le_refl _⟩
theorem vals_left (A : Alg) {l : List S61} {g : S61} {i : Int} (h0 : 0 ≤ i) (h1 : i < l.length) : atI (vals A (l ++ [g])) i = atI (vals A l) i := by
  rw [vals_snoc]; exact atI_left (by rw [vals_len]; exact h1) h0
theorem vals_last (A : Alg) (l : List S61) (g : S61) : atI (vals A (l ++ [g])) l.length = app A (vals A l) g := by
  rw [vals_snoc, show (l.length : Int) = ((vals A l).length : Nat) by rw [vals_len], atI_last]
def uses (g : S61) (x : Int) : Prop := g.f0 ≠ 1 ∧ g.f0 ≠ 2 ∧ (x = g.f1 ∨ (g.f0 ≠ 6 ∧ x = g.f2))
theorem uses_lt {p s i : Int} {g : S61} (h : okG p s i g) {x : Int} (hx : uses g x) : 0 ≤ x ∧ x < i := by
  obtain ⟨h1, h2, h3⟩ := hx;obtain ⟨a, b, c⟩ := okG_ops h h1 h2
  rcases h3 with rfl | ⟨h6, rfl⟩
  · exact ⟨a, b⟩
  · exact c h6
theorem Shr.new_ok {p s : Int} {gs l : List S61} {t : Int → Int} {N : Int → Prop} (h : Shr p s gs l t N) {g : S61} (hg : okG p s gs.length g)
    (hN : ∀ x, uses g x → N x) : okG p s l.length (rnf t g) := by
  refine rnf_ok hg fun h1 h2 => ?_
  have u1 : uses g g.f1 := ⟨h1, h2, .inl rfl⟩;obtain ⟨a, b⟩ := uses_lt hg u1;obtain ⟨c, d⟩ := h.rng _ a b (hN _ u1);refine ⟨c, d, fun h6 => ?_⟩;have u2 : uses g g.f2 := ⟨h1, h2, .inr ⟨h6, rfl⟩⟩;obtain ⟨a, b⟩ := uses_lt hg u2;exact h.rng _ a b (hN _ u2)
theorem Shr.new_val {p s : Int} {gs l : List S61} {t : Int → Int} {N : Int → Prop} (h : Shr p s gs l t N) {g : S61} (hg : okG p s gs.length g)
    (hN : ∀ x, uses g x → N x) {A : Alg} (hA : Comm A) : app A (L.vals A l) (rnf t g) = app A (L.vals A gs) g :=
  app_rnf hg fun x x0 x1 xe h1 h2 => h.vals A hA x x0 x1 (hN x ⟨h1, h2, xe⟩)
theorem Shr.stay {p s : Int} {gs l : List S61} {t t' : Int → Int} {N : Int → Prop} (h : Shr p s gs l t N) {g : S61} (hg : okG p s gs.length g)
    (ht : ∀ x : Int, 0 ≤ x → x < gs.length → t' x = t x) (hl : t' gs.length = l.length)
    (hN : ∀ x, uses g x → N x) (hN' : N gs.length) : Shr p s (gs ++ [g]) (l ++ [rnf t g]) t' N := by
  refine ⟨?_, ?_, ?_, okL_snoc h.ok (h.new_ok hg hN), ?_⟩
  · intro i i0 i1 iN
    simp only [List.length_append, List.length_cons, List.length_nil] at i1 ⊢
    by_cases e : i < gs.length
    · rw [ht i i0 e]; have := h.rng i i0 e iN; omega
    · rw [show i = gs.length by omega, hl]; omega
  · intro j j0 j1
    simp only [List.length_append, List.length_cons, List.length_nil] at j1 ⊢
    by_cases e : j < l.length
    · obtain ⟨i, i0, i1, iN, ij⟩ := h.onto j j0 e
      exact ⟨i, i0, by omega, iN, by rw [ht i i0 i1]; exact ij⟩
    · exact ⟨gs.length, by omega, by omega, hN', by rw [hl]; omega⟩
  · intro A hA i i0 i1 iN
    simp only [List.length_append, List.length_cons, List.length_nil] at i1
    by_cases e : i < gs.length
    · have r := h.rng i i0 e iN
      rw [ht i i0 e, vals_left A r.1 r.2, vals_left A i0 e];exact h.vals A hA i i0 e iN
    · rw [show i = gs.length by omega, hl, vals_last, vals_last]
      exact h.new_val hg hN hA
  · intro f hf
    have := h.cnt f hf;rw [List.filter_append, List.filter_append, List.length_append, List.length_append]
    have e : ([rnf t g].filter f).length = ([g].filter f).length := by
      simp only [List.filter_cons, hf, List.filter_nil]
      split <;> rfl
    omega
theorem Shr.other {p s : Int} {gs l : List S61} {t t' : Int → Int} {N : Int → Prop} (h : Shr p s gs l t N) {g : S61} (hg : okG p s gs.length g)
    (ht : ∀ x : Int, 0 ≤ x → x < gs.length → t' x = t x) (hN : N gs.length → (∀ x, uses g x → N x) ∧ 0 ≤ t' gs.length ∧ t' gs.length < l.length ∧ sameG (atG l (t' gs.length)) (rnf t g)) : Shr p s (gs ++ [g]) l t' N := by
  refine ⟨?_, ?_, ?_, h.ok, ?_⟩
  · intro i i0 i1 iN
    simp only [List.length_append, List.length_cons, List.length_nil] at i1 ⊢
    by_cases e : i < gs.length
    · rw [ht i i0 e]; exact h.rng i i0 e iN
    · have hi : i = gs.length := by omega
      subst hi;exact ⟨(hN iN).2.1, (hN iN).2.2.1⟩
  · intro j j0 j1
    obtain ⟨i, i0, i1, iN, ij⟩ := h.onto j j0 j1;exact ⟨i, i0, by simp; omega, iN, by rw [ht i i0 i1]; exact ij⟩
  · intro A hA i i0 i1 iN
    simp only [List.length_append, List.length_cons, List.length_nil] at i1
    by_cases e : i < gs.length
    · rw [ht i i0 e, vals_left A i0 e]
      exact h.vals A hA i i0 e iN
    · have hi : i = gs.length := by omega
      subst hi;obtain ⟨n1, n2, n3, n4⟩ := hN iN;rw [vals_last, vals_at A l h.ok _ n2 n3, app_same hA _ n4];exact h.new_val hg n1 hA
  · intro f hf
    have := h.cnt f hf;rw [List.filter_append, List.length_append]
    omega
def apart (l : List S61) : Prop := l.Pairwise fun x y => ¬ sameG x y
end Go.Proofs.Ytmlbliggbkfjnaa.L
/- Both tests of a prime answer alike, and what they answer; loops. -/
namespace Go.Proofs.Ytmlbliggbkfjnaa.L
open Go.RowKit Go.Proofs.YtmlbliggbkfjnaaW.PrintWords Go.Proofs.Ytmlbliggbkfjnaa.J
theorem w64_small {n : Int} (h0 : -9223372036854775808 ≤ n) (h1 : n < 9223372036854775808) : wrap64 n = n := by
  unfold wrap64
  omega
def free (a : Int) : Prop := ∀ y : Fin 257, 2 ≤ y.val → ((y.val : Int) * (y.val : Int)) ≤ a → a % (y.val : Int) ≠ 0
def isP (a : Int) : Bool := decide (3 ≤ a ∧ a ≤ 65537 ∧ ∀ y : Fin 257, 2 ≤ y.val → ((y.val : Int) * (y.val : Int)) ≤ a → a % (y.val : Int) ≠ 0)
theorem free_of {a : Int} (h : a ≤ 65537) (hf : ∀ y : Fin 257, 2 ≤ y.val → ((y.val : Int) * (y.val : Int)) ≤ a → a % (y.val : Int) ≠ 0) (y : Int) (h2 : 2 ≤ y) (hy : y * y ≤ a) : a % y ≠ 0 := by
  have hb : y < 257 := by
    rcases Int.lt_or_le y 257 with h' | h'
    · exact h'
    · have : 257 * 257 ≤ y * y := Int.mul_le_mul h' h' (by omega) (by omega)
      omega
  have := hf ⟨y.toNat, by omega⟩ (show 2 ≤ y.toNat by omega);simp only at this;rw [show ((y.toNat : Nat) : Int) = y by omega] at this;exact this hy
theorem isP_iff (a : Int) : isP a = true ↔ 3 ≤ a ∧ a ≤ 65537 ∧ ∀ y : Int, 2 ≤ y → y * y ≤ a → a % y ≠ 0 := by
  unfold isP;rw [decide_eq_true_iff]
  constructor
  · rintro ⟨h1, h2, h3⟩
    exact ⟨h1, h2, fun y hy => free_of h2 h3 y hy⟩
  · rintro ⟨h1, h2, h3⟩
    exact ⟨h1, h2, fun y hy hq => h3 y.val (by omega) hq⟩
theorem Ev.fuel {α : Type} {g : Nat → Option α} {r : α} (n : Nat) (h : ∀ k, g (k + n) = some r) : Ev g r :=
  ⟨n, fun k hk => by obtain ⟨m, rfl⟩ := Nat.exists_eq_add_of_le hk; rw [Nat.add_comm]; exact h m⟩
theorem Ev.steps {α : Type} {g f : Nat → Option α} {r : α} (n : Nat) (h : ∀ k, g (k + n) = f k) (hf : Ev f r) : Ev g r := by
  obtain ⟨K, hK⟩ := hf;exact ⟨K + n, fun k hk => by obtain ⟨m, rfl⟩ := Nat.exists_eq_add_of_le hk; rw [show K + n + m = (K + m) + n by omega, h]; exact hK _ (by omega)⟩
theorem up {α : Type} {g : Nat → Nat → Option α} {R : Nat → α} {n : Nat} (last : Ev (fun k => g k n) (R n)) (step : ∀ i, i < n → Ev (fun k => g k (i + 1)) (R (i + 1)) → Ev (fun k => g k i) (R i)) : ∀ m i : Nat, i + m = n → Ev (fun k => g k i) (R i)
  | 0, i, h => by obtain rfl : i = n := by omega
                  exact last
  | m + 1, i, h => step i (by omega) (up last step m (i + 1) (by omega))
theorem up0 {α : Type} {g : Nat → Nat → Option α} {R : Nat → α} {n : Nat} (last : Ev (fun k => g k n) (R n)) (step : ∀ i, i < n → Ev (fun k => g k (i + 1)) (R (i + 1)) → Ev (fun k => g k i) (R i)) : Ev (fun k => g k 0) (R 0) := up last step n 0 (by omega)
theorem wadd {i : Nat} (h : i < 9223372036854775807) : wrap64 ((i : Int) + 1) = ((i + 1 : Nat) : Int) := by rw [w64_small (by omega) (by omega)]; omega
end Go.Proofs.Ytmlbliggbkfjnaa.L
/- Both checks of a circuit answer alike, and what they answer. -/
namespace Go.Proofs.Ytmlbliggbkfjnaa.L
open Go.RowKit Go.Proofs.YtmlbliggbkfjnaaW.PrintWords Go.Proofs.Ytmlbliggbkfjnaa.J
def gateV (p s i : Int) (g : S61) : Int :=
  if g.f0 = 1 then (if g.f2 ≠ 0 ∨ g.f3 ≠ 0 then 4 else if g.f1 < 0 ∨ g.f1 ≥ s then 13 else 0)
  else if g.f0 = 2 then (if g.f1 ≠ 0 ∨ g.f2 ≠ 0 then 4 else if g.f3 ≥ p then 2 else 0)
  else if g.f0 = 3 ∨ g.f0 = 4 ∨ g.f0 = 5 then (if g.f3 ≠ 0 then 4 else if g.f1 < 0 ∨ g.f1 ≥ i ∨ g.f2 < 0 ∨ g.f2 ≥ i then 13 else 0)
  else if g.f0 = 6 then (if g.f2 ≠ 0 then 4 else if g.f1 < 0 ∨ g.f1 ≥ i then 13 else if g.f3 ≥ p then 2 else 0)
  else 4
theorem gateV_ok {p s i : Int} {g : S61} (h3 : 0 ≤ g.f3) : gateV p s i g = 0 ↔ okG p s i g := by
  unfold gateV okG
  split
  · split
    · simp; omega
    · split
      · simp; omega
      · simp; omega
  split
  · split
    · simp; omega
    · split
      · simp; omega
      · simp; omega
  split
  · split
    · simp; omega
    · split
      · simp; omega
      · simp; omega
  split
  · split
    · simp; omega
    · split
      · simp; omega
      · split
        · simp; omega
        · simp; omega
  · simp; omega
def firstE {β : Type} (f : Int → β → Int) : Nat → List β → Int
  | _, [] => 0
  | i, b :: bs => if f i b = 0 then firstE f (i + 1) bs else f i b
theorem firstE_zero {β : Type} (f : Int → β → Int) : ∀ (l : List β) (i : Nat), firstE f i l = 0 ↔ ∀ (j : Nat) b, l[j]? = some b → f ((i + j : Nat) : Int) b = 0
  | [], i => by simp [firstE]
  | b :: l, i => by
    unfold firstE
    constructor
    · intro h j c hc
      split at h
      · rename_i h0
        match j, hc with
        | 0, hc => obtain rfl : b = c := by simpa using hc
                   exact h0
        | j + 1, hc =>
          have := (firstE_zero f l (i + 1)).1 h j c (by simpa using hc);rw [show i + (j + 1) = i + 1 + j by omega]; exact this
      · rename_i h0; exact absurd h h0
    · intro h
      rw [if_pos (show f (i : Int) b = 0 from h 0 b rfl)]
      refine (firstE_zero f l (i + 1)).2 fun j c hc => ?_
      have := h (j + 1) c (by simpa using hc);rw [show i + (j + 1) = i + 1 + j by omega] at this; exact this
def rise (m : Int) : List Int → Bool
  | [] => true
  | x :: xs => decide (m < x ∧ x ≤ 13) && rise x xs
theorem rise_len : ∀ (l : List Int) (m : Int), m ≤ 13 → rise m l = true → (l.length : Int) ≤ 13 - m
  | [], m, h, _ => by simp only [List.length_nil]; omega
  | x :: xs, m, _, h => by
    simp only [rise, Bool.and_eq_true, decide_eq_true_eq] at h;have := rise_len xs x h.1.2 h.2;simp only [List.length_cons]; omega
def badX (n : Int) (l : List Int) : Bool := l.any fun x => decide (x < 0) || decide (x ≥ n)
def exitV (n : Int) (x : S66) : Int := if rise 0 x.f0 = true then (if (x.f1.length : Int) > 1024 then 3 else if badX n x.f1 = true then 13 else 0) else 2
def badS (s : List S64) : Bool := s.any fun x => decide (x.f0 < 1) || decide (x.f0 > 13)
def checkV (p : Int) (s : List S64) (g : List S61) (x : List S66) : Int :=
  if isP p = true then (if (s.length : Int) > 256 ∨ (g.length : Int) > 65536 ∨ (x.length : Int) > 4096 then 3 else if badS s = true then 2 else
    if firstE (gateV p s.length) 0 g = 0 then firstE (fun _ => exitV g.length) 0 x else firstE (gateV p s.length) 0 g) else 2
theorem rdG_get {x : List S61} {i : Nat} (h : i < x.length) : rd_T61 x (i : Int) = x[i] := by simp [rd_T61, List.getD_eq_getElem?_getD, h]
structure Good (p : Int) (s : List S64) (g : List S61) (x : List S66) : Prop where
  prime : isP p = true
  ls : s.length ≤ 256
  lg : g.length ≤ 65536
  lx : x.length ≤ 4096
  slots : badS s = false
  gates : okL p s.length g
  exits : ∀ e ∈ x, exitV g.length e = 0
theorem Good.check {p : Int} {s : List S64} {g : List S61} {x : List S66} (h : Good p s g x) : checkV p s g x = 0 := by
  have hg : firstE (gateV p s.length) 0 g = 0 := (firstE_zero _ g 0).2 fun j b hb => by
    have := h.gates j b hb;rw [Nat.zero_add];exact (gateV_ok (by unfold okG at this; omega)).2 this
  have hx : firstE (fun _ => exitV g.length) 0 x = 0 := (firstE_zero _ x 0).2 fun j b hb => h.exits b (List.mem_of_getElem? hb)
  unfold checkV;have := h.ls;have := h.lg;have := h.lx;rw [if_pos h.prime, if_neg (by omega), h.slots, hg, hx]
  rfl
theorem Good.small {p : Int} {s : List S64} {g : List S61} {x : List S66} (h : Good p s g x) : p ≤ 65537 := by
  have := (isP_iff p).1 h.prime; omega
theorem exitV_zero {n : Int} {e : S66} (h : exitV n e = 0) : e.f0.length ≤ 13 ∧ e.f1.length ≤ 1024 ∧ ∀ x ∈ e.f1, 0 ≤ x ∧ x < n := by
  unfold exitV at h
  split at h
  · rename_i hr
    split at h
    · cases h
    rename_i hl
    split at h
    · cases h
    rename_i hb;have := rise_len _ _ (by omega) hr;refine ⟨by omega, by omega, fun x hx => ?_⟩;rw [Bool.not_eq_true] at hb;unfold badX at hb;have := List.any_eq_false.1 hb x hx;simp at this
    omega
  · cases h
theorem exitV_map {n n' : Int} {e : S66} {f : Int → Int} (h : exitV n e = 0) (hf : ∀ x, 0 ≤ x → x < n → x ∈ e.f1 → 0 ≤ f x ∧ f x < n') : exitV n' ⟨e.f0, e.f1.map f⟩ = 0 := by
  obtain ⟨h1, h2, h3⟩ := exitV_zero h
  have hr : rise 0 e.f0 = true := by
    unfold exitV at h
    split at h
    · assumption
    · cases h
  unfold exitV;simp only;rw [if_pos hr, List.length_map, if_neg (by omega), if_neg];unfold badX;rw [Bool.not_eq_true, List.any_eq_false];intro y hy;obtain ⟨x, hx, rfl⟩ := List.mem_map.1 hy;have := h3 x hx;have := hf x this.1 this.2 hx;simp; omega
theorem Good.other {p : Int} {s : List S64} {g g' : List S61} {x : List S66} {f : Int → Int} (h : Good p s g x) (hg : okL p s.length g') (hl : g'.length ≤ g.length)
    (hf : ∀ e ∈ x, ∀ y ∈ e.f1, 0 ≤ f y ∧ f y < g'.length) : Good p s g' (x.map fun e => ⟨e.f0, e.f1.map f⟩) :=
  ⟨h.prime, h.ls, by have := h.lg; omega, by rw [List.length_map]; exact h.lx, h.slots, hg, fun e he => by
    obtain ⟨e', he', rfl⟩ := List.mem_map.1 he
    exact exitV_map (h.exits e' he') fun y _ _ hy => hf e' he' y hy⟩
end Go.Proofs.Ytmlbliggbkfjnaa.L
/- Both ways to fold a circuit answer alike, and what they answer; copies of a circuit. -/
namespace Go.Proofs.Ytmlbliggbkfjnaa.L
open Go.RowKit Go.Proofs.YtmlbliggbkfjnaaW.PrintWords Go.Proofs.Ytmlbliggbkfjnaa.J
theorem two_is (a b c d : Int) : qfa.f a b c d = some (decide (a = 3 ∨ a = 4 ∨ a = 5)) := by
  unfold qfa.f
  by_cases h3 : a = 3
  · simp [h3]
  by_cases h4 : a = 4
  · simp [h4]
  by_cases h5 : a = 5
  · simp [h5]
  · simp [h3, h4, h5]
theorem one_is (a b c d : Int) : qia.f a b c d = some (decide (a = 3 ∨ a = 4 ∨ a = 5 ∨ a = 6)) := by
  unfold qia.f;rw [two_is, Option.bind_some]
  by_cases h : a = 3 ∨ a = 4 ∨ a = 5
  · have h' : a = 3 ∨ a = 4 ∨ a = 5 ∨ a = 6 := by omega
    simp [h, h']
  · by_cases h6 : a = 6
    · simp [h6]
    · have h' : ¬ (a = 3 ∨ a = 4 ∨ a = 5 ∨ a = 6) := by omega
      simp [h, h', h6]
theorem take_more {α : Type} (l : List α) {i : Nat} (h : i < l.length) : l.take i ++ [l[i]] = l.take (i + 1) := by
  rw [List.take_add_one, List.getElem?_eq_getElem h]; rfl
theorem set_mid {α : Type} (D : List α) (y z : α) (R : List α) : (D ++ y :: R).set D.length z = D ++ z :: R := by
  rw [List.set_append_right _ _ (Nat.le_refl _), Nat.sub_self]; rfl
end Go.Proofs.Ytmlbliggbkfjnaa.L
/- Both ways to tell the levels of gates answer alike, and what they answer; rows of numbers compared; the chapter's example. -/
namespace Go.Proofs.Ytmlbliggbkfjnaa.L
open Go.RowKit Go.Proofs.YtmlbliggbkfjnaaW.PrintWords Go.Proofs.Ytmlbliggbkfjnaa.J
theorem alive16 : Ev (fun k => qja.f k) true := Ev.of qja.mono (k := 60) (by decide +kernel)
theorem ints_same (l : List Int) (hl : l.length ≤ maxLen) : Ev (fun k => qda.f k l l) true := by
  have hm : l.length ≤ 9223372036854775807 := by simp only [maxLen] at hl; omega
  unfold qda.f;simp only [if_true]
  refine up0 (g := fun k i => qda.l0 k l l (l.length : Int) (i : Int)) (R := fun _ => true) (n := l.length) ?_ fun i hi h => ?_
  · refine Ev.fuel 1 fun k => ?_
    simp only [qda.l0];rw [if_neg (by omega)]
  · refine Ev.step (f := fun k => qda.l0 k l l (l.length : Int) ((i + 1 : Nat) : Int)) (fun k => ?_) h
    simp only [qda.l0];rw [if_pos (by omega), if_pos (by omega), if_pos (by omega), if_pos (by omega), if_pos trivial, wadd (by omega)]
def lev (v : List Int) (g : S61) : Int :=
  if g.f0 = 3 ∨ g.f0 = 4 then mx (atI v g.f1) (atI v g.f2) else if g.f0 = 5 then mx (atI v g.f1) (atI v g.f2) + 1 else if g.f0 = 6 then atI v g.f1 else 0
def levs (l : List S61) : List Int := snocs lev [] l
def badG (i : Nat) (g : S61) : Bool := decide ((g.f0 = 3 ∨ g.f0 = 4 ∨ g.f0 = 5 ∨ g.f0 = 6) ∧ (g.f1 < 0 ∨ g.f1 ≥ i)) || decide ((g.f0 = 3 ∨ g.f0 = 4 ∨ g.f0 = 5) ∧ (g.f2 < 0 ∨ g.f2 ≥ i))
def anyB : Nat → List S61 → Bool
  | _, [] => false
  | i, g :: gs => badG i g || anyB (i + 1) gs
def levR (g : List S61) : List Int := if anyB 0 g = true then [] else levs g
theorem levs_len (l : List S61) : (levs l).length = l.length := by simp [levs, snocs_len]
theorem levs_more (l : List S61) {i : Nat} (h : i < l.length) : levs (l.take (i + 1)) = levs (l.take i) ++ [lev (levs (l.take i)) l[i]] := by
  rw [← take_more l h]; exact snocs_snoc _ _ _ _
theorem mx_le {a b n : Int} (ha : 0 ≤ a ∧ a ≤ n) (hb : 0 ≤ b ∧ b ≤ n) : 0 ≤ mx a b ∧ mx a b ≤ n := by
  unfold mx; split <;> omega
theorem atI_le {v : List Int} {n : Int} (hn : 0 ≤ n) (h : ∀ x ∈ v, 0 ≤ x ∧ x ≤ n) (i : Int) : 0 ≤ atI v i ∧ atI v i ≤ n := by
  unfold atI;rw [List.getD_eq_getElem?_getD]
  cases e : v[i.toNat]? with
  | none => simpa using hn
  | some x => simpa using h x (List.mem_of_getElem? e)
theorem levs_le (l : List S61) : ∀ x ∈ levs l, 0 ≤ x ∧ x ≤ l.length := by
  refine snoc_ind (P := fun l => ∀ x ∈ levs l, 0 ≤ x ∧ x ≤ l.length) (fun x hx => by cases hx) (fun l g ih x hx => ?_) l;have e : levs (l ++ [g]) = levs l ++ [lev (levs l) g] := snocs_snoc _ _ _ _;rw [e, List.mem_append] at hx;simp only [List.length_append, List.length_cons, List.length_nil]
  rcases hx with hx | hx
  · have := ih x hx; omega
  · obtain rfl := List.mem_singleton.1 hx
    have h1 := atI_le (by omega) ih g.f1;have h2 := atI_le (by omega) ih g.f2;have h3 := mx_le h1 h2;unfold lev
    split
    · omega
    split
    · omega
    split <;> omega
theorem rd_left {D R : List Int} {i : Int} (h0 : 0 ≤ i) (h1 : i < D.length) : rd (D ++ R) i = atI D i := atI_left h1 h0
theorem tune_levels (s : List S64) (g : List S61) (x : List S66) (hl : g.length ≤ 4398046511104) : Ev (fun k => tune_Levels.f k s g x) (levR g) := by
  unfold tune_Levels.f;simp only [if_pos (show 0 ≤ (g.length : Int) by omega), Int.toNat_natCast, if_pos (show g.length ≤ 35184372088832 by omega)]
  refine up0 (g := fun k i => tune_Levels.l0 k (levs (g.take i) ++ List.replicate (g.length - i) 0) g (g.length : Int) (i : Int)) (R := fun i => if anyB i (g.drop i) = true then [] else levs g) (n := g.length) ?_ fun i hi h => ?_
  · rw [List.take_length, Nat.sub_self, List.drop_of_length_le (Nat.le_refl _)]
    refine Ev.fuel 1 fun k => ?_
    simp only [tune_Levels.l0];rw [if_neg (by omega)];simp [anyB]
  · have hD : (levs (g.take i)).length = i := by rw [levs_len, List.length_take]; omega
    have hb := levs_le (g.take i);rw [levs_more g hi] at h;rw [List.drop_eq_getElem_cons hi, show g.length - i = (g.length - (i + 1)) + 1 by omega, List.replicate_succ];have hg : rd_T61 g (i : Int) = g[i] := rdG_get hi;generalize g[i] = y at *;generalize levs (g.take i) = D at *;generalize List.replicate (g.length - (i + 1)) (0 : Int) = R at *
    have hl' : ((D ++ 0 :: R).length : Int) > i := by simp; omega
    have hset : ∀ v : Int, (D ++ 0 :: R).set i v = D ++ v :: R := fun v => by
      have := set_mid D 0 v R; rw [hD] at this; exact this
    have hlen : (g.take i).length = i := by rw [List.length_take]; omega
    rw [hlen] at hb;have n1 := atI_le (by omega) hb y.f1;have n2 := atI_le (by omega) hb y.f2;have n3 := mx_le n1 n2
    by_cases hbad : badG i y = true
    · rw [show anyB i (y :: g.drop (i + 1)) = true by simp [anyB, hbad], if_pos rfl]
      refine Ev.fuel 4 fun k => ?_
      obtain ⟨a, b, c, d⟩ := y;unfold badG at hbad;simp only at hbad n1 n2 n3
      by_cases h3 : a = 3 ∨ a = 4 ∨ a = 5
      · have e : tune_Levels.l0 (k + 4) (D ++ 0 :: R) g (g.length : Int) (i : Int) = tune_Levels.j1 (k + 3) (D ++ 0 :: R) (i : Int) true g (g.length : Int) (i : Int) a b c d := by
          simp only [tune_Levels.l0];rw [if_pos (by omega), if_pos (by omega), if_pos (by omega), hg]
          rcases h3 with rfl | rfl | rfl <;> simp
        rw [e]
        have hq : b < 0 ∨ b ≥ i ∨ c < 0 ∨ c ≥ i := by simp [h3] at hbad; omega
        simp only [tune_Levels.j1, tune_Levels.j2]
        by_cases q1 : b < 0
        · simp [q1]
        by_cases q2 : b ≥ i
        · simp [q1, q2]
        by_cases q3 : c < 0
        · simp [q1, q2, q3]
        · have q4 : c ≥ i := by omega
          simp [q1, q2, q3, q4]
      · have h6 : a = 6 := by simp [h3] at hbad; omega
        subst h6
        have hq : b < 0 ∨ b ≥ i := by simp at hbad; omega
        simp only [tune_Levels.l0];rw [if_pos (by omega), if_pos (by omega), if_pos (by omega), hg];simp only [tune_Levels.j1, tune_Levels.j2]
        by_cases q1 : b < 0
        · simp [q1]
        · have q2 : b ≥ i := by omega
          simp [q1, q2]
    · rw [Bool.not_eq_true] at hbad
      rw [show anyB i (y :: g.drop (i + 1)) = anyB (i + 1) (g.drop (i + 1)) by simp [anyB, hbad]];rw [List.append_assoc] at h;refine Ev.steps (f := fun k => tune_Levels.l0 k (D ++ lev D y :: R) g (g.length : Int) ((i + 1 : Nat) : Int)) 3 (fun k => ?_) h
      have hL : (i : Int) < ((D ++ 0 :: R).length : Int) := by omega
      have rdl : ∀ z : Int, 0 ≤ z → z < i → rd (D ++ 0 :: R) z = atI D z := fun z z0 z1 => rd_left z0 (by omega)
      obtain ⟨a, b, c, d⟩ := y;unfold badG at hbad;simp only at hbad n1 n2 n3;rw [Bool.or_eq_false_iff, decide_eq_false_iff_not, decide_eq_false_iff_not] at hbad;simp only [tune_Levels.l0];rw [if_pos (by omega), if_pos (by omega), if_pos (by omega), hg]
      by_cases h3 : a = 3 ∨ a = 4 ∨ a = 5
      · have b0 : 0 ≤ b ∧ b < i ∧ 0 ≤ c ∧ c < i := by omega
        have w1 : wrap64 (mx (atI D b) (atI D c) + 1) = mx (atI D b) (atI D c) + 1 := w64_small (by omega) (by omega)
        have e : (if a = 3 then tune_Levels.j1 (k + 2) (D ++ 0 :: R) (i : Int) true g (g.length : Int) (i : Int) a b c d else if a = 4 then tune_Levels.j1 (k + 2) (D ++ 0 :: R) (i : Int) true g (g.length : Int) (i : Int) a b c d else tune_Levels.j1 (k + 2) (D ++ 0 :: R) (i : Int) (a == 5) g (g.length : Int) (i : Int) a b c d) = tune_Levels.j1 (k + 2) (D ++ 0 :: R) (i : Int) true g (g.length : Int) (i : Int) a b c d := by
          rcases h3 with rfl | rfl | rfl <;> simp
        refine e.trans ?_;simp only [tune_Levels.j1, tune_Levels.j2];rw [if_pos trivial, if_neg (by omega), if_neg (by omega), if_neg (by omega), decide_eq_false (show ¬ (c ≥ (i : Int)) by omega), if_neg (by decide), if_pos trivial, if_pos b0.1, if_pos (by omega), if_pos b0.2.2.1, if_pos (by omega), if_pos (by omega), if_pos hL, rdl b b0.1 b0.2.1, rdl c b0.2.2.1 b0.2.2.2, Int.toNat_natCast, Option.bind_some, wadd (by omega)]
        have hs2 : ((D ++ 0 :: R).set i (mx (atI D b) (atI D c))).set i (wrap64 (mx (atI D b) (atI D c) + 1)) = D ++ (mx (atI D b) (atI D c) + 1) :: R := by
          rw [List.set_set, hset, w1]
        rw [hs2, hset];unfold lev;simp only
        by_cases h5 : a = 5
        · rw [if_pos h5, if_neg (by omega), if_pos h5]
        · rw [if_neg h5, if_pos (by omega)]
      · have n3 : ¬ a = 3 := by omega
        have n4 : ¬ a = 4 := by omega
        have n5 : ¬ a = 5 := by omega
        have n5' : (a == 5) = false := by simp [n5]
        rw [if_neg n3, if_neg n4, n5'];simp only [tune_Levels.j1, tune_Levels.j2];unfold lev;simp only;rw [if_neg (show ¬ (a = 3 ∨ a = 4) by omega)]
        by_cases h6 : a = 6
        · have b0 : 0 ≤ b ∧ b < i := by omega
          simp only [if_pos h6, if_neg n5, Bool.false_eq_true, if_false, if_neg (show ¬ b < 0 by omega), if_neg (show ¬ b ≥ (i : Int) by omega), if_pos b0.1, if_pos (show b < ((D ++ 0 :: R).length : Int) by omega), if_pos (show 0 ≤ (i : Int) by omega), if_pos hL, rdl b b0.1 b0.2, Int.toNat_natCast, Option.bind_some, hset, wadd (show i < 9223372036854775807 by omega)]
        · simp only [if_neg h6, if_neg n5, Bool.false_eq_true, if_false, wadd (show i < 9223372036854775807 by omega)]
theorem ref_levels (s : List S64) (g : List S61) (x : List S66) (hl : g.length ≤ 4398046511104) : Ev (fun k => qca.f k s g x) (levR g, !anyB 0 g) := by
  unfold qca.f
  refine up0 (g := fun k i => qca.l0 k (levs (g.take i)) g (g.length : Int) (i : Int)) (R := fun i => (if anyB i (g.drop i) = true then [] else levs g, !anyB i (g.drop i))) (n := g.length) ?_ fun i hi h => ?_
  · rw [List.take_length, List.drop_of_length_le (Nat.le_refl _)]
    refine Ev.fuel 1 fun k => ?_
    simp only [qca.l0];rw [if_neg (by omega)];simp [anyB]
  · have hD : (levs (g.take i)).length = i := by rw [levs_len, List.length_take]; omega
    have hb := levs_le (g.take i);rw [levs_more g hi] at h;rw [List.drop_eq_getElem_cons hi];have hg : rd_T61 g (i : Int) = g[i] := rdG_get hi;generalize g[i] = y at *;generalize levs (g.take i) = D at *
    have hlen : (g.take i).length = i := by rw [List.length_take]; omega
    rw [hlen] at hb;have n1 := atI_le (by omega) hb y.f1;have n2 := atI_le (by omega) hb y.f2;have n3 := mx_le n1 n2
    by_cases hbad : badG i y = true
    · rw [show anyB i (y :: g.drop (i + 1)) = true by simp [anyB, hbad], if_pos rfl]
      refine Ev.fuel 4 fun k => ?_
      obtain ⟨a, b, c, d⟩ := y;unfold badG at hbad;simp only at hbad n1 n2 n3;simp only [qca.l0];rw [if_pos (by omega), if_pos (by omega), if_pos (by omega), hg];simp only [one_is, two_is, Option.bind_some]
      by_cases h3 : a = 3 ∨ a = 4 ∨ a = 5
      · have h3' : a = 3 ∨ a = 4 ∨ a = 5 ∨ a = 6 := by omega
        have hq : b < 0 ∨ b ≥ i ∨ c < 0 ∨ c ≥ i := by simp [h3, h3'] at hbad; omega
        rw [decide_eq_true h3', decide_eq_true h3]
        by_cases q1 : b < 0
        · simp [q1, qca.j1]
        by_cases q2 : b ≥ i
        · simp [q1, q2, qca.j1]
        by_cases q3 : c < 0
        · simp [q1, q2, q3, qca.j1]
        · have q4 : c ≥ i := by omega
          simp [q1, q2, q3, q4, qca.j1]
      · have h6 : a = 6 := by simp [h3] at hbad; omega
        subst h6
        have hq : b < 0 ∨ b ≥ i := by simp at hbad; omega
        by_cases q1 : b < 0
        · simp [q1, qca.j1]
        · have q2 : b ≥ i := by omega
          simp [q1, q2, qca.j1]
    · rw [Bool.not_eq_true] at hbad
      rw [show anyB i (y :: g.drop (i + 1)) = anyB (i + 1) (g.drop (i + 1)) by simp [anyB, hbad]];refine Ev.steps (f := fun k => qca.l0 k (D ++ [lev D y]) g (g.length : Int) ((i + 1 : Nat) : Int)) 3 (fun k => ?_) h;obtain ⟨a, b, c, d⟩ := y;unfold badG at hbad;simp only at hbad n1 n2 n3;rw [Bool.or_eq_false_iff, decide_eq_false_iff_not, decide_eq_false_iff_not] at hbad;simp only [qca.l0];rw [if_pos (by omega), if_pos (by omega), if_pos (by omega), hg];simp only [one_is, two_is, Option.bind_some, qca.j1, qca.j2]
      by_cases h3 : a = 3 ∨ a = 4 ∨ a = 5
      · have h3' : a = 3 ∨ a = 4 ∨ a = 5 ∨ a = 6 := by omega
        have b0 : 0 ≤ b ∧ b < i ∧ 0 ≤ c ∧ c < i := by omega
        have w1 : wrap64 (mx (atI D b) (atI D c) + 1) = mx (atI D b) (atI D c) + 1 := w64_small (by omega) (by omega);have e1 : rd D b = atI D b := rfl;have e2 : rd D c = atI D c := rfl;rw [decide_eq_true h3', decide_eq_true h3];simp only [if_true, if_neg (show ¬ b < 0 by omega), if_neg (show ¬ b ≥ (i : Int) by omega), if_neg (show ¬ c < 0 by omega), decide_eq_false (show ¬ (c ≥ (i : Int)) by omega), Bool.false_eq_true, if_false, if_pos b0.1, if_pos (show b < (D.length : Int) by omega), if_pos b0.2.2.1, if_pos (show c < (D.length : Int) by omega), e1, e2, w1, if_pos (show D.length < 17592186044416 by omega), wadd (show i < 9223372036854775807 by omega)];unfold lev;simp only
        by_cases h5 : a = 5
        · rw [if_pos h5, if_neg (by omega), if_pos h5]
        · rw [if_neg h5, if_pos (by omega)]
      · have n5 : ¬ a = 5 := by omega
        rw [decide_eq_false h3];unfold lev;simp only;rw [if_neg (show ¬ (a = 3 ∨ a = 4) by omega), if_neg n5]
        by_cases h6 : a = 6
        · have b0 : 0 ≤ b ∧ b < i := by omega
          have h3' : a = 3 ∨ a = 4 ∨ a = 5 ∨ a = 6 := by omega
          have e1 : rd D b = atI D b := rfl;rw [decide_eq_true h3', if_pos h6];simp only [if_true, if_neg (show ¬ b < 0 by omega), if_neg (show ¬ b ≥ (i : Int) by omega), Bool.false_eq_true, if_false, if_pos b0.1, if_pos (show b < (D.length : Int) by omega), if_neg n5, if_pos (show D.length < 17592186044416 by omega), e1, wadd (show i < 9223372036854775807 by omega)]
        · have h3' : ¬ (a = 3 ∨ a = 4 ∨ a = 5 ∨ a = 6) := by omega
          rw [decide_eq_false h3', if_neg h6];simp only [Bool.false_eq_true, if_false, if_neg n5, if_pos (show D.length < 17592186044416 by omega), wadd (show i < 9223372036854775807 by omega)]
end Go.Proofs.Ytmlbliggbkfjnaa.L
/- The statement TuneLevels as plain Lean. -/
namespace Go.Proofs.Ytmlbliggbkfjnaa.L
open Go.RowKit Go.Proofs.YtmlbliggbkfjnaaW.PrintWords Go.Proofs.Ytmlbliggbkfjnaa.J
theorem tuneLevels_at (s : List S64) (g : List S61) (x : List S66) (hl : g.length ≤ 4398046511104) : ∃ k, qka.f k s g x = some true := by
  suffices h : Ev (fun k => qka.f k s g x) true from h.rounds
  unfold qka.f;refine Ev.bind (ref_levels s g x hl) (Ev.bind (tune_levels s g x hl) (Ev.bind (ints_same (levR g) ?_) ?_))
  · unfold levR
    split
    · simp
    · rw [levs_len]; simp only [maxLen]; omega
  · simp only [if_true]
    exact Ev.bind alive16 (Ev.now _)
theorem tuneLevels (aa : List S64) (ab : List S61) (ad : List S66) (w0_0 : aa.length ≤ maxLen ∧ aa.length * 16 ≤ 140737488351232 ∧ ∀ x0_0' ∈ aa, (Lit.int .i64 x0_0'.f0).wf = true ∧ True) (w0_1 : ab.length ≤ maxLen ∧ ab.length * 32 ≤ 140737488351232 ∧ ∀ x0_1' ∈ ab, (Lit.int .i64 x0_1'.f0).wf = true ∧ (Lit.int .i64 x0_1'.f1).wf = true ∧ (Lit.int .i64 x0_1'.f2).wf = true ∧ (Lit.int .u64 x0_1'.f3).wf = true) (w0_2 : ad.length ≤ maxLen ∧ ad.length * 48 ≤ 140737488351232 ∧ ∀ x0_2' ∈ ad, (x0_2'.f0.length ≤ maxLen ∧ x0_2'.f0.length * 8 ≤ 140737488351232 ∧ ∀ x0_2'_f0' ∈ x0_2'.f0, (Lit.int .i64 x0_2'_f0').wf = true) ∧ (x0_2'.f1.length ≤ maxLen ∧ x0_2'.f1.length * 8 ≤ 140737488351232 ∧ ∀ x0_2'_f1' ∈ x0_2'.f1, (Lit.int .i64 x0_2'_f1').wf = true)) : ∃ k, qka.f k aa ab ad = some true :=
  tuneLevels_at aa ab ad (by have := w0_1.2.1; omega)
end Go.Proofs.Ytmlbliggbkfjnaa.L
/- The row of TuneLevels: for every input the call returns true and changes nothing; no conditions. Out of the contract of the function and the plain law. -/
namespace Go.Proofs.Ytmlbliggbkfjnaa.tuneLevels
open Go.ChangeShapes Go.WideShapes Go.ChangeAt Go.RowKit Go.Proofs.YtmlbliggbkfjnaaW.PrintWords Go.Proofs.Ytmlbliggbkfjnaa.J Go.Proofs.Ytmlbliggbkfjnaa.Op
theorem own : ownKnob Try.prog.godebug = none := by kernel_rfl
theorem laidOut : laidOutB Try.prog = true := by kernel_rfl
theorem op0 : Opens Try.prog (Kd.pair (Kd.slice 64 (k64)) (Kd.pair (Kd.slice 61 (k61)) (Kd.slice 66 (k66)))) 26 (fun x => (fun l => l.length ≤ maxLen ∧ l.length * 16 ≤ 140737488351232 ∧ ∀ a ∈ l, (fun b : S64 => (fun x => (fun n => (Lit.int .i64 n).wf = true) x.1 ∧ (fun _ => True) x.2) (b.f0, b.f1)) a) x.1 ∧ (fun x => (fun l => l.length ≤ maxLen ∧ l.length * 32 ≤ 140737488351232 ∧ ∀ a ∈ l, (fun b : S61 => (fun x => (fun n => (Lit.int .i64 n).wf = true) x.1 ∧ (fun x => (fun n => (Lit.int .i64 n).wf = true) x.1 ∧ (fun x => (fun n => (Lit.int .i64 n).wf = true) x.1 ∧ (fun n => (Lit.int .u64 n).wf = true) x.2) x.2) x.2) (b.f0, b.f1, b.f2, b.f3)) a) x.1 ∧ (fun l => l.length ≤ maxLen ∧ l.length * 48 ≤ 140737488351232 ∧ ∀ a ∈ l, (fun b : S66 => (fun x => (fun l => l.length ≤ maxLen ∧ l.length * 8 ≤ 140737488351232 ∧ ∀ a ∈ l, (fun n => (Lit.int .i64 n).wf = true) a) x.1 ∧ (fun l => l.length ≤ maxLen ∧ l.length * 8 ≤ 140737488351232 ∧ ∀ a ∈ l, (fun n => (Lit.int .i64 n).wf = true) a) x.2) (b.f0, b.f1)) a) x.2) x.2) := (op_agg Try.underlying26 (opL_cons (by kernel_rfl) (by kernel_rfl) (op_slice Try.underlying22 (by kernel_rfl) (by kernel_rfl) (op_struct (fun x => (⟨x.1, x.2⟩ : S64)) (fun _ => rfl) Try.underlying64 (opL_cons (by kernel_rfl) (by kernel_rfl) (op_int Try.underlying3) (by kernel_rfl) (opL_one (by kernel_rfl) (by kernel_rfl) (op_bool Try.underlying4))))) (by kernel_rfl) (opL_cons (by kernel_rfl) (by kernel_rfl) (op_slice Try.underlying23 (by kernel_rfl) (by kernel_rfl) (op_struct (fun x => (⟨x.1, x.2.1, x.2.2.1, x.2.2.2⟩ : S61)) (fun _ => rfl) Try.underlying61 (opL_cons (by kernel_rfl) (by kernel_rfl) (op_int Try.underlying3) (by kernel_rfl) (opL_cons (by kernel_rfl) (by kernel_rfl) (op_int Try.underlying3) (by kernel_rfl) (opL_cons (by kernel_rfl) (by kernel_rfl) (op_int Try.underlying3) (by kernel_rfl) (opL_one (by kernel_rfl) (by kernel_rfl) (op_int Try.underlying34))))))) (by kernel_rfl) (opL_one (by kernel_rfl) (by kernel_rfl) (op_slice Try.underlying24 (by kernel_rfl) (by kernel_rfl) (op_struct (fun x => (⟨x.1, x.2⟩ : S66)) (fun _ => rfl) Try.underlying66 (opL_cons (by kernel_rfl) (by kernel_rfl) (op_slice Try.underlying27 (by kernel_rfl) (by kernel_rfl) (op_int Try.underlying3)) (by kernel_rfl) (opL_one (by kernel_rfl) (by kernel_rfl) (op_slice Try.underlying27 (by kernel_rfl) (by kernel_rfl) (op_int Try.underlying3))))))))))
theorem lifted (os : Os) (started : os.Started) (H : Type) (enc : TypeId × Value → H) :
    ReturnsInHanded {} Try.checked os 3 .any (Rows.tuneLevelsSpec.pre6 enc Try.prog Try.f3 Rows.tuneLevelsRow.domain false) (Rows.tuneLevelsSpec.post enc Try.prog Try.f3 false true false false) := by
  refine returnsInHanded_of_change_sized (C := Try.checked) own started (by kernel_rfl) Try.func3
    (ChangeSpec.witness6 (enc := enc) (C := Try.checked) false ⟨#[], #[.agg #[.slice none 0 0, .slice none 0 0, .slice none 0 0]], []⟩ 8 (by kernel_rfl) (by kernel_rfl) (by kernel_rfl) (by kernel_rfl)) ?_
  intro W base args ds gs before hval0 hW hcnd hsz0 _;have hsz : (DataW.weightsEach Try.prog (Try.f3.params.toList ++ Rows.tuneLevelsSpec.plain.varTypes Try.prog) (ds ++ gs)).all (· ≤ reachBytes) = true := hsz0;have hval : ∀ (j : Nat) t v, Try.f3.params[j]? = some t → args[j]? = some v → Value.okWide Try.prog W .any base t v := hval0;have hW' := hW;obtain ⟨p, q, hA0, hV, rfl, hfz, hnd⟩ := hW;have hA : DataW.TrodAll enc Try.prog W 0 (fun _ => true) true Try.f3.params.toList args.toList ds p := hA0;rw [Try.params3] at hA hval hsz;obtain ⟨v0, vs0, d0, ds0, p0, q0, hargs, rfl, rfl, h0, r0⟩ := trodAll_cons hA;obtain ⟨rfl, rfl, rfl⟩ := trodAll_nil r0
  obtain rfl : args = #[v0] := by cases args; simp_all
  obtain ⟨rfl, rfl⟩ := trodVars_none hV;have k0 := h0
  have lt0 : ∀ x ∈ p0, x.block < W.heap.size := by obtain ⟨m, hm⟩ := k0; exact DataW.trod_lt m _ _ _ hm
  obtain ⟨cs0, rfl, hn0⟩ := okWide_agg Try.underlying26 (hval 0 26 v0 rfl rfl);obtain ⟨⟨aa, ab, ad⟩, K0, ⟨w0_0, w0_1, w0_2⟩⟩ := arg op0 (by show cs0.toList.length = _; rw [Array.length_toList, hn0]; kernel_rfl) h0 hsz (j := 0) rfl rfl;obtain ⟨g0_0, rg0_0, qg0_0, ak, M0_0⟩ := K0;obtain ⟨al, an, l0_0', ae, af⟩ := ak;obtain ⟨g0_1, rg0_1, qg0_1, ao, M0_1⟩ := M0_0;obtain ⟨ap, aq, l0_1', ag, ah⟩ := ao;obtain ⟨ar, au, M0_1', ai, aj⟩ := M0_1
  obtain rfl : cs0 = #[.slice al aa.length an, .slice ap ab.length aq, .slice ar ad.length au] := by
    apply Array.toList_inj.1
    have z0 : cs0.toList = _ := qg0_0;rw [z0, l0_0', qg0_1, l0_1', M0_1']
    rfl
  clear hA0 hval0 hsz0 hsz;obtain ⟨k, h⟩ := L.tuneLevels aa ab ad w0_0 w0_1 w0_2
  refine (qka.calls k _ _ aa _ _ ab _ _ ad true W af ae ah ag aj ai h).mono fun e W' ⟨he, bel⟩ => ?_
  subst he;exact ⟨_, rfl, _, _, _, [], _, [], hW', trodAll_mk1 (shut_bool Try.underlying4 _), (trodAll_cons_mk (Below.trod laidOut (by kernel_rfl) (of_decide_eq_true (by kernel_rfl)) k0 bel lt0) trodAll_mk0), rfl, bel.frame _, fun h => by cases h⟩
theorem closed : joinedFacts Try.pinned.checked.prog 3 Try.f3 Rows.tuneLevelsSpec Rows.tuneLevelsRow = true := by
  unfold joinedFacts
  repeat' with_reducible refine Bool.and_eq_true_iff.2 ⟨?_, ?_⟩
  all_goals first
    | with_reducible exact Facts.enters
    | (rw [Facts.final]; kernel_rfl)
    | (rw [Facts.made]; kernel_rfl)
    | kernel_rfl
theorem over : Rows.tuneLevelsRow.holds Try.pinned (OpenSpec.ofChange Rows.tuneLevelsSpec) :=
  OpenClaim.holds_of_wide 3 Try.f3 rfl rfl rfl rfl rfl rfl rfl ⟨rfl, rfl, rfl, rfl, rfl⟩ rfl rfl rfl rfl rfl (by kernel_rfl) Try.func3 closed
    (of_decide_eq_true (by kernel_rfl)) (by unfold Func.isWrapper; first | (rw [if_pos (by decide +kernel)]; kernel_rfl) | (rw [if_neg (by decide +kernel)]; exact ⟨rfl, rfl⟩))
    (fun os started H enc _ => lifted os started H enc)
theorem proved : Rows.TuneLevelsSaid := over
#print axioms proved
end Go.Proofs.Ytmlbliggbkfjnaa.tuneLevels
namespace Go.Proofs.Ytmlbliggbkfjnaa
theorem tuneLevels_holds : Rows.TuneLevelsSaid := tuneLevels.proved
end Go.Proofs.Ytmlbliggbkfjnaa
