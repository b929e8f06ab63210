/- Part 5 of the proof of TuneShares: what the functions compute as plain Lean functions, that the machine comes to just these answers, and that the answer is true; no conditions. -/
import Derived.Test.YtmlbliggbkfjnaaTuneSharesZ0
import Derived.Test.YtmlbliggbkfjnaaTuneSharesZ1
import Derived.Test.YtmlbliggbkfjnaaTuneSharesZ2
import Derived.Test.YtmlbliggbkfjnaaTuneSharesZ3
import Derived.Test.YtmlbliggbkfjnaaTuneSharesZ4
import Derived.Deep.Slices
import Derived.ChangeArms
import Derived.DataReads
import Derived.SizedLaws
import Derived.WideShapes
import Derived.OpenShut
import Derived.Test.YtmlbliggbkfjnaaRows
import Derived.JoinedOf
import Derived.KernelRfl
set_option linter.unusedSimpArgs false
set_option linter.unusedVariables false
set_option maxHeartbeats 8000000
set_option maxRecDepth 100000
namespace Go.Proofs.Ytmlbliggbkfjnaa.J
open Go.RowKit Go.Proofs.YtmlbliggbkfjnaaW.PrintWords Go.Proofs.YtmlbliggbkfjnaaW.PrintLast Go.Proofs.YtmlbliggbkfjnaaW.PrintMore
attribute [local go_sem] max2_int min2_int max_two min_two max_three min_three max_four min_four
mutual
def qga.j0 : Nat → Int → Bool → List (S64) → List (S61) → List (S66) → Option (Int)
 | 0, _, _, _, _, _ => none
 | k + 1, x0, x31, aa, ab, ad => if x31 = true then (some 3) else (qga.l0 k x0 aa (aa.length : Int) 0 aa ab ad)
def qga.l0 : Nat → Int → List (S64) → Int → Int → List (S64) → List (S61) → List (S66) → Option (Int)
 | 0, _, _, _, _, _, _, _ => none
 | k + 1, x0, x33, x34, x35, aa, ab, ad => if x35 < x34 then (if 0 ≤ x35 then (if x35 < (x33.length : Int) then (if ((rd_T64 x33 x35).f0) < 1 then (some 2) else (if ((rd_T64 x33 x35).f0) > 13 then (some 2) else (qga.l0 k x0 x33 x34 (wrap64 (x35 + 1)) aa ab ad))) else (none)) else (none)) else (qga.l1 k x0 ab (ab.length : Int) 0 aa ab ad)
def qga.l1 : Nat → Int → List (S61) → Int → Int → List (S64) → List (S61) → List (S66) → Option (Int)
 | 0, _, _, _, _, _, _, _ => none
 | k + 1, x0, x49, x50, x51, aa, ab, ad => if x51 < x50 then (if 0 ≤ x51 then (if x51 < (x49.length : Int) then ((qca.f k x0 (aa.length : Int) x51 ((rd_T61 x49 x51).f0) ((rd_T61 x49 x51).f1) ((rd_T61 x49 x51).f2) ((rd_T61 x49 x51).f3)).bind fun ae => (if ae = 0 then (qga.l1 k x0 x49 x50 (wrap64 (x51 + 1)) aa ab ad) else (some ae))) else (none)) else (none)) else (qga.l2 k ad (ad.length : Int) 0 aa ab ad)
def qga.l2 : Nat → List (S66) → Int → Int → List (S64) → List (S61) → List (S66) → Option (Int)
 | 0, _, _, _, _, _, _ => none
 | k + 1, x68, x69, x70, aa, ab, ad => if x70 < x69 then (if 0 ≤ x70 then (if x70 < (x68.length : Int) then ((qna.f k (ab.length : Int) ((rd_T66 x68 x70).f0) ((rd_T66 x68 x70).f1)).bind fun af => (if af = 0 then (qga.l2 k x68 x69 (wrap64 (x70 + 1)) aa ab ad) else (some af))) else (none)) else (none)) else (some 0)
end
def qga.f (k : Nat) (a0 : Int) (aa : List (S64)) (ab : List (S61)) (ad : List (S66)) : Option (Int) := (qla.f k a0).bind fun ae => (if ae = true then (if (aa.length : Int) > 256 then (qga.j0 k a0 true aa ab ad) else (if (ab.length : Int) > 65536 then (qga.j0 k a0 true aa ab ad) else (qga.j0 k a0 (decide ((ad.length : Int) > 4096)) aa ab ad))) else (some 2))
theorem qga.calls (k : Nat) (a0 : Int) (aU : Option Addr) (aV : Nat) (ag : List (S64)) (aW : Option Addr) (aX : Nat) (ad : List (S61)) (aY : Option Addr) (aZ : Nat) (ae : List (S66)) (r : Int) (w : World) (bl : Kd.C k64 w aU ag.length ag) (bm : ag.length ≤ aV) (bn : Kd.C k61 w aW ad.length ad) (bo : ad.length ≤ aX) (bp : Kd.C k66 w aY ae.length ae) (bq : ae.length ≤ aZ) (h : qga.f k a0 ag ad ae = some r) :
  Calls Try.prog 17 #[.int .u64 a0, .agg #[.slice aU ag.length aV, .slice aW ad.length aX, .slice aY ae.length aZ]] w fun e w' => e = .returned (.int .i64 r) ∧ Below w.heap.size w w' := by
 have hu26 := Try.underlying26;have hu64 := Try.underlying64;have hu61 := Try.underlying61;have hu66 := Try.underlying66;have bi := Aside0.mk bl;have cc := Aside0.mk bm;clear bl bm;have br := Aside0.mk bn;have cd := Aside0.mk bo;clear bn bo;have bt := Aside0.mk bp;have ce := Aside0.mk bq;clear bp bq;have HB := Aside0.mk (Below.refl w.heap.size w);have H : ((qla.f k a0).bind fun bB => (if bB = true then (if (ag.length : Int) > 256 then (qga.j0 k a0 true ag ad ae) else (if (ad.length : Int) > 65536 then (qga.j0 k a0 true ag ad ae) else (qga.j0 k a0 (decide ((ae.length : Int) > 4096)) ag ad ae))) else (some 2))) = some r := h;clear h;replace H := Option.bind_eq_some_iff.mp H;obtain ⟨bB, A30, H⟩ := H;(try dsimp only at H);have A3 := Aside0.mk A30;clear A30
 by_cases c4 : bB = true
 rotate_left
 ·replace c4 := Bool.eq_false_iff.mpr c4
  subst c4;replace H := ifF H;obtain rfl := Option.some.inj H;go_enter Try.func17, Try.ntmps17;go_wp2_with (first | ((with_reducible refine qea (N := 3) rfl ?_); (try (refine gate_guard (by rfl) ?_; dsimp only)); refine box_event ?hg (N := 3) ?hd (cs := #[.slice aU ag.length aV, .slice aW ad.length aX, .slice aY ae.length aZ]) (t := 26) ?hr ?_; (case hd => rfl); (case hg => rfl); (case hr => first | (go_simp; done) | (go_simp; rfl)); intro ba hg w60 hbox hb; have aa := am hbox; have bG := kG HB hg; have bH := kG HB hg; replace HB := kH HB hb; clear hb hbox hg) | ((with_reducible refine gate_callee (f := 40) rfl ?_); refine goesL_ (some 14) rfl rfl Try.func40 (by kernel_rfl) rfl #[.int .u64 a0] rfl (by (try simp only [qM1, qM2, qM3]); first | done | rfl) ?_; (with_reducible refine (qla.calls k a0 false _ A3.out).mono ?_); rintro e w' ⟨rfl, ⟨nd, rfl⟩⟩; refine ⟨_, rfl, ?_⟩));go_ret;exact ⟨er, kh HB⟩
 subst c4;replace H := ifT H;have HC5 := Aside0.mk H;clear H;go_enter Try.func17, Try.ntmps17;go_upto_region 3 with (first | ((with_reducible refine qea (N := 3) rfl ?_); (try (refine gate_guard (by rfl) ?_; dsimp only)); refine box_event ?hg (N := 3) ?hd (cs := #[.slice aU ag.length aV, .slice aW ad.length aX, .slice aY ae.length aZ]) (t := 26) ?hr ?_; (case hd => rfl); (case hg => rfl); (case hr => first | (go_simp; done) | (go_simp; rfl)); intro ba hg w6 hbox hb; have aa := am hbox; have bG := kG HB hg; have bH := kG HB hg; replace HB := kH HB hb; clear hb hbox hg) | ((with_reducible refine gate_callee (f := 40) rfl ?_); refine goesL_ (some 14) rfl rfl Try.func40 (by kernel_rfl) rfl #[.int .u64 a0] rfl (by (try simp only [qM1, qM2, qM3]); first | done | rfl) ?_; (with_reducible refine (qla.calls k a0 true _ A3.out).mono ?_); rintro e w' ⟨rfl, ⟨nd, rfl⟩⟩; refine ⟨_, rfl, ?_⟩));(try simp only [Act.put, qS1, qS2, qS3]);go_cut [31] (fun v31 wc => ∃ (kq : Nat) (bh : Bool), v31 = .bool bh ∧ Aside0 (qga.j0 kq a0 bh ag ad ae = some r) ∧ Aside0 (kq ≤ k) ∧ Aside0 (wc.heap[ba]? = some (.cells #[(.slice aU ag.length aV), (.slice aW ad.length aX), (.slice aY ae.length aZ)] 26 (0, 0))) ∧ Aside0 (Below w.heap.size w wc))
 case first =>
  have H := HC5.out;clear HC5
  by_cases c7 : (ag.length : Int) > 256
  ·rw [if_pos c7] at H
   have bj := decide_eq_true c7;have bZ : decide (256 < ag.length) = true := decide_eq_true (by omega);clear c7;(first | rw [bj] | (simp only [i64_w, i32_w]; rw [bj]) | skip);have H' := Aside0.mk H;clear H;have Z8 := kz3 aa;go_wp2;go_meet
   case rel => exact ⟨_, (true), et, H', ⟨by first | omega | exact Nat.le_refl _⟩, ⟨kg aa⟩, ⟨kh HB⟩⟩
  rw [if_neg c7] at H;have bj := decide_eq_false c7;have bZ : decide (256 < ag.length) = false := decide_eq_false (by omega);clear c7;(first | rw [bj] | (simp only [i64_w, i32_w]; rw [bj]) | skip)
  by_cases c9 : (ad.length : Int) > 65536
  ·rw [if_pos c9] at H
   have ca := decide_eq_true c9;have cb : decide (65536 < ad.length) = true := decide_eq_true (by omega);clear c9;have H' := Aside0.mk H;clear H;have Z10 := kz3 aa;go_wp2;go_meet
   case rel => exact ⟨_, (true), et, H', ⟨by first | omega | exact Nat.le_refl _⟩, ⟨kg aa⟩, ⟨kh HB⟩⟩
  rw [if_neg c9] at H;have ca := decide_eq_false c9;have cb : decide (65536 < ad.length) = false := decide_eq_false (by omega);clear c9;have H' := Aside0.mk H;clear H;have Z11 := kz3 aa;go_wp2;go_meet
  case rel => exact ⟨_, (decide ((ae.length : Int) > 4096)), et, H', ⟨by first | omega | exact Nat.le_refl _⟩, ⟨kg aa⟩, ⟨kh HB⟩⟩
 clear HC5; (try clear c4);obtain ⟨kq, bh, rfl, HA, HJ4, aa, HB⟩ := hcut
 cases kq with
 | zero => exact absurd HA.out (by simp [qga.j0])
 | succ kj4 =>
  have H := HA.out;clear HA;simp only [qga.j0] at H
  by_cases c12 : bh = true
  ·subst c12
   replace H := ifT H;obtain rfl := Option.some.inj H;go_wp2;go_ret;exact ⟨er, kh HB⟩
  replace c12 := Bool.eq_false_iff.mpr c12;subst c12;replace H := ifF H;have H' := Aside0.mk H;clear H;have Z13 := kz3 aa;go_wp2;go_loopg [35] kj4 (fun kq v35 w' => ∃ (aj : Int), v35 = .int .i64 aj ∧ Aside0 (qga.l0 kq a0 ag (ag.length : Int) aj ag ad ae = some r) ∧ Aside0 (kq ≤ kj4) ∧ Aside0 (w'.heap[ba]? = some (.cells #[(.slice aU ag.length aV), (.slice aW ad.length aX), (.slice aY ae.length aZ)] 26 (0, 0))) ∧ Aside0 (Below w.heap.size w w'))
  case atStart => exact ⟨(0), et, H', ⟨Nat.le_refl _⟩, ⟨kg aa⟩, ⟨kh HB⟩⟩
  case round =>
   clear H';(try clear c12 Z13);obtain ⟨aj, rfl, HA, HK2, aa, HB⟩ := hrel
   cases gk with
   | zero => exact absurd HA.out (by simp [qga.l0])
   | succ k2 =>
    have H := HA.out;clear HA;simp only [qga.l0] at H
    by_cases c14 : aj < (ag.length : Int)
    ·rw [if_pos c14] at H
     have bu := decide_eq_true c14;clear c14
     by_cases c15 : 0 ≤ aj
     rotate_left
     ·rw [if_neg c15] at H
      exact absurd H (by simp)
     rw [if_pos c15] at H;have cf := decide_eq_true c15;clear c15
     by_cases c16 : aj < (ag.length : Int)
     rotate_left
     ·rw [if_neg c16] at H
      exact absurd H (by simp)
     rw [if_pos c16] at H;have cg := decide_eq_true c16;clear c16
     by_cases c17 : ((rd_T64 ag aj).f0) < 1
     ·rw [if_pos c17] at H
      have bI := decide_eq_true c17;clear c17;obtain rfl := Option.some.inj H;have aC : 0 ≤ (aj : Int) := od;have aD : aj < (ag.length : Int) := od;obtain ⟨bv, bk, ah, ai⟩ := at_T64 bi.out aj aC aD;cases bk;replace ah := (HB.out.cell (World.block_lt_of_cell? w _ ah)).trans ah;replace ai := (HB.out.cell (World.block_lt_of_cell? w _ ai)).trans ai;replace aC := eq_true aC; replace aD := eq_true aD;go_wp2_with (first | ((with_reducible refine qea (N := 6) rfl ?_); (try (refine gate_guard (by rfl) ?_; dsimp only)); refine box_event ?hg (N := 6) ?hd (cs := #[.int .i64 0, .bool false]) (t := 64) ?hr ?_; (case hd => rfl); (case hg => rfl); (case hr => first | (go_simp; done) | (go_simp; rfl)); intro bw hg w18 hbox hb; have bb := am hbox; have bx := kG HB hg; have bz := kG HB hg; replace HB := kH HB hb; have ak := kP aa hg; have al := kQ aa hg; replace aa := kU aa hb; clear hb hbox hg; have ch := al.out; have ci := ak.out; have Z20 := kz2 bb));go_ret;exact ⟨er, kh HB⟩
     rw [if_neg c17] at H;have bI := decide_eq_false c17;clear c17
     by_cases c21 : ((rd_T64 ag aj).f0) > 13
     ·rw [if_pos c21] at H
      have bJ := decide_eq_true c21;clear c21;obtain rfl := Option.some.inj H;have aC : 0 ≤ (aj : Int) := od;have aD : aj < (ag.length : Int) := od;obtain ⟨bv, bk, ah, ai⟩ := at_T64 bi.out aj aC aD;cases bk;replace ah := (HB.out.cell (World.block_lt_of_cell? w _ ah)).trans ah;replace ai := (HB.out.cell (World.block_lt_of_cell? w _ ai)).trans ai;replace aC := eq_true aC; replace aD := eq_true aD;go_wp2_with (first | ((with_reducible refine qea (N := 6) rfl ?_); (try (refine gate_guard (by rfl) ?_; dsimp only)); refine box_event ?hg (N := 6) ?hd (cs := #[.int .i64 0, .bool false]) (t := 64) ?hr ?_; (case hd => rfl); (case hg => rfl); (case hr => first | (go_simp; done) | (go_simp; rfl)); intro bw hg w22 hbox hb; have bb := am hbox; have bx := kG HB hg; have bz := kG HB hg; replace HB := kH HB hb; have ak := kP aa hg; have al := kQ aa hg; replace aa := kU aa hb; clear hb hbox hg; have cj := al.out; have ck := ak.out; have Z24 := kz2 bb));go_ret;exact ⟨er, kh HB⟩
     rw [if_neg c21] at H;have bJ := decide_eq_false c21;clear c21;have H' := Aside0.mk H;clear H;have aC : 0 ≤ (aj : Int) := od;have aD : aj < (ag.length : Int) := od;obtain ⟨bv, bk, ah, ai⟩ := at_T64 bi.out aj aC aD;cases bk;replace ah := (HB.out.cell (World.block_lt_of_cell? w _ ah)).trans ah;replace ai := (HB.out.cell (World.block_lt_of_cell? w _ ai)).trans ai;replace aC := eq_true aC; replace aD := eq_true aD;go_wp2_with (first | ((with_reducible refine qea (N := 6) rfl ?_); (try (refine gate_guard (by rfl) ?_; dsimp only)); refine box_event ?hg (N := 6) ?hd (cs := #[.int .i64 0, .bool false]) (t := 64) ?hr ?_; (case hd => rfl); (case hg => rfl); (case hr => first | (go_simp; done) | (go_simp; rfl)); intro bw hg w25 hbox hb; have bb := am hbox; have bx := kG HB hg; have bz := kG HB hg; replace HB := kH HB hb; have ak := kP aa hg; have al := kQ aa hg; replace aa := kU aa hb; clear hb hbox hg; have cl := al.out; have cm := ak.out; have Z27 := kz2 bb));go_roundg k2
     case measure => have := HJ4.out; have := HK2.out; omega
     case rel => exact ⟨(wrap64 (aj + 1)), et, H', ⟨by have := HJ4.out; have := HK2.out; omega⟩, ⟨kg aa⟩, ⟨kh HB⟩⟩
    rw [if_neg c14] at H;have bu := decide_eq_false c14;clear c14;have H' := Aside0.mk H;clear H;have Z28 := kz3 aa;go_wp2;go_loopg [51] k2 (fun kq v51 w' => ∃ (ab : Int), v51 = .int .i64 ab ∧ Aside0 (qga.l1 kq a0 ad (ad.length : Int) ab ag ad ae = some r) ∧ Aside0 (kq ≤ k2) ∧ Aside0 (w'.heap[ba]? = some (.cells #[(.slice aU ag.length aV), (.slice aW ad.length aX), (.slice aY ae.length aZ)] 26 (0, 0))) ∧ Aside0 (Below w.heap.size w w'))
    case atStart => exact ⟨(0), et, H', ⟨Nat.le_refl _⟩, ⟨kg aa⟩, ⟨kh HB⟩⟩
    case round =>
     clear H';(try clear bu c15 Z28);obtain ⟨ab, rfl, HA, HK3, aa, HB⟩ := hrel
     cases gk with
     | zero => exact absurd HA.out (by simp [qga.l1])
     | succ k3 =>
      have H := HA.out;clear HA;simp only [qga.l1] at H
      by_cases c29 : ab < (ad.length : Int)
      ·rw [if_pos c29] at H
       have bA := decide_eq_true c29;clear c29
       by_cases c30 : 0 ≤ ab
       rotate_left
       ·rw [if_neg c30] at H
        exact absurd H (by simp)
       rw [if_pos c30] at H;have cn := decide_eq_true c30;clear c30
       by_cases c31 : ab < (ad.length : Int)
       rotate_left
       ·rw [if_neg c31] at H
        exact absurd H (by simp)
       rw [if_pos c31] at H;have co := decide_eq_true c31;clear c31;replace H := Option.bind_eq_some_iff.mp H;obtain ⟨bC, bK, H⟩ := H;(try dsimp only at H);have A32 := Aside0.mk bK;clear bK
       by_cases c33 : bC = 0
       rotate_left
       ·rw [if_neg c33] at H
        have bL := beq_eq_false_iff_ne.mpr c33;have bM := bne_iff_ne.mpr c33;obtain rfl := Option.some.inj H;have bc : 0 ≤ (ab : Int) := od;have bd : ab < (ad.length : Int) := od;obtain ⟨bN, bD, an, ao, ap, aq⟩ := at_T61 br.out ab bc bd;cases bD;replace an := (HB.out.cell (World.block_lt_of_cell? w _ an)).trans an;replace ao := (HB.out.cell (World.block_lt_of_cell? w _ ao)).trans ao;replace ap := (HB.out.cell (World.block_lt_of_cell? w _ ap)).trans ap;replace aq := (HB.out.cell (World.block_lt_of_cell? w _ aq)).trans aq;replace bc := eq_true bc; replace bd := eq_true bd;go_wp2_with (first | ((with_reducible refine qea (N := 8) rfl ?_); (try (refine gate_guard (by rfl) ?_; dsimp only)); refine box_event ?hg (N := 8) ?hd (cs := #[.int .i64 0, .int .i64 0, .int .i64 0, .int .u64 0]) (t := 61) ?hr ?_; (case hd => rfl); (case hg => rfl); (case hr => first | (go_simp; done) | (go_simp; rfl)); intro bO hg w39 hbox hb; have aE := am hbox; have bP := kG HB hg; have bQ := kG HB hg; replace HB := kH HB hb; have ax := kP aa hg; have ay := kQ aa hg; replace aa := kU aa hb; clear hb hbox hg; have cp := ay.out; have cq := ax.out; have Z41 := kz4 aE; have Z42 := kz3 aa) | ((with_reducible refine gate_callee (f := 41) rfl ?_); refine goesL_ (some 62) rfl rfl Try.func41 (by kernel_rfl) rfl #[.int .u64 a0, .int .i64 (ag.length : Int), .int .i64 ab, .agg #[.int .i64 ((rd_T61 ad ab).f0), .int .i64 ((rd_T61 ad ab).f1), .int .i64 ((rd_T61 ad ab).f2), .int .u64 ((rd_T61 ad ab).f3)]] rfl (by (try simp only [qM1, qM2, qM3]); first | done | rfl) ?_; (with_reducible refine (qca.calls k3 a0 (ag.length : Int) ab ((rd_T61 ad ab).f0) ((rd_T61 ad ab).f1) ((rd_T61 ad ab).f2) ((rd_T61 ad ab).f3) bC _ A32.out).mono ?_); rintro e w43 ⟨rfl, hb⟩; refine ⟨_, rfl, ?_⟩; replace aa := kU aa hb; replace aE := kO (o' := .cells #[.int .i64 ((rd_T61 ad ab).f0), .int .i64 ((rd_T61 ad ab).f1), .int .i64 ((rd_T61 ad ab).f2), .int .u64 ((rd_T61 ad ab).f3)] 61 (0, 0)) aE hb; replace HB := kH HB hb; (try clear hb); (try clear hb2); (try clear hk); (try clear hi)));go_ret;exact ⟨er, kh HB⟩
       rw [if_pos c33] at H;have bL := beq_iff_eq.mpr c33;have bM := bne_eq_false_iff_eq.mpr c33;clear c33;have H' := Aside0.mk H;clear H;have bc : 0 ≤ (ab : Int) := od;have bd : ab < (ad.length : Int) := od;obtain ⟨bN, bD, an, ao, ap, aq⟩ := at_T61 br.out ab bc bd;cases bD;replace an := (HB.out.cell (World.block_lt_of_cell? w _ an)).trans an;replace ao := (HB.out.cell (World.block_lt_of_cell? w _ ao)).trans ao;replace ap := (HB.out.cell (World.block_lt_of_cell? w _ ap)).trans ap;replace aq := (HB.out.cell (World.block_lt_of_cell? w _ aq)).trans aq;replace bc := eq_true bc; replace bd := eq_true bd;go_wp2_with (first | ((with_reducible refine qea (N := 8) rfl ?_); (try (refine gate_guard (by rfl) ?_; dsimp only)); refine box_event ?hg (N := 8) ?hd (cs := #[.int .i64 0, .int .i64 0, .int .i64 0, .int .u64 0]) (t := 61) ?hr ?_; (case hd => rfl); (case hg => rfl); (case hr => first | (go_simp; done) | (go_simp; rfl)); intro bO hg w34 hbox hb; have aE := am hbox; have bP := kG HB hg; have bQ := kG HB hg; replace HB := kH HB hb; have ax := kP aa hg; have ay := kQ aa hg; replace aa := kU aa hb; clear hb hbox hg; have cr := ay.out; have ct := ax.out; have Z36 := kz4 aE; have Z37 := kz3 aa) | ((with_reducible refine gate_callee (f := 41) rfl ?_); refine goesL_ (some 62) rfl rfl Try.func41 (by kernel_rfl) rfl #[.int .u64 a0, .int .i64 (ag.length : Int), .int .i64 ab, .agg #[.int .i64 ((rd_T61 ad ab).f0), .int .i64 ((rd_T61 ad ab).f1), .int .i64 ((rd_T61 ad ab).f2), .int .u64 ((rd_T61 ad ab).f3)]] rfl (by (try simp only [qM1, qM2, qM3]); first | done | rfl) ?_; (with_reducible refine (qca.calls k3 a0 (ag.length : Int) ab ((rd_T61 ad ab).f0) ((rd_T61 ad ab).f1) ((rd_T61 ad ab).f2) ((rd_T61 ad ab).f3) bC _ A32.out).mono ?_); rintro e w38 ⟨rfl, hb⟩; refine ⟨_, rfl, ?_⟩; replace aa := kU aa hb; replace aE := kO (o' := .cells #[.int .i64 ((rd_T61 ad ab).f0), .int .i64 ((rd_T61 ad ab).f1), .int .i64 ((rd_T61 ad ab).f2), .int .u64 ((rd_T61 ad ab).f3)] 61 (0, 0)) aE hb; replace HB := kH HB hb; (try clear hb); (try clear hb2); (try clear hk); (try clear hi)));go_roundg k3
       case measure => have := HJ4.out; have := HK2.out; have := HK3.out; omega
       case rel => exact ⟨(wrap64 (ab + 1)), et, H', ⟨by have := HJ4.out; have := HK2.out; have := HK3.out; omega⟩, ⟨kg aa⟩, ⟨kh HB⟩⟩
      rw [if_neg c29] at H;have bA := decide_eq_false c29;clear c29;have H' := Aside0.mk H;clear H;have Z44 := kz3 aa;go_wp2;go_loopg [70] k3 (fun kq v70 w' => ∃ (af : Int), v70 = .int .i64 af ∧ Aside0 (qga.l2 kq ae (ae.length : Int) af ag ad ae = some r) ∧ Aside0 (kq ≤ k3) ∧ Aside0 (w'.heap[ba]? = some (.cells #[(.slice aU ag.length aV), (.slice aW ad.length aX), (.slice aY ae.length aZ)] 26 (0, 0))) ∧ Aside0 (Below w.heap.size w w'))
      case atStart => exact ⟨(0), et, H', ⟨Nat.le_refl _⟩, ⟨kg aa⟩, ⟨kh HB⟩⟩
      case round =>
       clear H';(try clear bA c30 Z44);obtain ⟨af, rfl, HA, HK4, aa, HB⟩ := hrel
       cases gk with
       | zero => exact absurd HA.out (by simp [qga.l2])
       | succ k4 =>
        have H := HA.out;clear HA;simp only [qga.l2] at H
        by_cases c45 : af < (ae.length : Int)
        rotate_left
        ·rw [if_neg c45] at H
         have bR := decide_eq_false c45;clear c45;obtain rfl := Option.some.inj H;go_wp2;go_ret;exact ⟨er, kh HB⟩
        rw [if_pos c45] at H;have bR := decide_eq_true c45;clear c45
        by_cases c46 : 0 ≤ af
        rotate_left
        ·rw [if_neg c46] at H
         exact absurd H (by simp)
        rw [if_pos c46] at H;have cu := decide_eq_true c46;clear c46
        by_cases c47 : af < (ae.length : Int)
        rotate_left
        ·rw [if_neg c47] at H
         exact absurd H (by simp)
        rw [if_pos c47] at H;have cv := decide_eq_true c47;clear c47;replace H := Option.bind_eq_some_iff.mp H;obtain ⟨bE, bS, H⟩ := H;(try dsimp only at H);have A48 := Aside0.mk bS;clear bS
        by_cases c49 : bE = 0
        rotate_left
        ·rw [if_neg c49] at H
         have bT := beq_eq_false_iff_ne.mpr c49;have bU := bne_iff_ne.mpr c49;obtain rfl := Option.some.inj H;have bf : 0 ≤ (af : Int) := od;have bg : af < (ae.length : Int) := od;obtain ⟨bV, aG, aH, aI, aJ, bF, ar, au, av, hi357_0, aw, hi357_1⟩ := at_T66 bt.out af bf bg;cases bF;replace ar := (HB.out.cell (World.block_lt_of_cell? w _ ar)).trans ar;replace au := (HB.out.cell (World.block_lt_of_cell? w _ au)).trans au;have aM := Aside0.mk hi357_0;have aN := Aside0.mk av;clear hi357_0 av;have aQ := Aside0.mk hi357_1;have aT := Aside0.mk aw;clear hi357_1 aw; replace bf := eq_true bf; replace bg := eq_true bg;go_wp2_with (first | ((with_reducible refine qea (N := 11) rfl ?_); (try (refine gate_guard (by rfl) ?_; dsimp only)); refine box_event ?hg (N := 11) ?hd (cs := #[.slice none 0 0, .slice none 0 0]) (t := 66) ?hr ?_; (case hd => rfl); (case hg => rfl); (case hr => first | (go_simp; done) | (go_simp; rfl)); intro bW hg w55 hbox hb; have aK := am hbox; have bX := kG HB hg; have bY := kG HB hg; replace HB := kH HB hb; have az := kP aa hg; have aA := kQ aa hg; replace aa := kU aa hb; clear hb hbox hg; have cw := aA.out; have cx := az.out; have Z57 := kz2 aK; have Z58 := kz3 aa) | ((with_reducible refine gate_callee (f := 42) rfl ?_); refine goesL_ (some 78) rfl rfl Try.func42 (by kernel_rfl) rfl #[.int .i64 (ad.length : Int), .agg #[.slice aG ((rd_T66 ae af).f0).length aH, .slice aI ((rd_T66 ae af).f1).length aJ]] rfl (by (try simp only [qM1, qM2, qM3]); first | done | rfl) ?_; (with_reducible refine (qna.calls k4 (ad.length : Int) _ _ ((rd_T66 ae af).f0) _ _ ((rd_T66 ae af).f1) bE _ ?side1 ?side2 ?side3 ?side4 A48.out).mono ?_); (case side1 => exact Kd.C_below aM.out (kh HB)); (case side2 => exact aN.out); (case side3 => exact Kd.C_below aQ.out (kh HB)); (case side4 => exact aT.out); rintro e w59 ⟨rfl, hb⟩; refine ⟨_, rfl, ?_⟩; replace aa := kU aa hb; replace aK := kO (o' := .cells #[.slice aG ((rd_T66 ae af).f0).length aH, .slice aI ((rd_T66 ae af).f1).length aJ] 66 (0, 0)) aK hb; replace HB := kH HB hb; (try clear hb); (try clear hb2); (try clear hk); (try clear hi)));go_ret;exact ⟨er, kh HB⟩
        rw [if_pos c49] at H;have bT := beq_iff_eq.mpr c49;have bU := bne_eq_false_iff_eq.mpr c49;clear c49;have H' := Aside0.mk H;clear H;have bf : 0 ≤ (af : Int) := od;have bg : af < (ae.length : Int) := od;obtain ⟨bV, aG, aH, aI, aJ, bF, ar, au, av, hi357_0, aw, hi357_1⟩ := at_T66 bt.out af bf bg;cases bF;replace ar := (HB.out.cell (World.block_lt_of_cell? w _ ar)).trans ar;replace au := (HB.out.cell (World.block_lt_of_cell? w _ au)).trans au;have aM := Aside0.mk hi357_0;have aN := Aside0.mk av;clear hi357_0 av;have aQ := Aside0.mk hi357_1;have aT := Aside0.mk aw;clear hi357_1 aw; replace bf := eq_true bf; replace bg := eq_true bg;go_wp2_with (first | ((with_reducible refine qea (N := 11) rfl ?_); (try (refine gate_guard (by rfl) ?_; dsimp only)); refine box_event ?hg (N := 11) ?hd (cs := #[.slice none 0 0, .slice none 0 0]) (t := 66) ?hr ?_; (case hd => rfl); (case hg => rfl); (case hr => first | (go_simp; done) | (go_simp; rfl)); intro bW hg w50 hbox hb; have aK := am hbox; have bX := kG HB hg; have bY := kG HB hg; replace HB := kH HB hb; have az := kP aa hg; have aA := kQ aa hg; replace aa := kU aa hb; clear hb hbox hg; have cy := aA.out; have cz := az.out; have Z52 := kz2 aK; have Z53 := kz3 aa) | ((with_reducible refine gate_callee (f := 42) rfl ?_); refine goesL_ (some 78) rfl rfl Try.func42 (by kernel_rfl) rfl #[.int .i64 (ad.length : Int), .agg #[.slice aG ((rd_T66 ae af).f0).length aH, .slice aI ((rd_T66 ae af).f1).length aJ]] rfl (by (try simp only [qM1, qM2, qM3]); first | done | rfl) ?_; (with_reducible refine (qna.calls k4 (ad.length : Int) _ _ ((rd_T66 ae af).f0) _ _ ((rd_T66 ae af).f1) bE _ ?side1 ?side2 ?side3 ?side4 A48.out).mono ?_); (case side1 => exact Kd.C_below aM.out (kh HB)); (case side2 => exact aN.out); (case side3 => exact Kd.C_below aQ.out (kh HB)); (case side4 => exact aT.out); rintro e w54 ⟨rfl, hb⟩; refine ⟨_, rfl, ?_⟩; replace aa := kU aa hb; replace aK := kO (o' := .cells #[.slice aG ((rd_T66 ae af).f0).length aH, .slice aI ((rd_T66 ae af).f1).length aJ] 66 (0, 0)) aK hb; replace HB := kH HB hb; (try clear hb); (try clear hb2); (try clear hk); (try clear hi)));go_roundg k4
        case measure => have := HJ4.out; have := HK2.out; have := HK3.out; have := HK4.out; omega
        case rel => exact ⟨(wrap64 (af + 1)), et, H', ⟨by have := HJ4.out; have := HK2.out; have := HK3.out; have := HK4.out; omega⟩, ⟨kg aa⟩, ⟨kh HB⟩⟩
def qua.f (k : Nat) (aa : List (S64)) (ab : List (S61)) (ad : List (S66)) (a1 : Int) (ae : List (S64)) (af : List (S61)) (ag : List (S66)) (a3 : Int) : Option (Bool) := if a3 = 0 then (if a1 = 0 then ((qba.f k aa ab ad ae af ag).bind fun ah => (some ah)) else (some false)) else (if a1 = a3 then ((qba.f k aa ab ad ([] : List (S64)) ([] : List (S61)) ([] : List (S66))).bind fun ai => (some ai)) else (some false))
theorem qua.calls (k : Nat) (al : Option Addr) (an : Nat) (ae : List (S64)) (ao : Option Addr) (ap : Nat) (af : List (S61)) (aq : Option Addr) (ar : Nat) (ag : List (S66)) (a1 : Int) (au : Option Addr) (av : Nat) (ai : List (S64)) (aw : Option Addr) (ax : Nat) (aj : List (S61)) (ay : Option Addr) (az : Nat) (ak : List (S66)) (a3 : Int) (r : Bool) (w : World) (aI : Kd.C k64 w al ae.length ae) (aJ : ae.length ≤ an) (aK : Kd.C k61 w ao af.length af) (aM : af.length ≤ ap) (aN : Kd.C k66 w aq ag.length ag) (aQ : ag.length ≤ ar) (aT : Kd.C k64 w au ai.length ai) (aU : ai.length ≤ av) (aV : Kd.C k61 w aw aj.length aj) (aW : aj.length ≤ ax) (aX : Kd.C k66 w ay ak.length ak) (aY : ak.length ≤ az) (h : qua.f k ae af ag a1 ai aj ak a3 = some r) :
  Calls Try.prog 18 #[.agg #[.slice al ae.length an, .slice ao af.length ap, .slice aq ag.length ar], .int .i64 a1, .agg #[.slice au ai.length av, .slice aw aj.length ax, .slice ay ak.length az], .int .i64 a3] w fun e w' => e = .returned (.bool r) ∧ Below w.heap.size w w' := by
 have hu26 := Try.underlying26;have aZ := Aside0.mk aI;have ba := Aside0.mk aJ;clear aI aJ;have bb := Aside0.mk aK;have bc := Aside0.mk aM;clear aK aM;have bd := Aside0.mk aN;have bf := Aside0.mk aQ;clear aN aQ;have bi := Aside0.mk aT;have bj := Aside0.mk aU;clear aT aU;have bk := Aside0.mk aV;have bl := Aside0.mk aW;clear aV aW;have bm := Aside0.mk aX;have bn := Aside0.mk aY;clear aX aY;have HB := Aside0.mk (Below.refl w.heap.size w);have H : (if a3 = 0 then (if a1 = 0 then ((qba.f k ae af ag ai aj ak).bind fun bg => (some bg)) else (some false)) else (if a1 = a3 then ((qba.f k ae af ag ([] : List (S64)) ([] : List (S61)) ([] : List (S66))).bind fun bh => (some bh)) else (some false))) = some r := h;clear h
 by_cases c5 : a3 = 0
 ·rw [if_pos c5] at H
  have br := beq_iff_eq.mpr c5;have bt := bne_eq_false_iff_eq.mpr c5;clear c5
  by_cases c6 : a1 = 0
  rotate_left
  ·rw [if_neg c6] at H
   have bu := beq_eq_false_iff_ne.mpr c6;have bv := bne_iff_ne.mpr c6;obtain rfl := Option.some.inj H;go_enter Try.func18, Try.ntmps18;go_wp2_with (first | ((with_reducible refine qea (N := 4) rfl ?_); refine box_event ?hg (N := 4) ?hd (cs := #[.slice al ae.length an, .slice ao af.length ap, .slice aq ag.length ar]) (t := 26) ?hr ?_; (case hd => rfl); (case hg => rfl); (case hr => first | (go_simp; done) | (go_simp; rfl)); intro aA hg w14 hbox hb; have aa := am hbox; have aC := kG HB hg; have aD := kG HB hg; replace HB := kH HB hb; clear hb hbox hg) | ((with_reducible refine qea (N := 6) rfl ?_); refine box_event ?hg (N := 6) ?hd (cs := #[.slice au ai.length av, .slice aw aj.length ax, .slice ay ak.length az]) (t := 26) ?hr ?_; (case hd => rfl); (case hg => rfl); (case hr => first | (go_simp; done) | (go_simp; rfl)); intro aE hg w15 hbox hb; have ah := am hbox; have aG := kG HB hg; have aH := kG HB hg; replace HB := kH HB hb; have ab := kP aa hg; have ad := kQ aa hg; replace aa := kU aa hb; clear hb hbox hg));go_ret;exact ⟨er, kh HB⟩
  rw [if_pos c6] at H;have bu := beq_iff_eq.mpr c6;have bv := bne_eq_false_iff_eq.mpr c6;clear c6;replace H := Option.bind_eq_some_iff.mp H;obtain ⟨bg, A70, H⟩ := H;(try dsimp only at H);have A7 := Aside0.mk A70;clear A70;obtain rfl := Option.some.inj H;go_enter Try.func18, Try.ntmps18;go_wp2_with (first | ((with_reducible refine qea (N := 4) rfl ?_); refine box_event ?hg (N := 4) ?hd (cs := #[.slice al ae.length an, .slice ao af.length ap, .slice aq ag.length ar]) (t := 26) ?hr ?_; (case hd => rfl); (case hg => rfl); (case hr => first | (go_simp; done) | (go_simp; rfl)); intro aA hg w8 hbox hb; have aa := am hbox; have aC := kG HB hg; have aD := kG HB hg; replace HB := kH HB hb; clear hb hbox hg) | ((with_reducible refine qea (N := 6) rfl ?_); refine box_event ?hg (N := 6) ?hd (cs := #[.slice au ai.length av, .slice aw aj.length ax, .slice ay ak.length az]) (t := 26) ?hr ?_; (case hd => rfl); (case hg => rfl); (case hr => first | (go_simp; done) | (go_simp; rfl)); intro aE hg w9 hbox hb; have ah := am hbox; have aG := kG HB hg; have aH := kG HB hg; replace HB := kH HB hb; have ab := kP aa hg; have ad := kQ aa hg; replace aa := kU aa hb; clear hb hbox hg; have bw := ab.out; have bx := ad.out; have Z11 := kz3 aa; have Z12 := kz3 ah) | (go_at_call 29; (with_reducible refine (qba.calls k _ _ ae _ _ af _ _ ag _ _ ai _ _ aj _ _ ak bg _ ?side1 ?side2 ?side3 ?side4 ?side5 ?side6 ?side7 ?side8 ?side9 ?side10 ?side11 ?side12 A7.out).mono ?_); (case side1 => repeat (first | exact (Kd.C_below aZ.out HB.out) | (with_reducible first | refine Kd.C_alloc ?_ _ | refine Kd.C_drewN ?_ _ | refine Kd.C_drew ?_))); (case side2 => exact ba.out); (case side3 => repeat (first | exact (Kd.C_below bb.out HB.out) | (with_reducible first | refine Kd.C_alloc ?_ _ | refine Kd.C_drewN ?_ _ | refine Kd.C_drew ?_))); (case side4 => exact bc.out); (case side5 => repeat (first | exact (Kd.C_below bd.out HB.out) | (with_reducible first | refine Kd.C_alloc ?_ _ | refine Kd.C_drewN ?_ _ | refine Kd.C_drew ?_))); (case side6 => exact bf.out); (case side7 => repeat (first | exact (Kd.C_below bi.out HB.out) | (with_reducible first | refine Kd.C_alloc ?_ _ | refine Kd.C_drewN ?_ _ | refine Kd.C_drew ?_))); (case side8 => exact bj.out); (case side9 => repeat (first | exact (Kd.C_below bk.out HB.out) | (with_reducible first | refine Kd.C_alloc ?_ _ | refine Kd.C_drewN ?_ _ | refine Kd.C_drew ?_))); (case side10 => exact bl.out); (case side11 => repeat (first | exact (Kd.C_below bm.out HB.out) | (with_reducible first | refine Kd.C_alloc ?_ _ | refine Kd.C_drewN ?_ _ | refine Kd.C_drew ?_))); (case side12 => exact bn.out); rintro e w13 ⟨rfl, hb⟩; replace aa := kU aa hb; replace ah := kU ah hb; replace HB := kH HB hb; (try clear hb); (try clear hb2); (try clear hk); (try clear hi)));go_ret;exact ⟨er, kh HB⟩
 rw [if_neg c5] at H;have br := beq_eq_false_iff_ne.mpr c5;have bt := bne_iff_ne.mpr c5
 by_cases c16 : a1 = a3
 rotate_left
 ·rw [if_neg c16] at H
  have bo := beq_eq_false_iff_ne.mpr c16;have bp := bne_iff_ne.mpr c16;obtain rfl := Option.some.inj H;go_enter Try.func18, Try.ntmps18;go_wp2_with (first | ((with_reducible refine qea (N := 4) rfl ?_); refine box_event ?hg (N := 4) ?hd (cs := #[.slice al ae.length an, .slice ao af.length ap, .slice aq ag.length ar]) (t := 26) ?hr ?_; (case hd => rfl); (case hg => rfl); (case hr => first | (go_simp; done) | (go_simp; rfl)); intro aA hg w23 hbox hb; have aa := am hbox; have aC := kG HB hg; have aD := kG HB hg; replace HB := kH HB hb; clear hb hbox hg) | ((with_reducible refine qea (N := 6) rfl ?_); refine box_event ?hg (N := 6) ?hd (cs := #[.slice au ai.length av, .slice aw aj.length ax, .slice ay ak.length az]) (t := 26) ?hr ?_; (case hd => rfl); (case hg => rfl); (case hr => first | (go_simp; done) | (go_simp; rfl)); intro aE hg w24 hbox hb; have ah := am hbox; have aG := kG HB hg; have aH := kG HB hg; replace HB := kH HB hb; have ab := kP aa hg; have ad := kQ aa hg; replace aa := kU aa hb; clear hb hbox hg));go_ret;exact ⟨er, kh HB⟩
 rw [if_pos c16] at H;have bo := beq_iff_eq.mpr c16;have bp := bne_eq_false_iff_eq.mpr c16;clear c16;replace H := Option.bind_eq_some_iff.mp H;obtain ⟨bh, bq, H⟩ := H;(try dsimp only at H);have A17 := Aside0.mk bq;clear bq;obtain rfl := Option.some.inj H;go_enter Try.func18, Try.ntmps18;go_wp2_with (first | ((with_reducible refine qea (N := 4) rfl ?_); refine box_event ?hg (N := 4) ?hd (cs := #[.slice al ae.length an, .slice ao af.length ap, .slice aq ag.length ar]) (t := 26) ?hr ?_; (case hd => rfl); (case hg => rfl); (case hr => first | (go_simp; done) | (go_simp; rfl)); intro aA hg w18 hbox hb; have aa := am hbox; have aC := kG HB hg; have aD := kG HB hg; replace HB := kH HB hb; clear hb hbox hg) | ((with_reducible refine qea (N := 6) rfl ?_); refine box_event ?hg (N := 6) ?hd (cs := #[.slice au ai.length av, .slice aw aj.length ax, .slice ay ak.length az]) (t := 26) ?hr ?_; (case hd => rfl); (case hg => rfl); (case hr => first | (go_simp; done) | (go_simp; rfl)); intro aE hg w19 hbox hb; have ah := am hbox; have aG := kG HB hg; have aH := kG HB hg; replace HB := kH HB hb; have ab := kP aa hg; have ad := kQ aa hg; replace aa := kU aa hb; clear hb hbox hg; have bz := ab.out; have bA := ad.out; have Z21 := kz3 aa) | (go_at_call 29; (refine (qba.calls k _ _ ae _ _ af _ _ ag _ _ ([] : List (S64)) _ _ ([] : List (S61)) _ _ ([] : List (S66)) bh _ ?side1 ?side2 ?side3 ?side4 ?side5 ?side6 ?side7 ?side8 ?side9 ?side10 ?side11 ?side12 A17.out).mono ?_); (case side1 => repeat (first | exact (Kd.C_below aZ.out HB.out) | (with_reducible first | refine Kd.C_alloc ?_ _ | refine Kd.C_drewN ?_ _ | refine Kd.C_drew ?_))); (case side2 => exact ba.out); (case side3 => repeat (first | exact (Kd.C_below bb.out HB.out) | (with_reducible first | refine Kd.C_alloc ?_ _ | refine Kd.C_drewN ?_ _ | refine Kd.C_drew ?_))); (case side4 => exact bc.out); (case side5 => repeat (first | exact (Kd.C_below bd.out HB.out) | (with_reducible first | refine Kd.C_alloc ?_ _ | refine Kd.C_drewN ?_ _ | refine Kd.C_drew ?_))); (case side6 => exact bf.out); (case side7 => exact Kd.C_nil _ _); (case side8 => exact Nat.le_refl _); (case side9 => exact Kd.C_nil _ _); (case side10 => exact Nat.le_refl _); (case side11 => exact Kd.C_nil _ _); (case side12 => exact Nat.le_refl _); rintro e w22 ⟨rfl, hb⟩; replace aa := kU aa hb; replace ah := kU ah hb; replace HB := kH HB hb; (try clear hb); (try clear hb2); (try clear hk); (try clear hi)));go_ret;exact ⟨er, kh HB⟩
end Go.Proofs.Ytmlbliggbkfjnaa.J
namespace Go.Proofs.Ytmlbliggbkfjnaa.J
open Go.RowKit Go.Proofs.YtmlbliggbkfjnaaW.PrintWords Go.Proofs.YtmlbliggbkfjnaaW.PrintLast Go.Proofs.YtmlbliggbkfjnaaW.PrintMore
attribute [local go_sem] max2_int min2_int max_two min_two max_three min_three max_four min_four
attribute [local go_sem high] eqA61
def qwa.f (ad : Int) (ab : Int) (aa : Int) (ae : Int) (l1 : List Int) : Option (Int × Int × Int × Int) := (qva.f ad ab aa ae).bind fun af => (if af = true then (if 0 ≤ ab then (if ab < (l1.length : Int) then ((qsa.f ad (rd l1 ab) aa ae).bind fun ag => (if ag = true then (if 0 ≤ aa then (if aa < (l1.length : Int) then (some (ad, rd l1 ab, rd l1 aa, ae)) else (none)) else (none)) else (some (ad, rd l1 ab, aa, ae)))) else (none)) else (none)) else ((qsa.f ad ab aa ae).bind fun ah => (if ah = true then (if 0 ≤ aa then (if aa < (l1.length : Int) then (some (ad, ab, rd l1 aa, ae)) else (none)) else (none)) else (some (ad, ab, aa, ae)))))
theorem qwa.calls (af : Int) (ad : Int) (ab : Int) (ag : Int) (A1 : Option Addr) (c1 : Nat) (l1 : List Int) (r1 : Int) (r2 : Int) (r3 : Int) (r4 : Int) (w : World) (hr1 : Kd.C (Kd.int .i64) w A1 l1.length l1) (hc1 : l1.length ≤ c1) (h : qwa.f af ad ab ag l1 = some (r1, r2, r3, r4)) :
  Calls Try.prog 48 #[.agg #[.int .i64 af, .int .i64 ad, .int .i64 ab, .int .u64 ag], .slice A1 l1.length c1] w fun e w' => e = .returned (.agg #[.int .i64 r1, .int .i64 r2, .int .i64 r3, .int .u64 r4]) ∧ Below w.heap.size w w' := by
 have hu61 := Try.underlying61;have HR1 := Aside0.mk hr1;have HC1 := Aside0.mk hc1;clear hr1 hc1;have HB := Aside0.mk (Below.refl w.heap.size w);have H : ((qva.f af ad ab ag).bind fun ay => (if ay = true then (if 0 ≤ ad then (if ad < (l1.length : Int) then ((qsa.f af (rd l1 ad) ab ag).bind fun az => (if az = true then (if 0 ≤ ab then (if ab < (l1.length : Int) then (some (af, rd l1 ad, rd l1 ab, ag)) else (none)) else (none)) else (some (af, rd l1 ad, ab, ag)))) else (none)) else (none)) else ((qsa.f af ad ab ag).bind fun aA => (if aA = true then (if 0 ≤ ab then (if ab < (l1.length : Int) then (some (af, ad, rd l1 ab, ag)) else (none)) else (none)) else (some (af, ad, ab, ag)))))) = some (r1, r2, r3, r4) := h;clear h;replace H := Option.bind_eq_some_iff.mp H;obtain ⟨ay, A30, H⟩ := H;(try dsimp only at H);have A3 := Aside0.mk A30;clear A30
 by_cases c4 : ay = true
 rotate_left
 ·replace c4 := Bool.eq_false_iff.mpr c4
  subst c4;replace H := ifF H;replace H := Option.bind_eq_some_iff.mp H;obtain ⟨aA, aI, H⟩ := H;(try dsimp only at H);have A29 := Aside0.mk aI;clear aI
  by_cases c30 : aA = true
  rotate_left
  ·replace c30 := Bool.eq_false_iff.mpr c30
   subst c30;replace H := ifF H;simp only [Option.some.injEq, Prod.mk.injEq] at H;obtain ⟨rfl, rfl, rfl, rfl⟩ := H;go_enter Try.func48, Try.ntmps48;go_wp2_with (first | ((with_reducible refine qea (N := 2) rfl ?_); refine box_event ?hg (N := 2) ?hd (cs := #[.int .i64 af, .int .i64 ad, .int .i64 ab, .int .u64 ag]) (t := 61) ?hr ?_; (case hd => rfl); (case hg => rfl); (case hr => first | (go_simp; done) | (go_simp; rfl)); intro aq hg w42 hbox hb; have aa := am hbox; have ar := kG HB hg; have au := kG HB hg; replace HB := kH HB hb; clear hb hbox hg) | ((with_reducible refine qea (N := 4) rfl ?_); refine box_event ?hg (N := 4) ?hd (cs := #[.int .i64 0, .int .i64 0, .int .i64 0, .int .u64 0]) (t := 61) ?hr ?_; (case hd => rfl); (case hg => rfl); (case hr => first | (go_simp; done) | (go_simp; rfl)); intro ak hg w43 hbox hb; have ae := am hbox; have av := kG HB hg; have aw := kG HB hg; replace HB := kH HB hb; have ah := kP aa hg; have ai := kQ aa hg; replace aa := kU aa hb; clear hb hbox hg; have aN := ah.out; have aQ := ai.out; have Z45 := kz4 aa) | ((with_reducible refine gate_callee (f := 35) rfl ?_); refine goesL_ (some 6) rfl rfl Try.func35 (by kernel_rfl) rfl #[.agg #[.int .i64 af, .int .i64 ad, .int .i64 ab, .int .u64 ag]] rfl (by (try simp only [qM1, qM2, qM3]); first | done | rfl) ?_; (with_reducible refine (qva.calls af ad ab ag false _ A3.out).mono ?_); rintro e w46 ⟨rfl, hb⟩; refine ⟨_, rfl, ?_⟩; replace aa := kU aa hb; replace ae := kU ae hb; replace HB := kH HB hb; (try clear hb); (try clear hb2); (try clear hk); (try clear hi); have Z47 := kz4 aa) | ((with_reducible refine gate_callee (f := 36) rfl ?_); refine goesL_ (some 14) rfl rfl Try.func36 (by kernel_rfl) rfl #[.agg #[.int .i64 af, .int .i64 ad, .int .i64 ab, .int .u64 ag]] rfl (by (try simp only [qM1, qM2, qM3]); first | done | rfl) ?_; (with_reducible refine (qsa.calls af ad ab ag false _ A29.out).mono ?_); rintro e w48 ⟨rfl, hb⟩; refine ⟨_, rfl, ?_⟩; replace aa := kU aa hb; replace ae := kU ae hb; replace HB := kH HB hb; (try clear hb); (try clear hb2); (try clear hk); (try clear hi); have Z49 := kz4 aa; have Z50 := kz4 ae));refine bodyPost_ret (results_cell_row rfl _ _ ak 61 #[.int .i64 af, .int .i64 ad, .int .i64 ab, .int .u64 ag] (0, 0) _ rfl (kg ae) Try.underlying61 rfl (by kernel_rfl)) rfl ?_;exact ⟨er, kh HB⟩
  subst c30;replace H := ifT H
  by_cases c31 : 0 ≤ ab
  rotate_left
  ·rw [if_neg c31] at H
   exact absurd H (by simp)
  rw [if_pos c31] at H;have aT := decide_eq_true c31;clear c31
  by_cases c32 : ab < (l1.length : Int)
  rotate_left
  ·rw [if_neg c32] at H
   exact absurd H (by simp)
  rw [if_pos c32] at H;have aU := decide_eq_true c32;clear c32;simp only [Option.some.injEq, Prod.mk.injEq] at H;obtain ⟨rfl, rfl, rfl, rfl⟩ := H;go_enter Try.func48, Try.ntmps48;go_wp2_with (first | ((with_reducible refine qea (N := 2) rfl ?_); refine box_event ?hg (N := 2) ?hd (cs := #[.int .i64 af, .int .i64 ad, .int .i64 ab, .int .u64 ag]) (t := 61) ?hr ?_; (case hd => rfl); (case hg => rfl); (case hr => first | (go_simp; done) | (go_simp; rfl)); intro aq hg w33 hbox hb; have aa := am hbox; have ar := kG HB hg; have au := kG HB hg; replace HB := kH HB hb; clear hb hbox hg) | ((with_reducible refine qea (N := 4) rfl ?_); refine box_event ?hg (N := 4) ?hd (cs := #[.int .i64 0, .int .i64 0, .int .i64 0, .int .u64 0]) (t := 61) ?hr ?_; (case hd => rfl); (case hg => rfl); (case hr => first | (go_simp; done) | (go_simp; rfl)); intro ak hg w34 hbox hb; have ae := am hbox; have av := kG HB hg; have aw := kG HB hg; replace HB := kH HB hb; have ah := kP aa hg; have ai := kQ aa hg; replace aa := kU aa hb; clear hb hbox hg; have aV := ah.out; have aW := ai.out; have Z36 := kz4 aa) | ((with_reducible refine gate_callee (f := 35) rfl ?_); refine goesL_ (some 6) rfl rfl Try.func35 (by kernel_rfl) rfl #[.agg #[.int .i64 af, .int .i64 ad, .int .i64 ab, .int .u64 ag]] rfl (by (try simp only [qM1, qM2, qM3]); first | done | rfl) ?_; (with_reducible refine (qva.calls af ad ab ag false _ A3.out).mono ?_); rintro e w37 ⟨rfl, hb⟩; refine ⟨_, rfl, ?_⟩; replace aa := kU aa hb; replace ae := kU ae hb; replace HB := kH HB hb; (try clear hb); (try clear hb2); (try clear hk); (try clear hi); have Z38 := kz4 aa) | ((with_reducible refine gate_callee (f := 36) rfl ?_); refine goesL_ (some 14) rfl rfl Try.func36 (by kernel_rfl) rfl #[.agg #[.int .i64 af, .int .i64 ad, .int .i64 ab, .int .u64 ag]] rfl (by (try simp only [qM1, qM2, qM3]); first | done | rfl) ?_; (with_reducible refine (qsa.calls af ad ab ag true _ A29.out).mono ?_); rintro e w39 ⟨rfl, hb⟩; refine ⟨_, rfl, ?_⟩; replace aa := kU aa hb; replace ae := kU ae hb; replace HB := kH HB hb; (try clear hb); (try clear hb2); (try clear hk); (try clear hi); have Z40 := kz4 aa; have aC : 0 ≤ (ab : Int) := od; have aD : ab < (l1.length : Int) := od; obtain ⟨aX, aK, al⟩ := Kd.at_int HR1.out ab aC aD; cases aK; replace al := (HB.out.cell (World.block_lt_of_cell? w _ al)).trans al; replace aC := eq_true aC; replace aD := eq_true aD; have Z41 := kz4 ae));refine bodyPost_ret (results_cell_row rfl _ _ ak 61 #[.int .i64 af, .int .i64 ad, .int .i64 (rd l1 ab), .int .u64 ag] (0, 0) _ rfl (kg ae) Try.underlying61 rfl (by kernel_rfl)) rfl ?_;exact ⟨er, kh HB⟩
 subst c4;replace H := ifT H
 by_cases c5 : 0 ≤ ad
 rotate_left
 ·rw [if_neg c5] at H
  exact absurd H (by simp)
 rw [if_pos c5] at H;have bd := decide_eq_true c5;clear c5
 by_cases c6 : ad < (l1.length : Int)
 rotate_left
 ·rw [if_neg c6] at H
  exact absurd H (by simp)
 rw [if_pos c6] at H;have bf := decide_eq_true c6;clear c6;replace H := Option.bind_eq_some_iff.mp H;obtain ⟨az, A70, H⟩ := H;(try dsimp only at H);have A7 := Aside0.mk A70;clear A70
 by_cases c8 : az = true
 rotate_left
 ·replace c8 := Bool.eq_false_iff.mpr c8
  subst c8;replace H := ifF H;simp only [Option.some.injEq, Prod.mk.injEq] at H;obtain ⟨rfl, rfl, rfl, rfl⟩ := H;go_enter Try.func48, Try.ntmps48;go_wp2_with (first | ((with_reducible refine qea (N := 2) rfl ?_); refine box_event ?hg (N := 2) ?hd (cs := #[.int .i64 af, .int .i64 ad, .int .i64 ab, .int .u64 ag]) (t := 61) ?hr ?_; (case hd => rfl); (case hg => rfl); (case hr => first | (go_simp; done) | (go_simp; rfl)); intro aq hg w20 hbox hb; have aa := am hbox; have ar := kG HB hg; have au := kG HB hg; replace HB := kH HB hb; clear hb hbox hg) | ((with_reducible refine qea (N := 4) rfl ?_); refine box_event ?hg (N := 4) ?hd (cs := #[.int .i64 0, .int .i64 0, .int .i64 0, .int .u64 0]) (t := 61) ?hr ?_; (case hd => rfl); (case hg => rfl); (case hr => first | (go_simp; done) | (go_simp; rfl)); intro ak hg w21 hbox hb; have ae := am hbox; have av := kG HB hg; have aw := kG HB hg; replace HB := kH HB hb; have ah := kP aa hg; have ai := kQ aa hg; replace aa := kU aa hb; clear hb hbox hg; have aY := ah.out; have aZ := ai.out; have Z23 := kz4 aa) | ((with_reducible refine gate_callee (f := 35) rfl ?_); refine goesL_ (some 6) rfl rfl Try.func35 (by kernel_rfl) rfl #[.agg #[.int .i64 af, .int .i64 ad, .int .i64 ab, .int .u64 ag]] rfl (by (try simp only [qM1, qM2, qM3]); first | done | rfl) ?_; (with_reducible refine (qva.calls af ad ab ag true _ A3.out).mono ?_); rintro e w24 ⟨rfl, hb⟩; refine ⟨_, rfl, ?_⟩; replace aa := kU aa hb; replace ae := kU ae hb; replace HB := kH HB hb; (try clear hb); (try clear hb2); (try clear hk); (try clear hi); have Z25 := kz4 aa; have ao : 0 ≤ (ad : Int) := od; have ap : ad < (l1.length : Int) := od; obtain ⟨ax, aE, aj⟩ := Kd.at_int HR1.out ad ao ap; cases aE; replace aj := (HB.out.cell (World.block_lt_of_cell? w _ aj)).trans aj; replace ao := eq_true ao; replace ap := eq_true ap) | ((with_reducible refine gate_callee (f := 36) rfl ?_); refine goesL_ (some 14) rfl rfl Try.func36 (by kernel_rfl) rfl #[.agg #[.int .i64 af, .int .i64 (rd l1 ad), .int .i64 ab, .int .u64 ag]] rfl (by (try simp only [qM1, qM2, qM3]); first | done | rfl) ?_; (with_reducible refine (qsa.calls af (rd l1 ad) ab ag false _ A7.out).mono ?_); rintro e w26 ⟨rfl, hb⟩; refine ⟨_, rfl, ?_⟩; replace aa := kO (o' := .cells #[.int .i64 af, .int .i64 (rd l1 ad), .int .i64 ab, .int .u64 ag] 61 (0, 0)) aa hb; replace ae := kU ae hb; replace HB := kH HB hb; (try clear hb); (try clear hb2); (try clear hk); (try clear hi); have Z27 := kz4 aa; have Z28 := kz4 ae));refine bodyPost_ret (results_cell_row rfl _ _ ak 61 #[.int .i64 af, .int .i64 (rd l1 ad), .int .i64 ab, .int .u64 ag] (0, 0) _ rfl (kg ae) Try.underlying61 rfl (by kernel_rfl)) rfl ?_;exact ⟨er, kh HB⟩
 subst c8;replace H := ifT H
 by_cases c9 : 0 ≤ ab
 rotate_left
 ·rw [if_neg c9] at H
  exact absurd H (by simp)
 rw [if_pos c9] at H;have bg := decide_eq_true c9;clear c9
 by_cases c10 : ab < (l1.length : Int)
 rotate_left
 ·rw [if_neg c10] at H
  exact absurd H (by simp)
 rw [if_pos c10] at H;have ba := decide_eq_true c10;clear c10;simp only [Option.some.injEq, Prod.mk.injEq] at H;obtain ⟨rfl, rfl, rfl, rfl⟩ := H;go_enter Try.func48, Try.ntmps48;go_wp2_with (first | ((with_reducible refine qea (N := 2) rfl ?_); refine box_event ?hg (N := 2) ?hd (cs := #[.int .i64 af, .int .i64 ad, .int .i64 ab, .int .u64 ag]) (t := 61) ?hr ?_; (case hd => rfl); (case hg => rfl); (case hr => first | (go_simp; done) | (go_simp; rfl)); intro aq hg w11 hbox hb; have aa := am hbox; have ar := kG HB hg; have au := kG HB hg; replace HB := kH HB hb; clear hb hbox hg) | ((with_reducible refine qea (N := 4) rfl ?_); refine box_event ?hg (N := 4) ?hd (cs := #[.int .i64 0, .int .i64 0, .int .i64 0, .int .u64 0]) (t := 61) ?hr ?_; (case hd => rfl); (case hg => rfl); (case hr => first | (go_simp; done) | (go_simp; rfl)); intro ak hg w12 hbox hb; have ae := am hbox; have av := kG HB hg; have aw := kG HB hg; replace HB := kH HB hb; have ah := kP aa hg; have ai := kQ aa hg; replace aa := kU aa hb; clear hb hbox hg; have bb := ah.out; have bc := ai.out; have Z14 := kz4 aa) | ((with_reducible refine gate_callee (f := 35) rfl ?_); refine goesL_ (some 6) rfl rfl Try.func35 (by kernel_rfl) rfl #[.agg #[.int .i64 af, .int .i64 ad, .int .i64 ab, .int .u64 ag]] rfl (by (try simp only [qM1, qM2, qM3]); first | done | rfl) ?_; (with_reducible refine (qva.calls af ad ab ag true _ A3.out).mono ?_); rintro e w15 ⟨rfl, hb⟩; refine ⟨_, rfl, ?_⟩; replace aa := kU aa hb; replace ae := kU ae hb; replace HB := kH HB hb; (try clear hb); (try clear hb2); (try clear hk); (try clear hi); have Z16 := kz4 aa; have ao : 0 ≤ (ad : Int) := od; have ap : ad < (l1.length : Int) := od; obtain ⟨ax, aE, aj⟩ := Kd.at_int HR1.out ad ao ap; cases aE; replace aj := (HB.out.cell (World.block_lt_of_cell? w _ aj)).trans aj; replace ao := eq_true ao; replace ap := eq_true ap) | ((with_reducible refine gate_callee (f := 36) rfl ?_); refine goesL_ (some 14) rfl rfl Try.func36 (by kernel_rfl) rfl #[.agg #[.int .i64 af, .int .i64 (rd l1 ad), .int .i64 ab, .int .u64 ag]] rfl (by (try simp only [qM1, qM2, qM3]); first | done | rfl) ?_; (with_reducible refine (qsa.calls af (rd l1 ad) ab ag true _ A7.out).mono ?_); rintro e w17 ⟨rfl, hb⟩; refine ⟨_, rfl, ?_⟩; replace aa := kO (o' := .cells #[.int .i64 af, .int .i64 (rd l1 ad), .int .i64 ab, .int .u64 ag] 61 (0, 0)) aa hb; replace ae := kU ae hb; replace HB := kH HB hb; (try clear hb); (try clear hb2); (try clear hk); (try clear hi); have Z18 := kz4 aa; have aG : 0 ≤ (ab : Int) := od; have aH : ab < (l1.length : Int) := od; obtain ⟨aJ, aM, an⟩ := Kd.at_int HR1.out ab aG aH; obtain rfl : ax = aJ := (by injection aM); replace an := (HB.out.cell (World.block_lt_of_cell? w _ an)).trans an; replace aG := eq_true aG; replace aH := eq_true aH; have Z19 := kz4 ae));refine bodyPost_ret (results_cell_row rfl _ _ ak 61 #[.int .i64 af, .int .i64 (rd l1 ad), .int .i64 (rd l1 ab), .int .u64 ag] (0, 0) _ rfl (kg ae) Try.underlying61 rfl (by kernel_rfl)) rfl ?_;exact ⟨er, kh HB⟩
def qxa.f (aa : Int) (ab : Int) (ad : Int) (ae : Int) (af : Int) (ag : Int) (ah : Int) (ai : Int) : Option (Bool) := if (aa == af && (ab == ag && (ad == ah && (ae == ai)))) = true then (some true) else (if (aa == af && (ad == ag && (ab == ah && (ae == ai)))) = true then (if aa = 3 then (some true) else (some (aa == 5))) else (some false))
theorem qxa.calls (ab : Int) (af : Int) (ag : Int) (ah : Int) (ai : Int) (aj : Int) (ak : Int) (al : Int) (r : Bool) (w : World) (h : qxa.f ab af ag ah ai aj ak al = some r) :
  Calls Try.prog 49 #[.agg #[.int .i64 ab, .int .i64 af, .int .i64 ag, .int .u64 ah], .agg #[.int .i64 ai, .int .i64 aj, .int .i64 ak, .int .u64 al]] w fun e w' => e = .returned (.bool r) ∧ Below w.heap.size w w' := by
 have hu61 := Try.underlying61;have HB := Aside0.mk (Below.refl w.heap.size w);have H : (if (ab == ai && (af == aj && (ag == ak && (ah == al)))) = true then (some true) else (if (ab == ai && (ag == aj && (af == ak && (ah == al)))) = true then (if ab = 3 then (some true) else (some (ab == 5))) else (some false))) = some r := h;clear h
 by_cases c3 : (ab == ai && (af == aj && (ag == ak && (ah == al)))) = true
 ·rw [if_pos c3] at H
  have ay : (ab == ai && (af == aj && (ag == ak && (ah == al)))) = true := c3;(try (have az : decide (ab = ai && (af == aj && (ag == ak && (ah == al)))) = true := by simpa using c3));(try (have aA : (ab == ai && (af == aj && (ag == ak && (ah == al)))) = true := by simpa using c3));clear c3;obtain rfl := Option.some.inj H;go_enter Try.func49, Try.ntmps49;go_wp2_with (first | ((with_reducible refine qea (N := 2) rfl ?_); refine box_event ?hg (N := 2) ?hd (cs := #[.int .i64 ab, .int .i64 af, .int .i64 ag, .int .u64 ah]) (t := 61) ?hr ?_; (case hd => rfl); (case hg => rfl); (case hr => first | (go_simp; done) | (go_simp; rfl)); intro ao hg w4 hbox hb; have aa := am hbox; have ap := kG HB hg; have aq := kG HB hg; replace HB := kH HB hb; clear hb hbox hg) | ((with_reducible refine qea (N := 3) rfl ?_); refine box_event ?hg (N := 3) ?hd (cs := #[.int .i64 ai, .int .i64 aj, .int .i64 ak, .int .u64 al]) (t := 61) ?hr ?_; (case hd => rfl); (case hg => rfl); (case hr => first | (go_simp; done) | (go_simp; rfl)); intro ar hg w5 hbox hb; have an := am hbox; have au := kG HB hg; have av := kG HB hg; replace HB := kH HB hb; have ad := kP aa hg; have ae := kQ aa hg; replace aa := kU aa hb; clear hb hbox hg; have aN := ad.out; have aQ := ae.out; have Z7 := kz4 aa; have Z8 := kz4 an));go_ret;exact ⟨er, kh HB⟩
 rw [if_neg c3] at H
 have ay : (ab == ai && (af == aj && (ag == ak && (ah == al)))) = false := by simpa using c3
 (try (have az : decide (ab = ai && (af == aj && (ag == ak && (ah == al)))) = false := by simpa using c3));(try (have aA : (ab == ai && (af == aj && (ag == ak && (ah == al)))) = false := by simpa using c3));(try (have aT : ¬ (ab = ai && (af == aj && (ag == ak && (ah == al)))) := by simpa using c3));clear c3
 by_cases c9 : (ab == ai && (ag == aj && (af == ak && (ah == al)))) = true
 rotate_left
 ·rw [if_neg c9] at H
  have aC : (ab == ai && (ag == aj && (af == ak && (ah == al)))) = false := by simpa using c9
  (try (have aD : decide (ab = ai && (ag == aj && (af == ak && (ah == al)))) = false := by simpa using c9));(try (have aE : (ab == ai && (ag == aj && (af == ak && (ah == al)))) = false := by simpa using c9));(try (have aU : ¬ (ab = ai && (ag == aj && (af == ak && (ah == al)))) := by simpa using c9));clear c9;obtain rfl := Option.some.inj H;go_enter Try.func49, Try.ntmps49;go_wp2_with (first | ((with_reducible refine qea (N := 2) rfl ?_); refine box_event ?hg (N := 2) ?hd (cs := #[.int .i64 ab, .int .i64 af, .int .i64 ag, .int .u64 ah]) (t := 61) ?hr ?_; (case hd => rfl); (case hg => rfl); (case hr => first | (go_simp; done) | (go_simp; rfl)); intro ao hg w21 hbox hb; have aa := am hbox; have ap := kG HB hg; have aq := kG HB hg; replace HB := kH HB hb; clear hb hbox hg) | ((with_reducible refine qea (N := 3) rfl ?_); refine box_event ?hg (N := 3) ?hd (cs := #[.int .i64 ai, .int .i64 aj, .int .i64 ak, .int .u64 al]) (t := 61) ?hr ?_; (case hd => rfl); (case hg => rfl); (case hr => first | (go_simp; done) | (go_simp; rfl)); intro ar hg w22 hbox hb; have an := am hbox; have au := kG HB hg; have av := kG HB hg; replace HB := kH HB hb; have ad := kP aa hg; have ae := kQ aa hg; replace aa := kU aa hb; clear hb hbox hg; have aG := ad.out; have aH := ae.out; have Z24 := kz4 aa; have Z25 := kz4 an));go_ret;exact ⟨er, kh HB⟩
 rw [if_pos c9] at H;have aC : (ab == ai && (ag == aj && (af == ak && (ah == al)))) = true := c9;(try (have aD : decide (ab = ai && (ag == aj && (af == ak && (ah == al)))) = true := by simpa using c9));(try (have aE : (ab == ai && (ag == aj && (af == ak && (ah == al)))) = true := by simpa using c9));clear c9
 by_cases c10 : ab = 3
 rotate_left
 ·rw [if_neg c10] at H
  have aw := beq_eq_false_iff_ne.mpr c10;have ax := bne_iff_ne.mpr c10;obtain rfl := Option.some.inj H;go_enter Try.func49, Try.ntmps49;go_wp2_with (first | ((with_reducible refine qea (N := 2) rfl ?_); refine box_event ?hg (N := 2) ?hd (cs := #[.int .i64 ab, .int .i64 af, .int .i64 ag, .int .u64 ah]) (t := 61) ?hr ?_; (case hd => rfl); (case hg => rfl); (case hr => first | (go_simp; done) | (go_simp; rfl)); intro ao hg w16 hbox hb; have aa := am hbox; have ap := kG HB hg; have aq := kG HB hg; replace HB := kH HB hb; clear hb hbox hg) | ((with_reducible refine qea (N := 3) rfl ?_); refine box_event ?hg (N := 3) ?hd (cs := #[.int .i64 ai, .int .i64 aj, .int .i64 ak, .int .u64 al]) (t := 61) ?hr ?_; (case hd => rfl); (case hg => rfl); (case hr => first | (go_simp; done) | (go_simp; rfl)); intro ar hg w17 hbox hb; have an := am hbox; have au := kG HB hg; have av := kG HB hg; replace HB := kH HB hb; have ad := kP aa hg; have ae := kQ aa hg; replace aa := kU aa hb; clear hb hbox hg; have aI := ad.out; have aJ := ae.out; have Z19 := kz4 aa; have Z20 := kz4 an));go_ret;exact ⟨er, kh HB⟩
 rw [if_pos c10] at H;have aw := beq_iff_eq.mpr c10;have ax := bne_eq_false_iff_eq.mpr c10;clear c10;obtain rfl := Option.some.inj H;go_enter Try.func49, Try.ntmps49;go_wp2_with (first | ((with_reducible refine qea (N := 2) rfl ?_); refine box_event ?hg (N := 2) ?hd (cs := #[.int .i64 ab, .int .i64 af, .int .i64 ag, .int .u64 ah]) (t := 61) ?hr ?_; (case hd => rfl); (case hg => rfl); (case hr => first | (go_simp; done) | (go_simp; rfl)); intro ao hg w11 hbox hb; have aa := am hbox; have ap := kG HB hg; have aq := kG HB hg; replace HB := kH HB hb; clear hb hbox hg) | ((with_reducible refine qea (N := 3) rfl ?_); refine box_event ?hg (N := 3) ?hd (cs := #[.int .i64 ai, .int .i64 aj, .int .i64 ak, .int .u64 al]) (t := 61) ?hr ?_; (case hd => rfl); (case hg => rfl); (case hr => first | (go_simp; done) | (go_simp; rfl)); intro ar hg w12 hbox hb; have an := am hbox; have au := kG HB hg; have av := kG HB hg; replace HB := kH HB hb; have ad := kP aa hg; have ae := kQ aa hg; replace aa := kU aa hb; clear hb hbox hg; have aK := ad.out; have aM := ae.out; have Z14 := kz4 aa; have Z15 := kz4 an));go_ret;exact ⟨er, kh HB⟩
end Go.Proofs.Ytmlbliggbkfjnaa.J
namespace Go.Proofs.Ytmlbliggbkfjnaa.J
open Go.RowKit Go.Proofs.YtmlbliggbkfjnaaW.PrintWords Go.Proofs.YtmlbliggbkfjnaaW.PrintLast Go.Proofs.YtmlbliggbkfjnaaW.PrintMore
attribute [local go_sem] max2_int min2_int max_two min_two max_three min_three max_four min_four
theorem qda.elder_lit {W w1 : World} {b : Nat} {ok : Nat → Prop} {X Y : Value} {xs : List Int} (hX : (Kd.int .i64).R 3 W b ok X xs) (hg : W.grownBy w1 none) (hnew : ∃ b, Y.ownBlock = some b ∧ W.heap.size ≤ b) : (Kd.int .i64).R 3 w1 b (fun k => some k ≠ Y.ownBlock) X xs :=
 Kd.R_mono (Kd.R_grown (Kd.R_bound hX) hg (fun _ _ => by simp)) (fun k hk he => by
  obtain ⟨b, hb, hle⟩ := hnew;rw [hb] at he
  injection he with he
  have := hk.2.2.1
  omega)
theorem qda.other_app {W w1 : World} {b : Nat} {X X' Y : Value} {ys : List Int} (hY : (Kd.int .i64).R 3 W b (fun k => some k ≠ X.ownBlock) Y ys) (hg : W.grownBy w1 X.ownBlock) (hat : X'.ownBlock = X.ownBlock ∨ ∃ b, X'.ownBlock = some b ∧ W.heap.size ≤ b) : (Kd.int .i64).R 3 w1 b (fun k => some k ≠ X'.ownBlock) Y ys :=
 Kd.R_mono (Kd.R_grown (Kd.R_bound hY) hg (fun k hk => hk.1)) (fun k hk he => by
  rcases hat with h | ⟨b, hb, hle⟩
  ·exact hk.1 (he.trans h)
  ·rw [hb] at he
   injection he with he
   have := hk.2.2.1
   omega)
theorem qda.elder2 {W w1 : World} {b : Nat} {ok : Nat → Prop} {v u u' : Value} {xs : List S66} (h : Kd.S k66t 66 W b ok v xs) (hb : Below W.heap.size W w1) (h1 : ∀ k, u.ownBlock = some k → W.heap.size ≤ k) (h2 : ∀ k, u'.ownBlock = some k → W.heap.size ≤ k) : Kd.S k66t 66 w1 b (fun k => (ok k ∧ some k ≠ u.ownBlock) ∧ some k ≠ u'.ownBlock) v xs :=
 Kd.S_mono (Kd.S_below (Kd.S_bound h) hb) (fun k hk => ⟨⟨hk.1, fun e => by have := h1 k e.symm; have := hk.2.2.1; omega⟩, fun e => by have := h2 k e.symm; have := hk.2.2.1; omega⟩)
theorem qda.clone_eq {l r : List Int} (h : qpa.f l = some r) : l = r ∧ l.length < 17592186044416 := by
 unfold qpa.f at h
 by_cases hl : l.length < 17592186044416
 ·rw [if_pos hl] at h
  exact ⟨Option.some.inj h, hl⟩
 rw [if_neg hl] at h;cases h
theorem cellb_ {W w1 : World} {p : Addr} {x : Value} (hb : Below W.heap.size W w1) (h : W.cell? p = some x) : w1.cell? p = some x := (hb.cell (World.block_lt_of_cell? _ _ h)).trans h
def qda.l0 : Nat → List (S66) → Int → Int → List (S64) → List (S66) → Option ((List (S64)) × (List (S61)) × (List (S66)))
 | 0, _, _, _, _, _ => none
 | k + 1, x15, x16, x17, ab, aa => if x17 < x16 then (if 0 ≤ x17 then (if x17 < (x15.length : Int) then ((qpa.f ((rd_T66 x15 x17).f0)).bind fun ad => ((qpa.f ((rd_T66 x15 x17).f1)).bind fun ae => (if aa.length < 2932031007402 then (qda.l0 k x15 x16 (wrap64 (x17 + 1)) ab (aa ++ [(⟨ad, ae⟩ : S66)])) else (none)))) else (none)) else (none)) else (some (ab, ([] : List (S61)), aa))
def qda.g (k : Nat) (aa : List (S64)) (ae : List (S61)) (ab : List (S66)) : Option ((List (S64)) × (List (S61)) × (List (S66))) := (some (([] : List (S64)) : List (S64))).bind fun ad => (if ad.length + aa.length < 8796093022208 then (qda.l0 k ab (ab.length : Int) 0 (ad ++ aa) ([] : List (S66))) else (none))
def qda.T5 : Bool × List (List Nat × List Nat) := (true, [([], []), ([0], [0]), ([], []), ([], []), ([3], [3]), ([2, 4], [2, 4]), ([], []), ([], []), ([7], [7]), ([6, 8, 5], [6, 8]), ([5, 9], [5, 9]), ([10], [10]), ([1, 11, 9], [1, 11]), ([0, 1, 2, 3, 4, 5, 6, 7, 8, 9, 10, 11, 12], []), ([13, 12, 12, 0, 1, 2, 3, 4, 5, 6, 7, 8, 9, 10, 11, 12], [12, 13])])
def qda.B5 : List Nat := [0, 1, 0, 0, 8, 28, 0, 0, 128, 508, 1020, 2044, 4095, 8191, 16383]
theorem qda.tab5 : rtab .any (opsOf Try.f44 5) = qda.T5 := by kernel_rfl
theorem qda.bits5 : waitsOk qda.T5.2 qda.B5 = true := by kernel_rfl
theorem qda.callsG (k : Nat) (bj : Option Addr) (bk : Nat) (au : List (S64)) (bl : Option Addr) (bm : Nat) (aN : List (S61)) (bp : Option Addr) (bn : Nat) (ad : List (S66)) (A1 : Option Addr) (c1 : Nat) (l1 : List (S61)) (r1 : List (S64)) (r2 : List (S61)) (r3 : List (S66)) (w : World) (br : Kd.C k64 w bj au.length au) (bt : au.length ≤ bk) (bu : Kd.C k61 w bl aN.length aN) (bv : aN.length ≤ bm) (bw : Kd.C k66 w bp ad.length ad) (bx : ad.length ≤ bn) (h : qda.g k au aN ad = some (r1, r2, r3)) :
  Calls Try.prog 44 #[.agg #[.slice bj au.length bk, .slice bl aN.length bm, .slice bp ad.length bn], .slice A1 l1.length c1] w fun e w' => ∃ v0_ v2_ : Value, e = .returned (.agg #[v0_, .slice A1 l1.length c1, v2_]) ∧ Kd.R k64 64 w' w.heap.size (fun _ => True) v0_ r1 ∧ Kd.S k66t 66 w' w.heap.size (fun _ => True) v2_ r3 ∧ Below w.heap.size w w' := by
 have hu26 := Try.underlying26;have hu66 := Try.underlying66;have bI := Aside0.mk br;have cl := Aside0.mk bt;clear br bt;have cm := Aside0.mk bu;have cn := Aside0.mk bv;clear bu bv;have bJ := Aside0.mk bw;have co := Aside0.mk bx;clear bw bx;have HB := Aside0.mk (Below.refl w.heap.size w);have H : ((some (([] : List (S64)) : List (S64))).bind fun aQ => (if aQ.length + au.length < 8796093022208 then (qda.l0 k ad (ad.length : Int) 0 (aQ ++ au) ([] : List (S66))) else (none))) = some (r1, r2, r3) := h;clear h;obtain ⟨aQ, aT⟩ : ∃ y_ : List (S64), y_ = (([] : List (S64))) := ⟨_, rfl⟩
 replace H : (if aQ.length + au.length < 8796093022208 then (qda.l0 k ad (ad.length : Int) 0 (aQ ++ au) ([] : List (S66))) else (none)) = some (r1, r2, r3) := by first | (rw [aT]; with_reducible exact H) | (have H2_ := (Option.bind_some _ _).symm.trans H; rw [aT]; with_reducible exact H2_) | (have H2_ := (Option.bind_some _ _).symm.trans H; with_reducible exact H2_) | with_reducible exact H | (rw [aT]; exact H) | exact H
 have bz := Aside0.mk aT;clear aT
 by_cases c2 : aQ.length + au.length < 8796093022208
 rotate_left
 ·rw [if_neg c2] at H
  exact absurd H (by simp)
 rw [if_pos c2] at H;have cg := Aside0.mk c2;clear c2;obtain ⟨av, aU⟩ : ∃ y_ : List (S64), y_ = (aQ ++ au) := ⟨_, rfl⟩
 replace H : (qda.l0 k ad (ad.length : Int) 0 av ([] : List (S66))) = some (r1, r2, r3) := by first | (rw [aU]; with_reducible exact H) | (have H2_ := (Option.bind_some _ _).symm.trans H; rw [aU]; with_reducible exact H2_) | (have H2_ := (Option.bind_some _ _).symm.trans H; with_reducible exact H2_) | with_reducible exact H | (rw [aU]; exact H) | exact H
 have bK := Aside0.mk aU;clear aU;have H' := Aside0.mk H;clear H;go_enter Try.func44, Try.ntmps44;go_wp2_with (first | ((with_reducible refine qea (N := 2) rfl ?_); refine box_event ?hg (N := 2) ?hd (cs := #[.slice bj au.length bk, .slice bl aN.length bm, .slice bp ad.length bn]) (t := 26) ?hr ?_; (case hd => rfl); (case hg => rfl); (case hr => first | (go_simp; done) | (go_simp; rfl)); intro bA hg w3 hbox hb; have ah := am hbox; have cp := kG HB hg; have cq := kG HB hg; replace HB := kH HB hb; clear hb hbox hg) | ((with_reducible refine qea (N := 4) rfl ?_); refine box_event ?hg (N := 4) ?hd (cs := #[.slice none 0 0, .slice none 0 0, .slice none 0 0]) (t := 26) ?hr ?_; (case hd => rfl); (case hg => rfl); (case hr => first | (go_simp; done) | (go_simp; rfl)); intro aw hg w4 hbox hb; have ai := am hbox; have cr := kG HB hg; have ct := kG HB hg; replace HB := kH HB hb; have aE := kP ah hg; have aG := kQ ah hg; replace ah := kU ah hb; clear hb hbox hg) | ((with_reducible refine qea (N := 8) rfl ?_); refine Kd.R_lit k64 _ 64 ?hg (N := 8) ?hd (xs := ([] : List (S64))) (inner := []) (ok := fun _ => True) (okp := fun _ => True) ?hr ?hp (fun _ hk => hk) trivial (Below.refl _ _) (Nat.le_refl _) (by simp) ?_; (case hd => rfl); (case hg => rfl); (case hr => first | (go_simp; done) | (go_simp; rfl)); (case hp => exact (Reps.none _ _)); intro ch w5 ho6 hb hg_ hnew_; clear hg_ hnew_; (first | rw [← bz.out] at ho6 | (simp only [Int.reduceToNat] at ho6; rw [← bz.out] at ho6)); have aY := kLR ho6 HB; replace ah := kU ah hb; replace ai := kU ai hb; replace HB := kH HB hb; clear hb ho6; have cR := aE.out; have cS := aG.out; have Z8 := kz3 ah) | ((with_reducible refine gate_builtin (b := .append) (xs := #[.tmp 8, .tmp 10]) rfl ?_); at_builtin; refine Kd.R_append_rows k64 (w0 := w) w.heap.size rfl (.tmp 8) (.tmp 10) 22 64 (.agg #[(.int .i64 0), (.bool false)]) 16 rfl Try.underlying22 info64 rfl (by decide) (by omega) ch aQ au _ _ _ (fun _ => True) (fun _ => False) rfl rfl ?aO ?aR (fun _ _ h => h) (fun _ h => h.elim) ?aF ?aB ?aS ?aL ?_; (case aR => repeat (first | exact (Kd.C_below bI.out HB.out) | (with_reducible first | refine Kd.C_alloc ?_ _ | refine Kd.C_drewN ?_ _ | refine Kd.C_drew ?_))); (case aB => exact (kh HB)); (case aF => exact (fun _ _ => trivial)); (case aO => exact (krR aY)); (case aS => exact (below_size (kh HB))); (case aL => have := cg.out; omega); intro cT w9 ho hb hg hat; rw [← bK.out] at ho; replace ah := kXR ah aY hg; replace ai := kXR ai aY hg; replace HB := Aside0.mk (hb); have aZ := Aside0.mk (ho); clear aY; clear ho hb hg hat; obtain ⟨aC, aD, ci⟩ := Kd.R_slice aZ.out; subst ci) | ((with_reducible refine qea (N := 5) rfl ?_); refine box_event ?hg (N := 5) ?hd (cs := #[.slice none 0 0, .slice none 0 0, .slice none 0 0]) (t := 26) ?hr ?_; (case hd => rfl); (case hg => rfl); (case hr => first | (go_simp; done) | (go_simp; rfl)); intro ar hg w11 hbox hb; replace aZ := kR aZ hb; have ae := am hbox; have cu := kG HB hg; have cv := kG HB hg; replace HB := kH HB hb; have ax := kP ah hg; have ay := kQ ah hg; replace ah := kU ah hb; have az := kP ai hg; have aA := kQ ai hg; replace ai := kU ai hb; clear hb hbox hg; have cw := ay.out; have cx := ax.out; have cy := aA.out; have cz := az.out; have Z14 := kz3 ae; have Z15 := kz3 ah));go_loopg [17] k (fun kq v17 w' => ∃ (ab : Int) (ak : List (S66)) (al : Value), v17 = .int .i64 ab ∧ Aside0 (qda.l0 kq ad (ad.length : Int) ab av ak = some (r1, r2, r3)) ∧ Aside0 (kq ≤ k) ∧ Aside0 (Kd.R k64 64 w' w.heap.size (fun _ => True) (.slice aC av.length aD) av) ∧ Aside0 (Kd.S k66t 66 w' w.heap.size (fun _ => True) al ak) ∧ Aside0 (w'.heap[bA]? = some (.cells #[(.slice bj au.length bk), (.slice bl aN.length bm), (.slice bp ad.length bn)] 26 (0, 0))) ∧ Aside0 (w'.heap[aw]? = some (.cells #[(.slice none 0 0), (.slice none 0 0), (.slice none 0 0)] 26 (0, 0))) ∧ Aside0 (w'.heap[ar]? = some (.cells #[(.slice aC av.length aD), (.slice A1 l1.length c1), al] 26 (0, 0))) ∧ Aside0 (Below w.heap.size w w'))
 case atStart => exact ⟨(0), (([] : List (S66))), (.slice none 0 0), et, H', ⟨Nat.le_refl _⟩, ⟨by (with_reducible repeat first | apply Kd.R_alloc | apply Kd.R_drewN | apply Kd.R_drew); exact Kd.R_mono (Kd.R_far (p := ⟨ar, 2, none⟩) (Kd.R_far (p := ⟨ar, 1, none⟩) (Kd.R_far (p := ⟨ar, 0, none⟩) (Kd.R_types aZ.out ae.out (by decide)) (fun _ hk => hk.2) (.slice aC av.length aD)) (fun _ hk => hk.2) (.slice A1 l1.length c1)) (fun _ hk => hk.2) (.slice none 0 0)) (fun _ hk => trivial)⟩, ⟨by first | exact Kd.S_nil _ _ _ _ _ | exact Kd.N_nil _ _ _ _ _ | exact Kd.V_nil _ _ _ _ _ | exact Kd.Q_nil _ _ _ _ _ | exact Kd.R_nil _ _ _ _ _⟩, ⟨kg ah⟩, ⟨kg ai⟩, ⟨kg ae⟩, ⟨kh HB⟩⟩
 case round =>
  clear H';(try clear Z14 Z15 Z8);obtain ⟨ab, ak, al, rfl, HA, HK1, ag, aa, ah, ai, ae, HB⟩ := hrel
  cases gk with
  | zero => exact absurd HA.out (by simp [qda.l0])
  | succ k1 =>
   have H := HA.out;clear HA;simp only [qda.l0] at H
   by_cases c16 : ab < (ad.length : Int)
   rotate_left
   ·rw [if_neg c16] at H
    have bL := decide_eq_false c16;clear c16;simp only [Option.some.injEq, Prod.mk.injEq] at H;obtain ⟨rfl, rfl, rfl⟩ := H;have cA := ay.out;have cB := ax.out;have cC := aA.out;have cD := az.out;have Z38 := kz3 ae;have cE := aG.out;have cF := aE.out;have Z40 := kz3 ai;obtain ⟨bC, bD, cj⟩ := Kd.S_slice aa.out;subst cj;go_wp2;refine bodyPost_ret (results_cell_row rfl _ _ aw 26 #[.slice aC av.length aD, .slice A1 l1.length c1, .slice bC ak.length bD] (0, 0) _ rfl (kg ai) Try.underlying26 rfl (by kernel_rfl)) rfl ?_;exact ⟨_, _, er, by (with_reducible repeat first | apply Kd.R_alloc | apply Kd.R_drewN | apply Kd.R_drew); exact Kd.R_mono (Kd.R_far (p := ⟨aw, 2, none⟩) (Kd.R_far (p := ⟨aw, 1, none⟩) (Kd.R_far (p := ⟨aw, 0, none⟩) (Kd.R_types ag.out ai.out (by decide)) (fun _ hk => hk.2) (.slice aC av.length aD)) (fun _ hk => hk.2) (.slice A1 l1.length c1)) (fun _ hk => hk.2) (.slice bC ak.length bD)) (fun _ hk => trivial), by (with_reducible repeat first | apply Kd.S_alloc | apply Kd.S_drewN | apply Kd.S_drew); exact Kd.S_mono (Kd.S_far (p := ⟨aw, 2, none⟩) (Kd.S_far (p := ⟨aw, 1, none⟩) (Kd.S_far (p := ⟨aw, 0, none⟩) (Kd.S_types aa.out ai.out (by decide)) (fun _ hk => hk.2) (.slice aC av.length aD)) (fun _ hk => hk.2) (.slice A1 l1.length c1)) (fun _ hk => hk.2) (.slice bC ak.length bD)) (fun _ hk => trivial), kh HB⟩
   rw [if_pos c16] at H;have bL := decide_eq_true c16;clear c16
   by_cases c17 : 0 ≤ ab
   rotate_left
   ·rw [if_neg c17] at H
    exact absurd H (by simp)
   rw [if_pos c17] at H;have cG := decide_eq_true c17;clear c17
   by_cases c18 : ab < (ad.length : Int)
   rotate_left
   ·rw [if_neg c18] at H
    exact absurd H (by simp)
   rw [if_pos c18] at H;have cH := decide_eq_true c18;clear c18;replace H := Option.bind_eq_some_iff.mp H;obtain ⟨aX, bM, H⟩ := H;(try dsimp only at H);have A19 := Aside0.mk bM;clear bM;replace H := Option.bind_eq_some_iff.mp H;obtain ⟨bd, bN, H⟩ := H;(try dsimp only at H);have A20 := Aside0.mk bN;clear bN
   by_cases c21 : ak.length < 2932031007402
   rotate_left
   ·rw [if_neg c21] at H
    exact absurd H (by simp)
   rw [if_pos c21] at H;have bO := Aside0.mk c21;clear c21;obtain ⟨bo, aV⟩ : ∃ y_ : List (S66), y_ = (ak ++ [(⟨aX, bd⟩ : S66)]) := ⟨_, rfl⟩
   replace H : (qda.l0 k1 ad (ad.length : Int) (wrap64 (ab + 1)) av bo) = some (r1, r2, r3) := by first | (rw [aV]; with_reducible exact H) | (have H2_ := (Option.bind_some _ _).symm.trans H; rw [aV]; with_reducible exact H2_) | (have H2_ := (Option.bind_some _ _).symm.trans H; with_reducible exact H2_) | with_reducible exact H | (rw [aV]; exact H) | exact H
   have bP := Aside0.mk aV;clear aV;have H' := Aside0.mk H;clear H;have bE : 0 ≤ (ab : Int) := od;have bF : ab < (ad.length : Int) := od;obtain ⟨bQ, an, ao, ap, aq, ck, aJ, aK, ba, hi384_0, bb, hi384_1⟩ := at_T66 bJ.out ab bE bF;cases ck;replace aJ := (HB.out.cell (World.block_lt_of_cell? w _ aJ)).trans aJ;replace aK := (HB.out.cell (World.block_lt_of_cell? w _ aK)).trans aK;have aM := Aside0.mk hi384_0;have bY := Aside0.mk ba;clear hi384_0 ba;have bq := Aside0.mk hi384_1;have bZ := Aside0.mk bb;clear hi384_1 bb; replace bE := eq_true bE; replace bF := eq_true bF;(try go_wp2_with (first | ((with_reducible refine qea (N := 7) rfl ?_); refine box_event ?hg (N := 7) ?hd (cs := #[.slice none 0 0, .slice none 0 0]) (t := 66) ?hr ?_; (case hd => rfl); (case hg => rfl); (case hr => first | (go_simp; done) | (go_simp; rfl)); intro af hg w22 hbox hb; replace ag := kR ag hb; replace aa := Aside0.mk (Kd.S_below (Kd.S_elderB (krS aa) af (Nat.le_of_eq hg.symm)) hb); have aj := am hbox; have cI := kG HB hg; have cJ := kG HB hg; replace HB := kH HB hb; have bf := kP ah hg; have bg := kQ ah hg; replace ah := kU ah hb; have bh := kP ai hg; have bi := kQ ai hg; replace ai := kU ai hb; have aH := kP ae hg; have aI := kQ ae hg; replace ae := kU ae hb; clear hb hbox hg; have cK := bg.out; have cL := bf.out; have cM := bi.out; have cN := bh.out; have cO := aI.out; have cP := aH.out; have Z26 := kz2 aj)));have n0_ : Aside0 (Kd.R k64 64 ((w22.setCell ⟨af, 0, none⟩ (.slice an ((rd_T66 ad ab).f0).length ao)).setCell ⟨af, 1, none⟩ (.slice ap ((rd_T66 ad ab).f1).length aq)) w.heap.size (fun _ => True) (.slice aC av.length aD) av) := ⟨by (with_reducible repeat first | apply Kd.R_alloc | apply Kd.R_drewN | apply Kd.R_drew); exact Kd.R_mono (Kd.R_far (p := ⟨af, 1, none⟩) (Kd.R_far (p := ⟨af, 0, none⟩) (Kd.R_types ag.out aj.out (by decide)) (fun _ hk => hk.2) (.slice an ((rd_T66 ad ab).f0).length ao)) (fun _ hk => hk.2) (.slice ap ((rd_T66 ad ab).f1).length aq)) (fun _ hk => trivial)⟩;have n1_ : Aside0 (Kd.S k66t 66 ((w22.setCell ⟨af, 0, none⟩ (.slice an ((rd_T66 ad ab).f0).length ao)).setCell ⟨af, 1, none⟩ (.slice ap ((rd_T66 ad ab).f1).length aq)) w.heap.size (fun k_ => k_ ≠ af) al ak) := ⟨by (with_reducible repeat first | apply Kd.S_alloc | apply Kd.S_drewN | apply Kd.S_drew); exact Kd.S_mono (Kd.S_far (p := ⟨af, 1, none⟩) (Kd.S_far (p := ⟨af, 0, none⟩) (Kd.S_mono aa.out (fun k_ hk => (⟨hk, hk.2⟩ : _ ∧ k_ ≠ af))) (fun _ hk => hk.2) (.slice an ((rd_T66 ad ab).f0).length ao)) (fun _ hk => hk.2) (.slice ap ((rd_T66 ad ab).f1).length aq)) (fun _ hk => hk.1.2)⟩;have n2_ : Aside0 (((w22.setCell ⟨af, 0, none⟩ (.slice an ((rd_T66 ad ab).f0).length ao)).setCell ⟨af, 1, none⟩ (.slice ap ((rd_T66 ad ab).f1).length aq)).heap[bA]? = some (.cells #[.slice bj au.length bk, .slice bl aN.length bm, .slice (some bQ) ad.length bn] 26 (0, 0))) := ⟨kg ah⟩;have n3_ : Aside0 (((w22.setCell ⟨af, 0, none⟩ (.slice an ((rd_T66 ad ab).f0).length ao)).setCell ⟨af, 1, none⟩ (.slice ap ((rd_T66 ad ab).f1).length aq)).heap[aw]? = some (.cells #[.slice none 0 0, .slice none 0 0, .slice none 0 0] 26 (0, 0))) := ⟨kg ai⟩;have n4_ : Aside0 (((w22.setCell ⟨af, 0, none⟩ (.slice an ((rd_T66 ad ab).f0).length ao)).setCell ⟨af, 1, none⟩ (.slice ap ((rd_T66 ad ab).f1).length aq)).heap[ar]? = some (.cells #[.slice aC av.length aD, .slice A1 l1.length c1, al] 26 (0, 0))) := ⟨kg ae⟩;have n5_ : Aside0 (((w22.setCell ⟨af, 0, none⟩ (.slice an ((rd_T66 ad ab).f0).length ao)).setCell ⟨af, 1, none⟩ (.slice ap ((rd_T66 ad ab).f1).length aq)).heap[af]? = some (.cells #[.slice an ((rd_T66 ad ab).f0).length ao, .slice ap ((rd_T66 ad ab).f1).length aq] 66 (0, 0))) := ⟨kg aj⟩;have n6_ : Aside0 (Below w.heap.size w ((w22.setCell ⟨af, 0, none⟩ (.slice an ((rd_T66 ad ab).f0).length ao)).setCell ⟨af, 1, none⟩ (.slice ap ((rd_T66 ad ab).f1).length aq))) := ⟨kh HB⟩;(try clear ag aa ah ai ae aj HB);generalize ((w22.setCell ⟨af, 0, none⟩ (.slice an ((rd_T66 ad ab).f0).length ao)).setCell ⟨af, 1, none⟩ (.slice ap ((rd_T66 ad ab).f1).length aq)) = w27 at n0_ n1_ n2_ n3_ n4_ n5_ n6_ ⊢;have ag := n0_; have aa := n1_; have ah := n2_; have ai := n3_; have ae := n4_; have aj := n5_; have HB := n6_; clear n0_ n1_ n2_ n3_ n4_ n5_ n6_;replace ag := kFR ag; replace aa := kFS aa; replace ah := kD ah; replace ai := kD ai; replace ae := kD ae; replace aj := kD aj; replace HB := kE HB;refine start_ (n := 15) (S := fun w' => w'.cell? ⟨ar, 0, none⟩ = some (.slice aC av.length aD) ∧ w'.cell? ⟨ar, 1, none⟩ = some (.slice A1 l1.length c1) ∧ w'.cell? ⟨ar, 2, none⟩ = some (al) ∧ w'.cell? ⟨af, 0, none⟩ = some (.slice an ((rd_T66 ad ab).f0).length ao) ∧ w'.cell? ⟨af, 1, none⟩ = some (.slice ap ((rd_T66 ad ab).f1).length aq)) (ds := [14]) (bs 15 0) (by kernel_rfl) rfl rfl ⟨kk ae 0, kk ae 1, kk ae 2, kk aj 0, kk aj 1⟩ (fun hHeld => ?_); refine with_tabW qda.tab5 qda.bits5 (fun HT_ HW_ => ?_);generalize w27.drew = w28 at ag aa ah ai ae aj HB hHeld ⊢;refine pu 0 (some 21) (bs 15 1) HT_ ?_;refine pu 3 (some 24) (bs 15 9) HT_ ?_;refine pu 7 (some 28) (bs 15 137) HT_ ?_;refine ta 1 (some 22) (bs 15 139) HT_ HW_ hHeld ?_;refine ta 4 (some 25) (bs 15 155) HT_ HW_ hHeld ?_;refine ta 8 (some 29) (bs 15 411) HT_ HW_ hHeld ?_;have HS0 := Aside0.mk hHeld;have HBN := Aside0.mk (Below.refl w28.heap.size w28);have hcl_ := qda.clone_eq A19.out;have E386 := Aside0.mk hcl_.1;have L386 := Aside0.mk hcl_.2;clear hcl_;have hcl_ := qda.clone_eq A20.out;have E389 := Aside0.mk hcl_.1;have L389 := Aside0.mk hcl_.2;clear hcl_;refine join_ (σ := Value × Value × Value) 6 (bs 15 511) (fun s_ => [(23, s_.1), (26, s_.2.1), (27, s_.2.2)]) (fun s_ w' => (w'.cell? ⟨ar, 0, none⟩ = some (.slice aC av.length aD) ∧ w'.cell? ⟨ar, 1, none⟩ = some (.slice A1 l1.length c1) ∧ w'.cell? ⟨ar, 2, none⟩ = some (al) ∧ w'.cell? ⟨af, 0, none⟩ = some (.slice an ((rd_T66 ad ab).f0).length ao) ∧ w'.cell? ⟨af, 1, none⟩ = some (.slice ap ((rd_T66 ad ab).f1).length aq)) ∧ ((Kd.int .i64).R 3 w' w28.heap.size (fun k_ => some k_ ≠ s_.2.2.ownBlock) s_.2.1 aX) ∧ ((Kd.int .i64).R 3 w' w28.heap.size (fun k_ => some k_ ≠ s_.2.1.ownBlock) s_.2.2 []) ∧ (Below w28.heap.size w28 w')) ?_ ?_
   rotate_left
   ·intro hCont
    refine two_ (i := 2) (j := 6) (Ni := some 23) (Nj := some 27) (bs 15 415) (bs 15 475) rfl rfl rfl rfl (two_of HT_.out (by kernel_rfl)) (by decide) (by decide) (fun K hK => ?_) (fun K hK => ?_)
    ·skip
     refine Kd.R_lit_step (Kd.int .i64) (w0 := w28) w28.heap.size 3 (by rfl) (N := 23) rfl (xs := ([] : List Int)) (inner := []) (ok := fun k_ => True) (okp := fun _ => False) ?hr (Reps.none _ _) (fun _ h_ => h_.elim) trivial HBN.out (HBN.out.size) (by simp) ?_;(case hr => first | (go_simp; done) | (go_simp; rfl));intro v23 we101 ho_ hb_ hg_ hnew_;have q_ := Aside0.mk ho_;clear HBN;have HBN := Aside0.mk hb_;have P23 := q_; clear q_;refine hK.out _ _ ⟨cellb_ hb_ HS0.out.1, cellb_ hb_ HS0.out.2.1, cellb_ hb_ HS0.out.2.2.1, cellb_ hb_ HS0.out.2.2.2.1, cellb_ hb_ HS0.out.2.2.2.2⟩ (fun hHeld => ?_);clear hK K ho_ hb_ hg_ hnew_;refine no (some 23) ?_;refine two_ (i := 5) (j := 6) (Ni := some 26) (Nj := some 27) (bs 15 447) (bs 15 479) rfl rfl rfl rfl (two_of HT_.out (by kernel_rfl)) (by decide) (by decide) (fun K hK => ?_) (fun K hK => ?_)
     ·skip
      refine Kd.R_append_rows_step (Kd.int .i64) (w0 := w28) w28.heap.size (by rfl) (.tmp 23) (.tmp 25) 27 3 (.int .i64 0) 8 rfl Try.underlying27 info3 rfl (by decide) (by omega) v23 ([] : List Int) ((rd_T66 ad ab).f0) _ _ _ (fun k_ => True) (fun _ => False) rfl rfl P23.out ?aR (fun _ _ h_ => h_) (fun _ h_ => h_.elim) (fun _ _ => trivial) HBN.out HBN.out.size ?aL ?_;(case aR => exact Kd.C_below aM.out (below_step HB.out HBN.out));(case aL => have := L386.out; simp only [List.length_nil]; omega);intro v26 we102 ho_ hb_ hg_ hat_;rw [List.nil_append, E386.out] at ho_;have q_ := Aside0.mk ho_;clear HBN P23;have HBN := Aside0.mk hb_;have P26 := q_; clear q_;refine hK.out _ _ ⟨cellb_ hb_ HS0.out.1, cellb_ hb_ HS0.out.2.1, cellb_ hb_ HS0.out.2.2.1, cellb_ hb_ HS0.out.2.2.2.1, cellb_ hb_ HS0.out.2.2.2.2⟩ (fun hHeld => ?_);clear hK K ho_ hb_ hg_ hat_;refine no (some 26) ?_;refine one_ (i := 6) (N := some 27) (bs 15 511) rfl rfl (one_of HT_.out (by kernel_rfl)) (by decide) (fun K hK => ?_);refine Kd.R_lit_step (Kd.int .i64) (w0 := w28) w28.heap.size 3 (by rfl) (N := 27) rfl (xs := ([] : List Int)) (inner := []) (ok := fun k_ => some k_ ≠ (v26 : Value).ownBlock) (okp := fun _ => False) ?hr (Reps.none _ _) (fun _ h_ => h_.elim) (fun e_ => by have := Kd.R_lt P26.out _ e_.symm; omega) HBN.out (HBN.out.size) (by simp) ?_;(case hr => first | (go_simp; done) | (go_simp; rfl));intro v27 we103 ho_ hb_ hg_ hnew_;have q_ := Aside0.mk ho_;have q26_ := Aside0.mk (qda.elder_lit P26.out hg_ hnew_);clear P26; have P26 := q26_; clear q26_ HBN;have HBN := Aside0.mk hb_;have P27 := q_; clear q_;refine hK.out _ _ ⟨cellb_ hb_ HS0.out.1, cellb_ hb_ HS0.out.2.1, cellb_ hb_ HS0.out.2.2.1, cellb_ hb_ HS0.out.2.2.2.1, cellb_ hb_ HS0.out.2.2.2.2⟩ (fun hHeld => ?_);clear hK K ho_ hb_ hg_ hnew_;refine no (some 27) ?_;exact norm_ (by simp only [putAll, Act.put, qS1, qS2, qS3]) (hCont (v23, v26, v27) _ ⟨hHeld, P26.out, P27.out, HBN.out⟩)
     ·skip
      refine Kd.R_lit_step (Kd.int .i64) (w0 := w28) w28.heap.size 3 (by rfl) (N := 27) rfl (xs := ([] : List Int)) (inner := []) (ok := fun k_ => some k_ ≠ (v23 : Value).ownBlock) (okp := fun _ => False) ?hr (Reps.none _ _) (fun _ h_ => h_.elim) (fun e_ => by have := Kd.R_lt P23.out _ e_.symm; omega) HBN.out (HBN.out.size) (by simp) ?_;(case hr => first | (go_simp; done) | (go_simp; rfl));intro v27 we104 ho_ hb_ hg_ hnew_;have q_ := Aside0.mk ho_;have q23_ := Aside0.mk (qda.elder_lit P23.out hg_ hnew_);clear P23; have P23 := q23_; clear q23_ HBN;have HBN := Aside0.mk hb_;have P27 := q_; clear q_;refine hK.out _ _ ⟨cellb_ hb_ HS0.out.1, cellb_ hb_ HS0.out.2.1, cellb_ hb_ HS0.out.2.2.1, cellb_ hb_ HS0.out.2.2.2.1, cellb_ hb_ HS0.out.2.2.2.2⟩ (fun hHeld => ?_);clear hK K ho_ hb_ hg_ hnew_;refine no (some 27) ?_;refine one_ (i := 5) (N := some 26) (bs 15 511) rfl rfl (one_of HT_.out (by kernel_rfl)) (by decide) (fun K hK => ?_);refine Kd.R_append_rows_step (Kd.int .i64) (w0 := w28) w28.heap.size (by rfl) (.tmp 23) (.tmp 25) 27 3 (.int .i64 0) 8 rfl Try.underlying27 info3 rfl (by decide) (by omega) v23 ([] : List Int) ((rd_T66 ad ab).f0) _ _ _ (fun k_ => some k_ ≠ (v27 : Value).ownBlock) (fun _ => False) rfl rfl P23.out ?aR (fun _ _ h_ => h_) (fun _ h_ => h_.elim) (fun k_ hk_ e_ => by have := Kd.R_lt P27.out _ e_.symm; omega) HBN.out HBN.out.size ?aL ?_;(case aR => exact Kd.C_below aM.out (below_step HB.out HBN.out));(case aL => have := L386.out; simp only [List.length_nil]; omega);intro v26 we105 ho_ hb_ hg_ hat_;rw [List.nil_append, E386.out] at ho_;have q_ := Aside0.mk ho_;have q27_ := Aside0.mk (qda.other_app P27.out hg_ hat_);clear P27; have P27 := q27_; clear q27_ HBN P23;have HBN := Aside0.mk hb_;have P26 := q_; clear q_;refine hK.out _ _ ⟨cellb_ hb_ HS0.out.1, cellb_ hb_ HS0.out.2.1, cellb_ hb_ HS0.out.2.2.1, cellb_ hb_ HS0.out.2.2.2.1, cellb_ hb_ HS0.out.2.2.2.2⟩ (fun hHeld => ?_);clear hK K ho_ hb_ hg_ hat_;refine no (some 26) ?_;exact norm_ (by simp only [putAll, Act.put, qS1, qS2, qS3]) (hCont (v23, v26, v27) _ ⟨hHeld, P26.out, P27.out, HBN.out⟩)
    ·skip
     refine Kd.R_lit_step (Kd.int .i64) (w0 := w28) w28.heap.size 3 (by rfl) (N := 27) rfl (xs := ([] : List Int)) (inner := []) (ok := fun k_ => True) (okp := fun _ => False) ?hr (Reps.none _ _) (fun _ h_ => h_.elim) trivial HBN.out (HBN.out.size) (by simp) ?_;(case hr => first | (go_simp; done) | (go_simp; rfl));intro v27 we106 ho_ hb_ hg_ hnew_;have q_ := Aside0.mk ho_;clear HBN;have HBN := Aside0.mk hb_;have P27 := q_; clear q_;refine hK.out _ _ ⟨cellb_ hb_ HS0.out.1, cellb_ hb_ HS0.out.2.1, cellb_ hb_ HS0.out.2.2.1, cellb_ hb_ HS0.out.2.2.2.1, cellb_ hb_ HS0.out.2.2.2.2⟩ (fun hHeld => ?_);clear hK K ho_ hb_ hg_ hnew_;refine no (some 27) ?_;refine one_ (i := 2) (N := some 23) (bs 15 479) rfl rfl (one_of HT_.out (by kernel_rfl)) (by decide) (fun K hK => ?_);refine Kd.R_lit_step (Kd.int .i64) (w0 := w28) w28.heap.size 3 (by rfl) (N := 23) rfl (xs := ([] : List Int)) (inner := []) (ok := fun k_ => some k_ ≠ (v27 : Value).ownBlock) (okp := fun _ => False) ?hr (Reps.none _ _) (fun _ h_ => h_.elim) (fun e_ => by have := Kd.R_lt P27.out _ e_.symm; omega) HBN.out (HBN.out.size) (by simp) ?_;(case hr => first | (go_simp; done) | (go_simp; rfl));intro v23 we107 ho_ hb_ hg_ hnew_;have q_ := Aside0.mk ho_;have q27_ := Aside0.mk (qda.elder_lit P27.out hg_ hnew_);clear P27; have P27 := q27_; clear q27_ HBN;have HBN := Aside0.mk hb_;have P23 := q_; clear q_;refine hK.out _ _ ⟨cellb_ hb_ HS0.out.1, cellb_ hb_ HS0.out.2.1, cellb_ hb_ HS0.out.2.2.1, cellb_ hb_ HS0.out.2.2.2.1, cellb_ hb_ HS0.out.2.2.2.2⟩ (fun hHeld => ?_);clear hK K ho_ hb_ hg_ hnew_;refine no (some 23) ?_;refine one_ (i := 5) (N := some 26) (bs 15 511) rfl rfl (one_of HT_.out (by kernel_rfl)) (by decide) (fun K hK => ?_);refine Kd.R_append_rows_step (Kd.int .i64) (w0 := w28) w28.heap.size (by rfl) (.tmp 23) (.tmp 25) 27 3 (.int .i64 0) 8 rfl Try.underlying27 info3 rfl (by decide) (by omega) v23 ([] : List Int) ((rd_T66 ad ab).f0) _ _ _ (fun k_ => some k_ ≠ (v27 : Value).ownBlock) (fun _ => False) rfl rfl P23.out ?aR (fun _ _ h_ => h_) (fun _ h_ => h_.elim) (fun k_ hk_ e_ => by have := Kd.R_lt P27.out _ e_.symm; omega) HBN.out HBN.out.size ?aL ?_;(case aR => exact Kd.C_below aM.out (below_step HB.out HBN.out));(case aL => have := L386.out; simp only [List.length_nil]; omega);intro v26 we108 ho_ hb_ hg_ hat_;rw [List.nil_append, E386.out] at ho_;have q_ := Aside0.mk ho_;have q27_ := Aside0.mk (qda.other_app P27.out hg_ hat_);clear P27; have P27 := q27_; clear q27_ HBN P23;have HBN := Aside0.mk hb_;have P26 := q_; clear q_;refine hK.out _ _ ⟨cellb_ hb_ HS0.out.1, cellb_ hb_ HS0.out.2.1, cellb_ hb_ HS0.out.2.2.1, cellb_ hb_ HS0.out.2.2.2.1, cellb_ hb_ HS0.out.2.2.2.2⟩ (fun hHeld => ?_);clear hK K ho_ hb_ hg_ hat_;refine no (some 26) ?_;exact norm_ (by simp only [putAll, Act.put, qS1, qS2, qS3]) (hCont (v23, v26, v27) _ ⟨hHeld, P26.out, P27.out, HBN.out⟩)
   rintro ⟨v23, v26, v27⟩ we90 ⟨hHeld, h26_, h27_, hbn_⟩;have P26 := Aside0.mk h26_;have P27 := Aside0.mk h27_;clear HBN;have HBN := Aside0.mk hbn_;clear h26_ h27_ hbn_;refine norm_ (a' := ?_) ?_ ?_
   rotate_left
   ·simp only [putAll, Act.put, qS1, qS2, qS3]
    rfl
   refine one_ (i := 9) (N := some 30) (bs 15 1023) rfl rfl (one_of HT_.out (by kernel_rfl)) (by decide) (fun K hK => ?_);refine Kd.R_append_rows_step (Kd.int .i64) (w0 := w28) w28.heap.size (by rfl) (.tmp 27) (.tmp 29) 27 3 (.int .i64 0) 8 rfl Try.underlying27 info3 rfl (by decide) (by omega) v27 ([] : List Int) ((rd_T66 ad ab).f1) _ _ _ (fun k_ => some k_ ≠ v26.ownBlock) (fun _ => False) rfl rfl P27.out ?aR (fun _ _ h_ => h_) (fun _ h_ => h_.elim) (fun k_ hk_ e_ => by have := Kd.R_lt P26.out _ e_.symm; omega) HBN.out HBN.out.size ?aL ?_;(case aR => exact Kd.C_below bq.out (below_step HB.out HBN.out));(case aL => have := L389.out; simp only [List.length_nil]; omega);intro v30 we91 ho_ hb hg_ hat_;rw [List.nil_append, E389.out] at ho_;have q_ := Aside0.mk (qda.other_app P26.out hg_ hat_);clear P26 P27 HBN; have P26 := q_;have P27 := Aside0.mk ho_;clear q_ ho_ hg_ hat_; have hb_ := hb;replace ag := kR ag hb; replace aa := Aside0.mk (qda.elder2 aa.out hb (Kd.R_base P26.out) (Kd.R_base P27.out)); have aW : Aside0 (Kd.R (Kd.int .i64) 3 we91 w.heap.size (fun k_ => True ∧ some k_ ≠ v30.ownBlock) v26 aX) := ⟨Kd.R_mono (Kd.R_lower P26.out (below_size HB.out)) (fun _ hk => ⟨trivial, hk⟩)⟩; have bc : Aside0 (Kd.R (Kd.int .i64) 3 we91 w.heap.size (fun k_ => True ∧ some k_ ≠ v26.ownBlock) v30 bd) := ⟨Kd.R_mono (Kd.R_lower P27.out (below_size HB.out)) (fun _ hk => ⟨trivial, hk⟩)⟩; replace ah := kU ah hb; replace ai := kU ai hb; replace ae := kU ae hb; replace aj := kU aj hb; replace HB := kH HB hb;(try clear hb);obtain ⟨bR, bS, bT⟩ := Kd.R_slice bc.out;(first | subst bT | (injection bT with f1_ f2_ f3_; have f4_ := f1_.symm; have f5_ := f3_.symm; clear f1_ f2_ f3_; subst f4_; subst f5_));obtain ⟨bU, bV, bW⟩ := Kd.R_slice aW.out;(first | subst bW | (injection bW with f1_ f2_ f3_; have f4_ := f1_.symm; have f5_ := f3_.symm; clear f1_ f2_ f3_; subst f4_; subst f5_));refine hK.out _ _ ⟨kk ae 0, kk ae 1, kk ae 2, kk aj 0, kk aj 1⟩ (fun hHeld => ?_);clear hK K;refine no (some 30) ?_;refine pu 10 (some 31) (bs 15 2047) HT_ ?_;refine one_ (i := 11) (N := some 32) (bs 15 4095) rfl rfl (one_of HT_.out (by kernel_rfl)) (by decide) (fun K hK => ?_);refine value_ (w1 := ?_) (v := ?_) (by rfl) rfl ?_ ?_
   rotate_left 2
   ·go_simp
    constructor
    ·rfl
    ·rfl
   refine hK.out _ _ ⟨(blk_cell (blk_alloc ae.out _) 0).trans rfl, (blk_cell (blk_alloc ae.out _) 1).trans rfl, (blk_cell (blk_alloc ae.out _) 2).trans rfl, (blk_cell (blk_alloc aj.out _) 0).trans rfl, (blk_cell (blk_alloc aj.out _) 1).trans rfl⟩ (fun hHeld => ?_);clear hK K;refine no (some 32) ?_;refine one_ (i := 12) (N := some 33) (bs 15 8191) rfl rfl (one_of HT_.out (by kernel_rfl)) (by decide) (fun K hK => ?_);refine Kd.S_append_step k66t (w0 := w) w.heap.size (by rfl) (.tmp 22) (.tmp 32) 24 66 (.agg #[(.slice none 0 0), (.slice none 0 0)]) 48 rfl Try.underlying24 info66 rfl (by decide) (by omega) al ak (⟨aX, bd⟩ : S66) [.slice bU aX.length bV, .slice bR bd.length bS] (fun k_ => k_ ≠ af) (fun k_ => some k_ = (.slice bU aX.length bV : Value).ownBlock ∨ some k_ = (.slice bR bd.length bS : Value).ownBlock) rfl rfl ?aP (fun k_ hk_ => hk_.elim (fun h_ => ((Kd.R_mono (ok' := fun k_ => ((fun k_ => k_ ≠ af)) k_ ∧ some k_ ≠ (al : Value).ownBlock) (Kd.R_types (Kd.R_apart' (aW.out) (Kd.S_typed aa.out) (by decide)) aj.out (by decide)) (fun k_ hk => ⟨hk.2, hk.1.2⟩))).1 k_ h_.symm) (fun h_ => ((Kd.R_mono (ok' := fun k_ => ((fun k_ => k_ ≠ af)) k_ ∧ some k_ ≠ (al : Value).ownBlock) (Kd.R_types (Kd.R_apart' (bc.out) (Kd.S_typed aa.out) (by decide)) aj.out (by decide)) (fun k_ hk => ⟨hk.2, hk.1.2⟩))).1 k_ h_.symm)) ?aF ?aO ?aB ?aS ?aL ?_;(case aP => exact k66t_mkM _ _ _ (⟨aX, bd⟩ : S66) (fun k_ h_ h2_ => (aW.out.1 k_ h_).2 h2_.symm) (Kd.R_mono (Kd.R_tight rfl (Kd.R_mono (ok' := fun k_ => ((fun k_ => k_ ≠ af)) k_ ∧ some k_ ≠ (al : Value).ownBlock) (Kd.R_types (Kd.R_apart' (aW.out) (Kd.S_typed aa.out) (by decide)) aj.out (by decide)) (fun k_ hk => ⟨hk.2, hk.1.2⟩))) (fun _ h_ => Or.inl h_)) (Kd.R_mono (Kd.R_tight rfl (Kd.R_mono (ok' := fun k_ => ((fun k_ => k_ ≠ af)) k_ ∧ some k_ ≠ (al : Value).ownBlock) (Kd.R_types (Kd.R_apart' (bc.out) (Kd.S_typed aa.out) (by decide)) aj.out (by decide)) (fun k_ hk => ⟨hk.2, hk.1.2⟩))) (fun _ h_ => Or.inr (h_))));(case aB => exact (kh HB));(case aF => exact (fun k_ hk => Kd.freshB (g := af) (o := .cells #[.slice an ((rd_T66 ad ab).f0).length ao, .slice ap ((rd_T66 ad ab).f1).length aq] 66 (0, 0)) (kb aj) k_ hk));(case aO => exact (by (with_reducible repeat first | apply Kd.S_alloc | apply Kd.S_drewN | apply Kd.S_drew); exact Kd.S_mono aa.out (fun k_ hk => ⟨hk.1.1, fun e_ => e_.elim (fun h_ => hk.1.2 h_) (fun h_ => hk.2 h_)⟩)));(case aS => exact (below_size (kh HB)));(case aL => have := bO.out; omega);intro cU w33 ho hb hg hat;rw [← bP.out] at ho;replace ag := Aside0.mk (Kd.R_over' (krR ag) (Kd.S_typed (krS aa)) (by decide) hg); replace ah := kXS ah aa hg; replace ai := kXS ai aa hg; replace ae := kXS ae aa hg; replace aj := Aside0.mk (blk_grown (g := af) (o := .cells #[.slice an ((rd_T66 ad ab).f0).length ao, .slice ap ((rd_T66 ad ab).f1).length aq] 66 (0, 0)) (kb aj) hg (Kd.S_away aa.out (fun _ hk => hk.1.1))); replace HB := Aside0.mk (hb); have bB := Aside0.mk (ho); clear aW bc aa;clear ho hb hg hat;obtain ⟨bG, bH, bX⟩ := Kd.S_slice bB.out;(first | subst bX | (injection bX with f1_ f2_ f3_; have f4_ := f1_.symm; have f5_ := f3_.symm; clear f1_ f2_ f3_; subst f4_; subst f5_));refine hK.out _ _ ⟨kk ae 0, kk ae 1, kk ae 2, kk aj 0, kk aj 1⟩ (fun hHeld => ?_);clear hK K;refine no (some 33) ?_;refine pu 13 (some 34) (bs 15 16383) HT_ ?_;refine last_ (i := 14) (N := none) (bs 15 32767) rfl rfl (one_of HT_.out (by kernel_rfl)) (by decide) (fun K hK => ?_);have cV : w33.cell? ⟨ar, 2, none⟩ = some (al) := kk ae 2;have cQ := blk_frozen ae.out 2;have ca := ax.out;have cb := az.out;have cc := aI.out;have cd := ay.out;have ce := aA.out;have cf := aH.out;refine skip_ (w1 := ?_) (by rfl) rfl ?_ ?_
   rotate_left
   ·go_simp
    rfl
   refine hK.out _ _ ?_;clear hK K;refine done_ (done_of HT_.out (by kernel_rfl)) ?_;(try go_wp2);go_roundg k1
   case measure => have := HK1.out; omega
   case rel => exact ⟨(wrap64 (ab + 1)), (bo), (.slice bG bo.length bH), et, H', ⟨by have := HK1.out; omega⟩, ⟨by (with_reducible repeat first | apply Kd.R_alloc | apply Kd.R_drewN | apply Kd.R_drew); exact Kd.R_mono (Kd.R_far (p := ⟨ar, 2, none⟩) (Kd.R_types ag.out ae.out (by decide)) (fun _ hk => hk.2) (.slice bG bo.length bH)) (fun _ hk => trivial)⟩, ⟨by (with_reducible repeat first | apply Kd.S_alloc | apply Kd.S_drewN | apply Kd.S_drew); exact Kd.S_mono (Kd.S_far (p := ⟨ar, 2, none⟩) (Kd.S_types bB.out ae.out (by decide)) (fun _ hk => hk.2) (.slice bG bo.length bH)) (fun _ hk => trivial)⟩, ⟨kg ah⟩, ⟨kg ai⟩, ⟨kg ae⟩, ⟨kh HB⟩⟩
def qda.f (k : Nat) (aa : List (S64)) (ab : List (S61)) (ad : List (S66)) (l1 : List (S61)) : Option ((List (S64)) × (List (S61)) × (List (S66))) := (qda.g k aa ab ad).bind fun r => some (r.1, l1, r.2.2)
theorem qda.calls (k : Nat) (ae : Option Addr) (af : Nat) (aa : List (S64)) (ag : Option Addr) (ah : Nat) (ab : List (S61)) (ai : Option Addr) (aj : Nat) (ad : List (S66)) (A1 : Option Addr) (c1 : Nat) (l1 : List (S61)) (r1 : List (S64)) (r2 : List (S61)) (r3 : List (S66)) (w : World) (ak : Kd.C k64 w ae aa.length aa) (al : aa.length ≤ af) (an : Kd.C k61 w ag ab.length ab) (ao : ab.length ≤ ah) (ap : Kd.C k66 w ai ad.length ad) (aq : ad.length ≤ aj) {b0 : Nat} {ok0 : Nat → Prop} (hr1 : Kd.R k61 61 w b0 ok0 (.slice A1 l1.length c1) l1) (hb0 : b0 ≤ w.heap.size) (h : qda.f k aa ab ad l1 = some (r1, r2, r3)) :
  Calls Try.prog 44 #[.agg #[.slice ae aa.length af, .slice ag ab.length ah, .slice ai ad.length aj], .slice A1 l1.length c1] w fun e w' => ∃ v0_ v2_ : Value, e = .returned (.agg #[v0_, .slice A1 r2.length c1, v2_]) ∧ Kd.R k64 64 w' b0 (fun k_ => w.heap.size ≤ k_) v0_ r1 ∧ Kd.R k61 61 w' b0 ok0 (.slice A1 r2.length c1) r2 ∧ Kd.S k66t 66 w' b0 (fun k_ => w.heap.size ≤ k_) v2_ r3 ∧ Below w.heap.size w w' := by
 obtain ⟨⟨g1, g2, g3⟩, hg, he⟩ := Option.bind_eq_some_iff.mp h;simp only [Option.some.injEq, Prod.mk.injEq] at he;obtain ⟨rfl, rfl, rfl⟩ := he
 exact (qda.callsG k ae af aa ag ah ab ai aj ad A1 c1 l1 g1 g2 g3 w ak al an ao ap aq hg).mono fun e w' ⟨v0, v2, h0, h1, h2, h3⟩ => ⟨v0, v2, h0, Kd.R_lower (Kd.R_mono (Kd.R_bound h1) (fun _ hk => hk.2.1)) hb0, Kd.R_below hr1 h3, (let ⟨f_, q_⟩ := h2; ⟨f_, Kd.R_lower (Kd.R_mono (Kd.R_bound q_) (fun _ hk => hk.2.1)) hb0⟩), h3⟩
theorem qda.callsN (k : Nat) (ae : Option Addr) (af : Nat) (aa : List (S64)) (ag : Option Addr) (ah : Nat) (ab : List (S61)) (ai : Option Addr) (aj : Nat) (ad : List (S66)) (A1 : Option Addr) (c1 : Nat) (l1 : List (S61)) (r1 : List (S64)) (r2 : List (S61)) (r3 : List (S66)) (w : World) (ak : Kd.C k64 w ae aa.length aa) (al : aa.length ≤ af) (an : Kd.C k61 w ag ab.length ab) (ao : ab.length ≤ ah) (ap : Kd.C k66 w ai ad.length ad) (aq : ad.length ≤ aj) {b0 : Nat} (hr1 : Kd.R k61 61 w b0 (fun _ => True) (.slice A1 l1.length c1) l1) (hb0 : b0 ≤ w.heap.size) (h : qda.f k aa ab ad l1 = some (r1, r2, r3)) :
  Calls Try.prog 44 #[.agg #[.slice ae aa.length af, .slice ag ab.length ah, .slice ai ad.length aj], .slice A1 l1.length c1] w fun e w' => ∃ v0_ v1_ v2_ : Value, e = .returned (.agg #[v0_, v1_, v2_]) ∧ Kd.R k64 64 w' b0 (fun _ => True) v0_ r1 ∧ Kd.R k61 61 w' b0 (fun _ => True) v1_ r2 ∧ Kd.S k66 66 w' b0 (fun _ => True) v2_ r3 ∧ Below w.heap.size w w' :=
 (qda.calls k ae af aa ag ah ab ai aj ad A1 c1 l1 r1 r2 r3 w ak al an ao ap aq hr1 hb0 h).mono fun e w' ⟨v0, v2, he, h0, h1, h2, h3⟩ => ⟨v0, _, v2, he, Kd.R_mono h0 (fun _ _ => trivial), h1, k66t_S (Kd.S_mono h2 (fun _ _ => trivial)), h3⟩
theorem qda.gates_eq {k : Nat} {a : List S64} {b : List S61} {c : List S66} {l : List S61} {r1 : List S64} {r2 : List S61} {r3 : List S66} (h : qda.f k a b c l = some (r1, r2, r3)) : r2 = l := by
 obtain ⟨_, _, he⟩ := Option.bind_eq_some_iff.mp h;simp only [Option.some.injEq, Prod.mk.injEq] at he;exact he.2.1.symm
mutual
def qia.l0 : Nat → List Int → Int → Int → List (S64) → List (S61) → List (S66) → Option ((List (S64)) × (List (S61)) × (List (S66)))
 | 0, _, _, _, _, _, _ => none
 | k + 1, x2, x17, x18, a, b, cur => if x18 < x17 then (if 0 ≤ x18 then (if x18 < (cur.length : Int) then (qia.l1 k x2 x17 x18 (((rd_T66 cur x18).f1).length : Int) 0 a b cur) else (none)) else (none)) else (some (a, b, cur))
def qia.l1 : Nat → List Int → Int → Int → Int → Int → List (S64) → List (S61) → List (S66) → Option ((List (S64)) × (List (S61)) × (List (S66)))
 | 0, _, _, _, _, _, _, _, _ => none
 | k + 1, x2, x17, x18, x24, x25, a, b, cur => if x25 < x24 then (if 0 ≤ x25 then (if x25 < (((rd_T66 cur x18).f1).length : Int) then (if 0 ≤ (rd ((rd_T66 cur x18).f1) x25) then (if (rd ((rd_T66 cur x18).f1) x25) < (x2.length : Int) then (qia.l1 k x2 x17 x18 x24 (wrap64 (x25 + 1)) a b (cur.set x18.toNat ⟨(rd_T66 cur x18).f0, ((rd_T66 cur x18).f1).set x25.toNat (rd x2 (rd ((rd_T66 cur x18).f1) x25))⟩)) else (none)) else (none)) else (none)) else (none)) else (qia.l0 k x2 x17 (wrap64 (x18 + 1)) a b cur)
end
def qia.f (k : Nat) (ab : List (S64)) (ad : List (S61)) (ae : List (S66)) (l1 : List (S61)) (l2 : List Int) : Option ((List (S64)) × (List (S61)) × (List (S66))) := (qda.f k ab ad ae l1).bind fun aa => (qia.l0 k l2 (aa.2.2.length : Int) 0 aa.1 aa.2.1 aa.2.2)
def qia.T8 : Bool × List (List Nat × List Nat) := (true, [([], []), ([0], [0]), ([], []), ([], []), ([], []), ([3, 4], [3, 4]), ([5], [5]), ([1, 2, 0, 1, 2, 3, 4, 5, 6], [1, 2]), ([7, 6, 0, 1, 2, 3, 4, 5, 6], [6, 7])])
def qia.B8 : List Nat := [0, 1, 0, 0, 0, 24, 56, 127, 255]
theorem qia.tab8 : rtab .any (opsOf Try.f50 8) = qia.T8 := by kernel_rfl
theorem qia.bits8 : waitsOk qia.T8.2 qia.B8 = true := by kernel_rfl
theorem qia.calls (k : Nat) (aY : Option Addr) (aZ : Nat) (aG : List (S64)) (ba : Option Addr) (bb : Nat) (aH : List (S61)) (bc : Option Addr) (bd : Nat) (aI : List (S66)) (A1 : Option Addr) (c1 : Nat) (l1 : List (S61)) (A2 : Option Addr) (c2 : Nat) (l2 : List Int) (r1 : List (S64)) (r2 : List (S61)) (r3 : List (S66)) (w : World) (bj : Kd.C k64 w aY aG.length aG) (bk : aG.length ≤ aZ) (bl : Kd.C k61 w ba aH.length aH) (bm : aH.length ≤ bb) (bn : Kd.C k66 w bc aI.length aI) (bo : aI.length ≤ bd) {b0 : Nat} {ok0 : Nat → Prop} (hr1 : Kd.R k61 61 w b0 ok0 (.slice A1 l1.length c1) l1) (hc1 : b0 ≤ w.heap.size) (hr2 : Kd.C (Kd.int .i64) w A2 l2.length l2) (hc2 : l2.length ≤ c2) (h : qia.f k aG aH aI l1 l2 = some (r1, r2, r3)) :
  Calls Try.prog 50 #[.agg #[.slice aY aG.length aZ, .slice ba aH.length bb, .slice bc aI.length bd], .slice A1 l1.length c1, .slice A2 l2.length c2] w fun e w' => ∃ v0_ v2_ : Value, e = .returned (.agg #[v0_, .slice A1 r2.length c1, v2_]) ∧ Kd.R k64 64 w' b0 (fun k_ => w.heap.size ≤ k_) v0_ r1 ∧ Kd.R k61 61 w' b0 ok0 (.slice A1 r2.length c1) r2 ∧ Kd.S k66t 66 w' b0 (fun k_ => w.heap.size ≤ k_) v2_ r3 ∧ Below w.heap.size w w' := by
 have hu26 := Try.underlying26;have hu66 := Try.underlying66;have bu := Aside0.mk bj;have bv := Aside0.mk bk;clear bj bk;have bw := Aside0.mk bl;have bx := Aside0.mk bm;clear bl bm;have bz := Aside0.mk bn;have bA := Aside0.mk bo;clear bn bo;have HR1 := Aside0.mk hr1;have HC1 := Aside0.mk hc1;clear hr1 hc1;have HR2 := Aside0.mk hr2;have HC2 := Aside0.mk hc2;clear hr2 hc2;have HB := Aside0.mk (Below.refl w.heap.size w);obtain ⟨⟨ag, ah, al⟩, A40, H⟩ := Option.bind_eq_some_iff.mp h;clear h;(try dsimp only at H);have A4 := Aside0.mk A40;clear A40;have H' := Aside0.mk H;clear H;have hl1 : ah.length = l1.length := congrArg List.length (qda.gates_eq A4.out);have HL1 := Aside0.mk hl1;clear hl1;go_enter Try.func50, Try.ntmps50;go_wp2_with (first | ((with_reducible refine qea (N := 3) rfl ?_); refine box_event ?hg (N := 3) ?hd (cs := #[.slice aY aG.length aZ, .slice ba aH.length bb, .slice bc aI.length bd]) (t := 26) ?hr ?_; (case hd => rfl); (case hg => rfl); (case hr => first | (go_simp; done) | (go_simp; rfl)); intro aW hg w5 hbox hb; have ai := am hbox; have bT := kG HB hg; have bU := kG HB hg; replace HB := kH HB hb; clear hb hbox hg) | ((with_reducible refine qea (N := 6) rfl ?_); refine box_event ?hg (N := 6) ?hd (cs := #[.slice none 0 0, .slice none 0 0, .slice none 0 0]) (t := 26) ?hr ?_; (case hd => rfl); (case hg => rfl); (case hr => first | (go_simp; done) | (go_simp; rfl)); intro af hg w6 hbox hb; have aA := am hbox; have bV := kG HB hg; have bB := kG HB hg; replace HB := kH HB hb; have aJ := kP ai hg; have aK := kQ ai hg; replace ai := kU ai hb; clear hb hbox hg; have bL := aJ.out; have bM := aK.out; have Z8 := kz3 ai) | (go_at_call 44; (with_reducible refine (qda.calls (b0 := b0) (ok0 := ok0) k _ _ aG _ _ aH _ _ aI _ _ l1 ag ah al _ ?side1 ?side2 ?side3 ?side4 ?side5 ?side6 ?side7 ?side8 A4.out).mono ?_); (case side1 => repeat (first | exact (Kd.C_below bu.out HB.out) | (with_reducible first | refine Kd.C_alloc ?_ _ | refine Kd.C_drewN ?_ _ | refine Kd.C_drew ?_))); (case side2 => exact bv.out); (case side3 => repeat (first | exact (Kd.C_below bw.out HB.out) | (with_reducible first | refine Kd.C_alloc ?_ _ | refine Kd.C_drewN ?_ _ | refine Kd.C_drew ?_))); (case side4 => exact bx.out); (case side5 => repeat (first | exact (Kd.C_below bz.out HB.out) | (with_reducible first | refine Kd.C_alloc ?_ _ | refine Kd.C_drewN ?_ _ | refine Kd.C_drew ?_))); (case side6 => exact bA.out); (case side7 => exact (Kd.R_below HR1.out HB.out)); (case side8 => exact Nat.le_trans HC1.out (below_size HB.out)); rintro e w9 ⟨cc, cd, rfl, ho0, ho1, ho2, hb⟩; have aU := Aside0.mk (Kd.R_mono ho0 (fun _ hk => Nat.le_trans (below_size HB.out) hk)); have aX := Aside0.mk (ho1); have aV := Aside0.mk (Kd.S_mono ho2 (fun _ hk => Nat.le_trans (below_size HB.out) hk)); replace ai := kU ai hb; replace aA := kU aA hb; replace HB := kH HB hb; (try clear hb); (try clear hb2); (try clear hk); (try clear hi); (try clear ho0); (try clear ho1); (try clear ho2)) | ((with_reducible refine qea (N := 7) rfl ?_); refine box_event ?hg (N := 7) ?hd (cs := #[.slice none 0 0, .slice none 0 0, .slice none 0 0]) (t := 26) ?hr ?_; (case hd => rfl); (case hg => rfl); (case hr => first | (go_simp; done) | (go_simp; rfl)); intro aj hg w10 hbox hb; replace aU := kR aU hb; replace aX := kR aX hb; replace aV := kS aV hb; have aM := am hbox; have bW := kG HB hg; have bC := kG HB hg; replace HB := kH HB hb; have an := kP ai hg; have bf := kQ ai hg; replace ai := kU ai hb; have ak := kP aA hg; have aN := kQ aA hg; replace aA := kU aA hb; clear hb hbox hg; obtain ⟨ap, aq, bN⟩ := Kd.R_slice aU.out; subst bN; have bD := bf.out; have bE := an.out; have bF := aN.out; have bG := ak.out; have Z14 := kz3 aM; obtain ⟨aQ, aC, bO⟩ := Kd.S_slice aV.out; subst bO));go_loopg [18] k (fun kq v18 w' => ∃ (aa : Int) (cur : List (S66)), v18 = .int .i64 aa ∧ Aside0 (qia.l0 kq l2 (al.length : Int) aa ag ah cur = some (r1, r2, r3)) ∧ Aside0 (cur.length = al.length) ∧ Aside0 (kq ≤ k) ∧ Aside0 (Kd.R k64 64 w' b0 (fun k_ => w.heap.size ≤ k_) (.slice ap ag.length aq) ag) ∧ Aside0 (Kd.R k61 61 w' b0 ok0 (.slice A1 ah.length c1) ah) ∧ Aside0 (Kd.S k66t 66 w' b0 (fun k_ => w.heap.size ≤ k_) (.slice aQ al.length aC) cur) ∧ Aside0 (w'.heap[aW]? = some (.cells #[.slice aY aG.length aZ, .slice ba aH.length bb, .slice bc aI.length bd] 26 (0, 0))) ∧ Aside0 (w'.heap[af]? = some (.cells #[.slice none 0 0, .slice none 0 0, .slice none 0 0] 26 (0, 0))) ∧ Aside0 (w'.heap[aj]? = some (.cells #[.slice ap ag.length aq, .slice A1 ah.length c1, .slice aQ al.length aC] 26 (0, 0))) ∧ Aside0 (Below w.heap.size w w'))
 case atStart => exact ⟨(0), al, rfl, H', ⟨rfl⟩, ⟨Nat.le_refl _⟩, ⟨Kd.R_mono (Kd.R_far (p := ⟨aj, 2, none⟩) (Kd.R_far (p := ⟨aj, 1, none⟩) (Kd.R_far (p := ⟨aj, 0, none⟩) (Kd.R_types aU.out aM.out (by decide)) (fun _ hk => hk.2) (.slice ap ag.length aq)) (fun _ hk => hk.2) (.slice A1 ah.length c1)) (fun _ hk => hk.2) (.slice aQ al.length aC)) (fun _ hk => hk.1)⟩, ⟨Kd.R_mono (Kd.R_far (p := ⟨aj, 2, none⟩) (Kd.R_far (p := ⟨aj, 1, none⟩) (Kd.R_far (p := ⟨aj, 0, none⟩) (Kd.R_types aX.out aM.out (by decide)) (fun _ hk => hk.2) (.slice ap ag.length aq)) (fun _ hk => hk.2) (.slice A1 ah.length c1)) (fun _ hk => hk.2) (.slice aQ al.length aC)) (fun _ hk => hk.1)⟩, ⟨Kd.S_mono (Kd.S_far (p := ⟨aj, 2, none⟩) (Kd.S_far (p := ⟨aj, 1, none⟩) (Kd.S_far (p := ⟨aj, 0, none⟩) (Kd.S_types aV.out aM.out (by decide)) (fun _ hk => hk.2) (.slice ap ag.length aq)) (fun _ hk => hk.2) (.slice A1 ah.length c1)) (fun _ hk => hk.2) (.slice aQ al.length aC)) (fun _ hk => hk.1)⟩, ⟨(blk_far (blk_far (blk_far ai.out an.out _) an.out _) an.out _)⟩, ⟨(blk_far (blk_far (blk_far aA.out ak.out _) ak.out _) ak.out _)⟩, ⟨(blk_put (cs := #[.slice ap ag.length aq, .slice A1 ah.length c1, .slice none 0 0]) (blk_put (cs := #[.slice ap ag.length aq, .slice none 0 0, .slice none 0 0]) (blk_put (cs := #[.slice none 0 0, .slice none 0 0, .slice none 0 0]) aM.out 0 _ rfl) 1 _ rfl) 2 _ rfl)⟩, ⟨by repeat (first | (with_reducible first | exact HB.out | refine below_set ?_ bC.out) | exact HB.out)⟩⟩
 case round =>
  clear H';(try clear bL bM Z8 bD bE bF bG Z14 aU aX aV ai aA aM);obtain ⟨aa, cur, rfl, HA, HCL, HK1, au, av, ar, BKC, BKR, BKO, HB⟩ := hrel
  cases gk with
  | zero => exact absurd HA.out (by simp [qia.l0])
  | succ k1 =>
   have H := HA.out;clear HA;simp only [qia.l0] at H
   by_cases c17 : aa < (al.length : Int)
   rotate_left
   ·rw [if_neg c17] at H
    have bH := decide_eq_false c17;clear c17;simp only [Option.some.injEq, Prod.mk.injEq] at H;obtain ⟨rfl, rfl, rfl⟩ := H;have bX := aK.out;have bY := aJ.out;have bZ := aN.out;have ca := ak.out;have Z37 := kz3 BKO;have Z39 := kz3 BKR;go_wp2;refine bodyPost_ret (results_cell_row rfl _ _ af 26 #[(.slice ap ag.length aq), (.slice A1 ah.length c1), (.slice aQ al.length aC)] (0, 0) _ rfl ((blk_put (cs := #[.slice ap ag.length aq, .slice A1 ah.length c1, .slice none 0 0]) (blk_put (cs := #[.slice ap ag.length aq, .slice none 0 0, .slice none 0 0]) (blk_put (cs := #[.slice none 0 0, .slice none 0 0, .slice none 0 0]) BKR.out 0 _ rfl) 1 _ rfl) 2 _ rfl)) Try.underlying26 rfl (by kernel_rfl)) rfl ?_;exact ⟨_, _, er, Kd.R_mono (Kd.R_far (p := ⟨af, 2, none⟩) (Kd.R_far (p := ⟨af, 1, none⟩) (Kd.R_far (p := ⟨af, 0, none⟩) (Kd.R_types au.out BKR.out (by decide)) (fun _ hk => hk.2) (.slice ap ag.length aq)) (fun _ hk => hk.2) (.slice A1 ah.length c1)) (fun _ hk => hk.2) (.slice aQ al.length aC)) (fun _ hk => hk.1), Kd.R_mono (Kd.R_far (p := ⟨af, 2, none⟩) (Kd.R_far (p := ⟨af, 1, none⟩) (Kd.R_far (p := ⟨af, 0, none⟩) (Kd.R_types av.out BKR.out (by decide)) (fun _ hk => hk.2) (.slice ap ag.length aq)) (fun _ hk => hk.2) (.slice A1 ah.length c1)) (fun _ hk => hk.2) (.slice aQ al.length aC)) (fun _ hk => hk.1), Kd.S_mono (Kd.S_far (p := ⟨af, 2, none⟩) (Kd.S_far (p := ⟨af, 1, none⟩) (Kd.S_far (p := ⟨af, 0, none⟩) (Kd.S_types ar.out BKR.out (by decide)) (fun _ hk => hk.2) (.slice ap ag.length aq)) (fun _ hk => hk.2) (.slice A1 ah.length c1)) (fun _ hk => hk.2) (.slice aQ al.length aC)) (fun _ hk => hk.1), by repeat (first | (with_reducible first | exact HB.out | refine below_set ?_ bB.out) | exact HB.out)⟩
   rw [if_pos c17] at H;have bH := decide_eq_true c17
   by_cases c18 : 0 ≤ aa
   rotate_left
   ·rw [if_neg c18] at H
    exact absurd H (by simp)
   rw [if_pos c18] at H;have cb := decide_eq_true c18
   have c19 : aa < (cur.length : Int) := by rw [HCL.out]; exact c17
   rw [if_pos c19] at H;have HP := Aside0.mk c18;have HQ := Aside0.mk c17;have H433 := Aside0.mk c19;clear c17 c18 c19;have H' := Aside0.mk H;clear H;obtain ⟨aw, ax, ay, aE, az, bP, aD, ao, bh, hi444_0, bi, hi444_1⟩ := at_T66 (k66t_C (Kd.S_reads' ar.out).2.2) aa HP.out H433.out;cases bP;clear bh hi444_0 bi hi444_1;have ce := eq_true HP.out;have cf := eq_true HQ.out;have HXC := Aside0.mk ao;have HLT_ := Aside0.mk (World.block_lt_of_cell? wr _ ao);go_wp2_with (first | ((with_reducible refine qea (N := 9) rfl ?_); refine box_event ?hg (N := 9) ?hd (cs := #[.slice none 0 0, .slice none 0 0]) (t := 66) ?hr ?_; (case hd => rfl); (case hg => rfl); (case hr => first | (go_simp; done) | (go_simp; rfl)); intro ad hg w20 hbox hb; have n0_ := Aside0.mk (Kd.R_below au.out hb); have n2_ := Aside0.mk (Kd.R_below av.out hb); have n4_ := Aside0.mk (Kd.S_below (Kd.S_elderB ar.out ad (Nat.le_of_eq hg.symm)) hb); have n7_ := Aside0.mk (blk_below (g := aW) (o := .cells #[.slice aY aG.length aZ, .slice ba aH.length bb, .slice bc aI.length bd] 26 (0, 0)) BKC.out hb); have n8_ := Aside0.mk (blk_below (g := af) (o := .cells #[.slice none 0 0, .slice none 0 0, .slice none 0 0] 26 (0, 0)) BKR.out hb); have n9_ := Aside0.mk (blk_below (g := aj) (o := .cells #[.slice ap ag.length aq, .slice A1 ah.length c1, .slice (some aw) al.length aC] 26 (0, 0)) BKO.out hb); have n10_ := Aside0.mk ((hb.cell (World.block_lt_of_cell? _ _ HXC.out)).trans HXC.out); have n11_ := Aside0.mk (below_step HB.out hb); have n12_ := Aside0.mk (show (⟨(aw.add (aa.toNat * 2)).block, (aw.add (aa.toNat * 2)).off + 1, none⟩ : Addr).block ≠ ad from by rw [hg]; exact Nat.ne_of_lt HLT_.out); have g0_ := Aside0.mk ((by rw [hg]; exact below_size HB.out) : w.heap.size ≤ ad); have g1_ := Aside0.mk ((by rw [hg]; exact Nat.ne_of_lt (blk_lt BKC.out)) : aW ≠ ad); have g2_ := Aside0.mk ((by rw [hg]; exact Nat.ne_of_lt (blk_lt BKR.out)) : af ≠ ad); have g3_ := Aside0.mk ((by rw [hg]; exact Nat.ne_of_lt (blk_lt BKO.out)) : aj ≠ ad); have b0_ := Aside0.mk hbox; replace aD := (hb.cell (World.block_lt_of_cell? _ _ aD)).trans aD; replace ao := (hb.cell (World.block_lt_of_cell? _ _ ao)).trans ao; clear au av ar BKC BKR BKO HXC HB; have au := n0_; have av := n2_; have ar := n4_; have BKC := n7_; have BKR := n8_; have BKO := n9_; have HXC := n10_; have HB := n11_; have HXN := n12_; have bI := g0_; have NBC := g1_; have NBR := g2_; have NBO := g3_; have ae := b0_; clear n0_ n2_ n4_ n7_ n8_ n9_ n10_ n11_ n12_ g0_ g1_ g2_ g3_ b0_ hg hbox hb; have bp : w20.cell? ⟨ad, 0, none⟩ = some (.slice none 0 0) := kk ae 0; have bq := blk_frozen ae.out 0; have br : w20.cell? ⟨ad, 1, none⟩ = some (.slice none 0 0) := kk ae 1; have bt := blk_frozen ae.out 1));go_loopg [25] k1 (fun kq v25 w' => ∃ (ab : Int) (cur2 : List (S66)), v25 = .int .i64 ab ∧ Aside0 (qia.l1 kq l2 (al.length : Int) aa (((rd_T66 cur aa).f1).length : Int) ab ag ah cur2 = some (r1, r2, r3)) ∧ Aside0 (cur2.length = al.length) ∧ Aside0 (((rd_T66 cur2 aa).f1).length = ((rd_T66 cur aa).f1).length) ∧ Aside0 (kq ≤ k1) ∧ Aside0 (Kd.R k64 64 w' b0 (fun k_ => w.heap.size ≤ k_) (.slice ap ag.length aq) ag) ∧ Aside0 (Kd.R k61 61 w' b0 ok0 (.slice A1 ah.length c1) ah) ∧ Aside0 (Kd.S k66t 66 w' b0 (fun k_ => w.heap.size ≤ k_ ∧ k_ ≠ ad) (.slice (some aw) al.length aC) cur2) ∧ Aside0 (w'.heap[aW]? = some (.cells #[.slice aY aG.length aZ, .slice ba aH.length bb, .slice bc aI.length bd] 26 (0, 0))) ∧ Aside0 (w'.heap[af]? = some (.cells #[.slice none 0 0, .slice none 0 0, .slice none 0 0] 26 (0, 0))) ∧ Aside0 (w'.heap[aj]? = some (.cells #[.slice ap ag.length aq, .slice A1 ah.length c1, .slice (some aw) al.length aC] 26 (0, 0))) ∧ Aside0 (w'.heap[ad]? = some (.cells #[(.slice ax ((rd_T66 cur aa).f0).length ay), (.slice aE ((rd_T66 cur aa).f1).length az)] 66 (0, 0))) ∧ Aside0 (w'.cell? ⟨(aw.add (aa.toNat * 2)).block, (aw.add (aa.toNat * 2)).off + 1, none⟩ = some (.slice aE ((rd_T66 cur aa).f1).length az)) ∧ Aside0 (Below w.heap.size w w'))
   case atStart => exact ⟨(0), cur, rfl, H', HCL, ⟨rfl⟩, ⟨Nat.le_refl _⟩, ⟨Kd.R_mono (Kd.R_far (p := ⟨ad, 1, none⟩) (Kd.R_far (p := ⟨ad, 0, none⟩) (Kd.R_types au.out ae.out (by decide)) (fun _ hk => hk.2) (.slice ax ((rd_T66 cur aa).f0).length ay)) (fun _ hk => hk.2) (.slice aE ((rd_T66 cur aa).f1).length az)) (fun _ hk => hk.1)⟩, ⟨Kd.R_mono (Kd.R_far (p := ⟨ad, 1, none⟩) (Kd.R_far (p := ⟨ad, 0, none⟩) (Kd.R_types av.out ae.out (by decide)) (fun _ hk => hk.2) (.slice ax ((rd_T66 cur aa).f0).length ay)) (fun _ hk => hk.2) (.slice aE ((rd_T66 cur aa).f1).length az)) (fun _ hk => hk.1)⟩, ⟨Kd.S_mono (Kd.S_far (p := ⟨ad, 1, none⟩) (Kd.S_far (p := ⟨ad, 0, none⟩) (Kd.S_mono ar.out (fun k_ hk => (⟨hk, hk.2⟩ : _ ∧ k_ ≠ ad))) (fun _ hk => hk.2) (.slice ax ((rd_T66 cur aa).f0).length ay)) (fun _ hk => hk.2) (.slice aE ((rd_T66 cur aa).f1).length az)) (fun _ hk => hk.1)⟩, ⟨blk_far (blk_far BKC.out NBC.out _) NBC.out _⟩, ⟨blk_far (blk_far BKR.out NBR.out _) NBR.out _⟩, ⟨blk_far (blk_far BKO.out NBO.out _) NBO.out _⟩, ⟨blk_put (cs := #[.slice ax ((rd_T66 cur aa).f0).length ay, .slice none 0 0]) (blk_put (cs := #[.slice none 0 0, .slice none 0 0]) ae.out 0 _ rfl) 1 _ rfl⟩, ⟨cell_far2 HXC.out HXN.out⟩, ⟨by repeat (first | (with_reducible first | exact HB.out | refine below_set ?_ bI.out) | exact HB.out)⟩⟩
   case round =>
    clear H';(try clear aD ao);(try clear bp br bq bt);(try clear au av ar BKC BKR BKO ae HXC HB);obtain ⟨ab, cur2, rfl, HA, HCL2, HGL, HK2, au, av, ar, BKC, BKR, BKO, ae, HXC, HB⟩ := hrel
    cases gk with
    | zero => exact absurd HA.out (by simp [qia.l1])
    | succ k2 =>
     have H := HA.out;clear HA;simp only [qia.l1] at H
     by_cases c25 : ab < (((rd_T66 cur aa).f1).length : Int)
     rotate_left
     ·rw [if_neg c25] at H
      have bJ := decide_eq_false c25;clear c25;have H' := Aside0.mk H;clear H;go_wp2;go_roundg k2
      case measure => have := HK1.out; have := HK2.out; omega
      case rel => exact ⟨(wrap64 (aa + 1)), cur2, et, H', HCL2, ⟨by have := HK1.out; have := HK2.out; omega⟩, au, av, ⟨Kd.S_mono ar.out (fun _ hk => hk.1)⟩, BKC, BKR, BKO, HB⟩
     rw [if_pos c25] at H;have bJ := decide_eq_true c25
     by_cases c26 : 0 ≤ ab
     rotate_left
     ·rw [if_neg c26] at H
      exact absurd H (by simp)
     rw [if_pos c26] at H
     have c27 : ab < (((rd_T66 cur2 aa).f1).length : Int) := by rw [HGL.out]; exact c25
     rw [if_pos c27] at H;have HP3 := Aside0.mk c26;have H443 := Aside0.mk c27;have cg := eq_true c26;have ch := eq_true c25;clear c25 c26 c27
     by_cases c28 : 0 ≤ (rd ((rd_T66 cur2 aa).f1) ab)
     rotate_left
     ·rw [if_neg c28] at H
      exact absurd H (by simp)
     rw [if_pos c28] at H
     by_cases c29 : (rd ((rd_T66 cur2 aa).f1) ab) < (l2.length : Int)
     rotate_left
     ·rw [if_neg c29] at H
      exact absurd H (by simp)
     rw [if_pos c29] at H;have HP5 := Aside0.mk c28;have HQ5 := Aside0.mk c29;have ci := eq_true c28;have cj := eq_true c29;clear c28 c29;have H' := Aside0.mk H;clear H;obtain ⟨bg, bQ, hn446, hx446, hf446, hb446, hlt446, hok446, hce446, hpt446⟩ := exits_put ar.out aa HP.out HQ.out HXC.out ab HP3.out H443.out;cases bQ;clear hn446 hf446 hb446 hlt446 hok446 hce446 hpt446;(try go_wp2);clear hx446;have n0_ := Aside0.mk (Kd.R_drew au.out);have n2_ := Aside0.mk (Kd.R_drew av.out);have n4_ := Aside0.mk (Kd.S_drew ar.out);have n5_ := Aside0.mk (blk_drew BKC.out);have n6_ := Aside0.mk (blk_drew BKR.out);have n7_ := Aside0.mk (blk_drew BKO.out);have n8_ := Aside0.mk (blk_drew ae.out);have n10_ : Aside0 (wr.drew.cell? ⟨(aw.add (aa.toNat * 2)).block, (aw.add (aa.toNat * 2)).off + 1, none⟩ = _) := Aside0.mk HXC.out;have n11_ := Aside0.mk (below_drew1 HB.out);clear au av ar BKC BKR BKO ae HXC HB; have au := n0_; have av := n2_; have ar := n4_; have BKC := n5_; have BKR := n6_; have BKO := n7_; have ae := n8_; have HXC := n10_; have HB := n11_; clear n0_ n2_ n4_ n5_ n6_ n7_ n8_ n10_ n11_;obtain ⟨bK, bR, aT⟩ := Kd.at_int (Kd.C_below HR2.out HB.out) (rd ((rd_T66 cur2 aa).f1) ab) HP5.out HQ5.out;cases bR;refine start_ (n := 9) (S := fun w' => w'.cell? ⟨ad, 0, none⟩ = some (.slice ax ((rd_T66 cur aa).f0).length ay) ∧ w'.cell? ⟨ad, 1, none⟩ = some (.slice (some ⟨bg, 0, none⟩) ((rd_T66 cur aa).f1).length az) ∧ w'.cell? (bK.add (rd ((rd_T66 cur2 aa).f1) ab).toNat) = some (.int .i64 (rd l2 (rd ((rd_T66 cur2 aa).f1) ab)))) (ds := [8]) (bs 9 0) (by kernel_rfl) rfl rfl ⟨kk ae 0, kk ae 1, aT⟩ (fun hHeld => ?_); refine with_tabW qia.tab8 qia.bits8 (fun HT_ HW_ => ?_);generalize wr.drew = bS at au av ar BKC BKR BKO ae HXC HB aT hHeld ⊢;refine pu 0 (some 30) (bs 9 1) HT_ ?_;refine pu 2 (some 32) (bs 9 5) HT_ ?_;refine pu 3 (some 33) (bs 9 13) HT_ ?_;refine pu 4 (some 34) (bs 9 29) HT_ ?_;refine ta 1 (some 31) (bs 9 31) HT_ HW_ hHeld ?_;refine pu 5 (some 35) (bs 9 63) HT_ ?_;refine ta 6 (some 36) (bs 9 127) HT_ HW_ hHeld ?_;refine pu 7 (some 37) (bs 9 255) HT_ ?_;obtain ⟨b_, e_, hn_, hx446, hf446, hb446, hlt446, hok446, hce446, hpt446⟩ := exits_put ar.out aa HP.out HQ.out HXC.out ab HP3.out H443.out;cases e_;have HPT := Aside0.mk hpt446;have HCE := Aside0.mk hce446;have HOK := Aside0.mk hok446;clear hpt446 hce446 hok446 hb446 hn_;refine last_ (i := 8) (N := none) (bs 9 511) rfl rfl (one_of HT_.out (by kernel_rfl)) (by decide) (fun K hK => ?_);refine skip_ (w1 := ?_) (by rfl) rfl ?_ ?_
     rotate_left
     ·go_simp
      rfl
     refine hK.out _ _ ?_;clear hK K hx446 hf446;refine done_ (done_of HT_.out (by kernel_rfl)) ?_;obtain ⟨cb_, hcb_⟩ := HCE.out;have n0_ := Aside0.mk (Kd.R_set au.out hcb_ (by decide) ab.toNat (.int .i64 (rd l2 (rd ((rd_T66 cur2 aa).f1) ab))));have n2_ := Aside0.mk (Kd.R_set av.out hcb_ (by decide) ab.toNat (.int .i64 (rd l2 (rd ((rd_T66 cur2 aa).f1) ab))));have n4_ := Aside0.mk (HPT.out (rd l2 (rd ((rd_T66 cur2 aa).f1) ab))).1;have n5_ := Aside0.mk (blk_far (p := ⟨bg, ab.toNat, none⟩) BKC.out (blk_ne3 hcb_ BKC.out (by decide)) (.int .i64 (rd l2 (rd ((rd_T66 cur2 aa).f1) ab))));have n6_ := Aside0.mk (blk_far (p := ⟨bg, ab.toNat, none⟩) BKR.out (blk_ne3 hcb_ BKR.out (by decide)) (.int .i64 (rd l2 (rd ((rd_T66 cur2 aa).f1) ab))));have n7_ := Aside0.mk (blk_far (p := ⟨bg, ab.toNat, none⟩) BKO.out (blk_ne3 hcb_ BKO.out (by decide)) (.int .i64 (rd l2 (rd ((rd_T66 cur2 aa).f1) ab))));have n8_ := Aside0.mk (blk_far (p := ⟨bg, ab.toNat, none⟩) ae.out (blk_ne3 hcb_ ae.out (by decide)) (.int .i64 (rd l2 (rd ((rd_T66 cur2 aa).f1) ab))));have n10_ := Aside0.mk (HPT.out (rd l2 (rd ((rd_T66 cur2 aa).f1) ab))).2;have n11_ := Aside0.mk (below_set (j := ab.toNat) (v := .int .i64 (rd l2 (rd ((rd_T66 cur2 aa).f1) ab))) HB.out HOK.out.1);clear hcb_ cb_ au av ar BKC BKR BKO ae HXC HB HPT HCE HOK hHeld aT;generalize (bS.setCell ⟨bg, ab.toNat, none⟩ (.int .i64 (rd l2 (rd ((rd_T66 cur2 aa).f1) ab)))) = ck at n0_ n2_ n4_ n5_ n6_ n7_ n8_ n10_ n11_ ⊢;(try go_wp2);go_roundg k2
     case measure => have := HK1.out; have := HK2.out; omega
     case rel => exact ⟨(wrap64 (ab + 1)), _, et, H', ⟨by rw [List.length_set]; exact HCL2.out⟩, ⟨by rw [exits_len _ _ _ _ HP.out (by rw [HCL2.out]; exact HQ.out), List.length_set]; exact HGL.out⟩, ⟨by have := HK1.out; have := HK2.out; omega⟩, n0_, n2_, n4_, n5_, n6_, n7_, n8_, n10_, n11_⟩
theorem qia.callsN (k : Nat) (ae : Option Addr) (af : Nat) (aa : List (S64)) (ag : Option Addr) (ah : Nat) (ab : List (S61)) (ai : Option Addr) (aj : Nat) (ad : List (S66)) (A1 : Option Addr) (c1 : Nat) (l1 : List (S61)) (A2 : Option Addr) (c2 : Nat) (l2 : List Int) (r1 : List (S64)) (r2 : List (S61)) (r3 : List (S66)) (w : World) (ak : Kd.C k64 w ae aa.length aa) (al : aa.length ≤ af) (an : Kd.C k61 w ag ab.length ab) (ao : ab.length ≤ ah) (ap : Kd.C k66 w ai ad.length ad) (aq : ad.length ≤ aj) {b0 : Nat} (hr1 : Kd.R k61 61 w b0 (fun _ => True) (.slice A1 l1.length c1) l1) (hb0 : b0 ≤ w.heap.size) (hr2 : Kd.C (Kd.int .i64) w A2 l2.length l2) (hc2 : l2.length ≤ c2) (h : qia.f k aa ab ad l1 l2 = some (r1, r2, r3)) :
  Calls Try.prog 50 #[.agg #[.slice ae aa.length af, .slice ag ab.length ah, .slice ai ad.length aj], .slice A1 l1.length c1, .slice A2 l2.length c2] w fun e w' => ∃ v0_ v1_ v2_ : Value, e = .returned (.agg #[v0_, v1_, v2_]) ∧ Kd.R k64 64 w' b0 (fun _ => True) v0_ r1 ∧ Kd.R k61 61 w' b0 (fun _ => True) v1_ r2 ∧ Kd.S k66 66 w' b0 (fun _ => True) v2_ r3 ∧ Below w.heap.size w w' :=
 (qia.calls k ae af aa ag ah ab ai aj ad A1 c1 l1 A2 c2 l2 r1 r2 r3 w ak al an ao ap aq hr1 hb0 hr2 hc2 h).mono fun e w' ⟨v0, v2, he, h0, h1, h2, h3⟩ => ⟨v0, _, v2, he, Kd.R_mono h0 (fun _ _ => trivial), h1, k66t_S (Kd.S_mono h2 (fun _ _ => trivial)), h3⟩
mutual
def qfa.l0 : Nat → List (S61) → List Int → List (S61) → Int → Int → List (S64) → List (S61) → List (S66) → Option ((List (S64)) × (List (S61)) × (List (S66)))
 | 0, _, _, _, _, _, _, _, _ => none
 | k + 1, x3, x4, x9, x10, x11, aa, ab, ad => if x11 < x10 then (if 0 ≤ x11 then (if x11 < (x9.length : Int) then ((qwa.f ((rd_T61 x9 x11).f0) ((rd_T61 x9 x11).f1) ((rd_T61 x9 x11).f2) ((rd_T61 x9 x11).f3) x4).bind fun ai => (qfa.l1 k x3 x4 0 x9 x10 x11 aa ab ad ai.1 ai.2.1 ai.2.2.1 ai.2.2.2)) else (none)) else (none)) else ((qia.f k aa ab ad x3 x4).bind fun aj => (some (aj.1, aj.2.1, aj.2.2)))
def qfa.l1 : Nat → List (S61) → List Int → Int → List (S61) → Int → Int → List (S64) → List (S61) → List (S66) → Int → Int → Int → Int → Option ((List (S64)) × (List (S61)) × (List (S66)))
 | 0, _, _, _, _, _, _, _, _, _, _, _, _, _ => none
 | k + 1, x3, x4, x7, x9, x10, x11, aa, ab, ad, ae, af, ag, ah => if x7 < (x3.length : Int) then (if 0 ≤ x7 then ((qxa.f ((rd_T61 x3 x7).f0) ((rd_T61 x3 x7).f1) ((rd_T61 x3 x7).f2) ((rd_T61 x3 x7).f3) ae af ag ah).bind fun ak => (if ak = true then (if x7 = (x3.length : Int) then (if x3.length < 4398046511104 then (if x4.length < 17592186044416 then (qfa.l0 k (x3 ++ [(⟨ae, af, ag, ah⟩ : S61)]) (x4 ++ [x7]) x9 x10 (wrap64 (x11 + 1)) aa ab ad) else (none)) else (none)) else (if x4.length < 17592186044416 then (qfa.l0 k x3 (x4 ++ [x7]) x9 x10 (wrap64 (x11 + 1)) aa ab ad) else (none))) else (qfa.l1 k x3 x4 (wrap64 (x7 + 1)) x9 x10 x11 aa ab ad ae af ag ah))) else (none)) else (if x7 = (x3.length : Int) then (if x3.length < 4398046511104 then (if x4.length < 17592186044416 then (qfa.l0 k (x3 ++ [(⟨ae, af, ag, ah⟩ : S61)]) (x4 ++ [x7]) x9 x10 (wrap64 (x11 + 1)) aa ab ad) else (none)) else (none)) else (if x4.length < 17592186044416 then (qfa.l0 k x3 (x4 ++ [x7]) x9 x10 (wrap64 (x11 + 1)) aa ab ad) else (none)))
end
def qfa.f (k : Nat) (ab : List (S64)) (aa : List (S61)) (ad : List (S66)) : Option ((List (S64)) × (List (S61)) × (List (S66))) := qfa.l0 k ([] : List (S61)) ([] : List Int) aa (aa.length : Int) 0 ab aa ad
def qfa.T8 : Bool × List (List Nat × List Nat) := (true, [([], []), ([], []), ([1], [1]), ([0, 2], [0, 2]), ([3], [3]), ([4], [4]), ([4], [4]), ([5, 6, 4], [4, 5, 6]), ([7, 4], [4, 7]), ([4], [4]), ([8, 9, 4, 4], [4, 8, 9]), ([10, 4], [4, 10]), ([4, 11], [4, 11])])
def qfa.B8 : List Nat := [0, 0, 2, 7, 15, 31, 31, 127, 255, 31, 1023, 2047, 4095]
theorem qfa.tab8 : rtab .any (opsOf Try.f21 8) = qfa.T8 := by kernel_rfl
theorem qfa.bits8 : waitsOk qfa.T8.2 qfa.B8 = true := by kernel_rfl
theorem qfa.calls (k : Nat) (ba : Option Addr) (bb : Nat) (ay : List (S64)) (bi : Option Addr) (bc : Nat) (ai : List (S61)) (bd : Option Addr) (bf : Nat) (az : List (S66)) (r1 : List (S64)) (r2 : List (S61)) (r3 : List (S66)) (w : World) (bz : Kd.C k64 w ba ay.length ay) (bA : ay.length ≤ bb) (bB : Kd.C k61 w bi ai.length ai) (bC : ai.length ≤ bc) (bD : Kd.C k66 w bd az.length az) (bE : az.length ≤ bf) (h : qfa.f k ay ai az = some (r1, r2, r3)) :
  Calls Try.prog 21 #[.agg #[.slice ba ay.length bb, .slice bi ai.length bc, .slice bd az.length bf]] w fun e w' => ∃ v0_ v1_ v2_ : Value, e = .returned (.agg #[v0_, v1_, v2_]) ∧ Kd.R k64 64 w' w.heap.size (fun _ => True) v0_ r1 ∧ Kd.R k61 61 w' w.heap.size (fun _ => True) v1_ r2 ∧ Kd.S k66 66 w' w.heap.size (fun _ => True) v2_ r3 ∧ Below w.heap.size w w' := by
 have hu26 := Try.underlying26;have hu61 := Try.underlying61;have bM := Aside0.mk bz;have bN := Aside0.mk bA;clear bz bA;have bF := Aside0.mk bB;have bO := Aside0.mk bC;clear bB bC;have bP := Aside0.mk bD;have bQ := Aside0.mk bE;clear bD bE;have HB := Aside0.mk (Below.refl w.heap.size w);have H : (qfa.l0 k ([] : List (S61)) ([] : List Int) ai (ai.length : Int) 0 ay ai az) = some (r1, r2, r3) := h;clear h;have H' := Aside0.mk H;clear H;go_enter Try.func21, Try.ntmps21;go_wp2_with (first | ((with_reducible refine qea (N := 1) rfl ?_); refine box_event ?hg (N := 1) ?hd (cs := #[.slice ba ay.length bb, .slice bi ai.length bc, .slice bd az.length bf]) (t := 26) ?hr ?_; (case hd => rfl); (case hg => rfl); (case hr => first | (go_simp; done) | (go_simp; rfl)); intro bG hg w2 hbox hb; have ad := am hbox; have cR := kG HB hg; have cS := kG HB hg; replace HB := kH HB hb; clear hb hbox hg) | ((with_reducible refine qea (N := 2) rfl ?_); refine box_event ?hg (N := 2) ?hd (cs := #[.slice none 0 0, .slice none 0 0, .slice none 0 0]) (t := 26) ?hr ?_; (case hd => rfl); (case hg => rfl); (case hr => first | (go_simp; done) | (go_simp; rfl)); intro aA hg w3 hbox hb; have ae := am hbox; have cT := kG HB hg; have cU := kG HB hg; replace HB := kH HB hb; have aQ := kP ad hg; have aT := kQ ad hg; replace ad := kU ad hb; clear hb hbox hg; have dm := aQ.out; have dn := aT.out; have Z5 := kz3 ad));go_loopg [3, 4, 11] k (fun kq v3 v4 v11 w' => ∃ (ag : List (S61)) (an : List Int) (aj : Int), v11 = .int .i64 aj ∧ Aside0 (qfa.l0 kq ag an ai (ai.length : Int) aj ay ai az = some (r1, r2, r3)) ∧ Aside0 (kq ≤ k) ∧ Aside0 (Kd.R k61 61 w' w.heap.size (fun _ => True) v3 ag) ∧ Aside0 (Kd.R (Kd.int .i64) 3 w' w.heap.size (fun _ => True) v4 an) ∧ Aside0 (w'.heap[bG]? = some (.cells #[(.slice ba ay.length bb), (.slice bi ai.length bc), (.slice bd az.length bf)] 26 (0, 0))) ∧ Aside0 (w'.heap[aA]? = some (.cells #[(.slice none 0 0), (.slice none 0 0), (.slice none 0 0)] 26 (0, 0))) ∧ Aside0 (Below w.heap.size w w'))
 case atStart => exact ⟨(([] : List (S61))), (([] : List Int)), (0), et, H', ⟨Nat.le_refl _⟩, ⟨by first | exact Kd.R_nil _ _ _ _ _ | exact Kd.N_nil _ _ _ _ _ | exact Kd.V_nil _ _ _ _ _ | exact Kd.Q_nil _ _ _ _ _ | exact Kd.S_nil _ _ _ _ _⟩, ⟨by first | exact Kd.R_nil _ _ _ _ _ | exact Kd.N_nil _ _ _ _ _ | exact Kd.V_nil _ _ _ _ _ | exact Kd.Q_nil _ _ _ _ _ | exact Kd.S_nil _ _ _ _ _⟩, ⟨kg ad⟩, ⟨kg ae⟩, ⟨kh HB⟩⟩
 case round =>
  clear H'; (try clear Z5);obtain ⟨ag, an, aj, rfl, HA, HK1, ah, af, ad, ae, HB⟩ := hrel
  cases gk with
  | zero => exact absurd HA.out (by simp [qfa.l0])
  | succ k1 =>
   have H := HA.out;clear HA;simp only [qfa.l0] at H
   by_cases c6 : aj < (ai.length : Int)
   rotate_left
   ·rw [if_neg c6] at H
    have bR := decide_eq_false c6;clear c6;replace H := Option.bind_eq_some_iff.mp H;obtain ⟨⟨bj, bk, bl⟩, bS, H⟩ := H;(try dsimp only at H);have A54 := Aside0.mk bS;clear bS;simp only [Option.some.injEq, Prod.mk.injEq] at H;obtain ⟨rfl, rfl, rfl⟩ := H;have cV := aQ.out;have cW := aT.out;have Z56 := kz3 ad;obtain ⟨cA, cB, cC⟩ := Kd.R_slice ah.out;subst cC;obtain ⟨cD, cE, cF⟩ := Kd.R_slice af.out;subst cF;go_wp2_with (first | ((with_reducible refine gate_callee (f := 50) rfl ?_); refine goesL_ (some 49) rfl rfl Try.func50 (by kernel_rfl) rfl #[.agg #[.slice ba ay.length bb, .slice bi ai.length bc, .slice bd az.length bf], .slice cA ag.length cB, .slice cD an.length cE] rfl (by (try simp only [qM1, qM2, qM3]); first | done | rfl) ?_; (with_reducible refine (qia.callsN (b0 := w.heap.size) k1 _ _ ay _ _ ai _ _ az _ _ ag _ _ an bj bk bl _ ?side1 ?side2 ?side3 ?side4 ?side5 ?side6 ?side7 ?side8 ?side9 ?side10 A54.out).mono ?_); (case side1 => repeat (first | exact (Kd.C_below bM.out HB.out) | (with_reducible first | refine Kd.C_alloc ?_ _ | refine Kd.C_drewN ?_ _ | refine Kd.C_drew ?_))); (case side2 => exact bN.out); (case side3 => repeat (first | exact (Kd.C_below bF.out HB.out) | (with_reducible first | refine Kd.C_alloc ?_ _ | refine Kd.C_drewN ?_ _ | refine Kd.C_drew ?_))); (case side4 => exact bO.out); (case side5 => repeat (first | exact (Kd.C_below bP.out HB.out) | (with_reducible first | refine Kd.C_alloc ?_ _ | refine Kd.C_drewN ?_ _ | refine Kd.C_drew ?_))); (case side6 => exact bQ.out); (case side7 => exact Kd.R_mono (krR ah) (fun _ _ => trivial)); (case side8 => exact (below_size (by repeat (first | exact HB.out | apply below_alloc | apply pw_below_drewN | apply below_drew1)))); (case side9 => repeat (first | exact (Kd.R_reads' af.out).2.2 | (with_reducible first | refine Kd.C_alloc ?_ _ | refine Kd.C_drewN ?_ _ | refine Kd.C_drew ?_))); (case side10 => exact (Kd.R_reads' af.out).2.1); rintro e w59 ⟨dp, dq, dr, rfl, ho0, ho1, ho2, hb⟩; refine ⟨_, rfl, ?_⟩; replace ah := kR ah hb; replace af := kR af hb; have bH := Aside0.mk (ho0); have bI := Aside0.mk (ho1); have bJ := Aside0.mk (ho2); replace ad := kU ad hb; replace ae := kU ae hb; replace HB := kH HB hb; (try clear hb); (try clear hb2); (try clear hk); (try clear hi); (try clear ho0); (try clear ho1); (try clear ho2); obtain ⟨bp, bq, cG⟩ := Kd.R_slice bH.out; subst cG; have Z61 := kz3 ae; obtain ⟨br, bt, cH⟩ := Kd.R_slice bI.out; subst cH; obtain ⟨bu, bv, cI⟩ := Kd.S_slice bJ.out; subst cI));refine bodyPost_ret (results_cell_row rfl _ _ aA 26 #[.slice bp bj.length bq, .slice br bk.length bt, .slice bu bl.length bv] (0, 0) _ rfl (kg ae) Try.underlying26 rfl (by kernel_rfl)) rfl ?_;exact ⟨_, _, _, er, by (with_reducible repeat first | apply Kd.R_alloc | apply Kd.R_drewN | apply Kd.R_drew); exact Kd.R_mono (Kd.R_far (p := ⟨aA, 2, none⟩) (Kd.R_far (p := ⟨aA, 1, none⟩) (Kd.R_far (p := ⟨aA, 0, none⟩) (Kd.R_types bH.out ae.out (by decide)) (fun _ hk => hk.2) (.slice bp bj.length bq)) (fun _ hk => hk.2) (.slice br bk.length bt)) (fun _ hk => hk.2) (.slice bu bl.length bv)) (fun _ hk => trivial), by (with_reducible repeat first | apply Kd.R_alloc | apply Kd.R_drewN | apply Kd.R_drew); exact Kd.R_mono (Kd.R_far (p := ⟨aA, 2, none⟩) (Kd.R_far (p := ⟨aA, 1, none⟩) (Kd.R_far (p := ⟨aA, 0, none⟩) (Kd.R_types bI.out ae.out (by decide)) (fun _ hk => hk.2) (.slice bp bj.length bq)) (fun _ hk => hk.2) (.slice br bk.length bt)) (fun _ hk => hk.2) (.slice bu bl.length bv)) (fun _ hk => trivial), by (with_reducible repeat first | apply Kd.S_alloc | apply Kd.S_drewN | apply Kd.S_drew); exact Kd.S_mono (Kd.S_far (p := ⟨aA, 2, none⟩) (Kd.S_far (p := ⟨aA, 1, none⟩) (Kd.S_far (p := ⟨aA, 0, none⟩) (Kd.S_types bJ.out ae.out (by decide)) (fun _ hk => hk.2) (.slice bp bj.length bq)) (fun _ hk => hk.2) (.slice br bk.length bt)) (fun _ hk => hk.2) (.slice bu bl.length bv)) (fun _ hk => trivial), kh HB⟩
   rw [if_pos c6] at H;have bR := decide_eq_true c6;clear c6
   by_cases c7 : 0 ≤ aj
   rotate_left
   ·rw [if_neg c7] at H
    exact absurd H (by simp)
   rw [if_pos c7] at H;have cJ := decide_eq_true c7;clear c7
   by_cases c8 : aj < (ai.length : Int)
   rotate_left
   ·rw [if_neg c8] at H
    exact absurd H (by simp)
   rw [if_pos c8] at H;have cK := decide_eq_true c8;clear c8;replace H := Option.bind_eq_some_iff.mp H;obtain ⟨⟨ao, ap, aq, ar⟩, A90, H⟩ := H;(try dsimp only at H);have A9 := Aside0.mk A90;clear A90;have H' := Aside0.mk H;clear H;have bw : 0 ≤ (aj : Int) := od;have bx : aj < (ai.length : Int) := od;obtain ⟨bT, cL, aH, aI, aJ, aK⟩ := at_T61 bF.out aj bw bx;cases cL;replace aH := (HB.out.cell (World.block_lt_of_cell? w _ aH)).trans aH;replace aI := (HB.out.cell (World.block_lt_of_cell? w _ aI)).trans aI;replace aJ := (HB.out.cell (World.block_lt_of_cell? w _ aJ)).trans aJ;replace aK := (HB.out.cell (World.block_lt_of_cell? w _ aK)).trans aK;replace bw := eq_true bw; replace bx := eq_true bx;go_wp2_with (first | ((with_reducible refine qea (N := 6) rfl ?_); refine box_event ?hg (N := 6) ?hd (cs := #[.int .i64 0, .int .i64 0, .int .i64 0, .int .u64 0]) (t := 61) ?hr ?_; (case hd => rfl); (case hg => rfl); (case hr => first | (go_simp; done) | (go_simp; rfl)); intro ak hg w10 hbox hb; replace ah := Aside0.mk (Kd.R_below (Kd.R_elderB (krR ah) ak (Nat.le_of_eq hg.symm)) hb); replace af := kR af hb; have aa := am hbox; have cX := kG HB hg; have cY := kG HB hg; replace HB := kH HB hb; have aC := kP ad hg; have aD := kQ ad hg; replace ad := kU ad hb; have aE := kP ae hg; have aG := kQ ae hg; replace ae := kU ae hb; clear hb hbox hg; have cZ := aD.out; have da := aC.out; have db := aG.out; have dc := aE.out; have Z13 := kz4 aa; obtain ⟨bg, bh, cM⟩ := Kd.R_slice af.out; subst cM) | ((with_reducible refine gate_callee (f := 48) rfl ?_); refine goesL_ (some 17) rfl rfl Try.func48 (by kernel_rfl) rfl #[.agg #[.int .i64 ((rd_T61 ai aj).f0), .int .i64 ((rd_T61 ai aj).f1), .int .i64 ((rd_T61 ai aj).f2), .int .u64 ((rd_T61 ai aj).f3)], .slice bg an.length bh] rfl (by (try simp only [qM1, qM2, qM3]); first | done | rfl) ?_; (with_reducible refine (qwa.calls ((rd_T61 ai aj).f0) ((rd_T61 ai aj).f1) ((rd_T61 ai aj).f2) ((rd_T61 ai aj).f3) _ _ an ao ap aq ar _ ?side1 ?side2 A9.out).mono ?_); (case side1 => exact (Kd.R_reads' (kt af aa)).2.2); (case side2 => exact (Kd.R_reads' af.out).2.1); rintro e w15 ⟨rfl, hb⟩; refine ⟨_, rfl, ?_⟩; replace ah := Aside0.mk (Kd.R_below (by (with_reducible repeat first | apply Kd.R_alloc | apply Kd.R_drewN | apply Kd.R_drew); exact (Kd.R_mono (Kd.R_far (p := ⟨ak, 3, none⟩) (Kd.R_far (p := ⟨ak, 2, none⟩) (Kd.R_far (p := ⟨ak, 1, none⟩) (Kd.R_far (p := ⟨ak, 0, none⟩) (Kd.R_mono ah.out (fun k_ hk => (⟨hk, hk.2⟩ : _ ∧ k_ ≠ ak))) (fun _ hk => hk.2) (.int .i64 ((rd_T61 ai aj).f0))) (fun _ hk => hk.2) (.int .i64 ((rd_T61 ai aj).f1))) (fun _ hk => hk.2) (.int .i64 ((rd_T61 ai aj).f2))) (fun _ hk => hk.2) (.int .u64 ((rd_T61 ai aj).f3))) (fun _ h_ => h_.1))) hb); replace af := Aside0.mk (Kd.R_below (kt af aa) hb); replace ad := kU ad hb; replace ae := kU ae hb; replace aa := kO (o' := .cells #[.int .i64 ((rd_T61 ai aj).f0), .int .i64 ((rd_T61 ai aj).f1), .int .i64 ((rd_T61 ai aj).f2), .int .u64 ((rd_T61 ai aj).f3)] 61 (0, 0)) aa hb; replace HB := kH HB hb; (try clear hb); (try clear hb2); (try clear hk); (try clear hi); have Z16 := kz4 aa));go_loopg [7] k1 (fun kq v7 w' => ∃ (ab : Int), v7 = .int .i64 ab ∧ Aside0 (qfa.l1 kq ag an ab ai (ai.length : Int) aj ay ai az ao ap aq ar = some (r1, r2, r3)) ∧ Aside0 (kq ≤ k1) ∧ Aside0 (Kd.R k61 61 w' w.heap.size (fun k_ => k_ ≠ ak) u3 ag) ∧ Aside0 (Kd.R (Kd.int .i64) 3 w' w.heap.size (fun _ => True) (.slice bg an.length bh) an) ∧ Aside0 (w'.heap[bG]? = some (.cells #[(.slice ba ay.length bb), (.slice (some bT) ai.length bc), (.slice bd az.length bf)] 26 (0, 0))) ∧ Aside0 (w'.heap[aA]? = some (.cells #[(.slice none 0 0), (.slice none 0 0), (.slice none 0 0)] 26 (0, 0))) ∧ Aside0 (w'.heap[ak]? = some (.cells #[.int .i64 ao, .int .i64 ap, .int .i64 aq, .int .u64 ar] 61 (0, 0))) ∧ Aside0 (Below w.heap.size w w'))
   case atStart => exact ⟨(0), et, H', ⟨Nat.le_refl _⟩, ⟨by (with_reducible repeat first | apply Kd.R_alloc | apply Kd.R_drewN | apply Kd.R_drew); exact Kd.R_mono (Kd.R_far (p := ⟨ak, 3, none⟩) (Kd.R_far (p := ⟨ak, 2, none⟩) (Kd.R_far (p := ⟨ak, 1, none⟩) (Kd.R_far (p := ⟨ak, 0, none⟩) (Kd.R_mono ah.out (fun k_ hk => (⟨hk, hk.2⟩ : _ ∧ k_ ≠ ak))) (fun _ hk => hk.2) (.int .i64 ao)) (fun _ hk => hk.2) (.int .i64 ap)) (fun _ hk => hk.2) (.int .i64 aq)) (fun _ hk => hk.2) (.int .u64 ar)) (fun _ hk => hk.1.2)⟩, ⟨by (with_reducible repeat first | apply Kd.R_alloc | apply Kd.R_drewN | apply Kd.R_drew); exact Kd.R_mono (Kd.R_far (p := ⟨ak, 3, none⟩) (Kd.R_far (p := ⟨ak, 2, none⟩) (Kd.R_far (p := ⟨ak, 1, none⟩) (Kd.R_far (p := ⟨ak, 0, none⟩) (Kd.R_types af.out aa.out (by decide)) (fun _ hk => hk.2) (.int .i64 ao)) (fun _ hk => hk.2) (.int .i64 ap)) (fun _ hk => hk.2) (.int .i64 aq)) (fun _ hk => hk.2) (.int .u64 ar)) (fun _ hk => trivial)⟩, ⟨kg ad⟩, ⟨kg ae⟩, ⟨kg aa⟩, ⟨kh HB⟩⟩
   case round =>
    clear H';(try clear bR cJ cK Z13 Z16 aH aI aJ aK bw bx);obtain ⟨ab, rfl, HA, HK2, ah, af, ad, ae, aa, HB⟩ := hrel
    cases gk with
    | zero => exact absurd HA.out (by simp [qfa.l1])
    | succ k2 =>
     have H := HA.out;clear HA;simp only [qfa.l1] at H
     by_cases c17 : ab < (ag.length : Int)
     rotate_left
     ·rw [if_neg c17] at H
      have bU := decide_eq_false c17;clear c17
      by_cases c40 : ab = (ag.length : Int)
      rotate_left
      ·rw [if_neg c40] at H
       have bV := beq_eq_false_iff_ne.mpr c40;have bW := bne_iff_ne.mpr c40
       by_cases c50 : an.length < 17592186044416
       rotate_left
       ·rw [if_neg c50] at H
        exact absurd H (by simp)
       rw [if_pos c50] at H;have bX := Aside0.mk c50;clear c50;obtain ⟨bY, aU⟩ : ∃ y_ : List Int, y_ = (an ++ [ab]) := ⟨_, rfl⟩
       replace H : (qfa.l0 k2 ag bY ai (ai.length : Int) (wrap64 (aj + 1)) ay ai az) = some (r1, r2, r3) := by first | (rw [aU]; with_reducible exact H) | (have H2_ := (Option.bind_some _ _).symm.trans H; rw [aU]; with_reducible exact H2_) | (have H2_ := (Option.bind_some _ _).symm.trans H; with_reducible exact H2_) | with_reducible exact H | (rw [aU]; exact H) | exact H
       have bZ := Aside0.mk aU;clear aU;have H' := Aside0.mk H;clear H;(try go_wp2);replace ah := kFR ah; replace af := kFR af; replace ad := kD ad; replace ae := kD ae; replace aa := kD aa; replace HB := kE HB;obtain ⟨dt, du, ca⟩ := Kd.R_slice ah.out;(first | subst ca | (injection ca with f1_ f2_ f3_; have f4_ := f1_.symm; have f5_ := f3_.symm; clear f1_ f2_ f3_; subst f4_; subst f5_));refine start_ (n := 13) (S := fun w' => True) (ds := []) (bs 13 0) (by kernel_rfl) rfl rfl trivial (fun hHeld => ?_); refine with_tabW qfa.tab8 qfa.bits8 (fun HT_ HW_ => ?_);generalize wr.drew = w51 at ah af ad ae aa HB hHeld ⊢;refine pu 0 (some 18) (bs 13 1) HT_ ?_;refine pu 1 (some 19) (bs 13 3) HT_ ?_;refine pu 2 (some 20) (bs 13 7) HT_ ?_;refine pu 3 (some 21) (bs 13 15) HT_ ?_;refine pu 4 (some 22) (bs 13 31) HT_ ?_;refine pure_ (i := 5) (N := some 23) (v := undef) (a' := ?_) (bs 13 63) rfl rfl (any_of HT_.out (by kernel_rfl)) (fun _ _ _ h => h) (Or.inr ⟨by rfl, rfl⟩) ?_ ?_
       rotate_left
       ·simp only [Act.put, qS1, qS2, qS3, i64_w, i32_w]
        rfl
       refine pure_ (i := 6) (N := some 24) (v := undef) (a' := ?_) (bs 13 127) rfl rfl (any_of HT_.out (by kernel_rfl)) (fun _ _ _ h => h) (Or.inr ⟨by rfl, rfl⟩) ?_ ?_
       rotate_left
       ·simp only [Act.put, qS1, qS2, qS3, i64_w, i32_w]
        rfl
       refine pure_ (i := 7) (N := some 25) (v := undef) (a' := ?_) (bs 13 255) rfl rfl (any_of HT_.out (by kernel_rfl)) (fun _ _ _ h => h) (Or.inr ⟨by rfl, rfl⟩) ?_ ?_
       rotate_left
       ·simp only [Act.put, qS1, qS2, qS3, i64_w, i32_w]
        rfl
       refine pure_ (i := 8) (N := some 26) (v := undef) (a' := ?_) (bs 13 511) rfl rfl (any_of HT_.out (by kernel_rfl)) (fun _ _ _ h => h) (Or.inr ⟨by rfl, rfl⟩) ?_ ?_
       rotate_left
       ·simp only [Act.put, qS1, qS2, qS3, i64_w, i32_w]
        rfl
       refine pure_ (i := 9) (N := some 27) (v := undef) (a' := ?_) (bs 13 1023) rfl rfl (any_of HT_.out (by kernel_rfl)) (fun _ _ _ h => h) (Or.inr ⟨by rfl, rfl⟩) ?_ ?_
       rotate_left
       ·simp only [Act.put, qS1, qS2, qS3, i64_w, i32_w]
        rfl
       refine pure_ (i := 10) (N := some 28) (v := undef) (a' := ?_) (bs 13 2047) rfl rfl (any_of HT_.out (by kernel_rfl)) (fun _ _ _ h => h) (Or.inr ⟨by rfl, rfl⟩) ?_ ?_
       rotate_left
       ·simp only [Act.put, qS1, qS2, qS3, i64_w, i32_w]
        rfl
       refine pure_ (i := 11) (N := some 29) (v := undef) (a' := ?_) (bs 13 4095) rfl rfl (any_of HT_.out (by kernel_rfl)) (fun _ _ _ h => h) (Or.inr ⟨by rfl, rfl⟩) ?_ ?_
       rotate_left
       ·simp only [Act.put, qS1, qS2, qS3, i64_w, i32_w]
        rfl
       refine pu 12 (some 30) (bs 13 8191) HT_ ?_;refine done_ (done_of HT_.out (by kernel_rfl)) ?_;(try go_wp2_with (first | ((with_reducible refine gate_builtin (b := .append) (xs := #[.tmp 41, .tmp 43]) rfl ?_); at_builtin; refine Kd.R_append (Kd.int .i64) (w0 := w) w.heap.size rfl (.tmp 41) (.tmp 43) 27 3 (.int .i64 0) 8 rfl Try.underlying27 info3 rfl (by decide) (by omega) (.slice bg an.length bh) an ab [.int .i64 ab] (fun _ => True) (fun _ => False) rfl rfl ?aP (fun _ hk => hk.elim) ?aF ?aO ?aB ?aS ?aL ?_; (case aP => exact rfl); (case aB => exact (kh HB)); (case aF => exact (fun _ _ => trivial)); (case aO => exact (krR af)); (case aS => exact (below_size (kh HB))); (case aL => have := bX.out; omega); intro dv w53 ho hb hg hat; rw [← bZ.out] at ho; replace ah := Aside0.mk (Kd.R_over' (krR ah) (Kd.R_typed (krR af)) (by decide) hg); replace ad := kXR ad af hg; replace ae := kXR ae af hg; replace aa := kXR aa af hg; replace HB := Aside0.mk (hb); have cb := Aside0.mk (ho); clear af; clear ho hb hg hat)));go_roundg k2
       case measure => have := HK1.out; have := HK2.out; omega
       case rel => exact ⟨(ag), (bY), (wrap64 (aj + 1)), et, H', ⟨by have := HK1.out; have := HK2.out; omega⟩, ⟨by (with_reducible repeat first | apply Kd.R_alloc | apply Kd.R_drewN | apply Kd.R_drew); exact Kd.R_mono ah.out (fun _ hk => trivial)⟩, ⟨krR cb⟩, ⟨kg ad⟩, ⟨kg ae⟩, ⟨kh HB⟩⟩
      rw [if_pos c40] at H;have bV := beq_iff_eq.mpr c40;have bW := bne_eq_false_iff_eq.mpr c40;clear c40
      by_cases c41 : ag.length < 4398046511104
      rotate_left
      ·rw [if_neg c41] at H
       exact absurd H (by simp)
      rw [if_pos c41] at H;have cc := Aside0.mk c41;clear c41;obtain ⟨bK, aV⟩ : ∃ y_ : List (S61), y_ = (ag ++ [(⟨ao, ap, aq, ar⟩ : S61)]) := ⟨_, rfl⟩
      replace H : (if an.length < 17592186044416 then (qfa.l0 k2 bK (an ++ [ab]) ai (ai.length : Int) (wrap64 (aj + 1)) ay ai az) else (none)) = some (r1, r2, r3) := by first | (rw [aV]; with_reducible exact H) | (have H2_ := (Option.bind_some _ _).symm.trans H; rw [aV]; with_reducible exact H2_) | (have H2_ := (Option.bind_some _ _).symm.trans H; with_reducible exact H2_) | with_reducible exact H | (rw [aV]; exact H) | exact H
      have cd := Aside0.mk aV;clear aV
      by_cases c42 : an.length < 17592186044416
      rotate_left
      ·rw [if_neg c42] at H
       exact absurd H (by simp)
      rw [if_pos c42] at H;have ce := Aside0.mk c42;clear c42;obtain ⟨cf, aW⟩ : ∃ y_ : List Int, y_ = (an ++ [ab]) := ⟨_, rfl⟩
      replace H : (qfa.l0 k2 bK cf ai (ai.length : Int) (wrap64 (aj + 1)) ay ai az) = some (r1, r2, r3) := by first | (rw [aW]; with_reducible exact H) | (have H2_ := (Option.bind_some _ _).symm.trans H; rw [aW]; with_reducible exact H2_) | (have H2_ := (Option.bind_some _ _).symm.trans H; with_reducible exact H2_) | with_reducible exact H | (rw [aW]; exact H) | exact H
      have cg := Aside0.mk aW;clear aW;have H' := Aside0.mk H;clear H;(try go_wp2);replace ah := kFR ah; replace af := kFR af; replace ad := kD ad; replace ae := kD ae; replace aa := kD aa; replace HB := kE HB;obtain ⟨cN, cO, ch⟩ := Kd.R_slice ah.out;(first | subst ch | (injection ch with f1_ f2_ f3_; have f4_ := f1_.symm; have f5_ := f3_.symm; clear f1_ f2_ f3_; subst f4_; subst f5_));refine start_ (n := 13) (S := fun w' => True) (ds := []) (bs 13 0) (by kernel_rfl) rfl rfl trivial (fun hHeld => ?_); refine with_tabW qfa.tab8 qfa.bits8 (fun HT_ HW_ => ?_);generalize wr.drew = w43 at ah af ad ae aa HB hHeld ⊢;refine pu 0 (some 18) (bs 13 1) HT_ ?_;refine pu 1 (some 19) (bs 13 3) HT_ ?_;refine pu 2 (some 20) (bs 13 7) HT_ ?_;refine pu 3 (some 21) (bs 13 15) HT_ ?_;refine pu 4 (some 22) (bs 13 31) HT_ ?_;refine pure_ (i := 5) (N := some 23) (v := undef) (a' := ?_) (bs 13 63) rfl rfl (any_of HT_.out (by kernel_rfl)) (fun _ _ _ h => h) (Or.inr ⟨by rfl, rfl⟩) ?_ ?_
      rotate_left
      ·simp only [Act.put, qS1, qS2, qS3, i64_w, i32_w]
       rfl
      refine pure_ (i := 6) (N := some 24) (v := undef) (a' := ?_) (bs 13 127) rfl rfl (any_of HT_.out (by kernel_rfl)) (fun _ _ _ h => h) (Or.inr ⟨by rfl, rfl⟩) ?_ ?_
      rotate_left
      ·simp only [Act.put, qS1, qS2, qS3, i64_w, i32_w]
       rfl
      refine pure_ (i := 7) (N := some 25) (v := undef) (a' := ?_) (bs 13 255) rfl rfl (any_of HT_.out (by kernel_rfl)) (fun _ _ _ h => h) (Or.inr ⟨by rfl, rfl⟩) ?_ ?_
      rotate_left
      ·simp only [Act.put, qS1, qS2, qS3, i64_w, i32_w]
       rfl
      refine pure_ (i := 8) (N := some 26) (v := undef) (a' := ?_) (bs 13 511) rfl rfl (any_of HT_.out (by kernel_rfl)) (fun _ _ _ h => h) (Or.inr ⟨by rfl, rfl⟩) ?_ ?_
      rotate_left
      ·simp only [Act.put, qS1, qS2, qS3, i64_w, i32_w]
       rfl
      refine pure_ (i := 9) (N := some 27) (v := undef) (a' := ?_) (bs 13 1023) rfl rfl (any_of HT_.out (by kernel_rfl)) (fun _ _ _ h => h) (Or.inr ⟨by rfl, rfl⟩) ?_ ?_
      rotate_left
      ·simp only [Act.put, qS1, qS2, qS3, i64_w, i32_w]
       rfl
      refine pure_ (i := 10) (N := some 28) (v := undef) (a' := ?_) (bs 13 2047) rfl rfl (any_of HT_.out (by kernel_rfl)) (fun _ _ _ h => h) (Or.inr ⟨by rfl, rfl⟩) ?_ ?_
      rotate_left
      ·simp only [Act.put, qS1, qS2, qS3, i64_w, i32_w]
       rfl
      refine pure_ (i := 11) (N := some 29) (v := undef) (a' := ?_) (bs 13 4095) rfl rfl (any_of HT_.out (by kernel_rfl)) (fun _ _ _ h => h) (Or.inr ⟨by rfl, rfl⟩) ?_ ?_
      rotate_left
      ·simp only [Act.put, qS1, qS2, qS3, i64_w, i32_w]
       rfl
      refine pu 12 (some 30) (bs 13 8191) HT_ ?_;refine done_ (done_of HT_.out (by kernel_rfl)) ?_;have dd := aD.out;have de := aC.out;have df := aG.out;have dg := aE.out;have Z47 := kz4 aa;(try go_wp2_with (first | ((with_reducible refine gate_builtin (b := .append) (xs := #[.tmp 37, .tmp 39]) rfl ?_); at_builtin; refine Kd.R_append k61 (w0 := w) w.heap.size rfl (.tmp 37) (.tmp 39) 23 61 (.agg #[(.int .i64 0), (.int .i64 0), (.int .i64 0), (.int .u64 0)]) 32 rfl Try.underlying23 info61 rfl (by decide) (by omega) (.slice cN ag.length cO) ag (⟨ao, ap, aq, ar⟩ : S61) [.int .i64 ao, .int .i64 ap, .int .i64 aq, .int .u64 ar] (fun k_ => k_ ≠ ak) (fun _ => False) rfl rfl ?aP (fun _ hk => hk.elim) ?aF ?aO ?aB ?aS ?aL ?_; (case aP => exact k61_mkM _ _ _ (⟨ao, ap, aq, ar⟩ : S61)); (case aB => exact (kh HB)); (case aF => exact (fun k_ hk => Kd.freshB (g := ak) (o := .cells #[.int .i64 ao, .int .i64 ap, .int .i64 aq, .int .u64 ar] 61 (0, 0)) (kb aa) k_ hk)); (case aO => exact (krR ah)); (case aS => exact (below_size (kh HB))); (case aL => have := cc.out; omega); intro dw w48 ho hb hg hat; rw [← cd.out] at ho; replace af := Aside0.mk (Kd.R_over' (krR af) (Kd.R_typed (krR ah)) (by decide) hg); replace ad := kXR ad ah hg; replace ae := kXR ae ah hg; replace aa := Aside0.mk (blk_grown (g := ak) (o := .cells #[.int .i64 ao, .int .i64 ap, .int .i64 aq, .int .u64 ar] 61 (0, 0)) (kb aa) hg (Kd.R_away ah.out (fun _ hk => hk))); replace HB := Aside0.mk (hb); have bm := Aside0.mk (ho); clear ah; clear ho hb hg hat) | ((with_reducible refine gate_builtin (b := .append) (xs := #[.tmp 41, .tmp 43]) rfl ?_); at_builtin; refine Kd.R_append (Kd.int .i64) (w0 := w) w.heap.size rfl (.tmp 41) (.tmp 43) 27 3 (.int .i64 0) 8 rfl Try.underlying27 info3 rfl (by decide) (by omega) (.slice bg an.length bh) an ab [.int .i64 ab] (fun _ => True) (fun _ => False) rfl rfl ?aP (fun _ hk => hk.elim) ?aF ?aO ?aB ?aS ?aL ?_; (case aP => exact rfl); (case aB => exact (kh HB)); (case aF => exact (fun _ _ => trivial)); (case aO => exact (krR af)); (case aS => exact (below_size (kh HB))); (case aL => have := ce.out; omega); intro dx w49 ho hb hg hat; rw [← cg.out] at ho; replace ad := kXR ad af hg; replace ae := kXR ae af hg; replace aa := kXR aa af hg; replace bm := Aside0.mk (Kd.R_over' (krR bm) (Kd.R_typed (krR af)) (by decide) hg); replace HB := Aside0.mk (hb); have ci := Aside0.mk (ho); clear af; clear ho hb hg hat)));go_roundg k2
      case measure => have := HK1.out; have := HK2.out; omega
      case rel => exact ⟨(bK), (cf), (wrap64 (aj + 1)), et, H', ⟨by have := HK1.out; have := HK2.out; omega⟩, ⟨by (with_reducible repeat first | apply Kd.R_alloc | apply Kd.R_drewN | apply Kd.R_drew); exact Kd.R_mono bm.out (fun _ hk => trivial)⟩, ⟨krR ci⟩, ⟨kg ad⟩, ⟨kg ae⟩, ⟨kh HB⟩⟩
     rw [if_pos c17] at H;have bU := decide_eq_true c17;clear c17
     by_cases c18 : 0 ≤ ab
     rotate_left
     ·rw [if_neg c18] at H
      exact absurd H (by simp)
     rw [if_pos c18] at H;have dh := decide_eq_true c18;clear c18;replace H := Option.bind_eq_some_iff.mp H;obtain ⟨cP, cj, H⟩ := H;(try dsimp only at H);have A19 := Aside0.mk cj;clear cj
     by_cases c20 : cP = true
     rotate_left
     ·replace c20 := Bool.eq_false_iff.mpr c20
      subst c20;replace H := ifF H;have H' := Aside0.mk H;clear H;(try go_wp2);replace ah := kFR ah; replace af := kFR af; replace ad := kD ad; replace ae := kD ae; replace aa := kD aa; replace HB := kE HB;obtain ⟨dy, dz, ck⟩ := Kd.R_slice ah.out;(first | subst ck | (injection ck with f1_ f2_ f3_; have f4_ := f1_.symm; have f5_ := f3_.symm; clear f1_ f2_ f3_; subst f4_; subst f5_));have aM : 0 ≤ (ab : Int) := od;have aN : ab < (ag.length : Int) := od;obtain ⟨al, bn, au, av, aw, ax⟩ := at_T61 (Kd.R_reads' ah.out).2.2 ab aM aN;cases bn;replace aM := eq_true aM; replace aN := eq_true aN;refine start_ (n := 13) (S := fun w' => w'.cell? ⟨ak, 0, none⟩ = some (.int .i64 ao) ∧ w'.cell? ⟨ak, 1, none⟩ = some (.int .i64 ap) ∧ w'.cell? ⟨ak, 2, none⟩ = some (.int .i64 aq) ∧ w'.cell? ⟨ak, 3, none⟩ = some (.int .u64 ar) ∧ w'.cell? (al.add ((ab).toNat * 4)) = some (.int .i64 ((rd_T61 ag ab).f0)) ∧ w'.cell? ⟨(al.add ((ab).toNat * 4)).block, (al.add ((ab).toNat * 4)).off + 1, none⟩ = some (.int .i64 ((rd_T61 ag ab).f1)) ∧ w'.cell? ⟨(al.add ((ab).toNat * 4)).block, (al.add ((ab).toNat * 4)).off + 2, none⟩ = some (.int .i64 ((rd_T61 ag ab).f2)) ∧ w'.cell? ⟨(al.add ((ab).toNat * 4)).block, (al.add ((ab).toNat * 4)).off + 3, none⟩ = some (.int .u64 ((rd_T61 ag ab).f3))) (ds := []) (bs 13 0) (by kernel_rfl) rfl rfl ⟨kk aa 0, kk aa 1, kk aa 2, kk aa 3, au, av, aw, ax⟩ (fun hHeld => ?_); refine with_tabW qfa.tab8 qfa.bits8 (fun HT_ HW_ => ?_);generalize wr.drew = w37 at ah af ad ae aa HB au av aw ax hHeld ⊢;refine pu 0 (some 18) (bs 13 1) HT_ ?_;refine pu 1 (some 19) (bs 13 3) HT_ ?_;refine pu 2 (some 20) (bs 13 7) HT_ ?_;refine pu 3 (some 21) (bs 13 15) HT_ ?_;refine pu 4 (some 22) (bs 13 31) HT_ ?_;refine pu 5 (some 23) (bs 13 63) HT_ ?_;refine pu 6 (some 24) (bs 13 127) HT_ ?_;refine pu 7 (some 25) (bs 13 255) HT_ ?_;refine ta 8 (some 26) (bs 13 511) HT_ HW_ hHeld ?_;refine ta 9 (some 27) (bs 13 1023) HT_ HW_ hHeld ?_;refine one_ (i := 10) (N := some 28) (bs 13 2047) rfl rfl (one_of HT_.out (by kernel_rfl)) (by decide) (fun K hK => ?_);refine goes_ Try.func49 (by kernel_rfl) rfl #[.agg #[.int .i64 ((rd_T61 ag ab).f0), .int .i64 ((rd_T61 ag ab).f1), .int .i64 ((rd_T61 ag ab).f2), .int .u64 ((rd_T61 ag ab).f3)], .agg #[.int .i64 ao, .int .i64 ap, .int .i64 aq, .int .u64 ar]] (by rfl) rfl rfl (by (try simp only [qM1, qM2, qM3]); first | done | rfl) ?_;(with_reducible refine (qxa.calls ((rd_T61 ag ab).f0) ((rd_T61 ag ab).f1) ((rd_T61 ag ab).f2) ((rd_T61 ag ab).f3) ao ap aq ar false _ A19.out).mono ?_);rintro e w39 ⟨rfl, hb⟩;have HS4_ := (hb.cell (World.block_lt_of_cell? _ _ (hHeld.2.2.2.2.1))).trans (hHeld.2.2.2.2.1);have HS5_ := (hb.cell (World.block_lt_of_cell? _ _ (hHeld.2.2.2.2.2.1))).trans (hHeld.2.2.2.2.2.1);have HS6_ := (hb.cell (World.block_lt_of_cell? _ _ (hHeld.2.2.2.2.2.2.1))).trans (hHeld.2.2.2.2.2.2.1);have HS7_ := (hb.cell (World.block_lt_of_cell? _ _ (hHeld.2.2.2.2.2.2.2))).trans (hHeld.2.2.2.2.2.2.2);refine ⟨_, rfl, ?_⟩;replace ah := kR ah hb; replace af := kR af hb; replace ad := kU ad hb; replace ae := kU ae hb; replace aa := kU aa hb; replace HB := kH HB hb;(try clear hb);refine hK.out _ _ ⟨kk aa 0, kk aa 1, kk aa 2, kk aa 3, HS4_, HS5_, HS6_, HS7_⟩ (fun hHeld => ?_);clear hK K;refine no (some 28) ?_;refine pu 11 (some 29) (bs 13 4095) HT_ ?_;refine pu 12 (some 30) (bs 13 8191) HT_ ?_;refine done_ (done_of HT_.out (by kernel_rfl)) ?_;(try go_wp2);go_roundg k2
      case measure => have := HK1.out; have := HK2.out; omega
      case rel => exact ⟨(wrap64 (ab + 1)), et, H', ⟨by have := HK1.out; have := HK2.out; omega⟩, ⟨krR ah⟩, ⟨krR af⟩, ⟨kg ad⟩, ⟨kg ae⟩, ⟨kg aa⟩, ⟨kh HB⟩⟩
     subst c20;replace H := ifT H
     by_cases c21 : ab = (ag.length : Int)
     rotate_left
     ·rw [if_neg c21] at H
      have cl := beq_eq_false_iff_ne.mpr c21;have cm := bne_iff_ne.mpr c21
      by_cases c32 : an.length < 17592186044416
      rotate_left
      ·rw [if_neg c32] at H
       exact absurd H (by simp)
      rw [if_pos c32] at H;have cn := Aside0.mk c32;clear c32;obtain ⟨co, aX⟩ : ∃ y_ : List Int, y_ = (an ++ [ab]) := ⟨_, rfl⟩
      replace H : (qfa.l0 k2 ag co ai (ai.length : Int) (wrap64 (aj + 1)) ay ai az) = some (r1, r2, r3) := by first | (rw [aX]; with_reducible exact H) | (have H2_ := (Option.bind_some _ _).symm.trans H; rw [aX]; with_reducible exact H2_) | (have H2_ := (Option.bind_some _ _).symm.trans H; with_reducible exact H2_) | with_reducible exact H | (rw [aX]; exact H) | exact H
      have cp := Aside0.mk aX;clear aX;have H' := Aside0.mk H;clear H;(try go_wp2);replace ah := kFR ah; replace af := kFR af; replace ad := kD ad; replace ae := kD ae; replace aa := kD aa; replace HB := kE HB;obtain ⟨dA, dB, cq⟩ := Kd.R_slice ah.out;(first | subst cq | (injection cq with f1_ f2_ f3_; have f4_ := f1_.symm; have f5_ := f3_.symm; clear f1_ f2_ f3_; subst f4_; subst f5_));have aM : 0 ≤ (ab : Int) := od;have aN : ab < (ag.length : Int) := od;obtain ⟨al, bn, au, av, aw, ax⟩ := at_T61 (Kd.R_reads' ah.out).2.2 ab aM aN;cases bn;replace aM := eq_true aM; replace aN := eq_true aN;refine start_ (n := 13) (S := fun w' => w'.cell? ⟨ak, 0, none⟩ = some (.int .i64 ao) ∧ w'.cell? ⟨ak, 1, none⟩ = some (.int .i64 ap) ∧ w'.cell? ⟨ak, 2, none⟩ = some (.int .i64 aq) ∧ w'.cell? ⟨ak, 3, none⟩ = some (.int .u64 ar) ∧ w'.cell? (al.add ((ab).toNat * 4)) = some (.int .i64 ((rd_T61 ag ab).f0)) ∧ w'.cell? ⟨(al.add ((ab).toNat * 4)).block, (al.add ((ab).toNat * 4)).off + 1, none⟩ = some (.int .i64 ((rd_T61 ag ab).f1)) ∧ w'.cell? ⟨(al.add ((ab).toNat * 4)).block, (al.add ((ab).toNat * 4)).off + 2, none⟩ = some (.int .i64 ((rd_T61 ag ab).f2)) ∧ w'.cell? ⟨(al.add ((ab).toNat * 4)).block, (al.add ((ab).toNat * 4)).off + 3, none⟩ = some (.int .u64 ((rd_T61 ag ab).f3))) (ds := []) (bs 13 0) (by kernel_rfl) rfl rfl ⟨kk aa 0, kk aa 1, kk aa 2, kk aa 3, au, av, aw, ax⟩ (fun hHeld => ?_); refine with_tabW qfa.tab8 qfa.bits8 (fun HT_ HW_ => ?_);generalize wr.drew = w33 at ah af ad ae aa HB au av aw ax hHeld ⊢;refine pu 0 (some 18) (bs 13 1) HT_ ?_;refine pu 1 (some 19) (bs 13 3) HT_ ?_;refine pu 2 (some 20) (bs 13 7) HT_ ?_;refine pu 3 (some 21) (bs 13 15) HT_ ?_;refine pu 4 (some 22) (bs 13 31) HT_ ?_;refine pu 5 (some 23) (bs 13 63) HT_ ?_;refine pu 6 (some 24) (bs 13 127) HT_ ?_;refine pu 7 (some 25) (bs 13 255) HT_ ?_;refine ta 8 (some 26) (bs 13 511) HT_ HW_ hHeld ?_;refine ta 9 (some 27) (bs 13 1023) HT_ HW_ hHeld ?_;refine one_ (i := 10) (N := some 28) (bs 13 2047) rfl rfl (one_of HT_.out (by kernel_rfl)) (by decide) (fun K hK => ?_);refine goes_ Try.func49 (by kernel_rfl) rfl #[.agg #[.int .i64 ((rd_T61 ag ab).f0), .int .i64 ((rd_T61 ag ab).f1), .int .i64 ((rd_T61 ag ab).f2), .int .u64 ((rd_T61 ag ab).f3)], .agg #[.int .i64 ao, .int .i64 ap, .int .i64 aq, .int .u64 ar]] (by rfl) rfl rfl (by (try simp only [qM1, qM2, qM3]); first | done | rfl) ?_;(with_reducible refine (qxa.calls ((rd_T61 ag ab).f0) ((rd_T61 ag ab).f1) ((rd_T61 ag ab).f2) ((rd_T61 ag ab).f3) ao ap aq ar true _ A19.out).mono ?_);rintro e w35 ⟨rfl, hb⟩;have HS4_ := (hb.cell (World.block_lt_of_cell? _ _ (hHeld.2.2.2.2.1))).trans (hHeld.2.2.2.2.1);have HS5_ := (hb.cell (World.block_lt_of_cell? _ _ (hHeld.2.2.2.2.2.1))).trans (hHeld.2.2.2.2.2.1);have HS6_ := (hb.cell (World.block_lt_of_cell? _ _ (hHeld.2.2.2.2.2.2.1))).trans (hHeld.2.2.2.2.2.2.1);have HS7_ := (hb.cell (World.block_lt_of_cell? _ _ (hHeld.2.2.2.2.2.2.2))).trans (hHeld.2.2.2.2.2.2.2);refine ⟨_, rfl, ?_⟩;replace ah := kR ah hb; replace af := kR af hb; replace ad := kU ad hb; replace ae := kU ae hb; replace aa := kU aa hb; replace HB := kH HB hb;(try clear hb);refine hK.out _ _ ⟨kk aa 0, kk aa 1, kk aa 2, kk aa 3, HS4_, HS5_, HS6_, HS7_⟩ (fun hHeld => ?_);clear hK K;refine no (some 28) ?_;refine pu 11 (some 29) (bs 13 4095) HT_ ?_;refine pu 12 (some 30) (bs 13 8191) HT_ ?_;refine done_ (done_of HT_.out (by kernel_rfl)) ?_;(try go_wp2_with (first | ((with_reducible refine gate_builtin (b := .append) (xs := #[.tmp 41, .tmp 43]) rfl ?_); at_builtin; refine Kd.R_append (Kd.int .i64) (w0 := w) w.heap.size rfl (.tmp 41) (.tmp 43) 27 3 (.int .i64 0) 8 rfl Try.underlying27 info3 rfl (by decide) (by omega) (.slice bg an.length bh) an ab [.int .i64 ab] (fun _ => True) (fun _ => False) rfl rfl ?aP (fun _ hk => hk.elim) ?aF ?aO ?aB ?aS ?aL ?_; (case aP => exact rfl); (case aB => exact (kh HB)); (case aF => exact (fun _ _ => trivial)); (case aO => exact (krR af)); (case aS => exact (below_size (kh HB))); (case aL => have := cn.out; omega); intro dC w36 ho hb hg hat; rw [← cp.out] at ho; replace ah := Aside0.mk (Kd.R_over' (krR ah) (Kd.R_typed (krR af)) (by decide) hg); replace ad := kXR ad af hg; replace ae := kXR ae af hg; replace aa := kXR aa af hg; replace HB := Aside0.mk (hb); have cr := Aside0.mk (ho); clear af; clear ho hb hg hat)));go_roundg k2
      case measure => have := HK1.out; have := HK2.out; omega
      case rel => exact ⟨(ag), (co), (wrap64 (aj + 1)), et, H', ⟨by have := HK1.out; have := HK2.out; omega⟩, ⟨by (with_reducible repeat first | apply Kd.R_alloc | apply Kd.R_drewN | apply Kd.R_drew); exact Kd.R_mono ah.out (fun _ hk => trivial)⟩, ⟨krR cr⟩, ⟨kg ad⟩, ⟨kg ae⟩, ⟨kh HB⟩⟩
     rw [if_pos c21] at H;have cl := beq_iff_eq.mpr c21;have cm := bne_eq_false_iff_eq.mpr c21;clear c21
     by_cases c22 : ag.length < 4398046511104
     rotate_left
     ·rw [if_neg c22] at H
      exact absurd H (by simp)
     rw [if_pos c22] at H;have ct := Aside0.mk c22;clear c22;obtain ⟨bL, aY⟩ : ∃ y_ : List (S61), y_ = (ag ++ [(⟨ao, ap, aq, ar⟩ : S61)]) := ⟨_, rfl⟩
     replace H : (if an.length < 17592186044416 then (qfa.l0 k2 bL (an ++ [ab]) ai (ai.length : Int) (wrap64 (aj + 1)) ay ai az) else (none)) = some (r1, r2, r3) := by first | (rw [aY]; with_reducible exact H) | (have H2_ := (Option.bind_some _ _).symm.trans H; rw [aY]; with_reducible exact H2_) | (have H2_ := (Option.bind_some _ _).symm.trans H; with_reducible exact H2_) | with_reducible exact H | (rw [aY]; exact H) | exact H
     have cu := Aside0.mk aY;clear aY
     by_cases c23 : an.length < 17592186044416
     rotate_left
     ·rw [if_neg c23] at H
      exact absurd H (by simp)
     rw [if_pos c23] at H;have cv := Aside0.mk c23;clear c23;obtain ⟨cw, aZ⟩ : ∃ y_ : List Int, y_ = (an ++ [ab]) := ⟨_, rfl⟩
     replace H : (qfa.l0 k2 bL cw ai (ai.length : Int) (wrap64 (aj + 1)) ay ai az) = some (r1, r2, r3) := by first | (rw [aZ]; with_reducible exact H) | (have H2_ := (Option.bind_some _ _).symm.trans H; rw [aZ]; with_reducible exact H2_) | (have H2_ := (Option.bind_some _ _).symm.trans H; with_reducible exact H2_) | with_reducible exact H | (rw [aZ]; exact H) | exact H
     have cx := Aside0.mk aZ;clear aZ;have H' := Aside0.mk H;clear H;(try go_wp2);replace ah := kFR ah; replace af := kFR af; replace ad := kD ad; replace ae := kD ae; replace aa := kD aa; replace HB := kE HB;obtain ⟨dD, cQ, cy⟩ := Kd.R_slice ah.out;(first | subst cy | (injection cy with f1_ f2_ f3_; have f4_ := f1_.symm; have f5_ := f3_.symm; clear f1_ f2_ f3_; subst f4_; subst f5_));have aM : 0 ≤ (ab : Int) := od;have aN : ab < (ag.length : Int) := od;obtain ⟨al, bn, au, av, aw, ax⟩ := at_T61 (Kd.R_reads' ah.out).2.2 ab aM aN;cases bn;replace aM := eq_true aM; replace aN := eq_true aN;refine start_ (n := 13) (S := fun w' => w'.cell? ⟨ak, 0, none⟩ = some (.int .i64 ao) ∧ w'.cell? ⟨ak, 1, none⟩ = some (.int .i64 ap) ∧ w'.cell? ⟨ak, 2, none⟩ = some (.int .i64 aq) ∧ w'.cell? ⟨ak, 3, none⟩ = some (.int .u64 ar) ∧ w'.cell? (al.add ((ab).toNat * 4)) = some (.int .i64 ((rd_T61 ag ab).f0)) ∧ w'.cell? ⟨(al.add ((ab).toNat * 4)).block, (al.add ((ab).toNat * 4)).off + 1, none⟩ = some (.int .i64 ((rd_T61 ag ab).f1)) ∧ w'.cell? ⟨(al.add ((ab).toNat * 4)).block, (al.add ((ab).toNat * 4)).off + 2, none⟩ = some (.int .i64 ((rd_T61 ag ab).f2)) ∧ w'.cell? ⟨(al.add ((ab).toNat * 4)).block, (al.add ((ab).toNat * 4)).off + 3, none⟩ = some (.int .u64 ((rd_T61 ag ab).f3))) (ds := []) (bs 13 0) (by kernel_rfl) rfl rfl ⟨kk aa 0, kk aa 1, kk aa 2, kk aa 3, au, av, aw, ax⟩ (fun hHeld => ?_); refine with_tabW qfa.tab8 qfa.bits8 (fun HT_ HW_ => ?_);generalize wr.drew = w24 at ah af ad ae aa HB au av aw ax hHeld ⊢;refine pu 0 (some 18) (bs 13 1) HT_ ?_;refine pu 1 (some 19) (bs 13 3) HT_ ?_;refine pu 2 (some 20) (bs 13 7) HT_ ?_;refine pu 3 (some 21) (bs 13 15) HT_ ?_;refine pu 4 (some 22) (bs 13 31) HT_ ?_;refine pu 5 (some 23) (bs 13 63) HT_ ?_;refine pu 6 (some 24) (bs 13 127) HT_ ?_;refine pu 7 (some 25) (bs 13 255) HT_ ?_;refine ta 8 (some 26) (bs 13 511) HT_ HW_ hHeld ?_;refine ta 9 (some 27) (bs 13 1023) HT_ HW_ hHeld ?_;refine one_ (i := 10) (N := some 28) (bs 13 2047) rfl rfl (one_of HT_.out (by kernel_rfl)) (by decide) (fun K hK => ?_);refine goes_ Try.func49 (by kernel_rfl) rfl #[.agg #[.int .i64 ((rd_T61 ag ab).f0), .int .i64 ((rd_T61 ag ab).f1), .int .i64 ((rd_T61 ag ab).f2), .int .u64 ((rd_T61 ag ab).f3)], .agg #[.int .i64 ao, .int .i64 ap, .int .i64 aq, .int .u64 ar]] (by rfl) rfl rfl (by (try simp only [qM1, qM2, qM3]); first | done | rfl) ?_;(with_reducible refine (qxa.calls ((rd_T61 ag ab).f0) ((rd_T61 ag ab).f1) ((rd_T61 ag ab).f2) ((rd_T61 ag ab).f3) ao ap aq ar true _ A19.out).mono ?_);rintro e w26 ⟨rfl, hb⟩;have HS4_ := (hb.cell (World.block_lt_of_cell? _ _ (hHeld.2.2.2.2.1))).trans (hHeld.2.2.2.2.1);have HS5_ := (hb.cell (World.block_lt_of_cell? _ _ (hHeld.2.2.2.2.2.1))).trans (hHeld.2.2.2.2.2.1);have HS6_ := (hb.cell (World.block_lt_of_cell? _ _ (hHeld.2.2.2.2.2.2.1))).trans (hHeld.2.2.2.2.2.2.1);have HS7_ := (hb.cell (World.block_lt_of_cell? _ _ (hHeld.2.2.2.2.2.2.2))).trans (hHeld.2.2.2.2.2.2.2);refine ⟨_, rfl, ?_⟩;replace ah := kR ah hb; replace af := kR af hb; replace ad := kU ad hb; replace ae := kU ae hb; replace aa := kU aa hb; replace HB := kH HB hb;(try clear hb);refine hK.out _ _ ⟨kk aa 0, kk aa 1, kk aa 2, kk aa 3, HS4_, HS5_, HS6_, HS7_⟩ (fun hHeld => ?_);clear hK K;refine no (some 28) ?_;refine pu 11 (some 29) (bs 13 4095) HT_ ?_;refine pu 12 (some 30) (bs 13 8191) HT_ ?_;refine done_ (done_of HT_.out (by kernel_rfl)) ?_;have di := aD.out;have dj := aC.out;have dk := aG.out;have dl := aE.out;have Z29 := kz4 aa;(try go_wp2_with (first | ((with_reducible refine gate_builtin (b := .append) (xs := #[.tmp 37, .tmp 39]) rfl ?_); at_builtin; refine Kd.R_append k61 (w0 := w) w.heap.size rfl (.tmp 37) (.tmp 39) 23 61 (.agg #[(.int .i64 0), (.int .i64 0), (.int .i64 0), (.int .u64 0)]) 32 rfl Try.underlying23 info61 rfl (by decide) (by omega) (.slice (some al) ag.length cQ) ag (⟨ao, ap, aq, ar⟩ : S61) [.int .i64 ao, .int .i64 ap, .int .i64 aq, .int .u64 ar] (fun k_ => k_ ≠ ak) (fun _ => False) rfl rfl ?aP (fun _ hk => hk.elim) ?aF ?aO ?aB ?aS ?aL ?_; (case aP => exact k61_mkM _ _ _ (⟨ao, ap, aq, ar⟩ : S61)); (case aB => exact (kh HB)); (case aF => exact (fun k_ hk => Kd.freshB (g := ak) (o := .cells #[.int .i64 ao, .int .i64 ap, .int .i64 aq, .int .u64 ar] 61 (0, 0)) (kb aa) k_ hk)); (case aO => exact (krR ah)); (case aS => exact (below_size (kh HB))); (case aL => have := ct.out; omega); intro dE w30 ho hb hg hat; rw [← cu.out] at ho; replace af := Aside0.mk (Kd.R_over' (krR af) (Kd.R_typed (krR ah)) (by decide) hg); replace ad := kXR ad ah hg; replace ae := kXR ae ah hg; replace aa := Aside0.mk (blk_grown (g := ak) (o := .cells #[.int .i64 ao, .int .i64 ap, .int .i64 aq, .int .u64 ar] 61 (0, 0)) (kb aa) hg (Kd.R_away ah.out (fun _ hk => hk))); replace HB := Aside0.mk (hb); have bo := Aside0.mk (ho); clear ah; clear ho hb hg hat) | ((with_reducible refine gate_builtin (b := .append) (xs := #[.tmp 41, .tmp 43]) rfl ?_); at_builtin; refine Kd.R_append (Kd.int .i64) (w0 := w) w.heap.size rfl (.tmp 41) (.tmp 43) 27 3 (.int .i64 0) 8 rfl Try.underlying27 info3 rfl (by decide) (by omega) (.slice bg an.length bh) an ab [.int .i64 ab] (fun _ => True) (fun _ => False) rfl rfl ?aP (fun _ hk => hk.elim) ?aF ?aO ?aB ?aS ?aL ?_; (case aP => exact rfl); (case aB => exact (kh HB)); (case aF => exact (fun _ _ => trivial)); (case aO => exact (krR af)); (case aS => exact (below_size (kh HB))); (case aL => have := cv.out; omega); intro dF w31 ho hb hg hat; rw [← cx.out] at ho; replace ad := kXR ad af hg; replace ae := kXR ae af hg; replace aa := kXR aa af hg; replace bo := Aside0.mk (Kd.R_over' (krR bo) (Kd.R_typed (krR af)) (by decide) hg); replace HB := Aside0.mk (hb); have cz := Aside0.mk (ho); clear af; clear ho hb hg hat)));go_roundg k2
     case measure => have := HK1.out; have := HK2.out; omega
     case rel => exact ⟨(bL), (cw), (wrap64 (aj + 1)), et, H', ⟨by have := HK1.out; have := HK2.out; omega⟩, ⟨by (with_reducible repeat first | apply Kd.R_alloc | apply Kd.R_drewN | apply Kd.R_drew); exact Kd.R_mono bo.out (fun _ hk => trivial)⟩, ⟨krR cz⟩, ⟨kg ad⟩, ⟨kg ae⟩, ⟨kh HB⟩⟩
def qma.f (k : Nat) (a0 : Int) (ad : List (S64)) (ae : List (S61)) (af : List (S66)) : Option (Bool) := (tune_Share.f k a0 ad ae af).bind fun aa => ((qga.f k a0 ad ae af).bind fun ag => (if ag = 0 then ((qfa.f k ad ae af).bind fun ab => ((qua.f k aa.1 aa.2.1 aa.2.2.1 aa.2.2.2 ab.1 ab.2.1 ab.2.2 0).bind fun ah => (if ah = true then ((qra.f k).bind fun ai => (some ai)) else (some false)))) else ((qua.f k aa.1 aa.2.1 aa.2.2.1 aa.2.2.2 ([] : List (S64)) ([] : List (S61)) ([] : List (S66)) ag).bind fun aj => (if aj = true then ((qra.f k).bind fun ak => (some ak)) else (some false)))))
def qma.T5 : Bool × List (List Nat × List Nat) := (true, [([], []), ([], []), ([], []), ([2], [2]), ([0, 1, 3, 3], [0, 1, 3]), ([4, 4], [4]), ([5, 5], [5]), ([5, 6], [5, 6]), ([7, 6, 0, 1, 2, 3, 4, 5, 6, 7], [7])])
def qma.B5 : List Nat := [0, 0, 0, 4, 15, 31, 63, 127, 255]
theorem qma.tab5 : rtab .any (opsOf Try.f5 5) = qma.T5 := by kernel_rfl
theorem qma.bits5 : waitsOk qma.T5.2 qma.B5 = true := by kernel_rfl
theorem qma.calls (k : Nat) (a0 : Int) (aq : Option Addr) (ar : Nat) (ag : List (S64)) (au : Option Addr) (av : Nat) (ah : List (S61)) (aw : Option Addr) (ax : Nat) (ai : List (S66)) (r : Bool) (w : World) (aT : Kd.C k64 w aq ag.length ag) (aU : ag.length ≤ ar) (aV : Kd.C k61 w au ah.length ah) (aW : ah.length ≤ av) (aX : Kd.C k66 w aw ai.length ai) (aY : ai.length ≤ ax) (h : qma.f k a0 ag ah ai = some r) (hrt : r = true := by rfl) :
  Calls Try.prog 5 #[.int .u64 a0, .agg #[.slice aq ag.length ar, .slice au ah.length av, .slice aw ai.length ax]] w fun e w' => e = .returned (.bool r) ∧ Below w.heap.size w w' := by
 have HRT := Aside0.mk hrt;clear hrt;have hu26 := Try.underlying26;have aC := Aside0.mk aT;have aD := Aside0.mk aU;clear aT aU;have aE := Aside0.mk aV;have aG := Aside0.mk aW;clear aV aW;have aH := Aside0.mk aX;have aI := Aside0.mk aY;clear aX aY;have HB := Aside0.mk (Below.refl w.heap.size w);have H : ((tune_Share.f k a0 ag ah ai).bind fun al => ((qga.f k a0 ag ah ai).bind fun aJ => (if aJ = 0 then ((qfa.f k ag ah ai).bind fun aQ => ((qua.f k al.1 al.2.1 al.2.2.1 al.2.2.2 aQ.1 aQ.2.1 aQ.2.2 0).bind fun aZ => (if aZ = true then ((qra.f k).bind fun ba => (some ba)) else (some false)))) else ((qua.f k al.1 al.2.1 al.2.2.1 al.2.2.2 ([] : List (S64)) ([] : List (S61)) ([] : List (S66)) aJ).bind fun bb => (if bb = true then ((qra.f k).bind fun bc => (some bc)) else (some false)))))) = some r := h;clear h;replace H := Option.bind_eq_some_iff.mp H;obtain ⟨⟨ay, az, aA, aN⟩, A30, H⟩ := H;(try dsimp only at H);have A3 := Aside0.mk A30;clear A30;replace H := Option.bind_eq_some_iff.mp H;obtain ⟨aJ, A40, H⟩ := H;(try dsimp only at H);have A4 := Aside0.mk A40;clear A40
 by_cases c5 : aJ = 0
 rotate_left
 ·rw [if_neg c5] at H
  have bE := beq_eq_false_iff_ne.mpr c5;have bF := bne_iff_ne.mpr c5;replace H := Option.bind_eq_some_iff.mp H;obtain ⟨bb, bn, H⟩ := H;(try dsimp only at H);have A28 := Aside0.mk bn;clear bn
  by_cases c29 : bb = true
  rotate_left
  ·replace c29 := Bool.eq_false_iff.mpr c29
   subst c29;replace H := ifF H;exact absurd ((Option.some.inj H).trans HRT.out) (by decide)
  subst c29;replace H := ifT H;replace H := Option.bind_eq_some_iff.mp H;obtain ⟨bc, bo, H⟩ := H;(try dsimp only at H);have A30 := Aside0.mk bo;clear bo;obtain rfl := Option.some.inj H;go_enter Try.func5, Try.ntmps5;go_wp2_with (first | ((with_reducible refine qea (N := 3) rfl ?_); refine box_event ?hg (N := 3) ?hd (cs := #[.slice aq ag.length ar, .slice au ah.length av, .slice aw ai.length ax]) (t := 26) ?hr ?_; (case hd => rfl); (case hg => rfl); (case hr => first | (go_simp; done) | (go_simp; rfl)); intro aK hg w31 hbox hb; have aa := am hbox; have bp := kG HB hg; have bq := kG HB hg; replace HB := kH HB hb; clear hb hbox hg; have Z32 := kz3 aa) | ((with_reducible refine gate_callee (f := 20) rfl ?_); refine goesL_ (some 11) rfl rfl Try.func20 (by kernel_rfl) rfl #[.int .u64 a0, .agg #[.slice aq ag.length ar, .slice au ah.length av, .slice aw ai.length ax]] rfl (by (try simp only [qM1, qM2, qM3]); first | done | rfl) ?_; (with_reducible refine (tune_Share.calls k a0 _ _ ag _ _ ah _ _ ai ay az aA aN _ ?side1 ?side2 ?side3 ?side4 ?side5 ?side6 A3.out).mono ?_); (case side1 => repeat (first | exact (Kd.C_below aC.out HB.out) | (with_reducible first | refine Kd.C_alloc ?_ _ | refine Kd.C_drewN ?_ _ | refine Kd.C_drew ?_))); (case side2 => exact aD.out); (case side3 => repeat (first | exact (Kd.C_below aE.out HB.out) | (with_reducible first | refine Kd.C_alloc ?_ _ | refine Kd.C_drewN ?_ _ | refine Kd.C_drew ?_))); (case side4 => exact aG.out); (case side5 => repeat (first | exact (Kd.C_below aH.out HB.out) | (with_reducible first | refine Kd.C_alloc ?_ _ | refine Kd.C_drewN ?_ _ | refine Kd.C_drew ?_))); (case side6 => exact aI.out); rintro e w33 ⟨bG, bH, bI, rfl, ho0, ho1, ho2, hb⟩; refine ⟨_, rfl, ?_⟩; have ad := kLR ho0 HB; have ae := kLR ho1 HB; have af := kLS ho2 HB; replace aa := kU aa hb; replace HB := kH HB hb; (try clear hb); (try clear hb2); (try clear hk); (try clear hi); (try clear ho0); (try clear ho1); (try clear ho2)) | ((with_reducible refine qea (N := 5) rfl ?_); refine box_event ?hg (N := 5) ?hd (cs := #[.slice none 0 0, .slice none 0 0, .slice none 0 0]) (t := 26) ?hr ?_; (case hd => rfl); (case hg => rfl); (case hr => first | (go_simp; done) | (go_simp; rfl)); intro aM hg w34 hbox hb; replace ad := kR ad hb; replace ae := kR ae hb; replace af := kS af hb; have ab := am hbox; have br := kG HB hg; have bt := kG HB hg; replace HB := kH HB hb; have aj := kP aa hg; have ak := kQ aa hg; replace aa := kU aa hb; clear hb hbox hg; obtain ⟨bu, bv, bJ⟩ := Kd.R_slice ad.out; subst bJ; have bV := ak.out; have bW := aj.out; have Z37 := kz3 ab; obtain ⟨bw, bx, bK⟩ := Kd.R_slice ae.out; subst bK; obtain ⟨bz, bA, bL⟩ := Kd.S_slice af.out; subst bL; have Z40 := kz3 aa) | ((with_reducible refine gate_callee (f := 17) rfl ?_); refine goesL_ (some 16) rfl rfl Try.func17 (by kernel_rfl) rfl #[.int .u64 a0, .agg #[.slice aq ag.length ar, .slice au ah.length av, .slice aw ai.length ax]] rfl (by (try simp only [qM1, qM2, qM3]); first | done | rfl) ?_; (with_reducible refine (qga.calls k a0 _ _ ag _ _ ah _ _ ai aJ _ ?side1 ?side2 ?side3 ?side4 ?side5 ?side6 A4.out).mono ?_); (case side1 => exact Kd.C_below aC.out (kh HB)); (case side2 => exact aD.out); (case side3 => exact Kd.C_below aE.out (kh HB)); (case side4 => exact aG.out); (case side5 => exact Kd.C_below aH.out (kh HB)); (case side6 => exact aI.out); rintro e w41 ⟨rfl, hb⟩; refine ⟨_, rfl, ?_⟩; replace ad := Aside0.mk (Kd.R_below (kt ad ab) hb); replace ae := Aside0.mk (Kd.R_below (kt ae ab) hb); replace af := Aside0.mk (Kd.S_below (ks af ab) hb); replace aa := kU aa hb; replace ab := kO (o' := .cells #[.slice bu ay.length bv, .slice bw az.length bx, .slice bz aA.length bA] 26 (0, 0)) ab hb; replace HB := kH HB hb; (try clear hb); (try clear hb2); (try clear hk); (try clear hi); have Z42 := kz3 ab) | ((with_reducible refine gate_callee (f := 18) rfl ?_); refine goesL_ (some 23) rfl rfl Try.func18 (by kernel_rfl) rfl #[.agg #[.slice bu ay.length bv, .slice bw az.length bx, .slice bz aA.length bA], .int .i64 aN, .agg #[.slice none 0 0, .slice none 0 0, .slice none 0 0], .int .i64 aJ] rfl (by (try simp only [qM1, qM2, qM3]); first | done | rfl) ?_; (refine (qua.calls k _ _ ay _ _ az _ _ aA aN _ _ ([] : List (S64)) _ _ ([] : List (S61)) _ _ ([] : List (S66)) aJ true _ ?side1 ?side2 ?side3 ?side4 ?side5 ?side6 ?side7 ?side8 ?side9 ?side10 ?side11 ?side12 A28.out).mono ?_); (case side1 => repeat (first | exact (Kd.R_reads' ad.out).2.2 | (with_reducible first | refine Kd.C_alloc ?_ _ | refine Kd.C_drewN ?_ _ | refine Kd.C_drew ?_))); (case side2 => exact (Kd.R_reads' ad.out).2.1); (case side3 => repeat (first | exact (Kd.R_reads' ae.out).2.2 | (with_reducible first | refine Kd.C_alloc ?_ _ | refine Kd.C_drewN ?_ _ | refine Kd.C_drew ?_))); (case side4 => exact (Kd.R_reads' ae.out).2.1); (case side5 => repeat (first | exact (Kd.S_reads' af.out).2.2 | (with_reducible first | refine Kd.C_alloc ?_ _ | refine Kd.C_drewN ?_ _ | refine Kd.C_drew ?_))); (case side6 => exact (Kd.S_reads' af.out).2.1); (case side7 => exact Kd.C_nil _ _); (case side8 => exact Nat.le_refl _); (case side9 => exact Kd.C_nil _ _); (case side10 => exact Nat.le_refl _); (case side11 => exact Kd.C_nil _ _); (case side12 => exact Nat.le_refl _); rintro e w43 ⟨rfl, hb⟩; refine ⟨_, rfl, ?_⟩; replace ad := kR ad hb; replace ae := kR ae hb; replace af := kS af hb; replace aa := kU aa hb; replace ab := kU ab hb; replace HB := kH HB hb; (try clear hb); (try clear hb2); (try clear hk); (try clear hi)) | (go_at_call 15; (with_reducible refine (qra.calls k  bc _ A30.out (by first | rfl | exact HRT.out)).mono ?_); rintro e w44 ⟨rfl, hb⟩; replace ad := kR ad hb; replace ae := kR ae hb; replace af := kS af hb; replace aa := kU aa hb; replace ab := kU ab hb; replace HB := kH HB hb; (try clear hb); (try clear hb2); (try clear hk); (try clear hi)));go_ret;exact ⟨er, kh HB⟩
 rw [if_pos c5] at H;have bE := beq_iff_eq.mpr c5;have bF := bne_eq_false_iff_eq.mpr c5;clear c5;replace H := Option.bind_eq_some_iff.mp H;obtain ⟨⟨bd, bf, bg⟩, A60, H⟩ := H;(try dsimp only at H);have A6 := Aside0.mk A60;clear A60;replace H := Option.bind_eq_some_iff.mp H;obtain ⟨aZ, A70, H⟩ := H;(try dsimp only at H);have A7 := Aside0.mk A70;clear A70
 by_cases c8 : aZ = true
 rotate_left
 ·replace c8 := Bool.eq_false_iff.mpr c8
  subst c8;replace H := ifF H;exact absurd ((Option.some.inj H).trans HRT.out) (by decide)
 subst c8;replace H := ifT H;replace H := Option.bind_eq_some_iff.mp H;obtain ⟨ba, A90, H⟩ := H;(try dsimp only at H);have A9 := Aside0.mk A90;clear A90;obtain rfl := Option.some.inj H;go_enter Try.func5, Try.ntmps5;(try go_wp2_with (first | ((with_reducible refine qea (N := 3) rfl ?_); refine box_event ?hg (N := 3) ?hd (cs := #[.slice aq ag.length ar, .slice au ah.length av, .slice aw ai.length ax]) (t := 26) ?hr ?_; (case hd => rfl); (case hg => rfl); (case hr => first | (go_simp; done) | (go_simp; rfl)); intro aK hg w10 hbox hb; have aa := am hbox; have bp := kG HB hg; have bq := kG HB hg; replace HB := kH HB hb; clear hb hbox hg; have Z11 := kz3 aa) | ((with_reducible refine gate_callee (f := 20) rfl ?_); refine goesL_ (some 11) rfl rfl Try.func20 (by kernel_rfl) rfl #[.int .u64 a0, .agg #[.slice aq ag.length ar, .slice au ah.length av, .slice aw ai.length ax]] rfl (by (try simp only [qM1, qM2, qM3]); first | done | rfl) ?_; (with_reducible refine (tune_Share.calls k a0 _ _ ag _ _ ah _ _ ai ay az aA aN _ ?side1 ?side2 ?side3 ?side4 ?side5 ?side6 A3.out).mono ?_); (case side1 => repeat (first | exact (Kd.C_below aC.out HB.out) | (with_reducible first | refine Kd.C_alloc ?_ _ | refine Kd.C_drewN ?_ _ | refine Kd.C_drew ?_))); (case side2 => exact aD.out); (case side3 => repeat (first | exact (Kd.C_below aE.out HB.out) | (with_reducible first | refine Kd.C_alloc ?_ _ | refine Kd.C_drewN ?_ _ | refine Kd.C_drew ?_))); (case side4 => exact aG.out); (case side5 => repeat (first | exact (Kd.C_below aH.out HB.out) | (with_reducible first | refine Kd.C_alloc ?_ _ | refine Kd.C_drewN ?_ _ | refine Kd.C_drew ?_))); (case side6 => exact aI.out); rintro e w12 ⟨bG, bH, bI, rfl, ho0, ho1, ho2, hb⟩; refine ⟨_, rfl, ?_⟩; have ad := kLR ho0 HB; have ae := kLR ho1 HB; have af := kLS ho2 HB; replace aa := kU aa hb; replace HB := kH HB hb; (try clear hb); (try clear hb2); (try clear hk); (try clear hi); (try clear ho0); (try clear ho1); (try clear ho2)) | ((with_reducible refine qea (N := 5) rfl ?_); refine box_event ?hg (N := 5) ?hd (cs := #[.slice none 0 0, .slice none 0 0, .slice none 0 0]) (t := 26) ?hr ?_; (case hd => rfl); (case hg => rfl); (case hr => first | (go_simp; done) | (go_simp; rfl)); intro aM hg w13 hbox hb; replace ad := kR ad hb; replace ae := kR ae hb; replace af := kS af hb; have ab := am hbox; have br := kG HB hg; have bt := kG HB hg; replace HB := kH HB hb; have aj := kP aa hg; have ak := kQ aa hg; replace aa := kU aa hb; clear hb hbox hg; obtain ⟨bh, bi, bM⟩ := Kd.R_slice ad.out; subst bM; have bX := ak.out; have bY := aj.out; have Z16 := kz3 ab; obtain ⟨bj, bk, bN⟩ := Kd.R_slice ae.out; subst bN; obtain ⟨bl, bm, bO⟩ := Kd.S_slice af.out; subst bO; have Z19 := kz3 aa) | ((with_reducible refine gate_callee (f := 17) rfl ?_); refine goesL_ (some 16) rfl rfl Try.func17 (by kernel_rfl) rfl #[.int .u64 a0, .agg #[.slice aq ag.length ar, .slice au ah.length av, .slice aw ai.length ax]] rfl (by (try simp only [qM1, qM2, qM3]); first | done | rfl) ?_; (with_reducible refine (qga.calls k a0 _ _ ag _ _ ah _ _ ai aJ _ ?side1 ?side2 ?side3 ?side4 ?side5 ?side6 A4.out).mono ?_); (case side1 => exact Kd.C_below aC.out (kh HB)); (case side2 => exact aD.out); (case side3 => exact Kd.C_below aE.out (kh HB)); (case side4 => exact aG.out); (case side5 => exact Kd.C_below aH.out (kh HB)); (case side6 => exact aI.out); rintro e w20 ⟨rfl, hb⟩; refine ⟨_, rfl, ?_⟩; replace ad := Aside0.mk (Kd.R_below (kt ad ab) hb); replace ae := Aside0.mk (Kd.R_below (kt ae ab) hb); replace af := Aside0.mk (Kd.S_below (ks af ab) hb); replace aa := kU aa hb; replace ab := kO (o' := .cells #[.slice bh ay.length bi, .slice bj az.length bk, .slice bl aA.length bm] 26 (0, 0)) ab hb; replace HB := kH HB hb; (try clear hb); (try clear hb2); (try clear hk); (try clear hi))));replace ad := kFR ad; replace ae := kFR ae; replace af := kFS af; replace aa := kD aa; replace ab := kD ab; replace HB := kE HB;refine start_ (n := 9) (S := fun w' => w'.cell? ⟨aM, 0, none⟩ = some (.slice bh ay.length bi) ∧ w'.cell? ⟨aM, 1, none⟩ = some (.slice bj az.length bk) ∧ w'.cell? ⟨aM, 2, none⟩ = some (.slice bl aA.length bm) ∧ w'.cell? ⟨aK, 0, none⟩ = some (.slice aq ag.length ar) ∧ w'.cell? ⟨aK, 1, none⟩ = some (.slice au ah.length av) ∧ w'.cell? ⟨aK, 2, none⟩ = some (.slice aw ai.length ax)) (ds := []) (bs 9 0) (by kernel_rfl) rfl rfl ⟨kk ab 0, kk ab 1, kk ab 2, kk aa 0, kk aa 1, kk aa 2⟩ (fun hHeld => ?_); refine with_tabW qma.tab5 qma.bits5 (fun HT_ HW_ => ?_);generalize w20.drew = w21 at ad ae af aa ab HB hHeld ⊢;refine pu 1 (some 28) (bs 9 2) HT_ ?_;refine ta 0 (some 27) (bs 9 3) HT_ HW_ hHeld ?_;refine ta 2 (some 29) (bs 9 7) HT_ HW_ hHeld ?_;refine one_ (i := 3) (N := some 30) (bs 9 15) rfl rfl (one_of HT_.out (by kernel_rfl)) (by decide) (fun K hK => ?_);refine goes_ Try.func21 (by kernel_rfl) rfl #[.agg #[.slice aq ag.length ar, .slice au ah.length av, .slice aw ai.length ax]] (by rfl) rfl rfl (by (try simp only [qM1, qM2, qM3]); first | done | rfl) ?_;(with_reducible refine (qfa.calls k _ _ ag _ _ ah _ _ ai bd bf bg _ ?side1 ?side2 ?side3 ?side4 ?side5 ?side6 A6.out).mono ?_);(case side1 => repeat (first | exact (Kd.C_below aC.out HB.out) | (with_reducible first | refine Kd.C_alloc ?_ _ | refine Kd.C_drewN ?_ _ | refine Kd.C_drew ?_)));(case side2 => exact aD.out);(case side3 => repeat (first | exact (Kd.C_below aE.out HB.out) | (with_reducible first | refine Kd.C_alloc ?_ _ | refine Kd.C_drewN ?_ _ | refine Kd.C_drew ?_)));(case side4 => exact aG.out);(case side5 => repeat (first | exact (Kd.C_below aH.out HB.out) | (with_reducible first | refine Kd.C_alloc ?_ _ | refine Kd.C_drewN ?_ _ | refine Kd.C_drew ?_)));(case side6 => exact aI.out);rintro e w22 ⟨bZ, ca, cb, rfl, ho0, ho1, ho2, hb⟩;refine ⟨_, rfl, ?_⟩;have an := Aside0.mk (Kd.R_lower (Kd.R_new' ho0 (Kd.R_lt (krR ad))) (below_size (kh HB))); replace ad := Aside0.mk (Kd.R_elder' (krR ad) (Kd.R_base ho0) hb); have ao := Aside0.mk (Kd.R_lower (Kd.R_new' ho1 (Kd.R_lt (krR ae))) (below_size (kh HB))); replace ae := Aside0.mk (Kd.R_elder' (krR ae) (Kd.R_base ho1) hb); have ap := Aside0.mk (Kd.S_lower (Kd.S_new' ho2 (Kd.S_lt (krS af))) (below_size (kh HB))); replace af := Aside0.mk (Kd.S_elder' (krS af) (Kd.S_base ho2) hb); replace aa := kU aa hb; replace ab := kU ab hb; replace HB := kH HB hb;(try clear hb ho0 ho1 ho2);obtain ⟨bP, bQ, bB⟩ := Kd.R_slice an.out;(first | subst bB | (injection bB with f1_ f2_ f3_; have f4_ := f1_.symm; have f5_ := f3_.symm; clear f1_ f2_ f3_; subst f4_; subst f5_));obtain ⟨bR, bS, bC⟩ := Kd.R_slice ao.out;(first | subst bC | (injection bC with f1_ f2_ f3_; have f4_ := f1_.symm; have f5_ := f3_.symm; clear f1_ f2_ f3_; subst f4_; subst f5_));obtain ⟨bT, bU, bD⟩ := Kd.S_slice ap.out;(first | subst bD | (injection bD with f1_ f2_ f3_; have f4_ := f1_.symm; have f5_ := f3_.symm; clear f1_ f2_ f3_; subst f4_; subst f5_));refine hK.out _ _ ⟨kk ab 0, kk ab 1, kk ab 2, kk aa 0, kk aa 1, kk aa 2⟩ (fun hHeld => ?_);clear hK K;refine no (some 30) ?_;refine one_ (i := 4) (N := some 31) (bs 9 31) rfl rfl (one_of HT_.out (by kernel_rfl)) (by decide) (fun K hK => ?_);refine goes_ Try.func18 (by kernel_rfl) rfl #[.agg #[.slice bh ay.length bi, .slice bj az.length bk, .slice bl aA.length bm], .int .i64 aN, .agg #[.slice bP bd.length bQ, .slice bR bf.length bS, .slice bT bg.length bU], .int .i64 0] (by rfl) rfl rfl (by (try simp only [qM1, qM2, qM3]); first | done | rfl) ?_;(with_reducible refine (qua.calls k _ _ ay _ _ az _ _ aA aN _ _ bd _ _ bf _ _ bg 0 true _ ?side1 ?side2 ?side3 ?side4 ?side5 ?side6 ?side7 ?side8 ?side9 ?side10 ?side11 ?side12 A7.out).mono ?_);(case side1 => repeat (first | exact (Kd.R_reads' ad.out).2.2 | (with_reducible first | refine Kd.C_alloc ?_ _ | refine Kd.C_drewN ?_ _ | refine Kd.C_drew ?_)));(case side2 => exact (Kd.R_reads' ad.out).2.1);(case side3 => repeat (first | exact (Kd.R_reads' ae.out).2.2 | (with_reducible first | refine Kd.C_alloc ?_ _ | refine Kd.C_drewN ?_ _ | refine Kd.C_drew ?_)));(case side4 => exact (Kd.R_reads' ae.out).2.1);(case side5 => repeat (first | exact (Kd.S_reads' af.out).2.2 | (with_reducible first | refine Kd.C_alloc ?_ _ | refine Kd.C_drewN ?_ _ | refine Kd.C_drew ?_)));(case side6 => exact (Kd.S_reads' af.out).2.1);(case side7 => repeat (first | exact (Kd.R_reads' an.out).2.2 | (with_reducible first | refine Kd.C_alloc ?_ _ | refine Kd.C_drewN ?_ _ | refine Kd.C_drew ?_)));(case side8 => exact (Kd.R_reads' an.out).2.1);(case side9 => repeat (first | exact (Kd.R_reads' ao.out).2.2 | (with_reducible first | refine Kd.C_alloc ?_ _ | refine Kd.C_drewN ?_ _ | refine Kd.C_drew ?_)));(case side10 => exact (Kd.R_reads' ao.out).2.1);(case side11 => repeat (first | exact (Kd.S_reads' ap.out).2.2 | (with_reducible first | refine Kd.C_alloc ?_ _ | refine Kd.C_drewN ?_ _ | refine Kd.C_drew ?_)));(case side12 => exact (Kd.S_reads' ap.out).2.1);rintro e w26 ⟨rfl, hb⟩;refine ⟨_, rfl, ?_⟩;replace ad := kR ad hb; replace ae := kR ae hb; replace af := kS af hb; replace an := kR an hb; replace ao := kR ao hb; replace ap := kS ap hb; replace aa := kU aa hb; replace ab := kU ab hb; replace HB := kH HB hb;(try clear hb);refine hK.out _ _ ⟨kk ab 0, kk ab 1, kk ab 2, kk aa 0, kk aa 1, kk aa 2⟩ (fun hHeld => ?_);clear hK K;refine no (some 31) ?_;refine pu 5 (some 32) (bs 9 63) HT_ ?_;refine one_ (i := 6) (N := some 33) (bs 9 127) rfl rfl (one_of HT_.out (by kernel_rfl)) (by decide) (fun K hK => ?_);refine goes_ Try.func15 (by kernel_rfl) rfl #[] (by rfl) rfl rfl (by (try simp only [qM1, qM2, qM3]); first | done | rfl) ?_;(with_reducible refine (qra.calls k  ba _ A9.out (by first | rfl | exact HRT.out)).mono ?_);rintro e w27 ⟨rfl, hb⟩;refine ⟨_, rfl, ?_⟩;replace ad := kR ad hb; replace ae := kR ae hb; replace af := kS af hb; replace an := kR an hb; replace ao := kR ao hb; replace ap := kS ap hb; replace aa := kU aa hb; replace ab := kU ab hb; replace HB := kH HB hb;(try clear hb);refine hK.out _ _ ⟨kk ab 0, kk ab 1, kk ab 2, kk aa 0, kk aa 1, kk aa 2⟩ (fun hHeld => ?_);clear hK K;refine no (some 33) ?_;refine pu 7 (some 34) (bs 9 255) HT_ ?_;refine pu 8 (some 4) (bs 9 511) HT_ ?_;refine done_ (done_of HT_.out (by kernel_rfl)) ?_;(try go_wp2);go_ret;exact ⟨er, kh HB⟩
end Go.Proofs.Ytmlbliggbkfjnaa.J
/- What comes in laid out as a type says is a value of a kind, within the bounds that its weights leave: once for every type. -/
namespace Go.Proofs.Ytmlbliggbkfjnaa.Op
open Go.RowKit Go.Proofs.YtmlbliggbkfjnaaW.PrintWords Go.Proofs.YtmlbliggbkfjnaaW.PrintLast Go.Proofs.YtmlbliggbkfjnaaW.PrintMore
def Opens {α : Type} (P : Program) (d : Kd α) (t : TypeId) (wf : α → Prop) : Prop :=
  ∀ (H : Type) (enc : TypeId × Value → H) (w : World) (base fuel : Nat) (spare : Nat → Bool) (held : Bool) (cs : List Value) (x : DataW H × List MemPlace), cs.length = d.sz →
    DataW.trod enc P w base spare held fuel t cs = some x → (x.1.weights P t).all (· ≤ reachBytes) = true → ∃ a, d.K w a cs ∧ wf a
theorem op_int {P : Program} {t : TypeId} {k : IntKind} (ht : P.underlying t = some (.int k)) : Opens P (Kd.int k) t (fun n => (Lit.int k n).wf = true) := by
  intro H enc w base fuel spare held cs x _ h _;obtain ⟨n, rfl, _, hw⟩ := DataW.trod_int ht h;exact ⟨n, rfl, hw⟩
theorem op_bool {P : Program} {t : TypeId} (ht : P.underlying t = some .bool) : Opens P Kd.bool t (fun _ => True) := by
  intro H enc w base fuel spare held cs x _ h _;obtain ⟨n, rfl, _⟩ := DataW.trod_bool ht h;exact ⟨n, rfl, trivial⟩
theorem all_weights {H : Type} {P : Program} {e : TypeId} {p : Nat → Bool} : ∀ (ds : List (DataW H)), (DataW.weightsAll P e ds).all p = true → ∀ d ∈ ds, (d.weights P e).all p = true
  | [], _, d, hd => by simp at hd
  | a :: r, h, d, hd => by
    unfold DataW.weightsAll at h;rw [List.all_append, Bool.and_eq_true] at h
    rcases List.mem_cons.1 hd with rfl | hd
    · exact h.1
    · exact all_weights r h.2 d hd
theorem add_add_ (a : Addr) (i j : Nat) : a.add (i + j) = (a.add i).add j := by
  cases a
  unfold Addr.add
  rcases Nat.eq_zero_or_pos i with hi | hi <;> rcases Nat.eq_zero_or_pos j with hj | hj
  · simp [hi, hj]
  · simp [hi, show j ≠ 0 by omega]
  · simp [hj, show i ≠ 0 by omega]
  · simp [show i ≠ 0 by omega, show j ≠ 0 by omega, Nat.add_assoc]
theorem pick {β : Type} {p : Nat → β → Prop} : ∀ n, (∀ i : Nat, i < n → ∃ q, p i q) → ∃ l : List β, l.length = n ∧ ∀ (i : Nat) (q : β), l[i]? = some q → p i q
  | 0, _ => ⟨[], rfl, fun i q h => by simp at h⟩
  | n + 1, h => by
    obtain ⟨l, hl, hp⟩ := pick n (fun i hi => h i (by omega));obtain ⟨q, hq⟩ := h n (by omega);refine ⟨l ++ [q], by simp [hl], fun i r hr => ?_⟩
    rcases Nat.lt_or_ge i l.length with hi | hi
    · rw [List.getElem?_append_left hi] at hr
      exact hp i r hr
    · rw [List.getElem?_append_right hi] at hr
      have h0 : i - l.length = 0 := by
        rcases Nat.eq_zero_or_pos (i - l.length) with h' | h'
        · exact h'
        · rw [List.getElem?_eq_none (by simp; omega)] at hr; cases hr
      rw [h0] at hr
      obtain rfl : q = r := by simpa using hr
      have : i = n := by omega
      rw [this]; exact hq
theorem weights_at {H : Type} {P : Program} {p : Nat → Bool} : ∀ (ts : List TypeId) (ds : List (DataW H)) (j : Nat) {t : TypeId} {d : DataW H}, (DataW.weightsEach P ts ds).all p = true → ts[j]? = some t → ds[j]? = some d → (d.weights P t).all p = true
  | [], _, _, _, _, _, ht, _ => by simp at ht
  | _ :: _, [], _, _, _, _, _, hd => by simp at hd
  | t :: ts, d :: ds, j, t', d', h, ht, hd => by
    unfold DataW.weightsEach at h;rw [List.all_append, Bool.and_eq_true] at h
    match j, ht, hd with
    | 0, ht, hd =>
      obtain rfl : t = t' := by simpa using ht
      obtain rfl : d = d' := by simpa using hd
      exact h.1
    | j + 1, ht, hd => exact weights_at ts ds j h.2 (by simpa using ht) (by simpa using hd)
theorem op_slice {α : Type} {P : Program} {d : Kd α} {t e : TypeId} {B : Nat} {wf : α → Prop} (ht : P.underlying t = some (.slice e)) (hB : P.bytesOf e = B) (hsz : P.cellsOf e = d.sz) (he : Opens P d e wf) :
    Opens P (Kd.slice e d) t (fun l => l.length ≤ maxLen ∧ l.length * B ≤ 140737488351232 ∧ ∀ a ∈ l, wf a) := by
  intro H enc w base fuel spare held cs x _ h hw
  rcases Go.Deep.open_slice ht h with ⟨rfl, _⟩ | ⟨a, len, cap, m, n, D, Pl, rfl, hb, hl, hm, hmm, rfl, hx⟩
  · exact ⟨[], ⟨none, 0, rfl, Nat.le_refl _, rfl, Nat.zero_le _, fun h0 => absurd h0 (by simp)⟩, by simp, by simp, fun a ha => by simp at ha⟩
  · have hlm : len ≤ m := by rw [hmm]; split <;> omega
    simp only [DataW.weights, ht, List.all_cons, List.all_append, Bool.and_eq_true, List.length_map, List.length_range] at hw;obtain ⟨hw0, hw1, _⟩ := hw
    have each : ∀ i : Nat, i < len → ∃ q : α, wf q ∧ ∃ c : List Value, c.length = d.sz ∧ d.K w q c ∧ ∀ j u, c[j]? = some u → w.cell? (a.add (i * d.sz + j)) = some u := by
      intro i hi;obtain ⟨cs', h1, h2⟩ := hx i (by omega);rw [hsz] at h1;obtain ⟨_, hlen, hcell⟩ := World.cells?_some h1;obtain ⟨y, hK, hwf⟩ := he H enc w base n spare held cs' _ hlen h2 (all_weights _ hw1 _ (List.mem_map.2 ⟨i, List.mem_range.2 hi, rfl⟩));refine ⟨y, hwf, cs', hlen, hK, fun j u hu => ?_⟩
      have hj : j < d.sz := by
        rw [← hlen]
        rcases Nat.lt_or_ge j cs'.length with h' | h'
        · exact h'
        · rw [List.getElem?_eq_none h'] at hu; cases hu
      have := hcell j hj;rw [hu] at this;rw [show a.add (i * d.sz + j) = (a.add (i * d.sz)).add j from add_add_ _ _ _];exact this
    obtain ⟨l, rfl, hl2⟩ := pick len each;refine ⟨l, ⟨some a, cap, rfl, hl, rfl, Nat.le_trans hl hm, fun _ => ⟨a, rfl, fun j p hj => (hl2 j p hj).2⟩⟩, Nat.le_trans hl hm, ?_, ?_⟩
    · have hw2 := of_decide_eq_true hw0
      rw [hB] at hw2;exact Nat.le_trans (Nat.mul_le_mul_right _ (by omega)) hw2
    · intro y hy
      obtain ⟨j, hj⟩ := List.mem_iff_getElem?.1 hy;exact (hl2 j y hj).1
def OpL {β : Type} (P : Program) (d : Kd β) (fs : List Field) (o : Nat) (wf : β → Prop) : Prop :=
  ∀ (H : Type) (enc : TypeId × Value → H) (w : World) (base n : Nat) (spare : Nat → Bool) (held : Bool) (cs : List Value) (xs : List (DataW H × List MemPlace)), cs.length = d.sz → xs.length = fs.length →
    (∀ (i : Nat) (f : Field), fs[i]? = some f → DataW.trod enc P w base spare held n f.type ((cs.drop (f.offset - o)).take (P.cellsOf f.type)) = xs[i]?) →
    (DataW.weightsEach P (fs.map (·.type)) (xs.map (·.1))).all (· ≤ reachBytes) = true → ∃ a, d.K w a cs ∧ wf a
theorem opL_one {β : Type} {P : Program} {d : Kd β} {f : Field} {o : Nat} {wf : β → Prop} (ho : f.offset = o) (hc : P.cellsOf f.type = d.sz) (h : Opens P d f.type wf) : OpL P d [f] o wf := by
  intro H enc w base n spare held cs xs hl hx hf hw
  match xs, hx with
  | [y], _ =>
    have h0 := hf 0 f rfl;rw [ho, Nat.sub_self, List.drop_zero, hc, ← hl, List.take_length] at h0;simp only [List.map_cons, List.map_nil, DataW.weightsEach, List.append_nil] at hw;exact h H enc w base n spare held cs y hl h0 hw
theorem opL_cons {α β : Type} {P : Program} {d1 : Kd α} {d : Kd β} {f : Field} {fs : List Field} {o : Nat} {wf1 : α → Prop} {wf : β → Prop} (ho : f.offset = o) (hc : P.cellsOf f.type = d1.sz) (h1 : Opens P d1 f.type wf1)
    (aa : (fs.all fun g => decide (o + d1.sz ≤ g.offset)) = true) (h : OpL P d fs (o + d1.sz) wf) : OpL P (Kd.pair d1 d) (f :: fs) o (fun x => wf1 x.1 ∧ wf x.2) := by
  have hfs : ∀ g ∈ fs, o + d1.sz ≤ g.offset := fun g hg => of_decide_eq_true (List.all_eq_true.1 aa g hg)
  intro H enc w base n spare held cs xs hl hx hf hw;have hl' : cs.length = d1.sz + d.sz := hl
  match xs, hx with
  | y :: ys, hx =>
    have h0 := hf 0 f rfl;rw [ho, Nat.sub_self, List.drop_zero, hc] at h0;simp only [List.map_cons, DataW.weightsEach, List.all_append, Bool.and_eq_true] at hw;obtain ⟨a, ka, wa⟩ := h1 H enc w base n spare held (cs.take d1.sz) y (by rw [List.length_take]; omega) h0 hw.1
    obtain ⟨b, kb, wb⟩ := h H enc w base n spare held (cs.drop d1.sz) ys (by rw [List.length_drop]; omega) (by simpa using hx) (fun i g hg => by
      have := hf (i + 1) g (by simpa using hg);rw [List.drop_drop];have hg2 := hfs g (List.mem_of_getElem? hg);rw [show d1.sz + (g.offset - (o + d1.sz)) = g.offset - o by omega, this]
      simp) hw.2
    exact ⟨(a, b), ⟨cs.take d1.sz, cs.drop d1.sz, (List.take_append_drop _ _).symm, ka, kb⟩, wa, wb⟩
theorem op_struct {α β : Type} {P : Program} {d : Kd α} {t : TypeId} {fs : Array Field} {wf : α → Prop} {p : β → α} (g : α → β) (hg : ∀ a, p (g a) = a) (ht : P.underlying t = some (.struct fs)) (h : OpL P d fs.toList 0 wf) :
    Opens P (Kd.iso d p) t (fun b => wf (p b)) := by
  intro H enc w base fuel spare held cs x hl hx hw;obtain ⟨xs, n, rfl, rfl, _, hxl, hf⟩ := DataW.trod_struct ht hx;simp only [DataW.weights, ht] at hw
  obtain ⟨a, ka, wa⟩ := h H enc w base n spare held cs xs hl (by simpa using hxl) (fun i f hi => by
    rw [Nat.sub_zero]
    exact hf i f (by simpa using hi)) hw
  refine ⟨g a, ?_, ?_⟩
  · show d.K w (p (g a)) cs
    rw [hg]; exact ka
  · show wf (p (g a))
    rw [hg]; exact wa
theorem op_agg {α : Type} {P : Program} {d : Kd α} {t : TypeId} {fs : Array Field} {wf : α → Prop} (ht : P.underlying t = some (.struct fs)) (h : OpL P d fs.toList 0 wf) : Opens P d t wf :=
  op_struct (d := d) (p := fun a => a) (fun a => a) (fun _ => rfl) ht h
theorem op_array2 {α : Type} {P : Program} {d : Kd α} {t e : TypeId} {wf : α → Prop} (ht : P.underlying t = some (.array 2 e)) (hc : P.cellsOf e = d.sz) (h : Opens P d e wf) : Opens P (Kd.pair d d) t (fun x => wf x.1 ∧ wf x.2) := by
  intro H enc w base fuel spare held cs x hl hx hw;obtain ⟨xs, m, rfl, rfl, _, hxl, hf⟩ := DataW.trod_array ht hx;simp only [DataW.weights, ht] at hw;have hl' : cs.length = d.sz + d.sz := hl
  match xs, hxl with
  | [y, z], _ =>
    have h0 := hf 0 (by omega);have h1 := hf 1 (by omega);rw [Nat.zero_mul, List.drop_zero, hc] at h0;rw [Nat.one_mul, hc, List.take_of_length_le (by rw [List.length_drop]; omega)] at h1;simp only [List.map_cons, List.map_nil, DataW.weightsAll, List.all_append, Bool.and_eq_true] at hw;obtain ⟨a, ka, wa⟩ := h H enc w base m spare held (cs.take d.sz) y (by rw [List.length_take]; omega) h0 hw.1;obtain ⟨b, kb, wb⟩ := h H enc w base m spare held (cs.drop d.sz) z (by rw [List.length_drop]; omega) h1 hw.2.1;exact ⟨(a, b), ⟨cs.take d.sz, cs.drop d.sz, (List.take_append_drop _ _).symm, ka, kb⟩, wa, wb⟩
theorem okWide_arr {P : Program} {W : World} {r : Reach} {b0 : Nat} {t e : TypeId} {n : Nat} {v : Value} (ht : P.underlying t = some (.array n e)) (h : Value.okWide P W r b0 t v) : ∃ cs, v = .agg cs ∧ cs.size = P.cellsOf t := by
  simp only [Value.okWide, ht] at h;obtain ⟨cs, h1, h2, _⟩ := h;exact ⟨cs, h1, h2⟩
theorem okWide_agg {P : Program} {W : World} {r : Reach} {b0 : Nat} {t : TypeId} {fs : Array Field} {v : Value} (ht : P.underlying t = some (.struct fs)) (h : Value.okWide P W r b0 t v) : ∃ cs, v = .agg cs ∧ cs.size = P.cellsOf t := by
  simp only [Value.okWide, ht] at h;obtain ⟨cs, h1, h2, _⟩ := h;exact ⟨cs, h1, h2⟩
theorem arg {α H : Type} {enc : TypeId × Value → H} {P : Program} {d : Kd α} {t : TypeId} {wf : α → Prop} (h : Opens P d t wf) {w : World} {base : Nat} {spare : Nat → Bool} {held : Bool} {v : Value} {x : DataW H} {ps : List MemPlace}
    (hl : v.cells.toList.length = d.sz) (hv : DataW.Trod enc P w base spare held t v x ps) {ts : List TypeId} {ds : List (DataW H)} {j : Nat} (hsz : (DataW.weightsEach P ts ds).all (· ≤ reachBytes) = true) (ht : ts[j]? = some t) (hd : ds[j]? = some x) :
    ∃ a, d.K w a v.cells.toList ∧ wf a := by
  obtain ⟨fuel, hf⟩ := hv;exact h H enc w base fuel spare held _ _ hl hf (weights_at ts ds j hsz ht hd)
end Go.Proofs.Ytmlbliggbkfjnaa.Op
/- Three closed facts over the whole program, with its header's words as numbers. -/
namespace Go.Proofs.Ytmlbliggbkfjnaa.Facts
theorem toList_of (s : String) (l : List Char) (h : s = String.ofList l) : s.toList = l := by rw [h, String.toList_ofList]
def glue : List (List Char) → List Char
  | [] => []
  | [w] => w
  | w :: v :: r => w ++ Char.ofNat 32 :: glue (v :: r)
theorem signs_space (r : List Char) : wordsSigns (Char.ofNat 32 :: r) = [] :: wordsSigns r := rfl
theorem signs_cons (c : Char) (r : List Char) (h : c ≠ Char.ofNat 32) (w : List Char) (ws : List (List Char)) (e : wordsSigns r = w :: ws) : wordsSigns (c :: r) = (c :: w) :: ws := by
  rw [wordsSigns]
  · rw [e]
  · exact h
theorem signs_one : ∀ (w : List Char), (∀ c ∈ w, c ≠ Char.ofNat 32) → wordsSigns w = [w]
  | [], _ => rfl
  | c :: w, h => signs_cons c w (h c (List.mem_cons_self ..)) _ _ (signs_one w (fun d hd => h d (List.mem_cons_of_mem _ hd)))
theorem signs_more (r : List Char) : ∀ (w : List Char), (∀ c ∈ w, c ≠ Char.ofNat 32) → wordsSigns (w ++ Char.ofNat 32 :: r) = w :: wordsSigns r
  | [], _ => signs_space r
  | c :: w, h => signs_cons c _ (h c (List.mem_cons_self ..)) _ _ (signs_more r w (fun d hd => h d (List.mem_cons_of_mem _ hd)))
theorem signs_glue : ∀ (ws : List (List Char)), ws ≠ [] → (∀ w ∈ ws, ∀ c ∈ w, c ≠ Char.ofNat 32) → wordsSigns (glue ws) = ws
  | [], h, _ => absurd rfl h
  | [w], _, h => signs_one w (h w (List.mem_cons_self ..))
  | w :: v :: r, _, h => by
    rw [glue, signs_more _ w (h w (List.mem_cons_self ..)), signs_glue (v :: r) (by simp) (fun u hu => h u (List.mem_cons_of_mem _ hu))]
def W : List (List Char) := (List.map (List.map Char.ofNat) [[104, 97, 114, 110, 101, 115, 115],
  [57, 102, 101, 51, 102, 100, 99, 53, 49, 100, 57, 100, 102, 56, 54, 48, 56, 53, 55, 52, 52, 48, 57, 101, 56, 99, 100, 99, 99, 53, 54, 99, 49, 98, 57, 102, 57, 51, 54, 97, 99, 99, 57, 99, 48, 98, 56, 53, 101, 98, 53, 56, 55, 54, 48, 97, 49, 50, 51, 51, 54, 99, 50, 99],
  [99, 117, 116],
  [97, 116],
  [106, 117, 110, 116, 111, 47, 106, 117, 110, 116, 111, 108, 97, 119, 49, 54, 46, 84, 117, 110, 101, 76, 101, 118, 101, 108, 115],
  [106, 117, 110, 116, 111, 47, 106, 117, 110, 116, 111, 108, 97, 119, 49, 54, 46, 84, 117, 110, 101, 70, 111, 108, 100, 115],
  [106, 117, 110, 116, 111, 47, 106, 117, 110, 116, 111, 108, 97, 119, 49, 54, 46, 84, 117, 110, 101, 83, 104, 97, 114, 101, 115],
  [106, 117, 110, 116, 111, 47, 106, 117, 110, 116, 111, 108, 97, 119, 49, 54, 46, 84, 117, 110, 101, 80, 114, 117, 110, 101, 115],
  [106, 117, 110, 116, 111, 47, 106, 117, 110, 116, 111, 108, 97, 119, 49, 54, 46, 84, 117, 110, 101, 84, 117, 110, 101, 115],
  [106, 117, 110, 116, 111, 47, 106, 117, 110, 116, 111, 108, 97, 119, 49, 54, 46, 84, 117, 110, 101, 83, 97, 109, 101],
  [106, 117, 110, 116, 111, 47, 106, 117, 110, 116, 111, 108, 97, 119, 49, 54, 46, 84, 117, 110, 101, 76, 101, 115, 115],
  [106, 117, 110, 116, 111, 47, 106, 117, 110, 116, 111, 108, 97, 119, 49, 54, 46, 84, 117, 110, 101, 68, 111, 110, 101],
  [106, 117, 110, 116, 111, 47, 106, 117, 110, 116, 111, 108, 97, 119, 49, 54, 46, 84, 117, 110, 101, 82, 111, 117, 110, 100, 115]])
theorem head : Try.pinned.checked.prog.initOrder.toList = glue W := toList_of _ _ (by kernel_rfl)
theorem plain : (W.all fun w => w.all fun c => c.toNat != 32) = true := by kernel_rfl
theorem signs : wordsSigns Try.pinned.checked.prog.initOrder.toList = W := by
  rw [head]
  refine signs_glue W (by simp [W]) fun w hw c hc e => ?_
  have h := List.all_eq_true.1 (List.all_eq_true.1 plain w hw) c hc;rw [e] at h;cases h
theorem words : behindMainWord (wordsSigns Try.pinned.checked.prog.initOrder.toList) = W.drop 2 := by
  rw [signs]
  kernel_rfl
theorem lifts : Try.pinned.checked.prog.headLifts = [] := by
  unfold Program.headLifts;rw [words]
  kernel_rfl
theorem final : Try.pinned.checked.prog.liftsFinal = false := by
  unfold Program.liftsFinal;rw [words, lifts]
  kernel_rfl
theorem made_of (P : Program) (rest : List (List Char)) (h : behindMainWord (wordsSigns P.initOrder.toList) = [Char.ofNat 99, Char.ofNat 117, Char.ofNat 116] :: rest) : P.make = some .cut := by
  unfold Program.make;rw [h]
  kernel_rfl
theorem enters_of (P : Program) (rest : List (List Char)) (h : behindMainWord (wordsSigns P.initOrder.toList) = [Char.ofNat 99, Char.ofNat 117, Char.ofNat 116] :: rest) (hl : P.laysLater = false) (hb : P.bearsReflect = false) (hd : P.doorFits [] = true)
    (hs : stripLifts liftWords ([Char.ofNat 99, Char.ofNat 117, Char.ofNat 116] :: rest) = ([], [Char.ofNat 99, Char.ofNat 117, Char.ofNat 116] :: rest)) : P.mayEnter = true := by
  unfold Program.mayEnter;rw [h];simp only [hs, hl, hb, hd]
  kernel_rfl
theorem made : Try.pinned.checked.prog.make = some .cut := made_of _ (W.drop 3) (words.trans (by kernel_rfl))
theorem enters : Try.pinned.checked.prog.mayEnter = true := enters_of _ (W.drop 3) (words.trans (by kernel_rfl)) (by kernel_rfl) (by kernel_rfl) (by kernel_rfl) (by kernel_rfl)
end Go.Proofs.Ytmlbliggbkfjnaa.Facts
/- Gates: what they may be, what they mean, and their folding. -/
namespace Go.Proofs.Ytmlbliggbkfjnaa.L
open Go.RowKit Go.Proofs.YtmlbliggbkfjnaaW.PrintWords Go.Proofs.Ytmlbliggbkfjnaa.J
def atI (l : List Int) (i : Int) : Int := l.getD i.toNat 0
def atG (l : List S61) (i : Int) : S61 := l.getD i.toNat ⟨0, 0, 0, 0⟩
def okG (p s i : Int) (g : S61) : Prop :=
  (g.f0 = 1 ∧ 0 ≤ g.f1 ∧ g.f1 < s ∧ g.f2 = 0 ∧ g.f3 = 0) ∨
  (g.f0 = 2 ∧ g.f1 = 0 ∧ g.f2 = 0 ∧ 0 ≤ g.f3 ∧ g.f3 < p) ∨
  ((g.f0 = 3 ∨ g.f0 = 4 ∨ g.f0 = 5) ∧ 0 ≤ g.f1 ∧ g.f1 < i ∧ 0 ≤ g.f2 ∧ g.f2 < i ∧ g.f3 = 0) ∨
  (g.f0 = 6 ∧ 0 ≤ g.f1 ∧ g.f1 < i ∧ g.f2 = 0 ∧ 0 ≤ g.f3 ∧ g.f3 < p)
def okL (p s : Int) (l : List S61) : Prop := ∀ (i : Nat) (g : S61), l[i]? = some g → okG p s i g
theorem okL_nil (p s : Int) : okL p s [] := fun i g h => by simp at h
theorem okL_snoc {p s : Int} {l : List S61} {g : S61} (h : okL p s l) (hg : okG p s l.length g) : okL p s (l ++ [g]) := by
  intro i x hx;rw [List.getElem?_append] at hx
  split at hx
  · exact h i x hx
  · rename_i hi
    rw [List.getElem?_singleton] at hx
    split at hx
    · rename_i h0
      obtain rfl := Option.some.inj hx;rw [show i = l.length by omega]; exact hg
    · cases hx
theorem okL_cut {p s : Int} {l : List S61} {g : S61} (h : okL p s (l ++ [g])) : okL p s l ∧ okG p s l.length g := by
  constructor
  · intro i x hx
    refine h i x ?_;rw [List.getElem?_append_left (List.getElem?_eq_some_iff.1 hx).1]; exact hx
  · exact h l.length g (by simp)
theorem okL_at {p s : Int} {l : List S61} (h : okL p s l) {i : Int} (h0 : 0 ≤ i) (h1 : i < l.length) : okG p s i (atG l i) := by
  have hi : i.toNat < l.length := by omega
  have := h i.toNat l[i.toNat] (List.getElem?_eq_getElem hi);unfold atG;rw [List.getD_eq_getElem?_getD, List.getElem?_eq_getElem hi]
  simpa [Int.toNat_of_nonneg h0] using this
theorem atG_left {l m : List S61} {i : Int} (h1 : i < l.length) (h0 : 0 ≤ i) : atG (l ++ m) i = atG l i := by
  unfold atG;rw [List.getD_eq_getElem?_getD, List.getD_eq_getElem?_getD, List.getElem?_append_left (by omega)]
theorem atI_left {l m : List Int} {i : Int} (h1 : i < l.length) (h0 : 0 ≤ i) : atI (l ++ m) i = atI l i := by
  unfold atI;rw [List.getD_eq_getElem?_getD, List.getD_eq_getElem?_getD, List.getElem?_append_left (by omega)]
theorem atI_last (l : List Int) (x : Int) : atI (l ++ [x]) l.length = x := by
  simp [atI, List.getD_eq_getElem?_getD]
theorem atG_last (l : List S61) (x : S61) : atG (l ++ [x]) l.length = x := by
  simp [atG, List.getD_eq_getElem?_getD]
structure Alg where
  inp : Int → Int
  con : Int → Int
  scl : Int → Int → Int
  two : Int → Int → Int → Int
def app (A : Alg) (v : List Int) (g : S61) : Int :=
  if g.f0 = 1 then A.inp g.f1 else if g.f0 = 2 then A.con g.f3 else if g.f0 = 6 then A.scl g.f3 (atI v g.f1) else A.two g.f0 (atI v g.f1) (atI v g.f2)
def snocs {α β : Type} (f : List α → β → α) : List α → List β → List α
  | d, [] => d
  | d, b :: bs => snocs f (d ++ [f d b]) bs
theorem snocs_snoc {α β : Type} (f : List α → β → α) (b : β) : ∀ (bs : List β) (d : List α), snocs f d (bs ++ [b]) = snocs f d bs ++ [f (snocs f d bs) b]
  | [], d => rfl
  | c :: bs, d => by simp only [List.cons_append, snocs]; exact snocs_snoc f b bs _
theorem snocs_len {α β : Type} (f : List α → β → α) : ∀ (bs : List β) (d : List α), (snocs f d bs).length = d.length + bs.length
  | [], d => rfl
  | c :: bs, d => by simp only [snocs, snocs_len f bs, List.length_append, List.length_cons, List.length_nil]; omega
def vals (A : Alg) (l : List S61) : List Int := snocs (app A) [] l
theorem vals_snoc (A : Alg) (l : List S61) (g : S61) : vals A (l ++ [g]) = vals A l ++ [app A (vals A l) g] := snocs_snoc _ _ _ _
theorem vals_len (A : Alg) (l : List S61) : (vals A l).length = l.length := by simp [vals, snocs_len]
theorem app_congr {A : Alg} {p s i : Int} {g : S61} {v v' : List Int} (h : okG p s i g) (e : ∀ x, 0 ≤ x → x < i → atI v x = atI v' x) : app A v g = app A v' g := by
  unfold app;unfold okG at h
  split
  · rfl
  split
  · rfl
  split
  · rw [e g.f1 (by omega) (by omega)]
  · rw [e g.f1 (by omega) (by omega), e g.f2 (by omega) (by omega)]
theorem snoc_ind {α : Type} {P : List α → Prop} (h0 : P []) (h1 : ∀ l x, P l → P (l ++ [x])) (l : List α) : P l := by
  rw [← List.reverse_reverse l]
  induction l.reverse with
  | nil => exact h0
  | cons x r ih => rw [List.reverse_cons]; exact h1 _ _ ih
theorem vals_at (A : Alg) {p s : Int} (l : List S61) : okL p s l → ∀ i : Int, 0 ≤ i → i < l.length → atI (vals A l) i = app A (vals A l) (atG l i) := by
  refine snoc_ind (P := fun l => okL p s l → ∀ i : Int, 0 ≤ i → i < l.length → atI (vals A l) i = app A (vals A l) (atG l i)) ?_ ?_ l
  · intro _ i h0 h1; simp at h1; omega
  · intro l g ih hok i h0 h1
    obtain ⟨hl, hg⟩ := okL_cut hok;have hlen := vals_len A l;rw [vals_snoc]
    by_cases h : i < l.length
    · rw [atI_left (by omega) h0, atG_left h h0, ih hl i h0 h]
      exact app_congr (okL_at hl h0 h) (fun x x0 x1 => (atI_left (by omega) x0).symm)
    · have hi : i = l.length := by simp at h1; omega
      rw [hi, atG_last];rw [show (l.length : Int) = ((vals A l).length : Nat) by rw [hlen], atI_last];exact app_congr hg (fun x x0 x1 => (atI_left (by omega) x0).symm)
end Go.Proofs.Ytmlbliggbkfjnaa.L
/- Gates left out and others named in their place; gates that are alike. -/
namespace Go.Proofs.Ytmlbliggbkfjnaa.L
open Go.RowKit Go.Proofs.YtmlbliggbkfjnaaW.PrintWords Go.Proofs.Ytmlbliggbkfjnaa.J
def rnf (t : Int → Int) (g : S61) : S61 :=
  if g.f0 = 1 ∨ g.f0 = 2 then g else if g.f0 = 6 then ⟨g.f0, t g.f1, g.f2, g.f3⟩ else ⟨g.f0, t g.f1, t g.f2, g.f3⟩
theorem rnf_kind (t : Int → Int) (g : S61) : (rnf t g).f0 = g.f0 := by unfold rnf; split; rfl; split <;> rfl
theorem rnf_congr {p s i : Int} {g : S61} {t t' : Int → Int} (h : okG p s i g) (e : ∀ x, 0 ≤ x → x < i → t x = t' x) : rnf t g = rnf t' g := by
  unfold rnf; unfold okG at h
  split
  · rfl
  split
  · rw [e g.f1 (by omega) (by omega)]
  · rw [e g.f1 (by omega) (by omega), e g.f2 (by omega) (by omega)]
theorem rnf_ok {p s i j : Int} {g : S61} {t : Int → Int} (h : okG p s i g)
    (e : g.f0 ≠ 1 → g.f0 ≠ 2 → 0 ≤ t g.f1 ∧ t g.f1 < j ∧ (g.f0 ≠ 6 → 0 ≤ t g.f2 ∧ t g.f2 < j)) : okG p s j (rnf t g) := by
  unfold rnf
  rcases h with h | h | h | h
  · rw [if_pos (.inl h.1)]; exact .inl h
  · rw [if_pos (.inr h.1)]; exact .inr (.inl h)
  · have h12 : ¬ (g.f0 = 1 ∨ g.f0 = 2) := by omega
    have h6 : ¬ g.f0 = 6 := by omega
    obtain ⟨a, b, c⟩ := e (by omega) (by omega);obtain ⟨c, d⟩ := c h6;rw [if_neg h12, if_neg h6];exact .inr (.inr (.inl ⟨h.1, a, b, c, d, h.2.2.2.2.2⟩))
  · obtain ⟨a, b, c⟩ := e (by omega) (by omega)
    rw [if_neg (by omega), if_pos h.1];exact .inr (.inr (.inr ⟨h.1, a, b, h.2.2.2.1, h.2.2.2.2⟩))
theorem okG_ops {p s i : Int} {g : S61} (h : okG p s i g) (h1 : g.f0 ≠ 1) (h2 : g.f0 ≠ 2) : 0 ≤ g.f1 ∧ g.f1 < i ∧ (g.f0 ≠ 6 → 0 ≤ g.f2 ∧ g.f2 < i) := by
  rcases h with h | h | h | h
  · exact absurd h.1 h1
  · exact absurd h.1 h2
  · exact ⟨h.2.1, h.2.2.1, fun _ => ⟨h.2.2.2.1, h.2.2.2.2.1⟩⟩
  · exact ⟨h.2.1, h.2.2.1, fun h6 => absurd h.1 h6⟩
def Comm (A : Alg) : Prop := ∀ a b, A.two 3 a b = A.two 3 b a ∧ A.two 5 a b = A.two 5 b a
def sameG (x y : S61) : Prop := x = y ∨ ((⟨x.f0, x.f2, x.f1, x.f3⟩ : S61) = y ∧ (x.f0 = 3 ∨ x.f0 = 5))
theorem S61.ext_iff' (x y : S61) : x = y ↔ x.f0 = y.f0 ∧ x.f1 = y.f1 ∧ x.f2 = y.f2 ∧ x.f3 = y.f3 := by
  cases x; cases y; simp
instance (x y : S61) : Decidable (x = y) := decidable_of_iff _ (S61.ext_iff' x y).symm
instance (x y : S61) : Decidable (sameG x y) := by unfold sameG; infer_instance
theorem app_same {A : Alg} (hA : Comm A) {x y : S61} (v : List Int) (h : sameG x y) : app A v x = app A v y := by
  rcases h with rfl | ⟨rfl, h⟩
  · rfl
  · unfold app
    rcases h with h | h
    · simp [h, (hA (atI v x.f1) (atI v x.f2)).1]
    · simp [h, (hA (atI v x.f1) (atI v x.f2)).2]
theorem app_rnf {A : Alg} {p s i : Int} {g : S61} {t : Int → Int} {v v' : List Int} (h : okG p s i g) (e : ∀ x, 0 ≤ x → x < i → x = g.f1 ∨ (g.f0 ≠ 6 ∧ x = g.f2) → g.f0 ≠ 1 → g.f0 ≠ 2 → atI v' (t x) = atI v x) : app A v' (rnf t g) = app A v g := by
  unfold rnf; unfold okG at h
  split
  · rename_i h1
    unfold app
    rcases h1 with h1 | h1 <;> simp [h1]
  split
  · rename_i h1 h6
    unfold app;simp only [h6, if_neg (show ¬ (6 : Int) = 1 by decide), if_neg (show ¬ (6 : Int) = 2 by decide), if_true];rw [e g.f1 (by omega) (by omega) (.inl rfl) (by omega) (by omega)]
  · rename_i h1 h6
    unfold app;simp only [if_neg (show ¬ g.f0 = 1 by omega), if_neg (show ¬ g.f0 = 2 by omega), if_neg h6];rw [e g.f1 (by omega) (by omega) (.inl rfl) (by omega) (by omega), e g.f2 (by omega) (by omega) (.inr ⟨h6, rfl⟩) (by omega) (by omega)]
structure Shr (p s : Int) (gs l : List S61) (t : Int → Int) (N : Int → Prop) : Prop where
  rng : ∀ i : Int, 0 ≤ i → i < gs.length → N i → 0 ≤ t i ∧ t i < l.length
  onto : ∀ j : Int, 0 ≤ j → j < l.length → ∃ i : Int, 0 ≤ i ∧ i < gs.length ∧ N i ∧ t i = j
  vals : ∀ A, Comm A → ∀ i : Int, 0 ≤ i → i < gs.length → N i → atI (L.vals A l) (t i) = atI (L.vals A gs) i
  ok : okL p s l
  cnt : ∀ f : S61 → Bool, (∀ g t, f (rnf t g) = f g) → (l.filter f).length ≤ (gs.filter f).length
theorem Shr.nil (p s : Int) (t : Int → Int) (N : Int → Prop) : Shr p s [] [] t N :=
  ⟨fun i h0 h1 => by simp at h1; omega, fun i h0 h1 => by simp at h1; omega, fun _ _ i h0 h1 => by simp at h1; omega, okL_nil p s, fun _ _ => Nat.le_refl _⟩
theorem vals_left (A : Alg) {l : List S61} {g : S61} {i : Int} (h0 : 0 ≤ i) (h1 : i < l.length) : atI (vals A (l ++ [g])) i = atI (vals A l) i := by
  rw [vals_snoc]; exact atI_left (by rw [vals_len]; exact h1) h0
theorem vals_last (A : Alg) (l : List S61) (g : S61) : atI (vals A (l ++ [g])) l.length = app A (vals A l) g := by
  rw [vals_snoc, show (l.length : Int) = ((vals A l).length : Nat) by rw [vals_len], atI_last]
def uses (g : S61) (x : Int) : Prop := g.f0 ≠ 1 ∧ g.f0 ≠ 2 ∧ (x = g.f1 ∨ (g.f0 ≠ 6 ∧ x = g.f2))
theorem uses_lt {p s i : Int} {g : S61} (h : okG p s i g) {x : Int} (hx : uses g x) : 0 ≤ x ∧ x < i := by
  obtain ⟨h1, h2, h3⟩ := hx;obtain ⟨a, b, c⟩ := okG_ops h h1 h2
  rcases h3 with rfl | ⟨h6, rfl⟩
  · exact ⟨a, b⟩
  · exact c h6
theorem Shr.new_ok {p s : Int} {gs l : List S61} {t : Int → Int} {N : Int → Prop} (h : Shr p s gs l t N) {g : S61} (hg : okG p s gs.length g)
    (hN : ∀ x, uses g x → N x) : okG p s l.length (rnf t g) := by
  refine rnf_ok hg fun h1 h2 => ?_
  have u1 : uses g g.f1 := ⟨h1, h2, .inl rfl⟩;obtain ⟨a, b⟩ := uses_lt hg u1;obtain ⟨c, d⟩ := h.rng _ a b (hN _ u1);refine ⟨c, d, fun h6 => ?_⟩;have u2 : uses g g.f2 := ⟨h1, h2, .inr ⟨h6, rfl⟩⟩;obtain ⟨a, b⟩ := uses_lt hg u2;exact h.rng _ a b (hN _ u2)
theorem Shr.new_val {p s : Int} {gs l : List S61} {t : Int → Int} {N : Int → Prop} (h : Shr p s gs l t N) {g : S61} (hg : okG p s gs.length g)
    (hN : ∀ x, uses g x → N x) {A : Alg} (hA : Comm A) : app A (L.vals A l) (rnf t g) = app A (L.vals A gs) g :=
  app_rnf hg fun x x0 x1 xe h1 h2 => h.vals A hA x x0 x1 (hN x ⟨h1, h2, xe⟩)
theorem Shr.stay {p s : Int} {gs l : List S61} {t t' : Int → Int} {N : Int → Prop} (h : Shr p s gs l t N) {g : S61} (hg : okG p s gs.length g)
    (ht : ∀ x : Int, 0 ≤ x → x < gs.length → t' x = t x) (hl : t' gs.length = l.length)
    (hN : ∀ x, uses g x → N x) (hN' : N gs.length) : Shr p s (gs ++ [g]) (l ++ [rnf t g]) t' N := by
  refine ⟨?_, ?_, ?_, okL_snoc h.ok (h.new_ok hg hN), ?_⟩
  · intro i i0 i1 iN
    simp only [List.length_append, List.length_cons, List.length_nil] at i1 ⊢
    by_cases e : i < gs.length
    · rw [ht i i0 e]; have := h.rng i i0 e iN; omega
    · rw [show i = gs.length by omega, hl]; omega
  · intro j j0 j1
    simp only [List.length_append, List.length_cons, List.length_nil] at j1 ⊢
    by_cases e : j < l.length
    · obtain ⟨i, i0, i1, iN, ij⟩ := h.onto j j0 e
      exact ⟨i, i0, by omega, iN, by rw [ht i i0 i1]; exact ij⟩
    · exact ⟨gs.length, by omega, by omega, hN', by rw [hl]; omega⟩
  · intro A hA i i0 i1 iN
    simp only [List.length_append, List.length_cons, List.length_nil] at i1
    by_cases e : i < gs.length
    · have r := h.rng i i0 e iN
      rw [ht i i0 e, vals_left A r.1 r.2, vals_left A i0 e];exact h.vals A hA i i0 e iN
    · rw [show i = gs.length by omega, hl, vals_last, vals_last]
      exact h.new_val hg hN hA
  · intro f hf
    have := h.cnt f hf;rw [List.filter_append, List.filter_append, List.length_append, List.length_append]
    have e : ([rnf t g].filter f).length = ([g].filter f).length := by
      simp only [List.filter_cons, hf, List.filter_nil]
      split <;> rfl
    omega
theorem Shr.other {p s : Int} {gs l : List S61} {t t' : Int → Int} {N : Int → Prop} (h : Shr p s gs l t N) {g : S61} (hg : okG p s gs.length g)
    (ht : ∀ x : Int, 0 ≤ x → x < gs.length → t' x = t x) (hN : N gs.length → (∀ x, uses g x → N x) ∧ 0 ≤ t' gs.length ∧ t' gs.length < l.length ∧ sameG (atG l (t' gs.length)) (rnf t g)) : Shr p s (gs ++ [g]) l t' N := by
  refine ⟨?_, ?_, ?_, h.ok, ?_⟩
  · intro i i0 i1 iN
    simp only [List.length_append, List.length_cons, List.length_nil] at i1 ⊢
    by_cases e : i < gs.length
    · rw [ht i i0 e]; exact h.rng i i0 e iN
    · have hi : i = gs.length := by omega
      subst hi;exact ⟨(hN iN).2.1, (hN iN).2.2.1⟩
  · intro j j0 j1
    obtain ⟨i, i0, i1, iN, ij⟩ := h.onto j j0 j1;exact ⟨i, i0, by simp; omega, iN, by rw [ht i i0 i1]; exact ij⟩
  · intro A hA i i0 i1 iN
    simp only [List.length_append, List.length_cons, List.length_nil] at i1
    by_cases e : i < gs.length
    · rw [ht i i0 e, vals_left A i0 e]
      exact h.vals A hA i i0 e iN
    · have hi : i = gs.length := by omega
      subst hi;obtain ⟨n1, n2, n3, n4⟩ := hN iN;rw [vals_last, vals_at A l h.ok _ n2 n3, app_same hA _ n4];exact h.new_val hg n1 hA
  · intro f hf
    have := h.cnt f hf;rw [List.filter_append, List.length_append]
    omega
def findS (l : List S61) (g : S61) : Nat := l.findIdx fun x => decide (sameG x g)
def shStep (st : List S61 × List Int) (g : S61) : List S61 × List Int :=
  let g' := rnf (atI st.2) g
  let k := findS st.1 g'
  (if k = st.1.length then st.1 ++ [g'] else st.1, st.2 ++ [(k : Int)])
def shL (gs : List S61) : List S61 × List Int := gs.foldl shStep ([], [])
theorem shL_snoc (gs : List S61) (g : S61) : shL (gs ++ [g]) = shStep (shL gs) g := by simp [shL, List.foldl_append]
theorem shL_len (gs : List S61) : (shL gs).2.length = gs.length := by
  refine snoc_ind (P := fun gs => (shL gs).2.length = gs.length) rfl (fun gs g ih => ?_) gs;rw [shL_snoc]; simp [shStep, ih]
theorem findS_le (l : List S61) (g : S61) : findS l g ≤ l.length := List.findIdx_le_length
theorem findS_same {l : List S61} {g : S61} (h : findS l g < l.length) : sameG (atG l (findS l g)) g := by
  have := List.findIdx_getElem (w := h);unfold atG;rw [List.getD_eq_getElem?_getD, Int.toNat_natCast, List.getElem?_eq_getElem h];exact of_decide_eq_true this
theorem shL_shr {p s : Int} (gs : List S61) : okL p s gs → Shr p s gs (shL gs).1 (atI (shL gs).2) (fun _ => True) := by
  refine snoc_ind (P := fun gs => okL p s gs → Shr p s gs (shL gs).1 (atI (shL gs).2) (fun _ => True)) (fun _ => Shr.nil p s _ _) (fun gs g ih h => ?_) gs;obtain ⟨h1, h2⟩ := okL_cut h;have hlen := shL_len gs
  have ht : ∀ (k x : Int), 0 ≤ x → x < gs.length → atI ((shL gs).2 ++ [k]) x = atI (shL gs).2 x := fun k x x0 x1 => atI_left (by omega) x0
  have hk : ∀ k : Int, atI ((shL gs).2 ++ [k]) gs.length = k := fun k => by rw [← hlen]; exact atI_last _ _
  rw [shL_snoc];unfold shStep;simp only;have hle := findS_le (shL gs).1 (rnf (atI (shL gs).2) g)
  split
  · rename_i e
    exact (ih h1).stay h2 (ht _) (by rw [hk, e]) (fun _ _ => trivial) trivial
  · rename_i e
    refine (ih h1).other h2 (ht _) fun _ => ⟨fun _ _ => trivial, by rw [hk]; omega, by rw [hk]; omega, ?_⟩
    rw [hk];exact findS_same (by omega)
def apart (l : List S61) : Prop := l.Pairwise fun x y => ¬ sameG x y
end Go.Proofs.Ytmlbliggbkfjnaa.L
/- Gates that nobody asks for; levels. -/
namespace Go.Proofs.Ytmlbliggbkfjnaa.L
open Go.RowKit Go.Proofs.YtmlbliggbkfjnaaW.PrintWords Go.Proofs.Ytmlbliggbkfjnaa.J
def atB (l : List Bool) (i : Int) : Bool := l.getD i.toNat false
def mkStep (gs : List S61) (a : List Bool) (i : Nat) : List Bool :=
  if atB a i = true ∧ (atG gs i).f0 ≠ 1 ∧ (atG gs i).f0 ≠ 2 then
    (if (atG gs i).f0 = 6 then a.set (atG gs i).f1.toNat true else (a.set (atG gs i).f1.toNat true).set (atG gs i).f2.toNat true)
  else a
def mkM (gs : List S61) : Nat → List Bool → List Bool
  | 0, a => a
  | m + 1, a => mkM gs m (mkStep gs a m)
end Go.Proofs.Ytmlbliggbkfjnaa.L
/- The program's way to leave out gates that are alike comes to the reference's. -/
namespace Go.Proofs.Ytmlbliggbkfjnaa.L
open Go.RowKit Go.Proofs.YtmlbliggbkfjnaaW.PrintWords Go.Proofs.Ytmlbliggbkfjnaa.J
def canon (g : S61) : S61 := if (g.f0 = 3 ∨ g.f0 = 5) ∧ g.f1 > g.f2 then ⟨g.f0, g.f2, g.f1, g.f3⟩ else g
def findM (g : S61) : List (S61 × Int) → Option Int
  | [] => none
  | x :: M => if g = x.1 then some x.2 else findM g M
def atM (M : List (S61 × Int)) (i : Int) : S61 × Int := M.getD i.toNat (⟨0, 0, 0, 0⟩, 0)
def spStep (st : List Int × List (S61 × Int)) (g : S61) : List Int × List (S61 × Int) :=
  match findM (canon (rnf (atI st.1) g)) st.2 with
  | some k => (st.1 ++ [k], st.2)
  | none => (st.1 ++ [(st.1.length : Int)], st.2 ++ [(canon (rnf (atI st.1) g), (st.1.length : Int))])
def spL (gs : List S61) : List Int × List (S61 × Int) := gs.foldl spStep ([], [])
theorem spL_snoc (gs : List S61) (g : S61) : spL (gs ++ [g]) = spStep (spL gs) g := by simp [spL, List.foldl_append]
theorem spL_len (gs : List S61) : (spL gs).1.length = gs.length := by
  refine snoc_ind (P := fun gs => (spL gs).1.length = gs.length) rfl (fun gs g ih => ?_) gs;rw [spL_snoc]; unfold spStep; split <;> simp [ih]
def mvStep (st : Int → Bool) (t : Int → Int) (z : List S61 × List Int) (g : S61) : List S61 × List Int :=
  if st z.2.length = true then (z.1 ++ [rnf (fun x => atI z.2 (t x)) g], z.2 ++ [(z.1.length : Int)]) else (z.1, z.2 ++ [0])
def mvL (st : Int → Bool) (t : Int → Int) (gs : List S61) : List S61 × List Int := gs.foldl (mvStep st t) ([], [])
theorem mvL_snoc (st : Int → Bool) (t : Int → Int) (gs : List S61) (g : S61) : mvL st t (gs ++ [g]) = mvStep st t (mvL st t gs) g := by simp [mvL, List.foldl_append]
theorem mvL_len (st : Int → Bool) (t : Int → Int) (gs : List S61) : (mvL st t gs).2.length = gs.length := by
  refine snoc_ind (P := fun gs => (mvL st t gs).2.length = gs.length) rfl (fun gs g ih => ?_) gs;rw [mvL_snoc]; unfold mvStep; split <;> simp [ih]
theorem mvL_congr {p s : Int} {st st' : Int → Bool} {t t' : Int → Int} (gs : List S61) : okL p s gs → (∀ x : Int, 0 ≤ x → x < gs.length → st x = st' x ∧ t x = t' x) → mvL st t gs = mvL st' t' gs := by
  refine snoc_ind (P := fun gs => okL p s gs → (∀ x : Int, 0 ≤ x → x < gs.length → st x = st' x ∧ t x = t' x) → mvL st t gs = mvL st' t' gs) (fun _ _ => rfl) (fun gs g ih h e => ?_) gs;obtain ⟨h1, h2⟩ := okL_cut h;rw [mvL_snoc, mvL_snoc, ih h1 fun x x0 x1 => e x x0 (by simp; omega)];unfold mvStep;rw [mvL_len, (e gs.length (by omega) (by simp; omega)).1];rw [rnf_congr (t := fun x => atI (mvL st' t' gs).2 (t x)) (t' := fun x => atI (mvL st' t' gs).2 (t' x)) h2 fun x x0 x1 => by rw [(e x x0 (by simp; omega)).2]]
theorem rnf_rnf (f t : Int → Int) (g : S61) : rnf f (rnf t g) = rnf (fun x => f (t x)) g := by
  by_cases h : g.f0 = 1 ∨ g.f0 = 2
  · unfold rnf; simp only [if_pos h]
  · by_cases h6 : g.f0 = 6
    · unfold rnf; simp [h6]
    · unfold rnf; simp only [if_neg h, if_neg h6]
theorem canon_kind (g : S61) : (canon g).f0 = g.f0 := by unfold canon; split <;> rfl
theorem canon_same {p s i j L : Int} {f : Int → Int} (hf : ∀ x y, 0 ≤ x → x < L → 0 ≤ y → y < L → f x = f y → x = y) {x y : S61} (hx : okG p s i x) (hy : okG p s j y) (hi : i ≤ L) (hj : j ≤ L) :
    canon (rnf f y) = canon (rnf f x) ↔ sameG x y := by
  by_cases hk : x.f0 = y.f0
  · have fe : ∀ a b, 0 ≤ a → a < L → 0 ≤ b → b < L → (f a = f b ↔ a = b) := fun a b a0 a1 b0 b1 => ⟨hf a b a0 a1 b0 b1, fun e => by rw [e]⟩
    have sm : sameG x y ↔ (x.f1 = y.f1 ∧ x.f2 = y.f2 ∧ x.f3 = y.f3) ∨ ((x.f0 = 3 ∨ x.f0 = 5) ∧ x.f2 = y.f1 ∧ x.f1 = y.f2 ∧ x.f3 = y.f3) := by
      unfold sameG;rw [S61.ext_iff', S61.ext_iff'];simp only [hk, true_and]
      constructor
      · rintro (h | ⟨h, h'⟩)
        · exact .inl h
        · exact .inr ⟨h', h⟩
      · rintro (h | ⟨h', h⟩)
        · exact .inl h
        · exact .inr ⟨h, h'⟩
    rw [sm];clear sm
    rcases hx with hx | hx | hx | hx
    · have e1 : rnf f x = x := by unfold rnf; rw [if_pos (.inl hx.1)]
      have e2 : rnf f y = y := by unfold rnf; rw [if_pos (.inl (by omega))]
      have c1 : canon x = x := by unfold canon; rw [if_neg (by omega)]
      have c2 : canon y = y := by unfold canon; rw [if_neg (by omega)]
      rw [e1, e2, c1, c2, S61.ext_iff']
      omega
    · have e1 : rnf f x = x := by unfold rnf; rw [if_pos (.inr hx.1)]
      have e2 : rnf f y = y := by unfold rnf; rw [if_pos (.inr (by omega))]
      have c1 : canon x = x := by unfold canon; rw [if_neg (by omega)]
      have c2 : canon y = y := by unfold canon; rw [if_neg (by omega)]
      rw [e1, e2, c1, c2, S61.ext_iff']
      omega
    · have n12 : ¬ (x.f0 = 1 ∨ x.f0 = 2) := by omega
      have n6 : ¬ x.f0 = 6 := by omega
      obtain ⟨y1, y2, y3⟩ := okG_ops hy (by omega) (by omega);obtain ⟨y3, y4⟩ := y3 (by omega);have f11 := fe x.f1 y.f1 (by omega) (by omega) (by omega) (by omega);have f12 := fe x.f1 y.f2 (by omega) (by omega) (by omega) (by omega);have f21 := fe x.f2 y.f1 (by omega) (by omega) (by omega) (by omega);have f22 := fe x.f2 y.f2 (by omega) (by omega) (by omega) (by omega)
      have e1 : rnf f x = ⟨x.f0, f x.f1, f x.f2, x.f3⟩ := by unfold rnf; rw [if_neg n12, if_neg n6]
      have e2 : rnf f y = ⟨y.f0, f y.f1, f y.f2, y.f3⟩ := by unfold rnf; rw [if_neg (by omega), if_neg (by omega)]
      rw [e1, e2, ← hk];rw [← f11, ← f12, ← f21, ← f22];generalize f x.f1 = A;generalize f x.f2 = B;generalize f y.f1 = C;generalize f y.f2 = D;generalize x.f3 = X;generalize y.f3 = Y;have h0 := hx.1;generalize x.f0 = K at *;clear hx hy f11 f12 f21 f22 e1 e2 fe hf hk n12 n6;unfold canon;simp only
      by_cases c : K = 3 ∨ K = 5
      · by_cases c1 : A > B <;> by_cases c2 : C > D <;> simp [c, c1, c2] <;> omega
      · simp [c, eq_comm]
    · have n12 : ¬ (x.f0 = 1 ∨ x.f0 = 2) := by omega
      obtain ⟨y1, y2, y3⟩ := okG_ops hy (by omega) (by omega);have f11 := fe x.f1 y.f1 (by omega) (by omega) (by omega) (by omega)
      have e1 : rnf f x = ⟨x.f0, f x.f1, x.f2, x.f3⟩ := by unfold rnf; rw [if_neg n12, if_pos hx.1]
      have e2 : rnf f y = ⟨y.f0, f y.f1, y.f2, y.f3⟩ := by unfold rnf; rw [if_neg (by omega), if_pos (by omega)]
      have c1 : canon ⟨x.f0, f x.f1, x.f2, x.f3⟩ = ⟨x.f0, f x.f1, x.f2, x.f3⟩ := by unfold canon; rw [if_neg (by show ¬ ((x.f0 = 3 ∨ x.f0 = 5) ∧ _); omega)]
      have c2 : canon ⟨y.f0, f y.f1, y.f2, y.f3⟩ = ⟨y.f0, f y.f1, y.f2, y.f3⟩ := by unfold canon; rw [if_neg (by show ¬ ((y.f0 = 3 ∨ y.f0 = 5) ∧ _); omega)]
      rw [e1, e2, c1, c2, S61.ext_iff'];simp only
      omega
  · constructor
    · intro h
      have := congrArg S61.f0 h;rw [canon_kind, canon_kind, rnf_kind, rnf_kind] at this;exact absurd this.symm hk
    · intro h
      exfalso
      rcases h with rfl | ⟨rfl, _⟩
      · exact hk rfl
      · exact hk rfl
theorem find_par (key g : S61) : ∀ (M : List (S61 × Int)) (l : List S61), M.length = l.length → (∀ j : Int, 0 ≤ j → j < l.length → (key = (atM M j).1 ↔ sameG (atG l j) g)) →
    findM key M = if findS l g < l.length then some (atM M (findS l g)).2 else none
  | [], [], _, _ => by simp [findM]
  | [], _ :: _, h, _ => by simp at h
  | _ :: _, [], h, _ => by simp at h
  | m :: M, x :: l, h, hj => by
    have h0 := hj 0 (by omega) (by simp);have e0 : (key = m.1 ↔ sameG x g) := h0;unfold findM findS;rw [List.findIdx_cons]
    by_cases e : sameG x g
    · rw [if_pos (e0.2 e)]
      simp [e, atM]
    · rw [if_neg (fun h' => e (e0.1 h'))]
      have ih := find_par key g M l (by simpa using h) fun j j0 j1 => by
        have := hj (j + 1) (by omega) (by simp; omega)
        have t1 : atM (m :: M) (j + 1) = atM M j := by
          unfold atM; rw [show (j + 1).toNat = j.toNat + 1 by omega]; rfl
        have t2 : atG (x :: l) (j + 1) = atG l j := by
          unfold atG; rw [show (j + 1).toNat = j.toNat + 1 by omega]; rfl
        rw [t1, t2] at this;exact this
      rw [ih];simp only [e, decide_false, Bool.cond_false, List.length_cons, Nat.add_lt_add_iff_right];unfold findS
      split
      · congr 1
      · rfl
structure SInv (gs : List S61) (pl : List Int) : Prop where
  len : (spL gs).2.length = (shL gs).1.length
  pls : pl.length = gs.length
  a : ∀ i : Int, 0 ≤ i → i < gs.length → 0 ≤ atI (shL gs).2 i ∧ atI (shL gs).2 i < (shL gs).1.length ∧ atI (spL gs).1 i = (atM (spL gs).2 (atI (shL gs).2 i)).2
  b : ∀ j : Int, 0 ≤ j → j < (shL gs).1.length → 0 ≤ (atM (spL gs).2 j).2 ∧ (atM (spL gs).2 j).2 < gs.length ∧ atI (shL gs).2 (atM (spL gs).2 j).2 = j ∧ atI (spL gs).1 (atM (spL gs).2 j).2 = (atM (spL gs).2 j).2
  c : ∀ j : Int, 0 ≤ j → j < (shL gs).1.length → (atM (spL gs).2 j).1 = canon (rnf (fun x => (atM (spL gs).2 x).2) (atG (shL gs).1 j))
  d : mvL (fun i => atI (spL gs).1 i == i) (atI (spL gs).1) gs = ((shL gs).1, pl)
  e : ∀ j : Int, 0 ≤ j → j < (shL gs).1.length → atI pl (atM (spL gs).2 j).2 = j
theorem atM_left {l m : List (S61 × Int)} {i : Int} (h1 : i < l.length) (h0 : 0 ≤ i) : atM (l ++ m) i = atM l i := by
  unfold atM;rw [List.getD_eq_getElem?_getD, List.getD_eq_getElem?_getD, List.getElem?_append_left (by omega)]
theorem atM_last (l : List (S61 × Int)) (x : S61 × Int) : atM (l ++ [x]) l.length = x := by
  simp [atM, List.getD_eq_getElem?_getD]
theorem share_inv {p s : Int} (gs : List S61) : okL p s gs → ∃ pl, SInv gs pl := by
  refine snoc_ind (P := fun gs => okL p s gs → ∃ pl, SInv gs pl) (fun _ => ⟨[], ⟨rfl, rfl, fun i i0 i1 => ?_, fun i i0 i1 => ?_, fun i i0 i1 => ?_, rfl, fun i i0 i1 => ?_⟩⟩) (fun gs g ih h => ?_) gs
  · exact absurd i1 (by simp; omega)
  · exact absurd i1 (by simp [shL]; omega)
  · exact absurd i1 (by simp [shL]; omega)
  · exact absurd i1 (by simp [shL]; omega)
  obtain ⟨h1, h2⟩ := okL_cut h;obtain ⟨pl, I⟩ := ih h1;have lt := shL_len gs;have ls := spL_len gs;have hsh := shL_shr gs h1
  have hg' : okG p s (shL gs).1.length (rnf (atI (shL gs).2) g) := hsh.new_ok h2 fun _ _ => trivial
  have key : canon (rnf (atI (spL gs).1) g) = canon (rnf (fun x => (atM (spL gs).2 x).2) (rnf (atI (shL gs).2) g)) := by
    rw [rnf_rnf]
    congr 1
    exact rnf_congr h2 fun x x0 x1 => (I.a x x0 x1).2.2
  have inj : ∀ x y, 0 ≤ x → x < ((shL gs).1.length : Int) → 0 ≤ y → y < ((shL gs).1.length : Int) → (atM (spL gs).2 x).2 = (atM (spL gs).2 y).2 → x = y := fun x y x0 x1 y0 y1 e => by
    have e1 := (I.b x x0 x1).2.2.1;have e2 := (I.b y y0 y1).2.2.1;rw [e, e2] at e1;exact e1.symm
  have fnd := find_par (canon (rnf (atI (spL gs).1) g)) (rnf (atI (shL gs).2) g) (spL gs).2 (shL gs).1 I.len fun j j0 j1 => by
    rw [I.c j j0 j1, key];exact canon_same inj (okL_at hsh.ok j0 j1) hg' (by omega) (Int.le_refl _)
  have hle := findS_le (shL gs).1 (rnf (atI (shL gs).2) g)
  have mono : ∀ k : Int, mvL (fun i => atI ((spL gs).1 ++ [k]) i == i) (atI ((spL gs).1 ++ [k])) gs = ((shL gs).1, pl) := fun k => by
    rw [← I.d]
    refine mvL_congr gs h1 fun x x0 x1 => ?_
    rw [atI_left (by omega) x0];exact ⟨rfl, rfl⟩
  by_cases hk : findS (shL gs).1 (rnf (atI (shL gs).2) g) < (shL gs).1.length
  · rw [if_pos hk] at fnd
    generalize hkk : findS (shL gs).1 (rnf (atI (shL gs).2) g) = k at *
    have es : spL (gs ++ [g]) = ((spL gs).1 ++ [(atM (spL gs).2 (k : Int)).2], (spL gs).2) := by
      rw [spL_snoc]; unfold spStep; rw [fnd]
    have et : shL (gs ++ [g]) = ((shL gs).1, (shL gs).2 ++ [(k : Int)]) := by
      rw [shL_snoc]; unfold shStep; simp only; rw [hkk, if_neg (by omega)]
    obtain ⟨bk0, bk1, bk2, bk3⟩ := I.b k (by omega) (by omega);refine ⟨pl ++ [0], ?_, ?_, ?_, ?_, ?_, ?_, ?_⟩
    · rw [es, et]; exact I.len
    · simp [I.pls]
    · rw [es, et]
      intro i i0 i1;simp only [List.length_append, List.length_cons, List.length_nil] at i1
      by_cases e : i < gs.length
      · rw [atI_left (by omega) i0, atI_left (by omega) i0]; exact I.a i i0 e
      · have hi : i = gs.length := by omega
        have p1 : atI ((spL gs).1 ++ [(atM (spL gs).2 (k : Int)).2]) i = (atM (spL gs).2 (k : Int)).2 := by rw [hi, ← ls, atI_last]
        have p2 : atI ((shL gs).2 ++ [(k : Int)]) i = k := by rw [hi, ← lt, atI_last]
        simp only;rw [p1, p2];exact ⟨by omega, by omega, rfl⟩
    · rw [es, et]
      intro j j0 j1;obtain ⟨b0, b1, b2, b3⟩ := I.b j j0 j1;simp only;refine ⟨b0, by simp; omega, ?_, ?_⟩
      · rw [atI_left (by omega) b0]; exact b2
      · rw [atI_left (by omega) b0]; exact b3
    · rw [es, et]
      exact I.c
    · rw [es, et]
      simp only;rw [mvL_snoc, mono];unfold mvStep;simp only [I.pls];rw [← ls, atI_last, if_neg];simp only [beq_iff_eq]
      omega
    · rw [es, et]
      intro j j0 j1;obtain ⟨b0, b1, b2, b3⟩ := I.b j j0 j1;simp only;rw [atI_left (by rw [I.pls]; exact b1) b0];exact I.e j j0 j1
  · rw [if_neg hk] at fnd
    have hk' : findS (shL gs).1 (rnf (atI (shL gs).2) g) = (shL gs).1.length := by omega
    have es : spL (gs ++ [g]) = ((spL gs).1 ++ [(gs.length : Int)], (spL gs).2 ++ [(canon (rnf (atI (spL gs).1) g), (gs.length : Int))]) := by
      rw [spL_snoc]; unfold spStep; rw [fnd]; simp only [ls]
    have et : shL (gs ++ [g]) = ((shL gs).1 ++ [rnf (atI (shL gs).2) g], (shL gs).2 ++ [((shL gs).1.length : Int)]) := by
      rw [shL_snoc]; unfold shStep; simp only; rw [hk', if_pos rfl]
    have mle : ∀ j : Int, 0 ≤ j → j < (shL gs).1.length → atM ((spL gs).2 ++ [(canon (rnf (atI (spL gs).1) g), (gs.length : Int))]) j = atM (spL gs).2 j := fun j j0 j1 => atM_left (by rw [I.len]; exact j1) j0
    have mla : atM ((spL gs).2 ++ [(canon (rnf (atI (spL gs).1) g), (gs.length : Int))]) (shL gs).1.length = (canon (rnf (atI (spL gs).1) g), (gs.length : Int)) := by
      rw [← I.len]; exact atM_last _ _
    refine ⟨pl ++ [((shL gs).1.length : Int)], ?_, ?_, ?_, ?_, ?_, ?_, ?_⟩
    · rw [es, et]; simp [I.len]
    · simp [I.pls]
    · rw [es, et]
      intro i i0 i1;simp only [List.length_append, List.length_cons, List.length_nil] at i1 ⊢
      by_cases e : i < gs.length
      · obtain ⟨a0, a1, a2⟩ := I.a i i0 e
        rw [atI_left (by omega) i0, atI_left (by omega) i0, mle _ a0 a1];exact ⟨a0, by omega, a2⟩
      · have hi : i = gs.length := by omega
        have p1 : atI ((spL gs).1 ++ [(gs.length : Int)]) i = gs.length := by rw [hi, ← ls, atI_last]
        have p2 : atI ((shL gs).2 ++ [((shL gs).1.length : Int)]) i = (shL gs).1.length := by rw [hi, ← lt, atI_last]
        rw [p1, p2, mla];exact ⟨by omega, by omega, rfl⟩
    · rw [es, et]
      intro j j0 j1;simp only [List.length_append, List.length_cons, List.length_nil] at j1 ⊢
      by_cases e : j < (shL gs).1.length
      · obtain ⟨b0, b1, b2, b3⟩ := I.b j j0 e
        rw [mle j j0 e, atI_left (by omega) b0, atI_left (by omega) b0];exact ⟨b0, by omega, b2, b3⟩
      · have hj : j = (shL gs).1.length := by omega
        have p1 : atI ((spL gs).1 ++ [(gs.length : Int)]) (gs.length : Int) = gs.length := by
          have := atI_last (spL gs).1 (gs.length : Int); rw [ls] at this; exact this
        have p2 : atI ((shL gs).2 ++ [((shL gs).1.length : Int)]) (gs.length : Int) = (shL gs).1.length := by
          have := atI_last (shL gs).2 ((shL gs).1.length : Int); rw [lt] at this; exact this
        rw [hj, mla];exact ⟨by show (0 : Int) ≤ (gs.length : Int); omega, by show (gs.length : Int) < _; omega, p2, p1⟩
    · rw [es, et]
      intro j j0 j1;simp only [List.length_append, List.length_cons, List.length_nil] at j1 ⊢
      by_cases e : j < (shL gs).1.length
      · rw [mle j j0 e, atG_left e j0, I.c j j0 e]
        congr 1
        exact rnf_congr (okL_at hsh.ok j0 e) fun x x0 x1 => by rw [mle x x0 (by omega)]
      · have hj : j = (shL gs).1.length := by omega
        rw [hj, mla, atG_last]
        show canon (rnf (atI (spL gs).1) g) = _
        refine key.trans ?_
        congr 1
        exact rnf_congr hg' fun x x0 x1 => by rw [mle x x0 x1]
    · rw [es, et]
      simp only;rw [mvL_snoc, mono];unfold mvStep;simp only [I.pls]
      have p1 : atI ((spL gs).1 ++ [(gs.length : Int)]) (gs.length : Int) = gs.length := by
        have := atI_last (spL gs).1 (gs.length : Int); rw [ls] at this; exact this
      rw [p1, if_pos (by simp)]
      congr 3
      refine rnf_congr h2 fun x x0 x1 => ?_
      obtain ⟨a0, a1, a2⟩ := I.a x x0 x1;rw [atI_left (by omega) x0, a2];exact I.e _ a0 a1
    · rw [es, et]
      intro j j0 j1;simp only [List.length_append, List.length_cons, List.length_nil] at j1
      by_cases e : j < (shL gs).1.length
      · obtain ⟨b0, b1, b2, b3⟩ := I.b j j0 e
        simp only;rw [mle j j0 e, atI_left (by rw [I.pls]; exact b1) b0];exact I.e j j0 e
      · have hj : j = (shL gs).1.length := by omega
        simp only;rw [hj, mla];have := atI_last pl ((shL gs).1.length : Int); rw [I.pls] at this; exact this
theorem share_moved {p s : Int} {gs : List S61} (h : okL p s gs) : ∃ pl, mvL (fun i => atI (spL gs).1 i == i) (atI (spL gs).1) gs = ((shL gs).1, pl) ∧ pl.length = gs.length ∧ ∀ i : Int, 0 ≤ i → i < gs.length → 0 ≤ atI (spL gs).1 i ∧ atI (spL gs).1 i < gs.length ∧ atI pl (atI (spL gs).1 i) = atI (shL gs).2 i := by
  obtain ⟨pl, I⟩ := share_inv gs h;refine ⟨pl, I.d, I.pls, fun i i0 i1 => ?_⟩;obtain ⟨a0, a1, a2⟩ := I.a i i0 i1;obtain ⟨b0, b1, _⟩ := I.b _ a0 a1;rw [a2];exact ⟨b0, b1, I.e _ a0 a1⟩
end Go.Proofs.Ytmlbliggbkfjnaa.L
