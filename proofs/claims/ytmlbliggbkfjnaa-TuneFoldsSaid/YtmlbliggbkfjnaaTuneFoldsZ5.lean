/- Part 5 of the proof of TuneFolds: what the functions compute as plain Lean functions, that the machine comes to just these answers, and that the answer is true; no conditions. -/
import Derived.Test.YtmlbliggbkfjnaaTuneFoldsZ0
import Derived.Test.YtmlbliggbkfjnaaTuneFoldsZ1
import Derived.Test.YtmlbliggbkfjnaaTuneFoldsZ2
import Derived.Test.YtmlbliggbkfjnaaTuneFoldsZ3
import Derived.Test.YtmlbliggbkfjnaaTuneFoldsZ4
import Derived.Deep.Slices
import Derived.ChangeArms
import Derived.DataReads
import Derived.SizedLaws
import Derived.WideShapes
import Derived.OpenShut
import Derived.Test.YtmlbliggbkfjnaaRows
import Derived.JoinedOf
import Derived.KernelRfl
set_option linter.unusedSimpArgs false
set_option linter.unusedVariables false
set_option maxHeartbeats 8000000
set_option maxRecDepth 100000
namespace Go.Proofs.Ytmlbliggbkfjnaa.J
open Go.RowKit Go.Proofs.YtmlbliggbkfjnaaW.PrintWords Go.Proofs.YtmlbliggbkfjnaaW.PrintLast Go.Proofs.YtmlbliggbkfjnaaW.PrintMore
attribute [local go_sem] max2_int min2_int max_two min_two max_three min_three max_four min_four
mutual
def qba.j0 : Nat → Int → List (S61) → Bool → Int → Int → Int → Int → Option (Int × Int × Int × Int × Bool)
 | 0, _, _, _, _, _, _, _ => none
 | k + 1, x0, x1, x10, ad, aa, ab, ae => if x10 = true then (if 0 ≤ aa then (if aa < (x1.length : Int) then (if 0 ≤ ab then (if ab < (x1.length : Int) then (if ad = 3 then ((qab.f x0 ((rd_T61 x1 aa).f3) ((rd_T61 x1 ab).f3)).bind fun al => ((qja.f al).bind fun af => (some (af.1, af.2.1, af.2.2.1, af.2.2.2.1, af.2.2.2.2)))) else (if ad = 4 then ((qwa.f x0 ((rd_T61 x1 aa).f3) ((rd_T61 x1 ab).f3)).bind fun an => ((qja.f an).bind fun ag => (some (ag.1, ag.2.1, ag.2.2.1, ag.2.2.2.1, ag.2.2.2.2)))) else ((qua.f x0 ((rd_T61 x1 aa).f3) ((rd_T61 x1 ab).f3)).bind fun ao => ((qja.f ao).bind fun ah => (some (ah.1, ah.2.1, ah.2.2.1, ah.2.2.2.1, ah.2.2.2.2)))))) else (none)) else (none)) else (none)) else (none)) else (if ad = 6 then ((qka.f x1 aa).bind fun ap => (qba.j1 k x0 x1 ap ad aa ab ae)) else (qba.j1 k x0 x1 false ad aa ab ae))
def qba.j1 : Nat → Int → List (S61) → Bool → Int → Int → Int → Int → Option (Int × Int × Int × Int × Bool)
 | 0, _, _, _, _, _, _, _ => none
 | k + 1, x0, x1, x64, ad, aa, ab, ae => if x64 = true then (if 0 ≤ aa then (if aa < (x1.length : Int) then ((qua.f x0 ((rd_T61 x1 aa).f3) ae).bind fun aq => ((qja.f aq).bind fun ai => (some (ai.1, ai.2.1, ai.2.2.1, ai.2.2.2.1, ai.2.2.2.2)))) else (none)) else (none)) else (if ad = 5 then ((qka.f x1 aa).bind fun ar => (qba.j2 k x0 x1 ar ad aa ab ae)) else (qba.j2 k x0 x1 false ad aa ab ae))
def qba.j2 : Nat → Int → List (S61) → Bool → Int → Int → Int → Int → Option (Int × Int × Int × Int × Bool)
 | 0, _, _, _, _, _, _, _ => none
 | k + 1, x0, x1, x87, ad, aa, ab, ae => if x87 = true then (if 0 ≤ aa then (if aa < (x1.length : Int) then (some (6, ab, 0, (rd_T61 x1 aa).f3, true)) else (none)) else (none)) else (if ad = 5 then ((qka.f x1 ab).bind fun au => (qba.j3 k x0 x1 au ad aa ab ae)) else (qba.j3 k x0 x1 false ad aa ab ae))
def qba.j3 : Nat → Int → List (S61) → Bool → Int → Int → Int → Int → Option (Int × Int × Int × Int × Bool)
 | 0, _, _, _, _, _, _, _ => none
 | k + 1, x0, x1, av, ad, aa, ab, ae => if av = true then (if 0 ≤ ab then (if ab < (x1.length : Int) then (some (6, aa, 0, (rd_T61 x1 ab).f3, true)) else (none)) else (none)) else (if ad = 6 then (qba.j4 k x0 x1 (ae == 0) ad aa ab ae) else (qba.j4 k x0 x1 false ad aa ab ae))
def qba.j4 : Nat → Int → List (S61) → Bool → Int → Int → Int → Int → Option (Int × Int × Int × Int × Bool)
 | 0, _, _, _, _, _, _, _ => none
 | k + 1, x0, x1, aw, ad, aa, ab, ae => if aw = true then ((qja.f 0).bind fun aj => (some (aj.1, aj.2.1, aj.2.2.1, aj.2.2.2.1, aj.2.2.2.2))) else (if ad = 6 then (if 0 ≤ aa then (if aa < (x1.length : Int) then (qba.j5 k x0 x1 (((rd_T61 x1 aa).f0) == 6) ad aa ab ae) else (none)) else (none)) else (qba.j5 k x0 x1 false ad aa ab ae))
def qba.j5 : Nat → Int → List (S61) → Bool → Int → Int → Int → Int → Option (Int × Int × Int × Int × Bool)
 | 0, _, _, _, _, _, _, _ => none
 | k + 1, x0, x1, ax, ad, aa, ab, ae => if ax = true then (if 0 ≤ aa then (if aa < (x1.length : Int) then ((qua.f x0 ((rd_T61 x1 aa).f3) ae).bind fun ay => (some (6, (rd_T61 x1 aa).f1, 0, ay, true))) else (none)) else (none)) else (if ad = 4 then (if aa = ab then ((qja.f 0).bind fun ak => (some (ak.1, ak.2.1, ak.2.2.1, ak.2.2.2.1, ak.2.2.2.2))) else (some (ad, aa, ab, ae, false))) else (some (ad, aa, ab, ae, false)))
end
def qba.f (k : Nat) (a0 : Int) (l1 : List (S61)) (ad : Int) (aa : Int) (ab : Int) (ae : Int) : Option (Int × Int × Int × Int × Bool) := (qxa.f ad aa ab ae).bind fun af => (if af = true then ((qka.f l1 aa).bind fun ag => (if ag = true then ((qka.f l1 ab).bind fun ah => (qba.j0 k a0 l1 ah ad aa ab ae)) else (qba.j0 k a0 l1 false ad aa ab ae))) else (qba.j0 k a0 l1 false ad aa ab ae))
def qba.T2 : Bool × List (List Nat × List Nat) := (true, [([], []), ([], []), ([1], [1]), ([0, 2], [0, 2]), ([3], [3]), ([4], [4]), ([], []), ([], []), ([7], [7]), ([6, 8], [6, 8]), ([9], [9]), ([10], [10]), ([5, 0, 1, 2, 3, 4, 5], [5]), ([11, 12, 0, 1, 2, 3, 4, 5, 6, 7, 8, 9, 10, 11, 12], [11])])
def qba.B2 : List Nat := [0, 0, 2, 7, 15, 31, 0, 0, 128, 448, 960, 1984, 63, 8191]
theorem qba.tab2 : rtab .any (opsOf Try.f43 2) = qba.T2 := by kernel_rfl
theorem qba.bits2 : waitsOk qba.T2.2 qba.B2 = true := by kernel_rfl
def qba.T10 : Bool × List (List Nat × List Nat) := (true, [([], []), ([], []), ([], []), ([2], [2]), ([1, 3], [1, 3]), ([4], [4]), ([5], [5]), ([], []), ([7], [7]), ([0, 6, 8], [0, 6, 8]), ([9, 9], [9]), ([10], [10]), ([10], [10]), ([11, 10, 0, 1, 2, 3, 4, 5, 6, 7, 8, 9, 10, 11, 12], [11]), ([12, 13, 0, 1, 2, 3, 4, 5, 6, 7, 8, 9, 10, 11, 12, 13], [12])])
def qba.B10 : List Nat := [0, 0, 0, 4, 14, 30, 62, 0, 128, 511, 1023, 2047, 2047, 8191, 16383]
theorem qba.tab10 : rtab .any (opsOf Try.f43 10) = qba.T10 := by kernel_rfl
theorem qba.bits10 : waitsOk qba.T10.2 qba.B10 = true := by kernel_rfl
def qba.T12 : Bool × List (List Nat × List Nat) := (true, [([], []), ([0], [0]), ([], []), ([], []), ([3], [3]), ([2, 4], [2, 4]), ([5], [5]), ([6], [6]), ([1, 7], [1, 7]), ([8, 0, 1, 2, 3, 4, 5, 6, 7, 8], [8]), ([9, 0, 1, 2, 3, 4, 5, 6, 7, 8, 9], [])])
def qba.B12 : List Nat := [0, 1, 0, 0, 8, 28, 60, 124, 255, 511, 1023]
theorem qba.tab12 : rtab .any (opsOf Try.f43 12) = qba.T12 := by kernel_rfl
theorem qba.bits12 : waitsOk qba.T12.2 qba.B12 = true := by kernel_rfl
def qba.T14 : Bool × List (List Nat × List Nat) := (true, [([], []), ([0], [0]), ([], []), ([], []), ([3], [3]), ([2, 4], [2, 4]), ([5], [5]), ([6], [6]), ([1, 7], [1, 7]), ([8, 0, 1, 2, 3, 4, 5, 6, 7, 8], [8]), ([9, 0, 1, 2, 3, 4, 5, 6, 7, 8, 9], [])])
def qba.B14 : List Nat := [0, 1, 0, 0, 8, 28, 60, 124, 255, 511, 1023]
theorem qba.tab14 : rtab .any (opsOf Try.f43 14) = qba.T14 := by kernel_rfl
theorem qba.bits14 : waitsOk qba.T14.2 qba.B14 = true := by kernel_rfl
def qba.T18 : Bool × List (List Nat × List Nat) := (true, [([], []), ([], []), ([1], [1]), ([0, 2], [0, 2]), ([3], [3]), ([4], [4]), ([], []), ([], []), ([], []), ([8], [8]), ([7, 9], [7, 9]), ([10], [10]), ([11], [11]), ([], []), ([13], [13]), ([6, 12, 14], [6, 12, 14]), ([5, 15], [5, 15]), ([16, 15, 0, 1, 2, 3, 4, 5, 6, 7, 8, 9, 10, 11, 12, 13, 14, 15, 16], [16]), ([17, 0, 1, 2, 3, 4, 5, 6, 7, 8, 9, 10, 11, 12, 13, 14, 15, 16, 17], [])])
def qba.B18 : List Nat := [0, 0, 2, 7, 15, 31, 0, 0, 0, 256, 896, 1920, 3968, 0, 8192, 32704, 65535, 131071, 262143]
theorem qba.tab18 : rtab .any (opsOf Try.f43 18) = qba.T18 := by kernel_rfl
theorem qba.bits18 : waitsOk qba.T18.2 qba.B18 = true := by kernel_rfl
theorem qba.calls (k : Nat) (a0 : Int) (A1 : Option Addr) (c1 : Nat) (l1 : List (S61)) (ak : Int) (ad : Int) (ag : Int) (aw : Int) (r1 : Int) (r2 : Int) (r3 : Int) (r4 : Int) (r5 : Bool) (w : World) (hr1 : Kd.C k61 w A1 l1.length l1) (hc1 : l1.length ≤ c1) (h : qba.f k a0 l1 ak ad ag aw = some (r1, r2, r3, r4, r5)) :
  Calls Try.prog 43 #[.int .u64 a0, .slice A1 l1.length c1, .agg #[.int .i64 ak, .int .i64 ad, .int .i64 ag, .int .u64 aw]] w fun e w' => e = .returned (.tuple #[.agg #[.int .i64 r1, .int .i64 r2, .int .i64 r3, .int .u64 r4], .bool r5]) ∧ Below w.heap.size w w' := by
 have hu61 := Try.underlying61;have HR1 := Aside0.mk hr1;have HC1 := Aside0.mk hc1;clear hr1 hc1;have HB := Aside0.mk (Below.refl w.heap.size w);have H : ((qxa.f ak ad ag aw).bind fun cx => (if cx = true then ((qka.f l1 ad).bind fun cy => (if cy = true then ((qka.f l1 ag).bind fun cd => (qba.j0 k a0 l1 cd ak ad ag aw)) else (qba.j0 k a0 l1 false ak ad ag aw))) else (qba.j0 k a0 l1 false ak ad ag aw))) = some (r1, r2, r3, r4, r5) := h;clear h;have HC4 := Aside0.mk H;clear H;go_enter Try.func43, Try.ntmps43;go_upto_region 1 with (first | ((with_reducible refine gate_dst (N := 5) rfl ?_); refine box_event ?hg (N := 5) ?hd (cs := #[.int .i64 ak, .int .i64 ad, .int .i64 ag, .int .u64 aw]) (t := 61) ?hr ?_; (case hd => rfl); (case hg => rfl); (case hr => first | (go_simp; done) | (go_simp; rfl)); intro ai hg w5 hbox hb; have aa := am hbox; have fC := kG HB hg; have fD := kG HB hg; replace HB := kH HB hb; clear hb hbox hg) | ((with_reducible refine gate_dst (N := 6) rfl ?_); refine box_event ?hg (N := 6) ?hd (cs := #[.int .i64 0, .int .i64 0, .int .i64 0, .int .u64 0]) (t := 61) ?hr ?_; (case hd => rfl); (case hg => rfl); (case hr => first | (go_simp; done) | (go_simp; rfl)); intro aj hg w6 hbox hb; have ab := am hbox; have fE := kG HB hg; have fF := kG HB hg; replace HB := kH HB hb; have ae := kP aa hg; have af := kQ aa hg; replace aa := kU aa hb; clear hb hbox hg));(try simp only [Act.put, qS1, qS2, qS3]);go_cut [10] (fun v10 wc => ∃ (kq : Nat) (bP : Bool), v10 = .bool bP ∧ Aside0 (qba.j0 kq a0 l1 bP ak ad ag aw = some (r1, r2, r3, r4, r5)) ∧ Aside0 (kq ≤ k) ∧ Aside0 (wc.heap[ai]? = some (.cells #[.int .i64 ak, .int .i64 ad, .int .i64 ag, .int .u64 aw] 61 (0, 0))) ∧ Aside0 (wc.heap[aj]? = some (.cells #[.int .i64 0, .int .i64 0, .int .i64 0, .int .u64 0] 61 (0, 0))) ∧ Aside0 (Below w.heap.size w wc))
 case first =>
  as_aux_lemma =>
   have H := HC4.out;clear HC4;replace H := Option.bind_eq_some_iff.mp H;obtain ⟨cx, A70, H⟩ := H;(try dsimp only at H);have A7 := Aside0.mk A70;clear A70
   by_cases c8 : cx = true
   rotate_left
   ·replace c8 := Bool.eq_false_iff.mpr c8
    subst c8;replace H := ifF H;have H' := Aside0.mk H;clear H;have fG := ae.out;have fH := af.out;have Z21 := kz4 aa;go_wp2_with (first | ((with_reducible refine gate_callee (f := 36) rfl ?_); refine goesL_ (some 12) rfl rfl Try.func36 (by kernel_rfl) rfl #[.agg #[.int .i64 ak, .int .i64 ad, .int .i64 ag, .int .u64 aw]] rfl (by (try simp only [qM1, qM2, qM3]); first | done | rfl) ?_; (with_reducible refine (qxa.calls ak ad ag aw false _ A7.out).mono ?_); rintro e w22 ⟨rfl, hb⟩; refine ⟨_, rfl, ?_⟩; replace aa := kU aa hb; replace ab := kU ab hb; replace HB := kH HB hb; (try clear hb); (try clear hb2); (try clear hk); (try clear hi)));go_meet
    case rel => exact ⟨_, (false), et, H', ⟨by first | omega | exact Nat.le_refl _⟩, ⟨kg aa⟩, ⟨kg ab⟩, ⟨kh HB⟩⟩
   subst c8;replace H := ifT H;replace H := Option.bind_eq_some_iff.mp H;obtain ⟨cy, A90, H⟩ := H;(try dsimp only at H);have A9 := Aside0.mk A90;clear A90
   by_cases c10 : cy = true
   rotate_left
   ·replace c10 := Bool.eq_false_iff.mpr c10
    subst c10;replace H := ifF H;have H' := Aside0.mk H;clear H;have fI := ae.out;have fJ := af.out;have Z17 := kz4 aa;go_wp2_with (first | ((with_reducible refine gate_callee (f := 36) rfl ?_); refine goesL_ (some 12) rfl rfl Try.func36 (by kernel_rfl) rfl #[.agg #[.int .i64 ak, .int .i64 ad, .int .i64 ag, .int .u64 aw]] rfl (by (try simp only [qM1, qM2, qM3]); first | done | rfl) ?_; (with_reducible refine (qxa.calls ak ad ag aw true _ A7.out).mono ?_); rintro e w18 ⟨rfl, hb⟩; refine ⟨_, rfl, ?_⟩; replace aa := kU aa hb; replace ab := kU ab hb; replace HB := kH HB hb; (try clear hb); (try clear hb2); (try clear hk); (try clear hi); have Z19 := kz4 aa) | (go_at_call 72; (with_reducible refine (qka.calls _ _ l1 ad false _ ?side1 ?side2 A9.out).mono ?_); (case side1 => repeat (first | exact (Kd.C_below HR1.out HB.out) | (with_reducible first | refine Kd.C_alloc ?_ _ | refine Kd.C_drewN ?_ _ | refine Kd.C_drew ?_))); (case side2 => exact HC1.out); rintro e w' ⟨rfl, ⟨nd, rfl⟩⟩));go_meet
    case rel => exact ⟨_, (false), et, H', ⟨by first | omega | exact Nat.le_refl _⟩, ⟨kg aa⟩, ⟨kg ab⟩, ⟨kh HB⟩⟩
   subst c10;replace H := ifT H;replace H := Option.bind_eq_some_iff.mp H;obtain ⟨cd, cZ, H⟩ := H;(try dsimp only at H);have A11 := Aside0.mk cZ;clear cZ;have H' := Aside0.mk H;clear H;have fK := ae.out;have fL := af.out;have Z13 := kz4 aa;go_wp2_with (first | ((with_reducible refine gate_callee (f := 36) rfl ?_); refine goesL_ (some 12) rfl rfl Try.func36 (by kernel_rfl) rfl #[.agg #[.int .i64 ak, .int .i64 ad, .int .i64 ag, .int .u64 aw]] rfl (by (try simp only [qM1, qM2, qM3]); first | done | rfl) ?_; (with_reducible refine (qxa.calls ak ad ag aw true _ A7.out).mono ?_); rintro e w14 ⟨rfl, hb⟩; refine ⟨_, rfl, ?_⟩; replace aa := kU aa hb; replace ab := kU ab hb; replace HB := kH HB hb; (try clear hb); (try clear hb2); (try clear hk); (try clear hi); have Z15 := kz4 aa) | (go_at_call 72; (with_reducible refine (qka.calls _ _ l1 ad true _ ?side1 ?side2 A9.out).mono ?_); (case side1 => repeat (first | exact (Kd.C_below HR1.out HB.out) | (with_reducible first | refine Kd.C_alloc ?_ _ | refine Kd.C_drewN ?_ _ | refine Kd.C_drew ?_))); (case side2 => exact HC1.out); rintro e w' ⟨rfl, ⟨nd, rfl⟩⟩) | (go_at_call 72; (with_reducible refine (qka.calls _ _ l1 ag cd _ ?side1 ?side2 A11.out).mono ?_); (case side1 => repeat (first | exact (Kd.C_below HR1.out (kh HB)) | (with_reducible first | refine Kd.C_alloc ?_ _ | refine Kd.C_drewN ?_ _ | refine Kd.C_drew ?_))); (case side2 => exact HC1.out); rintro e w' ⟨rfl, ⟨nd, rfl⟩⟩));go_meet
   case rel => exact ⟨_, (cd), et, H', ⟨by first | omega | exact Nat.le_refl _⟩, ⟨kg aa⟩, ⟨kg ab⟩, ⟨kh HB⟩⟩
 case rest =>
  as_aux_lemma =>
   clear HC4;obtain ⟨kq, bP, rfl, HA, HJ3, aa, ab, HB⟩ := hcut
   cases kq with
   | zero => exact absurd HA.out (by simp [qba.j0])
   | succ kj3 =>
    have H := HA.out;clear HA;simp only [qba.j0] at H
    by_cases c23 : bP = true
    ·subst c23
     replace H := ifT H
     by_cases c24 : 0 ≤ ad
     rotate_left
     ·rw [if_neg c24] at H
      exact absurd H (by simp)
     rw [if_pos c24] at H;have fM := decide_eq_true c24;clear c24
     by_cases c25 : ad < (l1.length : Int)
     rotate_left
     ·rw [if_neg c25] at H
      exact absurd H (by simp)
     rw [if_pos c25] at H;have fN := decide_eq_true c25;clear c25
     by_cases c26 : 0 ≤ ag
     rotate_left
     ·rw [if_neg c26] at H
      exact absurd H (by simp)
     rw [if_pos c26] at H;have fO := decide_eq_true c26;clear c26
     by_cases c27 : ag < (l1.length : Int)
     rotate_left
     ·rw [if_neg c27] at H
      exact absurd H (by simp)
     rw [if_pos c27] at H;have fP := decide_eq_true c27;clear c27
     by_cases c28 : ak = 3
     ·rw [if_pos c28] at H
      have da := beq_iff_eq.mpr c28;have db := bne_eq_false_iff_eq.mpr c28;clear c28;replace H := Option.bind_eq_some_iff.mp H;obtain ⟨cz, dc, H⟩ := H;(try dsimp only at H);have A29 := Aside0.mk dc;clear dc;replace H := Option.bind_eq_some_iff.mp H;obtain ⟨⟨dd, de, df, dg, eG⟩, dh, H⟩ := H;(try dsimp only at H);have A30 := Aside0.mk dh;clear dh;simp only [Option.some.injEq, Prod.mk.injEq] at H;obtain ⟨rfl, rfl, rfl, rfl, rfl⟩ := H;(try go_wp2);replace aa := kD aa; replace ab := kD ab; replace HB := kE HB;have bl : 0 ≤ (ad : Int) := od;have bm : ad < (l1.length : Int) := od;obtain ⟨ah, bZ, al, an, ao, ap⟩ := at_T61 HR1.out ad bl bm;have ay := ap; have az := ao; have aA := an; have aC := al;cases bZ;replace al := (HB.out.cell (World.block_lt_of_cell? w _ al)).trans al;replace an := (HB.out.cell (World.block_lt_of_cell? w _ an)).trans an;replace ao := (HB.out.cell (World.block_lt_of_cell? w _ ao)).trans ao;replace ap := (HB.out.cell (World.block_lt_of_cell? w _ ap)).trans ap;replace bl := eq_true bl; replace bm := eq_true bm;have bn : 0 ≤ (ag : Int) := od;have bo : ag < (l1.length : Int) := od;obtain ⟨bG, ca, aq, ar, au, av⟩ := at_T61 HR1.out ag bn bo;have aD := av; have aE := au; have aG := ar; have aH := aq;obtain rfl : ah = bG := (by injection ca);replace aq := (HB.out.cell (World.block_lt_of_cell? w _ aq)).trans aq;replace ar := (HB.out.cell (World.block_lt_of_cell? w _ ar)).trans ar;replace au := (HB.out.cell (World.block_lt_of_cell? w _ au)).trans au;replace av := (HB.out.cell (World.block_lt_of_cell? w _ av)).trans av;replace bn := eq_true bn; replace bo := eq_true bo;refine start_ (n := 14) (S := fun w' => w'.cell? ⟨ai, 0, none⟩ = some (.int .i64 ak) ∧ w'.cell? ⟨ai, 1, none⟩ = some (.int .i64 ad) ∧ w'.cell? ⟨ai, 2, none⟩ = some (.int .i64 ag) ∧ w'.cell? ⟨ai, 3, none⟩ = some (.int .u64 aw) ∧ w'.cell? (ah.add ((ad).toNat * 4)) = some (.int .i64 ((rd_T61 l1 ad).f0)) ∧ w'.cell? ⟨(ah.add ((ad).toNat * 4)).block, (ah.add ((ad).toNat * 4)).off + 1, none⟩ = some (.int .i64 ((rd_T61 l1 ad).f1)) ∧ w'.cell? ⟨(ah.add ((ad).toNat * 4)).block, (ah.add ((ad).toNat * 4)).off + 2, none⟩ = some (.int .i64 ((rd_T61 l1 ad).f2)) ∧ w'.cell? ⟨(ah.add ((ad).toNat * 4)).block, (ah.add ((ad).toNat * 4)).off + 3, none⟩ = some (.int .u64 ((rd_T61 l1 ad).f3)) ∧ w'.cell? (ah.add ((ag).toNat * 4)) = some (.int .i64 ((rd_T61 l1 ag).f0)) ∧ w'.cell? ⟨(ah.add ((ag).toNat * 4)).block, (ah.add ((ag).toNat * 4)).off + 1, none⟩ = some (.int .i64 ((rd_T61 l1 ag).f1)) ∧ w'.cell? ⟨(ah.add ((ag).toNat * 4)).block, (ah.add ((ag).toNat * 4)).off + 2, none⟩ = some (.int .i64 ((rd_T61 l1 ag).f2)) ∧ w'.cell? ⟨(ah.add ((ag).toNat * 4)).block, (ah.add ((ag).toNat * 4)).off + 3, none⟩ = some (.int .u64 ((rd_T61 l1 ag).f3))) (ds := []) (bs 14 0) (by kernel_rfl) rfl rfl ⟨kk aa 0, kk aa 1, kk aa 2, kk aa 3, (kq HB aC), (kq HB aA), (kq HB az), (kq HB ay), (kq HB aH), (kq HB aG), (kq HB aE), (kq HB aD)⟩ (fun hHeld => ?_); refine with_tabW qba.tab2 qba.bits2 (fun HT_ HW_ => ?_);generalize wc.drew = w31 at aa ab HB al an ao ap aq ar au av hHeld ⊢;refine pu 0 (some 25) (bs 14 1) HT_ ?_;refine pu 1 (some 26) (bs 14 3) HT_ ?_;refine pu 6 (some 31) (bs 14 67) HT_ ?_;refine pu 7 (some 32) (bs 14 195) HT_ ?_;refine ta 2 (some 27) (bs 14 199) HT_ HW_ hHeld ?_;refine pu 3 (some 28) (bs 14 207) HT_ ?_;refine pu 4 (some 29) (bs 14 223) HT_ ?_;refine ta 5 (some 30) (bs 14 255) HT_ HW_ hHeld ?_;refine pu 12 (some 8) (bs 14 4351) HT_ ?_;refine ta 8 (some 33) (bs 14 4607) HT_ HW_ hHeld ?_;refine pu 9 (some 34) (bs 14 5119) HT_ ?_;refine pu 10 (some 35) (bs 14 6143) HT_ ?_;refine ta 11 (some 36) (bs 14 8191) HT_ HW_ hHeld ?_;refine pu 13 (some 9) (bs 14 16383) HT_ ?_;refine done_ (done_of HT_.out (by kernel_rfl)) ?_;have fQ := ae.out;have fR := af.out;have Z33 := kz4 aa;(try go_wp2_with (first | ((with_reducible refine gate_callee (f := 74) rfl ?_); refine goesL_ (some 44) rfl rfl Try.func74 (by kernel_rfl) rfl #[.int .u64 a0, .int .u64 ((rd_T61 l1 ad).f3), .int .u64 ((rd_T61 l1 ag).f3)] rfl (by (try simp only [qM1, qM2, qM3]); first | done | rfl) ?_; (with_reducible refine (qab.calls a0 ((rd_T61 l1 ad).f3) ((rd_T61 l1 ag).f3) cz _ A29.out).mono ?_); rintro e w' ⟨rfl, ⟨nd, rfl⟩⟩; refine ⟨_, rfl, ?_⟩; (try (rw [drewN_self w31]; generalize hq_ : World.drewN w31 _ = w31; replace aa : Aside0 (w31.heap[ai]? = some (.cells #[.int .i64 ak, .int .i64 ad, .int .i64 ag, .int .u64 aw] 61 (0, 0))) := ⟨by rw [← hq_]; exact (kb aa)⟩; replace ab : Aside0 (w31.heap[aj]? = some (.cells #[.int .i64 0, .int .i64 0, .int .i64 0, .int .u64 0] 61 (0, 0))) := ⟨by rw [← hq_]; exact (kb ab)⟩; replace HB : Aside0 (Below w.heap.size w w31) := ⟨by rw [← hq_]; exact (kh HB)⟩; clear hq_))) | ((with_reducible refine gate_callee (f := 73) rfl ?_); refine goesL_ (some 45) rfl rfl Try.func73 (by kernel_rfl) rfl #[.int .u64 cz] rfl (by (try simp only [qM1, qM2, qM3]); first | done | rfl) ?_; (with_reducible refine (qja.calls cz dd de df dg eG _ A30.out).mono ?_); rintro e w34 ⟨rfl, hb⟩; refine ⟨_, rfl, ?_⟩; replace aa := kU aa hb; replace ab := kU ab hb; replace HB := kH HB hb; (try clear hb); (try clear hb2); (try clear hk); (try clear hi); have Z35 := kz4 ab)));refine bodyPost_ret (results_ct rfl _ _ aj 61 #[.int .i64 dd, .int .i64 de, .int .i64 df, .int .u64 dg] (0, 0) _ rfl (kg ab) Try.underlying61 rfl (by kernel_rfl)) rfl ?_;exact ⟨er, kh HB⟩
     rw [if_neg c28] at H;have da := beq_eq_false_iff_ne.mpr c28;have db := bne_iff_ne.mpr c28
     by_cases c36 : ak = 4
     rotate_left
     ·rw [if_neg c36] at H
      have di := beq_eq_false_iff_ne.mpr c36;have dj := bne_iff_ne.mpr c36;replace H := Option.bind_eq_some_iff.mp H;obtain ⟨cA, dk, H⟩ := H;(try dsimp only at H);have A44 := Aside0.mk dk;clear dk;replace H := Option.bind_eq_some_iff.mp H;obtain ⟨⟨dl, dm, dn, dp, eH⟩, dq, H⟩ := H;(try dsimp only at H);have A45 := Aside0.mk dq;clear dq;simp only [Option.some.injEq, Prod.mk.injEq] at H;obtain ⟨rfl, rfl, rfl, rfl, rfl⟩ := H;(try go_wp2);replace aa := kD aa; replace ab := kD ab; replace HB := kE HB;have bl : 0 ≤ (ad : Int) := od;have bm : ad < (l1.length : Int) := od;obtain ⟨ah, bZ, al, an, ao, ap⟩ := at_T61 HR1.out ad bl bm;have ay := ap; have az := ao; have aA := an; have aC := al;cases bZ;replace al := (HB.out.cell (World.block_lt_of_cell? w _ al)).trans al;replace an := (HB.out.cell (World.block_lt_of_cell? w _ an)).trans an;replace ao := (HB.out.cell (World.block_lt_of_cell? w _ ao)).trans ao;replace ap := (HB.out.cell (World.block_lt_of_cell? w _ ap)).trans ap;replace bl := eq_true bl; replace bm := eq_true bm;have bn : 0 ≤ (ag : Int) := od;have bo : ag < (l1.length : Int) := od;obtain ⟨bG, ca, aq, ar, au, av⟩ := at_T61 HR1.out ag bn bo;have aD := av; have aE := au; have aG := ar; have aH := aq;obtain rfl : ah = bG := (by injection ca);replace aq := (HB.out.cell (World.block_lt_of_cell? w _ aq)).trans aq;replace ar := (HB.out.cell (World.block_lt_of_cell? w _ ar)).trans ar;replace au := (HB.out.cell (World.block_lt_of_cell? w _ au)).trans au;replace av := (HB.out.cell (World.block_lt_of_cell? w _ av)).trans av;replace bn := eq_true bn; replace bo := eq_true bo;refine start_ (n := 14) (S := fun w' => w'.cell? ⟨ai, 0, none⟩ = some (.int .i64 ak) ∧ w'.cell? ⟨ai, 1, none⟩ = some (.int .i64 ad) ∧ w'.cell? ⟨ai, 2, none⟩ = some (.int .i64 ag) ∧ w'.cell? ⟨ai, 3, none⟩ = some (.int .u64 aw) ∧ w'.cell? (ah.add ((ad).toNat * 4)) = some (.int .i64 ((rd_T61 l1 ad).f0)) ∧ w'.cell? ⟨(ah.add ((ad).toNat * 4)).block, (ah.add ((ad).toNat * 4)).off + 1, none⟩ = some (.int .i64 ((rd_T61 l1 ad).f1)) ∧ w'.cell? ⟨(ah.add ((ad).toNat * 4)).block, (ah.add ((ad).toNat * 4)).off + 2, none⟩ = some (.int .i64 ((rd_T61 l1 ad).f2)) ∧ w'.cell? ⟨(ah.add ((ad).toNat * 4)).block, (ah.add ((ad).toNat * 4)).off + 3, none⟩ = some (.int .u64 ((rd_T61 l1 ad).f3)) ∧ w'.cell? (ah.add ((ag).toNat * 4)) = some (.int .i64 ((rd_T61 l1 ag).f0)) ∧ w'.cell? ⟨(ah.add ((ag).toNat * 4)).block, (ah.add ((ag).toNat * 4)).off + 1, none⟩ = some (.int .i64 ((rd_T61 l1 ag).f1)) ∧ w'.cell? ⟨(ah.add ((ag).toNat * 4)).block, (ah.add ((ag).toNat * 4)).off + 2, none⟩ = some (.int .i64 ((rd_T61 l1 ag).f2)) ∧ w'.cell? ⟨(ah.add ((ag).toNat * 4)).block, (ah.add ((ag).toNat * 4)).off + 3, none⟩ = some (.int .u64 ((rd_T61 l1 ag).f3))) (ds := []) (bs 14 0) (by kernel_rfl) rfl rfl ⟨kk aa 0, kk aa 1, kk aa 2, kk aa 3, (kq HB aC), (kq HB aA), (kq HB az), (kq HB ay), (kq HB aH), (kq HB aG), (kq HB aE), (kq HB aD)⟩ (fun hHeld => ?_); refine with_tabW qba.tab2 qba.bits2 (fun HT_ HW_ => ?_);generalize wc.drew = w46 at aa ab HB al an ao ap aq ar au av hHeld ⊢;refine pu 0 (some 25) (bs 14 1) HT_ ?_;refine pu 1 (some 26) (bs 14 3) HT_ ?_;refine pu 6 (some 31) (bs 14 67) HT_ ?_;refine pu 7 (some 32) (bs 14 195) HT_ ?_;refine ta 2 (some 27) (bs 14 199) HT_ HW_ hHeld ?_;refine pu 3 (some 28) (bs 14 207) HT_ ?_;refine pu 4 (some 29) (bs 14 223) HT_ ?_;refine ta 5 (some 30) (bs 14 255) HT_ HW_ hHeld ?_;refine pu 12 (some 8) (bs 14 4351) HT_ ?_;refine ta 8 (some 33) (bs 14 4607) HT_ HW_ hHeld ?_;refine pu 9 (some 34) (bs 14 5119) HT_ ?_;refine pu 10 (some 35) (bs 14 6143) HT_ ?_;refine ta 11 (some 36) (bs 14 8191) HT_ HW_ hHeld ?_;refine pu 13 (some 9) (bs 14 16383) HT_ ?_;refine done_ (done_of HT_.out (by kernel_rfl)) ?_;have fS := ae.out;have fT := af.out;have Z48 := kz4 aa;(try go_wp2_with (first | ((with_reducible refine gate_callee (f := 76) rfl ?_); refine goesL_ (some 60) rfl rfl Try.func76 (by kernel_rfl) rfl #[.int .u64 a0, .int .u64 ((rd_T61 l1 ad).f3), .int .u64 ((rd_T61 l1 ag).f3)] rfl (by (try simp only [qM1, qM2, qM3]); first | done | rfl) ?_; (with_reducible refine (qua.calls a0 ((rd_T61 l1 ad).f3) ((rd_T61 l1 ag).f3) cA _ A44.out).mono ?_); rintro e w' ⟨rfl, ⟨nd, rfl⟩⟩; refine ⟨_, rfl, ?_⟩; (try (rw [drewN_self w46]; generalize hq_ : World.drewN w46 _ = w46; replace aa : Aside0 (w46.heap[ai]? = some (.cells #[.int .i64 ak, .int .i64 ad, .int .i64 ag, .int .u64 aw] 61 (0, 0))) := ⟨by rw [← hq_]; exact (kb aa)⟩; replace ab : Aside0 (w46.heap[aj]? = some (.cells #[.int .i64 0, .int .i64 0, .int .i64 0, .int .u64 0] 61 (0, 0))) := ⟨by rw [← hq_]; exact (kb ab)⟩; replace HB : Aside0 (Below w.heap.size w w46) := ⟨by rw [← hq_]; exact (kh HB)⟩; clear hq_))) | ((with_reducible refine gate_callee (f := 73) rfl ?_); refine goesL_ (some 61) rfl rfl Try.func73 (by kernel_rfl) rfl #[.int .u64 cA] rfl (by (try simp only [qM1, qM2, qM3]); first | done | rfl) ?_; (with_reducible refine (qja.calls cA dl dm dn dp eH _ A45.out).mono ?_); rintro e w49 ⟨rfl, hb⟩; refine ⟨_, rfl, ?_⟩; replace aa := kU aa hb; replace ab := kU ab hb; replace HB := kH HB hb; (try clear hb); (try clear hb2); (try clear hk); (try clear hi); have Z50 := kz4 ab)));refine bodyPost_ret (results_ct rfl _ _ aj 61 #[.int .i64 dl, .int .i64 dm, .int .i64 dn, .int .u64 dp] (0, 0) _ rfl (kg ab) Try.underlying61 rfl (by kernel_rfl)) rfl ?_;exact ⟨er, kh HB⟩
     rw [if_pos c36] at H;have di := beq_iff_eq.mpr c36;have dj := bne_eq_false_iff_eq.mpr c36;clear c36;replace H := Option.bind_eq_some_iff.mp H;obtain ⟨cB, dr, H⟩ := H;(try dsimp only at H);have A37 := Aside0.mk dr;clear dr;replace H := Option.bind_eq_some_iff.mp H;obtain ⟨⟨dt, du, dv, dw, eI⟩, dx, H⟩ := H;(try dsimp only at H);have A38 := Aside0.mk dx;clear dx;simp only [Option.some.injEq, Prod.mk.injEq] at H;obtain ⟨rfl, rfl, rfl, rfl, rfl⟩ := H;(try go_wp2);replace aa := kD aa; replace ab := kD ab; replace HB := kE HB;have bl : 0 ≤ (ad : Int) := od;have bm : ad < (l1.length : Int) := od;obtain ⟨ah, bZ, al, an, ao, ap⟩ := at_T61 HR1.out ad bl bm;have ay := ap; have az := ao; have aA := an; have aC := al;cases bZ;replace al := (HB.out.cell (World.block_lt_of_cell? w _ al)).trans al;replace an := (HB.out.cell (World.block_lt_of_cell? w _ an)).trans an;replace ao := (HB.out.cell (World.block_lt_of_cell? w _ ao)).trans ao;replace ap := (HB.out.cell (World.block_lt_of_cell? w _ ap)).trans ap;replace bl := eq_true bl; replace bm := eq_true bm;have bn : 0 ≤ (ag : Int) := od;have bo : ag < (l1.length : Int) := od;obtain ⟨bG, ca, aq, ar, au, av⟩ := at_T61 HR1.out ag bn bo;have aD := av; have aE := au; have aG := ar; have aH := aq;obtain rfl : ah = bG := (by injection ca);replace aq := (HB.out.cell (World.block_lt_of_cell? w _ aq)).trans aq;replace ar := (HB.out.cell (World.block_lt_of_cell? w _ ar)).trans ar;replace au := (HB.out.cell (World.block_lt_of_cell? w _ au)).trans au;replace av := (HB.out.cell (World.block_lt_of_cell? w _ av)).trans av;replace bn := eq_true bn; replace bo := eq_true bo;refine start_ (n := 14) (S := fun w' => w'.cell? ⟨ai, 0, none⟩ = some (.int .i64 ak) ∧ w'.cell? ⟨ai, 1, none⟩ = some (.int .i64 ad) ∧ w'.cell? ⟨ai, 2, none⟩ = some (.int .i64 ag) ∧ w'.cell? ⟨ai, 3, none⟩ = some (.int .u64 aw) ∧ w'.cell? (ah.add ((ad).toNat * 4)) = some (.int .i64 ((rd_T61 l1 ad).f0)) ∧ w'.cell? ⟨(ah.add ((ad).toNat * 4)).block, (ah.add ((ad).toNat * 4)).off + 1, none⟩ = some (.int .i64 ((rd_T61 l1 ad).f1)) ∧ w'.cell? ⟨(ah.add ((ad).toNat * 4)).block, (ah.add ((ad).toNat * 4)).off + 2, none⟩ = some (.int .i64 ((rd_T61 l1 ad).f2)) ∧ w'.cell? ⟨(ah.add ((ad).toNat * 4)).block, (ah.add ((ad).toNat * 4)).off + 3, none⟩ = some (.int .u64 ((rd_T61 l1 ad).f3)) ∧ w'.cell? (ah.add ((ag).toNat * 4)) = some (.int .i64 ((rd_T61 l1 ag).f0)) ∧ w'.cell? ⟨(ah.add ((ag).toNat * 4)).block, (ah.add ((ag).toNat * 4)).off + 1, none⟩ = some (.int .i64 ((rd_T61 l1 ag).f1)) ∧ w'.cell? ⟨(ah.add ((ag).toNat * 4)).block, (ah.add ((ag).toNat * 4)).off + 2, none⟩ = some (.int .i64 ((rd_T61 l1 ag).f2)) ∧ w'.cell? ⟨(ah.add ((ag).toNat * 4)).block, (ah.add ((ag).toNat * 4)).off + 3, none⟩ = some (.int .u64 ((rd_T61 l1 ag).f3))) (ds := []) (bs 14 0) (by kernel_rfl) rfl rfl ⟨kk aa 0, kk aa 1, kk aa 2, kk aa 3, (kq HB aC), (kq HB aA), (kq HB az), (kq HB ay), (kq HB aH), (kq HB aG), (kq HB aE), (kq HB aD)⟩ (fun hHeld => ?_); refine with_tabW qba.tab2 qba.bits2 (fun HT_ HW_ => ?_);generalize wc.drew = w39 at aa ab HB al an ao ap aq ar au av hHeld ⊢;refine pu 0 (some 25) (bs 14 1) HT_ ?_;refine pu 1 (some 26) (bs 14 3) HT_ ?_;refine pu 6 (some 31) (bs 14 67) HT_ ?_;refine pu 7 (some 32) (bs 14 195) HT_ ?_;refine ta 2 (some 27) (bs 14 199) HT_ HW_ hHeld ?_;refine pu 3 (some 28) (bs 14 207) HT_ ?_;refine pu 4 (some 29) (bs 14 223) HT_ ?_;refine ta 5 (some 30) (bs 14 255) HT_ HW_ hHeld ?_;refine pu 12 (some 8) (bs 14 4351) HT_ ?_;refine ta 8 (some 33) (bs 14 4607) HT_ HW_ hHeld ?_;refine pu 9 (some 34) (bs 14 5119) HT_ ?_;refine pu 10 (some 35) (bs 14 6143) HT_ ?_;refine ta 11 (some 36) (bs 14 8191) HT_ HW_ hHeld ?_;refine pu 13 (some 9) (bs 14 16383) HT_ ?_;refine done_ (done_of HT_.out (by kernel_rfl)) ?_;have fU := ae.out;have fV := af.out;have Z41 := kz4 aa;(try go_wp2_with (first | ((with_reducible refine gate_callee (f := 75) rfl ?_); refine goesL_ (some 53) rfl rfl Try.func75 (by kernel_rfl) rfl #[.int .u64 a0, .int .u64 ((rd_T61 l1 ad).f3), .int .u64 ((rd_T61 l1 ag).f3)] rfl (by (try simp only [qM1, qM2, qM3]); first | done | rfl) ?_; (with_reducible refine (qwa.calls a0 ((rd_T61 l1 ad).f3) ((rd_T61 l1 ag).f3) cB _ A37.out).mono ?_); rintro e w' ⟨rfl, ⟨nd, rfl⟩⟩; refine ⟨_, rfl, ?_⟩; (try (rw [drewN_self w39]; generalize hq_ : World.drewN w39 _ = w39; replace aa : Aside0 (w39.heap[ai]? = some (.cells #[.int .i64 ak, .int .i64 ad, .int .i64 ag, .int .u64 aw] 61 (0, 0))) := ⟨by rw [← hq_]; exact (kb aa)⟩; replace ab : Aside0 (w39.heap[aj]? = some (.cells #[.int .i64 0, .int .i64 0, .int .i64 0, .int .u64 0] 61 (0, 0))) := ⟨by rw [← hq_]; exact (kb ab)⟩; replace HB : Aside0 (Below w.heap.size w w39) := ⟨by rw [← hq_]; exact (kh HB)⟩; clear hq_))) | ((with_reducible refine gate_callee (f := 73) rfl ?_); refine goesL_ (some 54) rfl rfl Try.func73 (by kernel_rfl) rfl #[.int .u64 cB] rfl (by (try simp only [qM1, qM2, qM3]); first | done | rfl) ?_; (with_reducible refine (qja.calls cB dt du dv dw eI _ A38.out).mono ?_); rintro e w42 ⟨rfl, hb⟩; refine ⟨_, rfl, ?_⟩; replace aa := kU aa hb; replace ab := kU ab hb; replace HB := kH HB hb; (try clear hb); (try clear hb2); (try clear hk); (try clear hi); have Z43 := kz4 ab)));refine bodyPost_ret (results_ct rfl _ _ aj 61 #[.int .i64 dt, .int .i64 du, .int .i64 dv, .int .u64 dw] (0, 0) _ rfl (kg ab) Try.underlying61 rfl (by kernel_rfl)) rfl ?_;exact ⟨er, kh HB⟩
    replace c23 := Bool.eq_false_iff.mpr c23;subst c23;replace H := ifF H;have cC := Aside0.mk H;clear H;go_upto_region 9 with (fail);go_cut [64] (fun v64 wc => ∃ (kq : Nat) (bv : Bool), v64 = .bool bv ∧ Aside0 (qba.j1 kq a0 l1 bv ak ad ag aw = some (r1, r2, r3, r4, r5)) ∧ Aside0 (kq ≤ kj3) ∧ Aside0 (wc.heap[ai]? = some (.cells #[.int .i64 ak, .int .i64 ad, .int .i64 ag, .int .u64 aw] 61 (0, 0))) ∧ Aside0 (wc.heap[aj]? = some (.cells #[.int .i64 0, .int .i64 0, .int .i64 0, .int .u64 0] 61 (0, 0))) ∧ Aside0 (Below w.heap.size w wc))
    case first =>
     as_aux_lemma =>
      have H := cC.out;clear cC
      by_cases c52 : ak = 6
      rotate_left
      ·rw [if_neg c52] at H
       have bH := beq_eq_false_iff_ne.mpr c52;have dy := bne_iff_ne.mpr c52;(first | rw [bH] | (simp only [i64_w, i32_w]; rw [bH]) | skip);have H' := Aside0.mk H;clear H;have fW := ae.out;have fX := af.out;have Z57 := kz4 aa;go_wp2;go_meet
       case rel => exact ⟨_, (false), et, H', ⟨by have := HJ3.out; first | omega | exact Nat.le_refl _⟩, ⟨kg aa⟩, ⟨kg ab⟩, ⟨kh HB⟩⟩
      rw [if_pos c52] at H;have bH := beq_iff_eq.mpr c52;have dy := bne_eq_false_iff_eq.mpr c52;clear c52;(first | rw [bH] | (simp only [i64_w, i32_w]; rw [bH]) | skip);replace H := Option.bind_eq_some_iff.mp H;obtain ⟨dz, dA, H⟩ := H;(try dsimp only at H);have A53 := Aside0.mk dA;clear dA;have H' := Aside0.mk H;clear H;have fY := ae.out;have fZ := af.out;have Z55 := kz4 aa;go_wp2_with (first | (go_at_call 72; (with_reducible refine (qka.calls _ _ l1 ad dz _ ?side1 ?side2 A53.out).mono ?_); (case side1 => repeat (first | exact (Kd.C_below HR1.out HB.out) | (with_reducible first | refine Kd.C_alloc ?_ _ | refine Kd.C_drewN ?_ _ | refine Kd.C_drew ?_))); (case side2 => exact HC1.out); rintro e w' ⟨rfl, ⟨nd, rfl⟩⟩));go_meet
      case rel => exact ⟨_, (dz), et, H', ⟨by have := HJ3.out; first | omega | exact Nat.le_refl _⟩, ⟨kg aa⟩, ⟨kg ab⟩, ⟨kh HB⟩⟩
    case rest =>
     as_aux_lemma =>
      clear cC;(try clear c23 c24);obtain ⟨kq, bv, rfl, HA, bI, aa, ab, HB⟩ := hcut
      cases kq with
      | zero => exact absurd HA.out (by simp [qba.j1])
      | succ eJ =>
       have H := HA.out;clear HA;simp only [qba.j1] at H
       by_cases c58 : bv = true
       ·subst c58
        replace H := ifT H
        by_cases c59 : 0 ≤ ad
        rotate_left
        ·rw [if_neg c59] at H
         exact absurd H (by simp)
        rw [if_pos c59] at H;have ga := decide_eq_true c59;clear c59
        by_cases c60 : ad < (l1.length : Int)
        rotate_left
        ·rw [if_neg c60] at H
         exact absurd H (by simp)
        rw [if_pos c60] at H;have gb := decide_eq_true c60;clear c60;replace H := Option.bind_eq_some_iff.mp H;obtain ⟨cD, dB, H⟩ := H;(try dsimp only at H);have A61 := Aside0.mk dB;clear dB;replace H := Option.bind_eq_some_iff.mp H;obtain ⟨⟨dC, dD, dE, dF, eK⟩, dG, H⟩ := H;(try dsimp only at H);have A62 := Aside0.mk dG;clear dG;simp only [Option.some.injEq, Prod.mk.injEq] at H;obtain ⟨rfl, rfl, rfl, rfl, rfl⟩ := H;(try go_wp2);replace aa := kD aa; replace ab := kD ab; replace HB := kE HB;have cE : 0 ≤ (ad : Int) := od;have cF : ad < (l1.length : Int) := od;obtain ⟨bp, eL, aI, aJ, aK, aM⟩ := at_T61 HR1.out ad cE cF;have bw := aM; have bx := aK; have bz := aJ; have bA := aI;cases eL;replace aI := (HB.out.cell (World.block_lt_of_cell? w _ aI)).trans aI;replace aJ := (HB.out.cell (World.block_lt_of_cell? w _ aJ)).trans aJ;replace aK := (HB.out.cell (World.block_lt_of_cell? w _ aK)).trans aK;replace aM := (HB.out.cell (World.block_lt_of_cell? w _ aM)).trans aM;replace cE := eq_true cE; replace cF := eq_true cF;refine start_ (n := 15) (S := fun w' => w'.cell? ⟨ai, 0, none⟩ = some (.int .i64 ak) ∧ w'.cell? ⟨ai, 1, none⟩ = some (.int .i64 ad) ∧ w'.cell? ⟨ai, 2, none⟩ = some (.int .i64 ag) ∧ w'.cell? ⟨ai, 3, none⟩ = some (.int .u64 aw) ∧ w'.cell? (bp.add ((ad).toNat * 4)) = some (.int .i64 ((rd_T61 l1 ad).f0)) ∧ w'.cell? ⟨(bp.add ((ad).toNat * 4)).block, (bp.add ((ad).toNat * 4)).off + 1, none⟩ = some (.int .i64 ((rd_T61 l1 ad).f1)) ∧ w'.cell? ⟨(bp.add ((ad).toNat * 4)).block, (bp.add ((ad).toNat * 4)).off + 2, none⟩ = some (.int .i64 ((rd_T61 l1 ad).f2)) ∧ w'.cell? ⟨(bp.add ((ad).toNat * 4)).block, (bp.add ((ad).toNat * 4)).off + 3, none⟩ = some (.int .u64 ((rd_T61 l1 ad).f3))) (ds := []) (bs 15 0) (by kernel_rfl) rfl rfl ⟨kk aa 0, kk aa 1, kk aa 2, kk aa 3, (kq HB bA), (kq HB bz), (kq HB bx), (kq HB bw)⟩ (fun hHeld => ?_); refine with_tabW qba.tab10 qba.bits10 (fun HT_ HW_ => ?_);generalize wc.drew = w63 at aa ab HB aI aJ aK aM hHeld ⊢;refine pu 0 (some 74) (bs 15 1) HT_ ?_;refine pu 1 (some 75) (bs 15 3) HT_ ?_;refine pu 2 (some 76) (bs 15 7) HT_ ?_;refine pu 7 (some 81) (bs 15 135) HT_ ?_;refine ta 3 (some 77) (bs 15 143) HT_ HW_ hHeld ?_;refine pu 4 (some 78) (bs 15 159) HT_ ?_;refine pu 5 (some 79) (bs 15 191) HT_ ?_;refine ta 6 (some 80) (bs 15 255) HT_ HW_ hHeld ?_;refine ta 8 (some 82) (bs 15 511) HT_ HW_ hHeld ?_;refine one_ (i := 9) (N := some 83) (bs 15 1023) rfl rfl (one_of HT_.out (by kernel_rfl)) (by decide) (fun K hK => ?_);refine goes_ Try.func76 (by kernel_rfl) rfl #[.int .u64 a0, .int .u64 ((rd_T61 l1 ad).f3), .int .u64 aw] (by rfl) rfl rfl (by (try simp only [qM1, qM2, qM3]); first | done | rfl) ?_;(with_reducible refine (qua.calls a0 ((rd_T61 l1 ad).f3) aw cD _ A61.out).mono ?_);rintro e w' ⟨rfl, ⟨nd, rfl⟩⟩;refine ⟨_, rfl, ?_⟩;refine hK.out _ _ ⟨kk aa 0, kk aa 1, kk aa 2, kk aa 3, (kq HB bA), (kq HB bz), (kq HB bx), (kq HB bw)⟩ (fun hHeld => ?_);clear hK K;refine no (some 83) ?_;refine one_ (i := 10) (N := some 84) (bs 15 2047) rfl rfl (one_of HT_.out (by kernel_rfl)) (by decide) (fun K hK => ?_);refine goes_ Try.func73 (by kernel_rfl) rfl #[.int .u64 cD] (by rfl) rfl rfl (by (try simp only [qM1, qM2, qM3]); first | done | rfl) ?_;(with_reducible refine (qja.calls cD dC dD dE dF eK _ A62.out).mono ?_);rintro e w64 ⟨rfl, hb⟩;refine ⟨_, rfl, ?_⟩;replace aa := kU aa hb; replace ab := kU ab hb; replace HB := kH HB hb;(try clear hb);refine hK.out _ _ ⟨kk aa 0, kk aa 1, kk aa 2, kk aa 3, (kq HB bA), (kq HB bz), (kq HB bx), (kq HB bw)⟩ (fun hHeld => ?_);clear hK K;refine no (some 84) ?_;refine pu 11 (some 85) (bs 15 4095) HT_ ?_;refine pu 12 (some 86) (bs 15 8191) HT_ ?_;refine one_ (i := 13) (N := none) (bs 15 16383) rfl rfl (one_of HT_.out (by kernel_rfl)) (by decide) (fun K hK => ?_);have gJ : w64.cell? ⟨aj, 0, none⟩ = some (.int .i64 0) := kk ab 0;have gc := blk_frozen ab.out 0;have eg := ae.out;have eh := af.out;have gK : w64.cell? ⟨aj, 1, none⟩ = some (.int .i64 0) := kk ab 1;have gd := blk_frozen ab.out 1;have ei := ae.out;have ej := af.out;have gL : w64.cell? ⟨aj, 2, none⟩ = some (.int .i64 0) := kk ab 2;have ge := blk_frozen ab.out 2;have ek := ae.out;have el := af.out;have gM : w64.cell? ⟨aj, 3, none⟩ = some (.int .u64 0) := kk ab 3;have gf := blk_frozen ab.out 3;have em := ae.out;have en := af.out;refine skip_ (w1 := ?_) (by rfl) rfl ?_ ?_
        rotate_left
        ·go_simp
         rfl
        refine hK.out _ _ ⟨(kf hHeld.1), (kf hHeld.2.1), (kf hHeld.2.2.1), (kf hHeld.2.2.2.1), (kf hHeld.2.2.2.2.1), (kf hHeld.2.2.2.2.2.1), (kf hHeld.2.2.2.2.2.2.1), (kf hHeld.2.2.2.2.2.2.2)⟩ (fun hHeld => ?_);clear hK K;refine pu 14 (some 7) (bs 15 32767) HT_ ?_;refine done_ (done_of HT_.out (by kernel_rfl)) ?_;(try go_wp2);refine bodyPost_ret (results_ct rfl _ _ aj 61 #[.int .i64 dC, .int .i64 dD, .int .i64 dE, .int .u64 dF] (0, 0) _ rfl (kg ab) Try.underlying61 rfl (by kernel_rfl)) rfl ?_;exact ⟨er, kh HB⟩
       replace c58 := Bool.eq_false_iff.mpr c58;subst c58;replace H := ifF H;have cG := Aside0.mk H;clear H;go_upto_region 11 with (fail);go_cut [87] (fun v87 wc => ∃ (kq : Nat) (bB : Bool), v87 = .bool bB ∧ Aside0 (qba.j2 kq a0 l1 bB ak ad ag aw = some (r1, r2, r3, r4, r5)) ∧ Aside0 (kq ≤ eJ) ∧ Aside0 (wc.heap[ai]? = some (.cells #[.int .i64 ak, .int .i64 ad, .int .i64 ag, .int .u64 aw] 61 (0, 0))) ∧ Aside0 (wc.heap[aj]? = some (.cells #[.int .i64 0, .int .i64 0, .int .i64 0, .int .u64 0] 61 (0, 0))) ∧ Aside0 (Below w.heap.size w wc))
       case first =>
        as_aux_lemma =>
         have H := cG.out;clear cG
         by_cases c70 : ak = 5
         rotate_left
         ·rw [if_neg c70] at H
          have bJ := beq_eq_false_iff_ne.mpr c70;have dH := bne_iff_ne.mpr c70;(first | rw [bJ] | (simp only [i64_w, i32_w]; rw [bJ]) | skip);have H' := Aside0.mk H;clear H;have gg := ae.out;have gh := af.out;have Z75 := kz4 aa;go_wp2;go_meet
          case rel => exact ⟨_, (false), et, H', ⟨by have := HJ3.out; have := bI.out; first | omega | exact Nat.le_refl _⟩, ⟨kg aa⟩, ⟨kg ab⟩, ⟨kh HB⟩⟩
         rw [if_pos c70] at H;have bJ := beq_iff_eq.mpr c70;have dH := bne_eq_false_iff_eq.mpr c70;clear c70;(first | rw [bJ] | (simp only [i64_w, i32_w]; rw [bJ]) | skip);replace H := Option.bind_eq_some_iff.mp H;obtain ⟨dI, dJ, H⟩ := H;(try dsimp only at H);have A71 := Aside0.mk dJ;clear dJ;have H' := Aside0.mk H;clear H;have gi := ae.out;have gj := af.out;have Z73 := kz4 aa;go_wp2_with (first | (go_at_call 72; (with_reducible refine (qka.calls _ _ l1 ad dI _ ?side1 ?side2 A71.out).mono ?_); (case side1 => repeat (first | exact (Kd.C_below HR1.out HB.out) | (with_reducible first | refine Kd.C_alloc ?_ _ | refine Kd.C_drewN ?_ _ | refine Kd.C_drew ?_))); (case side2 => exact HC1.out); rintro e w' ⟨rfl, ⟨nd, rfl⟩⟩));go_meet
         case rel => exact ⟨_, (dI), et, H', ⟨by have := HJ3.out; have := bI.out; first | omega | exact Nat.le_refl _⟩, ⟨kg aa⟩, ⟨kg ab⟩, ⟨kh HB⟩⟩
       case rest =>
        as_aux_lemma =>
         clear cG;(try clear c58 c59);obtain ⟨kq, bB, rfl, HA, bY, aa, ab, HB⟩ := hcut
         cases kq with
         | zero => exact absurd HA.out (by simp [qba.j2])
         | succ eM =>
          have H := HA.out;clear HA;simp only [qba.j2] at H
          by_cases c76 : bB = true
          ·subst c76
           replace H := ifT H
           by_cases c77 : 0 ≤ ad
           rotate_left
           ·rw [if_neg c77] at H
            exact absurd H (by simp)
           rw [if_pos c77] at H;have gl := decide_eq_true c77;clear c77
           by_cases c78 : ad < (l1.length : Int)
           rotate_left
           ·rw [if_neg c78] at H
            exact absurd H (by simp)
           rw [if_pos c78] at H;have gm := decide_eq_true c78;clear c78;simp only [Option.some.injEq, Prod.mk.injEq] at H;obtain ⟨rfl, rfl, rfl, rfl, rfl⟩ := H;(try go_wp2);replace aa := kD aa; replace ab := kD ab; replace HB := kE HB;have cH : 0 ≤ (ad : Int) := od;have cI : ad < (l1.length : Int) := od;obtain ⟨bq, eN, aN, aQ, aT, aU⟩ := at_T61 HR1.out ad cH cI;have ce := aU; have cf := aT; have cg := aQ; have ch := aN;cases eN;replace aN := (HB.out.cell (World.block_lt_of_cell? w _ aN)).trans aN;replace aQ := (HB.out.cell (World.block_lt_of_cell? w _ aQ)).trans aQ;replace aT := (HB.out.cell (World.block_lt_of_cell? w _ aT)).trans aT;replace aU := (HB.out.cell (World.block_lt_of_cell? w _ aU)).trans aU;replace cH := eq_true cH; replace cI := eq_true cI;refine start_ (n := 11) (S := fun w' => w'.cell? ⟨ai, 0, none⟩ = some (.int .i64 ak) ∧ w'.cell? ⟨ai, 1, none⟩ = some (.int .i64 ad) ∧ w'.cell? ⟨ai, 2, none⟩ = some (.int .i64 ag) ∧ w'.cell? ⟨ai, 3, none⟩ = some (.int .u64 aw) ∧ w'.cell? (bq.add ((ad).toNat * 4)) = some (.int .i64 ((rd_T61 l1 ad).f0)) ∧ w'.cell? ⟨(bq.add ((ad).toNat * 4)).block, (bq.add ((ad).toNat * 4)).off + 1, none⟩ = some (.int .i64 ((rd_T61 l1 ad).f1)) ∧ w'.cell? ⟨(bq.add ((ad).toNat * 4)).block, (bq.add ((ad).toNat * 4)).off + 2, none⟩ = some (.int .i64 ((rd_T61 l1 ad).f2)) ∧ w'.cell? ⟨(bq.add ((ad).toNat * 4)).block, (bq.add ((ad).toNat * 4)).off + 3, none⟩ = some (.int .u64 ((rd_T61 l1 ad).f3))) (ds := []) (bs 11 0) (by kernel_rfl) rfl rfl ⟨kk aa 0, kk aa 1, kk aa 2, kk aa 3, (kq HB ch), (kq HB cg), (kq HB cf), (kq HB ce)⟩ (fun hHeld => ?_); refine with_tabW qba.tab12 qba.bits12 (fun HT_ HW_ => ?_);generalize wc.drew = w79 at aa ab HB aN aQ aT aU hHeld ⊢;refine pu 0 (some 97) (bs 11 1) HT_ ?_;refine pu 2 (some 99) (bs 11 5) HT_ ?_;refine pu 3 (some 100) (bs 11 13) HT_ ?_;refine ta 1 (some 98) (bs 11 15) HT_ HW_ hHeld ?_;refine ta 4 (some 101) (bs 11 31) HT_ HW_ hHeld ?_;refine pu 5 (some 102) (bs 11 63) HT_ ?_;refine pu 6 (some 103) (bs 11 127) HT_ ?_;refine ta 7 (some 104) (bs 11 255) HT_ HW_ hHeld ?_;refine pu 8 (some 105) (bs 11 511) HT_ ?_;refine one_ (i := 9) (N := none) (bs 11 1023) rfl rfl (one_of HT_.out (by kernel_rfl)) (by decide) (fun K hK => ?_);have gN : w79.cell? ⟨aj, 0, none⟩ = some (.int .i64 0) := kk ab 0;have gn := blk_frozen ab.out 0;have eo := ae.out;have ep := af.out;have gO : w79.cell? ⟨aj, 1, none⟩ = some (.int .i64 0) := kk ab 1;have go := blk_frozen ab.out 1;have eq := ae.out;have es := af.out;have gP : w79.cell? ⟨aj, 2, none⟩ = some (.int .i64 0) := kk ab 2;have gp := blk_frozen ab.out 2;have eu := ae.out;have ev := af.out;have gQ : w79.cell? ⟨aj, 3, none⟩ = some (.int .u64 0) := kk ab 3;have gq := blk_frozen ab.out 3;have ew := ae.out;have ex := af.out;refine skip_ (w1 := ?_) (by rfl) rfl ?_ ?_
           rotate_left
           ·go_simp
            rfl
           refine hK.out _ _ ⟨(kf hHeld.1), (kf hHeld.2.1), (kf hHeld.2.2.1), (kf hHeld.2.2.2.1), (kf hHeld.2.2.2.2.1), (kf hHeld.2.2.2.2.2.1), (kf hHeld.2.2.2.2.2.2.1), (kf hHeld.2.2.2.2.2.2.2)⟩ (fun hHeld => ?_);clear hK K;refine pu 10 (some 7) (bs 11 2047) HT_ ?_;refine done_ (done_of HT_.out (by kernel_rfl)) ?_;(try go_wp2);refine bodyPost_ret (results_ct rfl _ _ aj 61 #[.int .i64 6, .int .i64 ag, .int .i64 0, .int .u64 ((rd_T61 l1 ad).f3)] (0, 0) _ rfl (kg ab) Try.underlying61 rfl (by kernel_rfl)) rfl ?_;exact ⟨er, kh HB⟩
          replace c76 := Bool.eq_false_iff.mpr c76;subst c76;replace H := ifF H;have cJ := Aside0.mk H;clear H;go_upto_region 13 with (fail);go_cut [106] (fun eO wc => ∃ (kq : Nat) (bj : Bool), eO = .bool bj ∧ Aside0 (qba.j3 kq a0 l1 bj ak ad ag aw = some (r1, r2, r3, r4, r5)) ∧ Aside0 (kq ≤ eM) ∧ Aside0 (wc.heap[ai]? = some (.cells #[.int .i64 ak, .int .i64 ad, .int .i64 ag, .int .u64 aw] 61 (0, 0))) ∧ Aside0 (wc.heap[aj]? = some (.cells #[.int .i64 0, .int .i64 0, .int .i64 0, .int .u64 0] 61 (0, 0))) ∧ Aside0 (Below w.heap.size w wc))
          case first =>
           as_aux_lemma =>
            have H := cJ.out;clear cJ
            by_cases c85 : ak = 5
            rotate_left
            ·rw [if_neg c85] at H
             have bK := beq_eq_false_iff_ne.mpr c85;have dK := bne_iff_ne.mpr c85;(first | rw [bK] | (simp only [i64_w, i32_w]; rw [bK]) | skip);have H' := Aside0.mk H;clear H;have gr := ae.out;have gt := af.out;have Z90 := kz4 aa;go_wp2;go_meet
             case rel => exact ⟨_, (false), et, H', ⟨by have := HJ3.out; have := bI.out; have := bY.out; first | omega | exact Nat.le_refl _⟩, ⟨kg aa⟩, ⟨kg ab⟩, ⟨kh HB⟩⟩
            rw [if_pos c85] at H;have bK := beq_iff_eq.mpr c85;have dK := bne_eq_false_iff_eq.mpr c85;clear c85;(first | rw [bK] | (simp only [i64_w, i32_w]; rw [bK]) | skip);replace H := Option.bind_eq_some_iff.mp H;obtain ⟨dL, dM, H⟩ := H;(try dsimp only at H);have A86 := Aside0.mk dM;clear dM;have H' := Aside0.mk H;clear H;have gu := ae.out;have gv := af.out;have Z88 := kz4 aa;go_wp2_with (first | (go_at_call 72; (with_reducible refine (qka.calls _ _ l1 ag dL _ ?side1 ?side2 A86.out).mono ?_); (case side1 => repeat (first | exact (Kd.C_below HR1.out HB.out) | (with_reducible first | refine Kd.C_alloc ?_ _ | refine Kd.C_drewN ?_ _ | refine Kd.C_drew ?_))); (case side2 => exact HC1.out); rintro e w' ⟨rfl, ⟨nd, rfl⟩⟩));go_meet
            case rel => exact ⟨_, (dL), et, H', ⟨by have := HJ3.out; have := bI.out; have := bY.out; first | omega | exact Nat.le_refl _⟩, ⟨kg aa⟩, ⟨kg ab⟩, ⟨kh HB⟩⟩
          case rest =>
           as_aux_lemma =>
            clear cJ;(try clear c76 c77);obtain ⟨kq, bj, rfl, HA, ci, aa, ab, HB⟩ := hcut
            cases kq with
            | zero => exact absurd HA.out (by simp [qba.j3])
            | succ eP =>
             have H := HA.out;clear HA;simp only [qba.j3] at H
             by_cases c91 : bj = true
             ·subst c91
              replace H := ifT H
              by_cases c92 : 0 ≤ ag
              rotate_left
              ·rw [if_neg c92] at H
               exact absurd H (by simp)
              rw [if_pos c92] at H;have gw := decide_eq_true c92;clear c92
              by_cases c93 : ag < (l1.length : Int)
              rotate_left
              ·rw [if_neg c93] at H
               exact absurd H (by simp)
              rw [if_pos c93] at H;have gx := decide_eq_true c93;clear c93;simp only [Option.some.injEq, Prod.mk.injEq] at H;obtain ⟨rfl, rfl, rfl, rfl, rfl⟩ := H;(try go_wp2);replace aa := kD aa; replace ab := kD ab; replace HB := kE HB;have cK : 0 ≤ (ag : Int) := od;have cL : ag < (l1.length : Int) := od;obtain ⟨br, eQ, aV, aW, aX, aY⟩ := at_T61 HR1.out ag cK cL;have cj := aY; have ck := aX; have cl := aW; have cm := aV;cases eQ;replace aV := (HB.out.cell (World.block_lt_of_cell? w _ aV)).trans aV;replace aW := (HB.out.cell (World.block_lt_of_cell? w _ aW)).trans aW;replace aX := (HB.out.cell (World.block_lt_of_cell? w _ aX)).trans aX;replace aY := (HB.out.cell (World.block_lt_of_cell? w _ aY)).trans aY;replace cK := eq_true cK; replace cL := eq_true cL;refine start_ (n := 11) (S := fun w' => w'.cell? ⟨ai, 0, none⟩ = some (.int .i64 ak) ∧ w'.cell? ⟨ai, 1, none⟩ = some (.int .i64 ad) ∧ w'.cell? ⟨ai, 2, none⟩ = some (.int .i64 ag) ∧ w'.cell? ⟨ai, 3, none⟩ = some (.int .u64 aw) ∧ w'.cell? (br.add ((ag).toNat * 4)) = some (.int .i64 ((rd_T61 l1 ag).f0)) ∧ w'.cell? ⟨(br.add ((ag).toNat * 4)).block, (br.add ((ag).toNat * 4)).off + 1, none⟩ = some (.int .i64 ((rd_T61 l1 ag).f1)) ∧ w'.cell? ⟨(br.add ((ag).toNat * 4)).block, (br.add ((ag).toNat * 4)).off + 2, none⟩ = some (.int .i64 ((rd_T61 l1 ag).f2)) ∧ w'.cell? ⟨(br.add ((ag).toNat * 4)).block, (br.add ((ag).toNat * 4)).off + 3, none⟩ = some (.int .u64 ((rd_T61 l1 ag).f3))) (ds := []) (bs 11 0) (by kernel_rfl) rfl rfl ⟨kk aa 0, kk aa 1, kk aa 2, kk aa 3, (kq HB cm), (kq HB cl), (kq HB ck), (kq HB cj)⟩ (fun hHeld => ?_); refine with_tabW qba.tab14 qba.bits14 (fun HT_ HW_ => ?_);generalize wc.drew = w94 at aa ab HB aV aW aX aY hHeld ⊢;refine pu 0 (some 116) (bs 11 1) HT_ ?_;refine pu 2 (some 118) (bs 11 5) HT_ ?_;refine pu 3 (some 119) (bs 11 13) HT_ ?_;refine ta 1 (some 117) (bs 11 15) HT_ HW_ hHeld ?_;refine ta 4 (some 120) (bs 11 31) HT_ HW_ hHeld ?_;refine pu 5 (some 121) (bs 11 63) HT_ ?_;refine pu 6 (some 122) (bs 11 127) HT_ ?_;refine ta 7 (some 123) (bs 11 255) HT_ HW_ hHeld ?_;refine pu 8 (some 124) (bs 11 511) HT_ ?_;refine one_ (i := 9) (N := none) (bs 11 1023) rfl rfl (one_of HT_.out (by kernel_rfl)) (by decide) (fun K hK => ?_);have gR : w94.cell? ⟨aj, 0, none⟩ = some (.int .i64 0) := kk ab 0;have gy := blk_frozen ab.out 0;have ey := ae.out;have ez := af.out;have gS : w94.cell? ⟨aj, 1, none⟩ = some (.int .i64 0) := kk ab 1;have gz := blk_frozen ab.out 1;have eA := ae.out;have eB := af.out;have gT : w94.cell? ⟨aj, 2, none⟩ = some (.int .i64 0) := kk ab 2;have gA := blk_frozen ab.out 2;have eC := ae.out;have eD := af.out;have gU : w94.cell? ⟨aj, 3, none⟩ = some (.int .u64 0) := kk ab 3;have gB := blk_frozen ab.out 3;have eE := ae.out;have eF := af.out;refine skip_ (w1 := ?_) (by rfl) rfl ?_ ?_
              rotate_left
              ·go_simp
               rfl
              refine hK.out _ _ ⟨(kf hHeld.1), (kf hHeld.2.1), (kf hHeld.2.2.1), (kf hHeld.2.2.2.1), (kf hHeld.2.2.2.2.1), (kf hHeld.2.2.2.2.2.1), (kf hHeld.2.2.2.2.2.2.1), (kf hHeld.2.2.2.2.2.2.2)⟩ (fun hHeld => ?_);clear hK K;refine pu 10 (some 7) (bs 11 2047) HT_ ?_;refine done_ (done_of HT_.out (by kernel_rfl)) ?_;(try go_wp2);refine bodyPost_ret (results_ct rfl _ _ aj 61 #[.int .i64 6, .int .i64 ad, .int .i64 0, .int .u64 ((rd_T61 l1 ag).f3)] (0, 0) _ rfl (kg ab) Try.underlying61 rfl (by kernel_rfl)) rfl ?_;exact ⟨er, kh HB⟩
             replace c91 := Bool.eq_false_iff.mpr c91;subst c91;replace H := ifF H;have cM := Aside0.mk H;clear H;go_upto_region 15 with (fail);go_cut [125] (fun eR wc => ∃ (kq : Nat) (bk : Bool), eR = .bool bk ∧ Aside0 (qba.j4 kq a0 l1 bk ak ad ag aw = some (r1, r2, r3, r4, r5)) ∧ Aside0 (kq ≤ eP) ∧ Aside0 (wc.heap[ai]? = some (.cells #[.int .i64 ak, .int .i64 ad, .int .i64 ag, .int .u64 aw] 61 (0, 0))) ∧ Aside0 (wc.heap[aj]? = some (.cells #[.int .i64 0, .int .i64 0, .int .i64 0, .int .u64 0] 61 (0, 0))) ∧ Aside0 (Below w.heap.size w wc))
             case first =>
              as_aux_lemma =>
               have H := cM.out;clear cM
               by_cases bL : ak = 6
               rotate_left
               ·rw [if_neg bL] at H
                have bt := beq_eq_false_iff_ne.mpr bL;have cN := bne_iff_ne.mpr bL;(first | rw [bt] | (simp only [i64_w, i32_w]; rw [bt]) | skip);have H' := Aside0.mk H;clear H;have eS := ae.out;have eT := af.out;have gV := kz4 aa;go_wp2;go_meet
                case rel => exact ⟨_, (false), et, H', ⟨by have := HJ3.out; have := bI.out; have := bY.out; have := ci.out; first | omega | exact Nat.le_refl _⟩, ⟨kg aa⟩, ⟨kg ab⟩, ⟨kh HB⟩⟩
               rw [if_pos bL] at H;have bt := beq_iff_eq.mpr bL;have cN := bne_eq_false_iff_eq.mpr bL;clear bL;(first | rw [bt] | (simp only [i64_w, i32_w]; rw [bt]) | skip);have H' := Aside0.mk H;clear H;have eU := ae.out;have eV := af.out;have gW := kz4 aa;go_wp2;go_meet
               case rel => exact ⟨_, ((aw == 0)), et, H', ⟨by have := HJ3.out; have := bI.out; have := bY.out; have := ci.out; first | omega | exact Nat.le_refl _⟩, ⟨kg aa⟩, ⟨kg ab⟩, ⟨kh HB⟩⟩
             case rest =>
              as_aux_lemma =>
               clear cM;(try clear c91 c92);obtain ⟨kq, bk, rfl, HA, dN, aa, ab, HB⟩ := hcut
               cases kq with
               | zero => exact absurd HA.out (by simp [qba.j4])
               | succ eW =>
                have H := HA.out;clear HA;simp only [qba.j4] at H
                by_cases cb : bk = true
                ·subst cb
                 replace H := ifT H;replace H := Option.bind_eq_some_iff.mp H;obtain ⟨⟨dO, dP, dQ, dR, eX⟩, cu, H⟩ := H;(try dsimp only at H);have eY := Aside0.mk cu;clear cu;simp only [Option.some.injEq, Prod.mk.injEq] at H;obtain ⟨rfl, rfl, rfl, rfl, rfl⟩ := H;go_wp2_with (first | ((with_reducible refine gate_callee (f := 73) rfl ?_); refine goesL_ (some 134) rfl rfl Try.func73 (by kernel_rfl) rfl #[.int .u64 0] rfl (by (try simp only [qM1, qM2, qM3]); first | done | rfl) ?_; (with_reducible refine (qja.calls 0 dO dP dQ dR eX _ eY.out).mono ?_); rintro e gX ⟨rfl, hb⟩; refine ⟨_, rfl, ?_⟩; replace aa := kU aa hb; replace ab := kU ab hb; replace HB := kH HB hb; (try clear hb); (try clear hb2); (try clear hk); (try clear hi); have eZ := af.out; have fa := ae.out; have fb := kz4 ab));refine bodyPost_ret (results_ct rfl _ _ aj 61 #[.int .i64 dO, .int .i64 dP, .int .i64 dQ, .int .u64 dR] (0, 0) _ rfl (kg ab) Try.underlying61 rfl (by kernel_rfl)) rfl ?_;exact ⟨er, kh HB⟩
                replace cb := Bool.eq_false_iff.mpr cb;subst cb;replace H := ifF H;have cc := Aside0.mk H;clear H;go_upto_region 17 with (fail);go_cut [137] (fun fc wc => ∃ (kq : Nat) (aZ : Bool), fc = .bool aZ ∧ Aside0 (qba.j5 kq a0 l1 aZ ak ad ag aw = some (r1, r2, r3, r4, r5)) ∧ Aside0 (kq ≤ eW) ∧ Aside0 (wc.heap[ai]? = some (.cells #[.int .i64 ak, .int .i64 ad, .int .i64 ag, .int .u64 aw] 61 (0, 0))) ∧ Aside0 (wc.heap[aj]? = some (.cells #[.int .i64 0, .int .i64 0, .int .i64 0, .int .u64 0] 61 (0, 0))) ∧ Aside0 (Below w.heap.size w wc))
                case first =>
                 as_aux_lemma =>
                  have H := cc.out;clear cc
                  by_cases bM : ak = 6
                  rotate_left
                  ·rw [if_neg bM] at H
                   have bu := beq_eq_false_iff_ne.mpr bM;have cO := bne_iff_ne.mpr bM;(first | rw [bu] | (simp only [i64_w, i32_w]; rw [bu]) | skip);have H' := Aside0.mk H;clear H;have fd := ae.out;have fe := af.out;have gY := kz4 aa;go_wp2;go_meet
                   case rel => exact ⟨_, (false), et, H', ⟨by have := HJ3.out; have := bI.out; have := bY.out; have := ci.out; have := dN.out; first | omega | exact Nat.le_refl _⟩, ⟨kg aa⟩, ⟨kg ab⟩, ⟨kh HB⟩⟩
                  rw [if_pos bM] at H;have bu := beq_iff_eq.mpr bM;have cO := bne_eq_false_iff_eq.mpr bM;clear bM;(first | rw [bu] | (simp only [i64_w, i32_w]; rw [bu]) | skip)
                  by_cases cn : 0 ≤ ad
                  rotate_left
                  ·rw [if_neg cn] at H
                   exact absurd H (by simp)
                  rw [if_pos cn] at H;have ff := decide_eq_true cn;clear cn
                  by_cases co : ad < (l1.length : Int)
                  rotate_left
                  ·rw [if_neg co] at H
                   exact absurd H (by simp)
                  rw [if_pos co] at H;have fg := decide_eq_true co;clear co;have H' := Aside0.mk H;clear H;have fh := ae.out;have fi := af.out;have gZ := kz4 aa;have cP : 0 ≤ (ad : Int) := od;have cQ : ad < (l1.length : Int) := od;obtain ⟨gC, fj, bC, bD, bE, bF⟩ := at_T61 HR1.out ad cP cQ;cases fj;replace bC := (HB.out.cell (World.block_lt_of_cell? w _ bC)).trans bC;replace bD := (HB.out.cell (World.block_lt_of_cell? w _ bD)).trans bD;replace bE := (HB.out.cell (World.block_lt_of_cell? w _ bE)).trans bE;replace bF := (HB.out.cell (World.block_lt_of_cell? w _ bF)).trans bF;replace cP := eq_true cP; replace cQ := eq_true cQ;go_wp2;go_meet
                  case rel => exact ⟨_, ((((rd_T61 l1 ad).f0) == 6)), et, H', ⟨by have := HJ3.out; have := bI.out; have := bY.out; have := ci.out; have := dN.out; first | omega | exact Nat.le_refl _⟩, ⟨kg aa⟩, ⟨kg ab⟩, ⟨kh HB⟩⟩
                case rest =>
                 as_aux_lemma =>
                  clear cc;(try clear cb fb);obtain ⟨kq, aZ, rfl, HA, gD, aa, ab, HB⟩ := hcut
                  cases kq with
                  | zero => exact absurd HA.out (by simp [qba.j5])
                  | succ gE =>
                   have H := HA.out;clear HA;simp only [qba.j5] at H
                   by_cases cp : aZ = true
                   rotate_left
                   ·replace cp := Bool.eq_false_iff.mpr cp
                    subst cp;replace H := ifF H
                    by_cases bN : ak = 4
                    rotate_left
                    ·rw [if_neg bN] at H
                     have cR := beq_eq_false_iff_ne.mpr bN;have cS := bne_iff_ne.mpr bN;simp only [Option.some.injEq, Prod.mk.injEq] at H;obtain ⟨rfl, rfl, rfl, rfl, rfl⟩ := H;have fk := ae.out;have fl := af.out;have hn := kz4 aa;have hz := kz4 ab;go_wp2;refine bodyPost_ret (results_ct rfl _ _ aj 61 #[.int .i64 ak, .int .i64 ad, .int .i64 ag, .int .u64 aw] (0, 0) _ rfl (kg ab) Try.underlying61 rfl (by kernel_rfl)) rfl ?_;exact ⟨er, kh HB⟩
                    rw [if_pos bN] at H;have cR := beq_iff_eq.mpr bN;have cS := bne_eq_false_iff_eq.mpr bN;clear bN
                    by_cases bO : ad = ag
                    rotate_left
                    ·rw [if_neg bO] at H
                     have cT := beq_eq_false_iff_ne.mpr bO;have cU := bne_iff_ne.mpr bO;simp only [Option.some.injEq, Prod.mk.injEq] at H;obtain ⟨rfl, rfl, rfl, rfl, rfl⟩ := H;have fm := ae.out;have fn := af.out;have hC := kz4 aa;have hD := kz4 ab;go_wp2;refine bodyPost_ret (results_ct rfl _ _ aj 61 #[.int .i64 ak, .int .i64 ad, .int .i64 ag, .int .u64 aw] (0, 0) _ rfl (kg ab) Try.underlying61 rfl (by kernel_rfl)) rfl ?_;exact ⟨er, kh HB⟩
                    rw [if_pos bO] at H;have cT := beq_iff_eq.mpr bO;have cU := bne_eq_false_iff_eq.mpr bO;clear bO;replace H := Option.bind_eq_some_iff.mp H;obtain ⟨⟨dS, dT, dU, dV, fo⟩, cv, H⟩ := H;(try dsimp only at H);have fp := Aside0.mk cv;clear cv;simp only [Option.some.injEq, Prod.mk.injEq] at H;obtain ⟨rfl, rfl, rfl, rfl, rfl⟩ := H;have fq := ae.out;have fr := af.out;have hE := kz4 aa;go_wp2_with (first | ((with_reducible refine gate_callee (f := 73) rfl ?_); refine goesL_ (some 178) rfl rfl Try.func73 (by kernel_rfl) rfl #[.int .u64 0] rfl (by (try simp only [qM1, qM2, qM3]); first | done | rfl) ?_; (with_reducible refine (qja.calls 0 dS dT dU dV fo _ fp.out).mono ?_); rintro e hF ⟨rfl, hb⟩; refine ⟨_, rfl, ?_⟩; replace aa := kU aa hb; replace ab := kU ab hb; replace HB := kH HB hb; (try clear hb); (try clear hb2); (try clear hk); (try clear hi); have hG := kz4 ab));refine bodyPost_ret (results_ct rfl _ _ aj 61 #[.int .i64 dS, .int .i64 dT, .int .i64 dU, .int .u64 dV] (0, 0) _ rfl (kg ab) Try.underlying61 rfl (by kernel_rfl)) rfl ?_;exact ⟨er, kh HB⟩
                   subst cp;replace H := ifT H
                   by_cases cq : 0 ≤ ad
                   rotate_left
                   ·rw [if_neg cq] at H
                    exact absurd H (by simp)
                   rw [if_pos cq] at H;have ft := decide_eq_true cq;clear cq
                   by_cases cr : ad < (l1.length : Int)
                   rotate_left
                   ·rw [if_neg cr] at H
                    exact absurd H (by simp)
                   rw [if_pos cr] at H;have fu := decide_eq_true cr;clear cr;replace H := Option.bind_eq_some_iff.mp H;obtain ⟨dW, cw, H⟩ := H;(try dsimp only at H);have fv := Aside0.mk cw;clear cw;simp only [Option.some.injEq, Prod.mk.injEq] at H;obtain ⟨rfl, rfl, rfl, rfl, rfl⟩ := H;(try go_wp2);replace aa := kD aa; replace ab := kD ab; replace HB := kE HB;have cV : 0 ≤ (ad : Int) := od;have cW : ad < (l1.length : Int) := od;obtain ⟨ax, fw, ba, bb, bc, bd⟩ := at_T61 HR1.out ad cV cW;have bQ := bd; have bR := bc; have bS := bb; have bT := ba;cases fw;replace ba := (HB.out.cell (World.block_lt_of_cell? w _ ba)).trans ba;replace bb := (HB.out.cell (World.block_lt_of_cell? w _ bb)).trans bb;replace bc := (HB.out.cell (World.block_lt_of_cell? w _ bc)).trans bc;replace bd := (HB.out.cell (World.block_lt_of_cell? w _ bd)).trans bd;replace cV := eq_true cV; replace cW := eq_true cW;have cX : 0 ≤ (ad : Int) := od;have cY : ad < (l1.length : Int) := od;obtain ⟨dX, fx, bf, bg, bh, bi⟩ := at_T61 HR1.out ad cX cY;have bU := bi; have bV := bh; have bW := bg; have bX := bf;obtain rfl : ax = dX := (by injection fx);replace bf := (HB.out.cell (World.block_lt_of_cell? w _ bf)).trans bf;replace bg := (HB.out.cell (World.block_lt_of_cell? w _ bg)).trans bg;replace bh := (HB.out.cell (World.block_lt_of_cell? w _ bh)).trans bh;replace bi := (HB.out.cell (World.block_lt_of_cell? w _ bi)).trans bi;replace cX := eq_true cX; replace cY := eq_true cY;refine start_ (n := 19) (S := fun w' => w'.cell? ⟨ai, 0, none⟩ = some (.int .i64 ak) ∧ w'.cell? ⟨ai, 1, none⟩ = some (.int .i64 ad) ∧ w'.cell? ⟨ai, 2, none⟩ = some (.int .i64 ag) ∧ w'.cell? ⟨ai, 3, none⟩ = some (.int .u64 aw) ∧ w'.cell? (ax.add ((ad).toNat * 4)) = some (.int .i64 ((rd_T61 l1 ad).f0)) ∧ w'.cell? ⟨(ax.add ((ad).toNat * 4)).block, (ax.add ((ad).toNat * 4)).off + 1, none⟩ = some (.int .i64 ((rd_T61 l1 ad).f1)) ∧ w'.cell? ⟨(ax.add ((ad).toNat * 4)).block, (ax.add ((ad).toNat * 4)).off + 2, none⟩ = some (.int .i64 ((rd_T61 l1 ad).f2)) ∧ w'.cell? ⟨(ax.add ((ad).toNat * 4)).block, (ax.add ((ad).toNat * 4)).off + 3, none⟩ = some (.int .u64 ((rd_T61 l1 ad).f3)) ∧ w'.cell? (ax.add ((ad).toNat * 4)) = some (.int .i64 ((rd_T61 l1 ad).f0)) ∧ w'.cell? ⟨(ax.add ((ad).toNat * 4)).block, (ax.add ((ad).toNat * 4)).off + 1, none⟩ = some (.int .i64 ((rd_T61 l1 ad).f1)) ∧ w'.cell? ⟨(ax.add ((ad).toNat * 4)).block, (ax.add ((ad).toNat * 4)).off + 2, none⟩ = some (.int .i64 ((rd_T61 l1 ad).f2)) ∧ w'.cell? ⟨(ax.add ((ad).toNat * 4)).block, (ax.add ((ad).toNat * 4)).off + 3, none⟩ = some (.int .u64 ((rd_T61 l1 ad).f3))) (ds := []) (bs 19 0) (by kernel_rfl) rfl rfl ⟨kk aa 0, kk aa 1, kk aa 2, kk aa 3, (kq HB bT), (kq HB bS), (kq HB bR), (kq HB bQ), (kq HB bX), (kq HB bW), (kq HB bV), (kq HB bU)⟩ (fun hHeld => ?_); refine with_tabW qba.tab18 qba.bits18 (fun HT_ HW_ => ?_);generalize wc.drew = ct at aa ab HB ba bb bc bd bf bg bh bi hHeld ⊢;refine pu 0 (some 150) (bs 19 1) HT_ ?_;refine pu 1 (some 151) (bs 19 3) HT_ ?_;refine pu 6 (some 156) (bs 19 67) HT_ ?_;refine pu 7 (some 157) (bs 19 195) HT_ ?_;refine pu 8 (some 158) (bs 19 451) HT_ ?_;refine pu 13 (some 163) (bs 19 8643) HT_ ?_;refine ta 2 (some 152) (bs 19 8647) HT_ HW_ hHeld ?_;refine pu 3 (some 153) (bs 19 8655) HT_ ?_;refine pu 4 (some 154) (bs 19 8671) HT_ ?_;refine ta 5 (some 155) (bs 19 8703) HT_ HW_ hHeld ?_;refine ta 9 (some 159) (bs 19 9215) HT_ HW_ hHeld ?_;refine pu 10 (some 160) (bs 19 10239) HT_ ?_;refine pu 11 (some 161) (bs 19 12287) HT_ ?_;refine ta 12 (some 162) (bs 19 16383) HT_ HW_ hHeld ?_;refine ta 14 (some 164) (bs 19 32767) HT_ HW_ hHeld ?_;refine one_ (i := 15) (N := some 165) (bs 19 65535) rfl rfl (one_of HT_.out (by kernel_rfl)) (by decide) (fun K hK => ?_);refine goes_ Try.func76 (by kernel_rfl) rfl #[.int .u64 a0, .int .u64 ((rd_T61 l1 ad).f3), .int .u64 aw] (by rfl) rfl rfl (by (try simp only [qM1, qM2, qM3]); first | done | rfl) ?_;(with_reducible refine (qua.calls a0 ((rd_T61 l1 ad).f3) aw dW _ fv.out).mono ?_);rintro e w' ⟨rfl, ⟨nd, rfl⟩⟩;refine ⟨_, rfl, ?_⟩;refine hK.out _ _ ⟨kk aa 0, kk aa 1, kk aa 2, kk aa 3, (kq HB bT), (kq HB bS), (kq HB bR), (kq HB bQ), (kq HB bX), (kq HB bW), (kq HB bV), (kq HB bU)⟩ (fun hHeld => ?_);clear hK K;refine no (some 165) ?_;refine pu 16 (some 166) (bs 19 131071) HT_ ?_;refine one_ (i := 17) (N := none) (bs 19 262143) rfl rfl (one_of HT_.out (by kernel_rfl)) (by decide) (fun K hK => ?_);have gF : ct.cell? ⟨aj, 0, none⟩ = some (.int .i64 0) := kk ab 0;have fy := blk_frozen ab.out 0;have dY := ae.out;have dZ := af.out;have gG : ct.cell? ⟨aj, 1, none⟩ = some (.int .i64 0) := kk ab 1;have fz := blk_frozen ab.out 1;have ea := ae.out;have eb := af.out;have gH : ct.cell? ⟨aj, 2, none⟩ = some (.int .i64 0) := kk ab 2;have fA := blk_frozen ab.out 2;have ec := ae.out;have ed := af.out;have gI : ct.cell? ⟨aj, 3, none⟩ = some (.int .u64 0) := kk ab 3;have fB := blk_frozen ab.out 3;have ee := ae.out;have ef := af.out;refine skip_ (w1 := ?_) (by rfl) rfl ?_ ?_
                   rotate_left
                   ·go_simp
                    rfl
                   refine hK.out _ _ ⟨(kf hHeld.1), (kf hHeld.2.1), (kf hHeld.2.2.1), (kf hHeld.2.2.2.1), (kf hHeld.2.2.2.2.1), (kf hHeld.2.2.2.2.2.1), (kf hHeld.2.2.2.2.2.2.1), (kf hHeld.2.2.2.2.2.2.2.1), (kf hHeld.2.2.2.2.2.2.2.2.1), (kf hHeld.2.2.2.2.2.2.2.2.2.1), (kf hHeld.2.2.2.2.2.2.2.2.2.2.1), (kf hHeld.2.2.2.2.2.2.2.2.2.2.2)⟩ (fun hHeld => ?_);clear hK K;refine pu 18 (some 7) (bs 19 524287) HT_ ?_;refine done_ (done_of HT_.out (by kernel_rfl)) ?_;(try go_wp2);refine bodyPost_ret (results_ct rfl _ _ aj 61 #[.int .i64 6, .int .i64 ((rd_T61 l1 ad).f1), .int .i64 0, .int .u64 dW] (0, 0) _ rfl (kg ab) Try.underlying61 rfl (by kernel_rfl)) rfl ?_;exact ⟨er, kh HB⟩
theorem qfa.elder_lit {W w1 : World} {b : Nat} {ok : Nat → Prop} {X Y : Value} {xs : List Int} (hX : (Kd.int .i64).R 3 W b ok X xs) (hg : W.grownBy w1 none) (hnew : ∃ b, Y.ownBlock = some b ∧ W.heap.size ≤ b) : (Kd.int .i64).R 3 w1 b (fun k => some k ≠ Y.ownBlock) X xs :=
 Kd.R_mono (Kd.R_grown (Kd.R_bound hX) hg (fun _ _ => by simp)) (fun k hk he => by
  obtain ⟨b, hb, hle⟩ := hnew;rw [hb] at he
  injection he with he
  have := hk.2.2.1
  omega)
theorem qfa.other_app {W w1 : World} {b : Nat} {X X' Y : Value} {ys : List Int} (hY : (Kd.int .i64).R 3 W b (fun k => some k ≠ X.ownBlock) Y ys) (hg : W.grownBy w1 X.ownBlock) (hat : X'.ownBlock = X.ownBlock ∨ ∃ b, X'.ownBlock = some b ∧ W.heap.size ≤ b) : (Kd.int .i64).R 3 w1 b (fun k => some k ≠ X'.ownBlock) Y ys :=
 Kd.R_mono (Kd.R_grown (Kd.R_bound hY) hg (fun k hk => hk.1)) (fun k hk he => by
  rcases hat with h | ⟨b, hb, hle⟩
  ·exact hk.1 (he.trans h)
  ·rw [hb] at he
   injection he with he
   have := hk.2.2.1
   omega)
theorem qfa.elder2 {W w1 : World} {b : Nat} {ok : Nat → Prop} {v u u' : Value} {xs : List S66} (h : Kd.S k66t 66 W b ok v xs) (hb : Below W.heap.size W w1) (h1 : ∀ k, u.ownBlock = some k → W.heap.size ≤ k) (h2 : ∀ k, u'.ownBlock = some k → W.heap.size ≤ k) : Kd.S k66t 66 w1 b (fun k => (ok k ∧ some k ≠ u.ownBlock) ∧ some k ≠ u'.ownBlock) v xs :=
 Kd.S_mono (Kd.S_below (Kd.S_bound h) hb) (fun k hk => ⟨⟨hk.1, fun e => by have := h1 k e.symm; have := hk.2.2.1; omega⟩, fun e => by have := h2 k e.symm; have := hk.2.2.1; omega⟩)
theorem qfa.clone_eq {l r : List Int} (h : qqa.f l = some r) : l = r ∧ l.length < 17592186044416 := by
 unfold qqa.f at h
 by_cases hl : l.length < 17592186044416
 ·rw [if_pos hl] at h
  exact ⟨Option.some.inj h, hl⟩
 rw [if_neg hl] at h;cases h
theorem cellb_ {W w1 : World} {p : Addr} {x : Value} (hb : Below W.heap.size W w1) (h : W.cell? p = some x) : w1.cell? p = some x := (hb.cell (World.block_lt_of_cell? _ _ h)).trans h
def qfa.l0 : Nat → List (S66) → Int → Int → List (S64) → List (S66) → Option ((List (S64)) × (List (S61)) × (List (S66)))
 | 0, _, _, _, _, _ => none
 | k + 1, x15, x16, x17, ab, aa => if x17 < x16 then (if 0 ≤ x17 then (if x17 < (x15.length : Int) then ((qqa.f ((rd_T66 x15 x17).f0)).bind fun ad => ((qqa.f ((rd_T66 x15 x17).f1)).bind fun ae => (if aa.length < 2932031007402 then (qfa.l0 k x15 x16 (wrap64 (x17 + 1)) ab (aa ++ [(⟨ad, ae⟩ : S66)])) else (none)))) else (none)) else (none)) else (some (ab, ([] : List (S61)), aa))
def qfa.g (k : Nat) (aa : List (S64)) (ae : List (S61)) (ab : List (S66)) : Option ((List (S64)) × (List (S61)) × (List (S66))) := (some (([] : List (S64)) : List (S64))).bind fun ad => (if ad.length + aa.length < 8796093022208 then (qfa.l0 k ab (ab.length : Int) 0 (ad ++ aa) ([] : List (S66))) else (none))
def qfa.T5 : Bool × List (List Nat × List Nat) := (true, [([], []), ([0], [0]), ([], []), ([], []), ([3], [3]), ([2, 4], [2, 4]), ([], []), ([], []), ([7], [7]), ([6, 8, 5], [6, 8]), ([5, 9], [5, 9]), ([10], [10]), ([1, 11, 9], [1, 11]), ([0, 1, 2, 3, 4, 5, 6, 7, 8, 9, 10, 11, 12], []), ([13, 12, 12, 0, 1, 2, 3, 4, 5, 6, 7, 8, 9, 10, 11, 12], [12, 13])])
def qfa.B5 : List Nat := [0, 1, 0, 0, 8, 28, 0, 0, 128, 508, 1020, 2044, 4095, 8191, 16383]
theorem qfa.tab5 : rtab .any (opsOf Try.f44 5) = qfa.T5 := by kernel_rfl
theorem qfa.bits5 : waitsOk qfa.T5.2 qfa.B5 = true := by kernel_rfl
theorem qfa.callsG (k : Nat) (bj : Option Addr) (bk : Nat) (au : List (S64)) (bl : Option Addr) (bm : Nat) (aN : List (S61)) (bp : Option Addr) (bn : Nat) (ad : List (S66)) (A1 : Option Addr) (c1 : Nat) (l1 : List (S61)) (r1 : List (S64)) (r2 : List (S61)) (r3 : List (S66)) (w : World) (br : Kd.C k64 w bj au.length au) (bt : au.length ≤ bk) (bu : Kd.C k61 w bl aN.length aN) (bv : aN.length ≤ bm) (bw : Kd.C k66 w bp ad.length ad) (bx : ad.length ≤ bn) (h : qfa.g k au aN ad = some (r1, r2, r3)) :
  Calls Try.prog 44 #[.agg #[.slice bj au.length bk, .slice bl aN.length bm, .slice bp ad.length bn], .slice A1 l1.length c1] w fun e w' => ∃ v0_ v2_ : Value, e = .returned (.agg #[v0_, .slice A1 l1.length c1, v2_]) ∧ Kd.R k64 64 w' w.heap.size (fun _ => True) v0_ r1 ∧ Kd.S k66t 66 w' w.heap.size (fun _ => True) v2_ r3 ∧ Below w.heap.size w w' := by
 have hu26 := Try.underlying26;have hu66 := Try.underlying66;have bI := Aside0.mk br;have cl := Aside0.mk bt;clear br bt;have cm := Aside0.mk bu;have cn := Aside0.mk bv;clear bu bv;have bJ := Aside0.mk bw;have co := Aside0.mk bx;clear bw bx;have HB := Aside0.mk (Below.refl w.heap.size w);have H : ((some (([] : List (S64)) : List (S64))).bind fun aQ => (if aQ.length + au.length < 8796093022208 then (qfa.l0 k ad (ad.length : Int) 0 (aQ ++ au) ([] : List (S66))) else (none))) = some (r1, r2, r3) := h;clear h;obtain ⟨aQ, aT⟩ : ∃ y_ : List (S64), y_ = (([] : List (S64))) := ⟨_, rfl⟩
 replace H : (if aQ.length + au.length < 8796093022208 then (qfa.l0 k ad (ad.length : Int) 0 (aQ ++ au) ([] : List (S66))) else (none)) = some (r1, r2, r3) := by first | (rw [aT]; with_reducible exact H) | (have H2_ := (Option.bind_some _ _).symm.trans H; rw [aT]; with_reducible exact H2_) | (have H2_ := (Option.bind_some _ _).symm.trans H; with_reducible exact H2_) | with_reducible exact H | (rw [aT]; exact H) | exact H
 have bz := Aside0.mk aT;clear aT
 by_cases c2 : aQ.length + au.length < 8796093022208
 rotate_left
 ·rw [if_neg c2] at H
  exact absurd H (by simp)
 rw [if_pos c2] at H;have cg := Aside0.mk c2;clear c2;obtain ⟨av, aU⟩ : ∃ y_ : List (S64), y_ = (aQ ++ au) := ⟨_, rfl⟩
 replace H : (qfa.l0 k ad (ad.length : Int) 0 av ([] : List (S66))) = some (r1, r2, r3) := by first | (rw [aU]; with_reducible exact H) | (have H2_ := (Option.bind_some _ _).symm.trans H; rw [aU]; with_reducible exact H2_) | (have H2_ := (Option.bind_some _ _).symm.trans H; with_reducible exact H2_) | with_reducible exact H | (rw [aU]; exact H) | exact H
 have bK := Aside0.mk aU;clear aU;have H' := Aside0.mk H;clear H;go_enter Try.func44, Try.ntmps44;go_wp2_with (first | ((with_reducible refine gate_dst (N := 2) rfl ?_); refine box_event ?hg (N := 2) ?hd (cs := #[.slice bj au.length bk, .slice bl aN.length bm, .slice bp ad.length bn]) (t := 26) ?hr ?_; (case hd => rfl); (case hg => rfl); (case hr => first | (go_simp; done) | (go_simp; rfl)); intro bA hg w3 hbox hb; have ah := am hbox; have cp := kG HB hg; have cq := kG HB hg; replace HB := kH HB hb; clear hb hbox hg) | ((with_reducible refine gate_dst (N := 4) rfl ?_); refine box_event ?hg (N := 4) ?hd (cs := #[.slice none 0 0, .slice none 0 0, .slice none 0 0]) (t := 26) ?hr ?_; (case hd => rfl); (case hg => rfl); (case hr => first | (go_simp; done) | (go_simp; rfl)); intro aw hg w4 hbox hb; have ai := am hbox; have cr := kG HB hg; have ct := kG HB hg; replace HB := kH HB hb; have aE := kP ah hg; have aG := kQ ah hg; replace ah := kU ah hb; clear hb hbox hg) | ((with_reducible refine gate_dst (N := 8) rfl ?_); refine Kd.R_lit k64 _ 64 ?hg (N := 8) ?hd (xs := ([] : List (S64))) (inner := []) (ok := fun _ => True) (okp := fun _ => True) ?hr ?hp (fun _ hk => hk) trivial (Below.refl _ _) (Nat.le_refl _) (by simp) ?_; (case hd => rfl); (case hg => rfl); (case hr => first | (go_simp; done) | (go_simp; rfl)); (case hp => exact (Reps.none _ _)); intro ch w5 ho6 hb hg_ hnew_; clear hg_ hnew_; (first | rw [← bz.out] at ho6 | (simp only [Int.reduceToNat] at ho6; rw [← bz.out] at ho6)); have aY := kLR ho6 HB; replace ah := kU ah hb; replace ai := kU ai hb; replace HB := kH HB hb; clear hb ho6; have cR := aE.out; have cS := aG.out; have Z8 := kz3 ah) | ((with_reducible refine gate_builtin (b := .append) (xs := #[.tmp 8, .tmp 10]) rfl ?_); at_builtin; refine Kd.R_append_rows k64 (w0 := w) w.heap.size rfl (.tmp 8) (.tmp 10) 22 64 (.agg #[(.int .i64 0), (.bool false)]) 16 rfl Try.underlying22 info64 rfl (by decide) (by omega) ch aQ au _ _ _ (fun _ => True) (fun _ => False) rfl rfl ?aO ?aR (fun _ _ h => h) (fun _ h => h.elim) ?aF ?aB ?aS ?aL ?_; (case aR => repeat (first | exact (Kd.C_below bI.out HB.out) | (with_reducible first | refine Kd.C_alloc ?_ _ | refine Kd.C_drewN ?_ _ | refine Kd.C_drew ?_))); (case aB => exact (kh HB)); (case aF => exact (fun _ _ => trivial)); (case aO => exact (krR aY)); (case aS => exact (below_size (kh HB))); (case aL => have := cg.out; omega); intro cT w9 ho hb hg hat; rw [← bK.out] at ho; replace ah := kXR ah aY hg; replace ai := kXR ai aY hg; replace HB := Aside0.mk (hb); have aZ := Aside0.mk (ho); clear aY; clear ho hb hg hat; obtain ⟨aC, aD, ci⟩ := Kd.R_slice aZ.out; subst ci) | ((with_reducible refine gate_dst (N := 5) rfl ?_); refine box_event ?hg (N := 5) ?hd (cs := #[.slice none 0 0, .slice none 0 0, .slice none 0 0]) (t := 26) ?hr ?_; (case hd => rfl); (case hg => rfl); (case hr => first | (go_simp; done) | (go_simp; rfl)); intro ar hg w11 hbox hb; replace aZ := kR aZ hb; have ae := am hbox; have cu := kG HB hg; have cv := kG HB hg; replace HB := kH HB hb; have ax := kP ah hg; have ay := kQ ah hg; replace ah := kU ah hb; have az := kP ai hg; have aA := kQ ai hg; replace ai := kU ai hb; clear hb hbox hg; have cw := ay.out; have cx := ax.out; have cy := aA.out; have cz := az.out; have Z14 := kz3 ae; have Z15 := kz3 ah));go_loopg [17] k (fun kq v17 w' => ∃ (ab : Int) (ak : List (S66)) (al : Value), v17 = .int .i64 ab ∧ Aside0 (qfa.l0 kq ad (ad.length : Int) ab av ak = some (r1, r2, r3)) ∧ Aside0 (kq ≤ k) ∧ Aside0 (Kd.R k64 64 w' w.heap.size (fun _ => True) (.slice aC av.length aD) av) ∧ Aside0 (Kd.S k66t 66 w' w.heap.size (fun _ => True) al ak) ∧ Aside0 (w'.heap[bA]? = some (.cells #[(.slice bj au.length bk), (.slice bl aN.length bm), (.slice bp ad.length bn)] 26 (0, 0))) ∧ Aside0 (w'.heap[aw]? = some (.cells #[(.slice none 0 0), (.slice none 0 0), (.slice none 0 0)] 26 (0, 0))) ∧ Aside0 (w'.heap[ar]? = some (.cells #[(.slice aC av.length aD), (.slice A1 l1.length c1), al] 26 (0, 0))) ∧ Aside0 (Below w.heap.size w w'))
 case atStart => exact ⟨(0), (([] : List (S66))), (.slice none 0 0), et, H', ⟨Nat.le_refl _⟩, ⟨by (with_reducible repeat first | apply Kd.R_alloc | apply Kd.R_drewN | apply Kd.R_drew); exact Kd.R_mono (Kd.R_far (p := ⟨ar, 2, none⟩) (Kd.R_far (p := ⟨ar, 1, none⟩) (Kd.R_far (p := ⟨ar, 0, none⟩) (Kd.R_types aZ.out ae.out (by decide)) (fun _ hk => hk.2) (.slice aC av.length aD)) (fun _ hk => hk.2) (.slice A1 l1.length c1)) (fun _ hk => hk.2) (.slice none 0 0)) (fun _ hk => trivial)⟩, ⟨by first | exact Kd.S_nil _ _ _ _ _ | exact Kd.N_nil _ _ _ _ _ | exact Kd.V_nil _ _ _ _ _ | exact Kd.Q_nil _ _ _ _ _ | exact Kd.R_nil _ _ _ _ _⟩, ⟨kg ah⟩, ⟨kg ai⟩, ⟨kg ae⟩, ⟨kh HB⟩⟩
 case round =>
  clear H';(try clear Z14 Z15 Z8);obtain ⟨ab, ak, al, rfl, HA, HK1, ag, aa, ah, ai, ae, HB⟩ := hrel
  cases gk with
  | zero => exact absurd HA.out (by simp [qfa.l0])
  | succ k1 =>
   have H := HA.out;clear HA;simp only [qfa.l0] at H
   by_cases c16 : ab < (ad.length : Int)
   rotate_left
   ·rw [if_neg c16] at H
    have bL := decide_eq_false c16;clear c16;simp only [Option.some.injEq, Prod.mk.injEq] at H;obtain ⟨rfl, rfl, rfl⟩ := H;have cA := ay.out;have cB := ax.out;have cC := aA.out;have cD := az.out;have Z38 := kz3 ae;have cE := aG.out;have cF := aE.out;have Z40 := kz3 ai;obtain ⟨bC, bD, cj⟩ := Kd.S_slice aa.out;subst cj;go_wp2;refine bodyPost_ret (results_cell_row rfl _ _ aw 26 #[.slice aC av.length aD, .slice A1 l1.length c1, .slice bC ak.length bD] (0, 0) _ rfl (kg ai) Try.underlying26 rfl (by kernel_rfl)) rfl ?_;exact ⟨_, _, er, by (with_reducible repeat first | apply Kd.R_alloc | apply Kd.R_drewN | apply Kd.R_drew); exact Kd.R_mono (Kd.R_far (p := ⟨aw, 2, none⟩) (Kd.R_far (p := ⟨aw, 1, none⟩) (Kd.R_far (p := ⟨aw, 0, none⟩) (Kd.R_types ag.out ai.out (by decide)) (fun _ hk => hk.2) (.slice aC av.length aD)) (fun _ hk => hk.2) (.slice A1 l1.length c1)) (fun _ hk => hk.2) (.slice bC ak.length bD)) (fun _ hk => trivial), by (with_reducible repeat first | apply Kd.S_alloc | apply Kd.S_drewN | apply Kd.S_drew); exact Kd.S_mono (Kd.S_far (p := ⟨aw, 2, none⟩) (Kd.S_far (p := ⟨aw, 1, none⟩) (Kd.S_far (p := ⟨aw, 0, none⟩) (Kd.S_types aa.out ai.out (by decide)) (fun _ hk => hk.2) (.slice aC av.length aD)) (fun _ hk => hk.2) (.slice A1 l1.length c1)) (fun _ hk => hk.2) (.slice bC ak.length bD)) (fun _ hk => trivial), kh HB⟩
   rw [if_pos c16] at H;have bL := decide_eq_true c16;clear c16
   by_cases c17 : 0 ≤ ab
   rotate_left
   ·rw [if_neg c17] at H
    exact absurd H (by simp)
   rw [if_pos c17] at H;have cG := decide_eq_true c17;clear c17
   by_cases c18 : ab < (ad.length : Int)
   rotate_left
   ·rw [if_neg c18] at H
    exact absurd H (by simp)
   rw [if_pos c18] at H;have cH := decide_eq_true c18;clear c18;replace H := Option.bind_eq_some_iff.mp H;obtain ⟨aX, bM, H⟩ := H;(try dsimp only at H);have A19 := Aside0.mk bM;clear bM;replace H := Option.bind_eq_some_iff.mp H;obtain ⟨bd, bN, H⟩ := H;(try dsimp only at H);have A20 := Aside0.mk bN;clear bN
   by_cases c21 : ak.length < 2932031007402
   rotate_left
   ·rw [if_neg c21] at H
    exact absurd H (by simp)
   rw [if_pos c21] at H;have bO := Aside0.mk c21;clear c21;obtain ⟨bo, aV⟩ : ∃ y_ : List (S66), y_ = (ak ++ [(⟨aX, bd⟩ : S66)]) := ⟨_, rfl⟩
   replace H : (qfa.l0 k1 ad (ad.length : Int) (wrap64 (ab + 1)) av bo) = some (r1, r2, r3) := by first | (rw [aV]; with_reducible exact H) | (have H2_ := (Option.bind_some _ _).symm.trans H; rw [aV]; with_reducible exact H2_) | (have H2_ := (Option.bind_some _ _).symm.trans H; with_reducible exact H2_) | with_reducible exact H | (rw [aV]; exact H) | exact H
   have bP := Aside0.mk aV;clear aV;have H' := Aside0.mk H;clear H;have bE : 0 ≤ (ab : Int) := od;have bF : ab < (ad.length : Int) := od;obtain ⟨bQ, an, ao, ap, aq, ck, aJ, aK, ba, hi384_0, bb, hi384_1⟩ := at_T66 bJ.out ab bE bF;cases ck;replace aJ := (HB.out.cell (World.block_lt_of_cell? w _ aJ)).trans aJ;replace aK := (HB.out.cell (World.block_lt_of_cell? w _ aK)).trans aK;have aM := Aside0.mk hi384_0;have bY := Aside0.mk ba;clear hi384_0 ba;have bq := Aside0.mk hi384_1;have bZ := Aside0.mk bb;clear hi384_1 bb; replace bE := eq_true bE; replace bF := eq_true bF;(try go_wp2_with (first | ((with_reducible refine gate_dst (N := 7) rfl ?_); refine box_event ?hg (N := 7) ?hd (cs := #[.slice none 0 0, .slice none 0 0]) (t := 66) ?hr ?_; (case hd => rfl); (case hg => rfl); (case hr => first | (go_simp; done) | (go_simp; rfl)); intro af hg w22 hbox hb; replace ag := kR ag hb; replace aa := Aside0.mk (Kd.S_below (Kd.S_elderB (krS aa) af (Nat.le_of_eq hg.symm)) hb); have aj := am hbox; have cI := kG HB hg; have cJ := kG HB hg; replace HB := kH HB hb; have bf := kP ah hg; have bg := kQ ah hg; replace ah := kU ah hb; have bh := kP ai hg; have bi := kQ ai hg; replace ai := kU ai hb; have aH := kP ae hg; have aI := kQ ae hg; replace ae := kU ae hb; clear hb hbox hg; have cK := bg.out; have cL := bf.out; have cM := bi.out; have cN := bh.out; have cO := aI.out; have cP := aH.out; have Z26 := kz2 aj)));have n0_ : Aside0 (Kd.R k64 64 ((w22.setCell ⟨af, 0, none⟩ (.slice an ((rd_T66 ad ab).f0).length ao)).setCell ⟨af, 1, none⟩ (.slice ap ((rd_T66 ad ab).f1).length aq)) w.heap.size (fun _ => True) (.slice aC av.length aD) av) := ⟨by (with_reducible repeat first | apply Kd.R_alloc | apply Kd.R_drewN | apply Kd.R_drew); exact Kd.R_mono (Kd.R_far (p := ⟨af, 1, none⟩) (Kd.R_far (p := ⟨af, 0, none⟩) (Kd.R_types ag.out aj.out (by decide)) (fun _ hk => hk.2) (.slice an ((rd_T66 ad ab).f0).length ao)) (fun _ hk => hk.2) (.slice ap ((rd_T66 ad ab).f1).length aq)) (fun _ hk => trivial)⟩;have n1_ : Aside0 (Kd.S k66t 66 ((w22.setCell ⟨af, 0, none⟩ (.slice an ((rd_T66 ad ab).f0).length ao)).setCell ⟨af, 1, none⟩ (.slice ap ((rd_T66 ad ab).f1).length aq)) w.heap.size (fun k_ => k_ ≠ af) al ak) := ⟨by (with_reducible repeat first | apply Kd.S_alloc | apply Kd.S_drewN | apply Kd.S_drew); exact Kd.S_mono (Kd.S_far (p := ⟨af, 1, none⟩) (Kd.S_far (p := ⟨af, 0, none⟩) (Kd.S_mono aa.out (fun k_ hk => (⟨hk, hk.2⟩ : _ ∧ k_ ≠ af))) (fun _ hk => hk.2) (.slice an ((rd_T66 ad ab).f0).length ao)) (fun _ hk => hk.2) (.slice ap ((rd_T66 ad ab).f1).length aq)) (fun _ hk => hk.1.2)⟩;have n2_ : Aside0 (((w22.setCell ⟨af, 0, none⟩ (.slice an ((rd_T66 ad ab).f0).length ao)).setCell ⟨af, 1, none⟩ (.slice ap ((rd_T66 ad ab).f1).length aq)).heap[bA]? = some (.cells #[.slice bj au.length bk, .slice bl aN.length bm, .slice (some bQ) ad.length bn] 26 (0, 0))) := ⟨kg ah⟩;have n3_ : Aside0 (((w22.setCell ⟨af, 0, none⟩ (.slice an ((rd_T66 ad ab).f0).length ao)).setCell ⟨af, 1, none⟩ (.slice ap ((rd_T66 ad ab).f1).length aq)).heap[aw]? = some (.cells #[.slice none 0 0, .slice none 0 0, .slice none 0 0] 26 (0, 0))) := ⟨kg ai⟩;have n4_ : Aside0 (((w22.setCell ⟨af, 0, none⟩ (.slice an ((rd_T66 ad ab).f0).length ao)).setCell ⟨af, 1, none⟩ (.slice ap ((rd_T66 ad ab).f1).length aq)).heap[ar]? = some (.cells #[.slice aC av.length aD, .slice A1 l1.length c1, al] 26 (0, 0))) := ⟨kg ae⟩;have n5_ : Aside0 (((w22.setCell ⟨af, 0, none⟩ (.slice an ((rd_T66 ad ab).f0).length ao)).setCell ⟨af, 1, none⟩ (.slice ap ((rd_T66 ad ab).f1).length aq)).heap[af]? = some (.cells #[.slice an ((rd_T66 ad ab).f0).length ao, .slice ap ((rd_T66 ad ab).f1).length aq] 66 (0, 0))) := ⟨kg aj⟩;have n6_ : Aside0 (Below w.heap.size w ((w22.setCell ⟨af, 0, none⟩ (.slice an ((rd_T66 ad ab).f0).length ao)).setCell ⟨af, 1, none⟩ (.slice ap ((rd_T66 ad ab).f1).length aq))) := ⟨kh HB⟩;(try clear ag aa ah ai ae aj HB);generalize ((w22.setCell ⟨af, 0, none⟩ (.slice an ((rd_T66 ad ab).f0).length ao)).setCell ⟨af, 1, none⟩ (.slice ap ((rd_T66 ad ab).f1).length aq)) = w27 at n0_ n1_ n2_ n3_ n4_ n5_ n6_ ⊢;have ag := n0_; have aa := n1_; have ah := n2_; have ai := n3_; have ae := n4_; have aj := n5_; have HB := n6_; clear n0_ n1_ n2_ n3_ n4_ n5_ n6_;replace ag := kFR ag; replace aa := kFS aa; replace ah := kD ah; replace ai := kD ai; replace ae := kD ae; replace aj := kD aj; replace HB := kE HB;refine start_ (n := 15) (S := fun w' => w'.cell? ⟨ar, 0, none⟩ = some (.slice aC av.length aD) ∧ w'.cell? ⟨ar, 1, none⟩ = some (.slice A1 l1.length c1) ∧ w'.cell? ⟨ar, 2, none⟩ = some (al) ∧ w'.cell? ⟨af, 0, none⟩ = some (.slice an ((rd_T66 ad ab).f0).length ao) ∧ w'.cell? ⟨af, 1, none⟩ = some (.slice ap ((rd_T66 ad ab).f1).length aq)) (ds := [14]) (bs 15 0) (by kernel_rfl) rfl rfl ⟨kk ae 0, kk ae 1, kk ae 2, kk aj 0, kk aj 1⟩ (fun hHeld => ?_); refine with_tabW qfa.tab5 qfa.bits5 (fun HT_ HW_ => ?_);generalize w27.drew = w28 at ag aa ah ai ae aj HB hHeld ⊢;refine pu 0 (some 21) (bs 15 1) HT_ ?_;refine pu 3 (some 24) (bs 15 9) HT_ ?_;refine pu 7 (some 28) (bs 15 137) HT_ ?_;refine ta 1 (some 22) (bs 15 139) HT_ HW_ hHeld ?_;refine ta 4 (some 25) (bs 15 155) HT_ HW_ hHeld ?_;refine ta 8 (some 29) (bs 15 411) HT_ HW_ hHeld ?_;have HS0 := Aside0.mk hHeld;have HBN := Aside0.mk (Below.refl w28.heap.size w28);have hcl_ := qfa.clone_eq A19.out;have E386 := Aside0.mk hcl_.1;have L386 := Aside0.mk hcl_.2;clear hcl_;have hcl_ := qfa.clone_eq A20.out;have E389 := Aside0.mk hcl_.1;have L389 := Aside0.mk hcl_.2;clear hcl_;refine join_ (σ := Value × Value × Value) 6 (bs 15 511) (fun s_ => [(23, s_.1), (26, s_.2.1), (27, s_.2.2)]) (fun s_ w' => (w'.cell? ⟨ar, 0, none⟩ = some (.slice aC av.length aD) ∧ w'.cell? ⟨ar, 1, none⟩ = some (.slice A1 l1.length c1) ∧ w'.cell? ⟨ar, 2, none⟩ = some (al) ∧ w'.cell? ⟨af, 0, none⟩ = some (.slice an ((rd_T66 ad ab).f0).length ao) ∧ w'.cell? ⟨af, 1, none⟩ = some (.slice ap ((rd_T66 ad ab).f1).length aq)) ∧ ((Kd.int .i64).R 3 w' w28.heap.size (fun k_ => some k_ ≠ s_.2.2.ownBlock) s_.2.1 aX) ∧ ((Kd.int .i64).R 3 w' w28.heap.size (fun k_ => some k_ ≠ s_.2.1.ownBlock) s_.2.2 []) ∧ (Below w28.heap.size w28 w')) ?_ ?_
   rotate_left
   ·intro hCont
    refine two_ (i := 2) (j := 6) (Ni := some 23) (Nj := some 27) (bs 15 415) (bs 15 475) rfl rfl rfl rfl (two_of HT_.out (by kernel_rfl)) (by decide) (by decide) (fun K hK => ?_) (fun K hK => ?_)
    ·skip
     refine Kd.R_lit_step (Kd.int .i64) (w0 := w28) w28.heap.size 3 (by rfl) (N := 23) rfl (xs := ([] : List Int)) (inner := []) (ok := fun k_ => True) (okp := fun _ => False) ?hr (Reps.none _ _) (fun _ h_ => h_.elim) trivial HBN.out (HBN.out.size) (by simp) ?_;(case hr => first | (go_simp; done) | (go_simp; rfl));intro v23 we101 ho_ hb_ hg_ hnew_;have q_ := Aside0.mk ho_;clear HBN;have HBN := Aside0.mk hb_;have P23 := q_; clear q_;refine hK.out _ _ ⟨cellb_ hb_ HS0.out.1, cellb_ hb_ HS0.out.2.1, cellb_ hb_ HS0.out.2.2.1, cellb_ hb_ HS0.out.2.2.2.1, cellb_ hb_ HS0.out.2.2.2.2⟩ (fun hHeld => ?_);clear hK K ho_ hb_ hg_ hnew_;refine no (some 23) ?_;refine two_ (i := 5) (j := 6) (Ni := some 26) (Nj := some 27) (bs 15 447) (bs 15 479) rfl rfl rfl rfl (two_of HT_.out (by kernel_rfl)) (by decide) (by decide) (fun K hK => ?_) (fun K hK => ?_)
     ·skip
      refine Kd.R_append_rows_step (Kd.int .i64) (w0 := w28) w28.heap.size (by rfl) (.tmp 23) (.tmp 25) 27 3 (.int .i64 0) 8 rfl Try.underlying27 info3 rfl (by decide) (by omega) v23 ([] : List Int) ((rd_T66 ad ab).f0) _ _ _ (fun k_ => True) (fun _ => False) rfl rfl P23.out ?aR (fun _ _ h_ => h_) (fun _ h_ => h_.elim) (fun _ _ => trivial) HBN.out HBN.out.size ?aL ?_;(case aR => exact Kd.C_below aM.out (below_step HB.out HBN.out));(case aL => have := L386.out; simp only [List.length_nil]; omega);intro v26 we102 ho_ hb_ hg_ hat_;rw [List.nil_append, E386.out] at ho_;have q_ := Aside0.mk ho_;clear HBN P23;have HBN := Aside0.mk hb_;have P26 := q_; clear q_;refine hK.out _ _ ⟨cellb_ hb_ HS0.out.1, cellb_ hb_ HS0.out.2.1, cellb_ hb_ HS0.out.2.2.1, cellb_ hb_ HS0.out.2.2.2.1, cellb_ hb_ HS0.out.2.2.2.2⟩ (fun hHeld => ?_);clear hK K ho_ hb_ hg_ hat_;refine no (some 26) ?_;refine one_ (i := 6) (N := some 27) (bs 15 511) rfl rfl (one_of HT_.out (by kernel_rfl)) (by decide) (fun K hK => ?_);refine Kd.R_lit_step (Kd.int .i64) (w0 := w28) w28.heap.size 3 (by rfl) (N := 27) rfl (xs := ([] : List Int)) (inner := []) (ok := fun k_ => some k_ ≠ (v26 : Value).ownBlock) (okp := fun _ => False) ?hr (Reps.none _ _) (fun _ h_ => h_.elim) (fun e_ => by have := Kd.R_lt P26.out _ e_.symm; omega) HBN.out (HBN.out.size) (by simp) ?_;(case hr => first | (go_simp; done) | (go_simp; rfl));intro v27 we103 ho_ hb_ hg_ hnew_;have q_ := Aside0.mk ho_;have q26_ := Aside0.mk (qfa.elder_lit P26.out hg_ hnew_);clear P26; have P26 := q26_; clear q26_ HBN;have HBN := Aside0.mk hb_;have P27 := q_; clear q_;refine hK.out _ _ ⟨cellb_ hb_ HS0.out.1, cellb_ hb_ HS0.out.2.1, cellb_ hb_ HS0.out.2.2.1, cellb_ hb_ HS0.out.2.2.2.1, cellb_ hb_ HS0.out.2.2.2.2⟩ (fun hHeld => ?_);clear hK K ho_ hb_ hg_ hnew_;refine no (some 27) ?_;exact norm_ (by simp only [putAll, Act.put, qS1, qS2, qS3]) (hCont (v23, v26, v27) _ ⟨hHeld, P26.out, P27.out, HBN.out⟩)
     ·skip
      refine Kd.R_lit_step (Kd.int .i64) (w0 := w28) w28.heap.size 3 (by rfl) (N := 27) rfl (xs := ([] : List Int)) (inner := []) (ok := fun k_ => some k_ ≠ (v23 : Value).ownBlock) (okp := fun _ => False) ?hr (Reps.none _ _) (fun _ h_ => h_.elim) (fun e_ => by have := Kd.R_lt P23.out _ e_.symm; omega) HBN.out (HBN.out.size) (by simp) ?_;(case hr => first | (go_simp; done) | (go_simp; rfl));intro v27 we104 ho_ hb_ hg_ hnew_;have q_ := Aside0.mk ho_;have q23_ := Aside0.mk (qfa.elder_lit P23.out hg_ hnew_);clear P23; have P23 := q23_; clear q23_ HBN;have HBN := Aside0.mk hb_;have P27 := q_; clear q_;refine hK.out _ _ ⟨cellb_ hb_ HS0.out.1, cellb_ hb_ HS0.out.2.1, cellb_ hb_ HS0.out.2.2.1, cellb_ hb_ HS0.out.2.2.2.1, cellb_ hb_ HS0.out.2.2.2.2⟩ (fun hHeld => ?_);clear hK K ho_ hb_ hg_ hnew_;refine no (some 27) ?_;refine one_ (i := 5) (N := some 26) (bs 15 511) rfl rfl (one_of HT_.out (by kernel_rfl)) (by decide) (fun K hK => ?_);refine Kd.R_append_rows_step (Kd.int .i64) (w0 := w28) w28.heap.size (by rfl) (.tmp 23) (.tmp 25) 27 3 (.int .i64 0) 8 rfl Try.underlying27 info3 rfl (by decide) (by omega) v23 ([] : List Int) ((rd_T66 ad ab).f0) _ _ _ (fun k_ => some k_ ≠ (v27 : Value).ownBlock) (fun _ => False) rfl rfl P23.out ?aR (fun _ _ h_ => h_) (fun _ h_ => h_.elim) (fun k_ hk_ e_ => by have := Kd.R_lt P27.out _ e_.symm; omega) HBN.out HBN.out.size ?aL ?_;(case aR => exact Kd.C_below aM.out (below_step HB.out HBN.out));(case aL => have := L386.out; simp only [List.length_nil]; omega);intro v26 we105 ho_ hb_ hg_ hat_;rw [List.nil_append, E386.out] at ho_;have q_ := Aside0.mk ho_;have q27_ := Aside0.mk (qfa.other_app P27.out hg_ hat_);clear P27; have P27 := q27_; clear q27_ HBN P23;have HBN := Aside0.mk hb_;have P26 := q_; clear q_;refine hK.out _ _ ⟨cellb_ hb_ HS0.out.1, cellb_ hb_ HS0.out.2.1, cellb_ hb_ HS0.out.2.2.1, cellb_ hb_ HS0.out.2.2.2.1, cellb_ hb_ HS0.out.2.2.2.2⟩ (fun hHeld => ?_);clear hK K ho_ hb_ hg_ hat_;refine no (some 26) ?_;exact norm_ (by simp only [putAll, Act.put, qS1, qS2, qS3]) (hCont (v23, v26, v27) _ ⟨hHeld, P26.out, P27.out, HBN.out⟩)
    ·skip
     refine Kd.R_lit_step (Kd.int .i64) (w0 := w28) w28.heap.size 3 (by rfl) (N := 27) rfl (xs := ([] : List Int)) (inner := []) (ok := fun k_ => True) (okp := fun _ => False) ?hr (Reps.none _ _) (fun _ h_ => h_.elim) trivial HBN.out (HBN.out.size) (by simp) ?_;(case hr => first | (go_simp; done) | (go_simp; rfl));intro v27 we106 ho_ hb_ hg_ hnew_;have q_ := Aside0.mk ho_;clear HBN;have HBN := Aside0.mk hb_;have P27 := q_; clear q_;refine hK.out _ _ ⟨cellb_ hb_ HS0.out.1, cellb_ hb_ HS0.out.2.1, cellb_ hb_ HS0.out.2.2.1, cellb_ hb_ HS0.out.2.2.2.1, cellb_ hb_ HS0.out.2.2.2.2⟩ (fun hHeld => ?_);clear hK K ho_ hb_ hg_ hnew_;refine no (some 27) ?_;refine one_ (i := 2) (N := some 23) (bs 15 479) rfl rfl (one_of HT_.out (by kernel_rfl)) (by decide) (fun K hK => ?_);refine Kd.R_lit_step (Kd.int .i64) (w0 := w28) w28.heap.size 3 (by rfl) (N := 23) rfl (xs := ([] : List Int)) (inner := []) (ok := fun k_ => some k_ ≠ (v27 : Value).ownBlock) (okp := fun _ => False) ?hr (Reps.none _ _) (fun _ h_ => h_.elim) (fun e_ => by have := Kd.R_lt P27.out _ e_.symm; omega) HBN.out (HBN.out.size) (by simp) ?_;(case hr => first | (go_simp; done) | (go_simp; rfl));intro v23 we107 ho_ hb_ hg_ hnew_;have q_ := Aside0.mk ho_;have q27_ := Aside0.mk (qfa.elder_lit P27.out hg_ hnew_);clear P27; have P27 := q27_; clear q27_ HBN;have HBN := Aside0.mk hb_;have P23 := q_; clear q_;refine hK.out _ _ ⟨cellb_ hb_ HS0.out.1, cellb_ hb_ HS0.out.2.1, cellb_ hb_ HS0.out.2.2.1, cellb_ hb_ HS0.out.2.2.2.1, cellb_ hb_ HS0.out.2.2.2.2⟩ (fun hHeld => ?_);clear hK K ho_ hb_ hg_ hnew_;refine no (some 23) ?_;refine one_ (i := 5) (N := some 26) (bs 15 511) rfl rfl (one_of HT_.out (by kernel_rfl)) (by decide) (fun K hK => ?_);refine Kd.R_append_rows_step (Kd.int .i64) (w0 := w28) w28.heap.size (by rfl) (.tmp 23) (.tmp 25) 27 3 (.int .i64 0) 8 rfl Try.underlying27 info3 rfl (by decide) (by omega) v23 ([] : List Int) ((rd_T66 ad ab).f0) _ _ _ (fun k_ => some k_ ≠ (v27 : Value).ownBlock) (fun _ => False) rfl rfl P23.out ?aR (fun _ _ h_ => h_) (fun _ h_ => h_.elim) (fun k_ hk_ e_ => by have := Kd.R_lt P27.out _ e_.symm; omega) HBN.out HBN.out.size ?aL ?_;(case aR => exact Kd.C_below aM.out (below_step HB.out HBN.out));(case aL => have := L386.out; simp only [List.length_nil]; omega);intro v26 we108 ho_ hb_ hg_ hat_;rw [List.nil_append, E386.out] at ho_;have q_ := Aside0.mk ho_;have q27_ := Aside0.mk (qfa.other_app P27.out hg_ hat_);clear P27; have P27 := q27_; clear q27_ HBN P23;have HBN := Aside0.mk hb_;have P26 := q_; clear q_;refine hK.out _ _ ⟨cellb_ hb_ HS0.out.1, cellb_ hb_ HS0.out.2.1, cellb_ hb_ HS0.out.2.2.1, cellb_ hb_ HS0.out.2.2.2.1, cellb_ hb_ HS0.out.2.2.2.2⟩ (fun hHeld => ?_);clear hK K ho_ hb_ hg_ hat_;refine no (some 26) ?_;exact norm_ (by simp only [putAll, Act.put, qS1, qS2, qS3]) (hCont (v23, v26, v27) _ ⟨hHeld, P26.out, P27.out, HBN.out⟩)
   rintro ⟨v23, v26, v27⟩ we90 ⟨hHeld, h26_, h27_, hbn_⟩;have P26 := Aside0.mk h26_;have P27 := Aside0.mk h27_;clear HBN;have HBN := Aside0.mk hbn_;clear h26_ h27_ hbn_;refine norm_ (a' := ?_) ?_ ?_
   rotate_left
   ·simp only [putAll, Act.put, qS1, qS2, qS3]
    rfl
   refine one_ (i := 9) (N := some 30) (bs 15 1023) rfl rfl (one_of HT_.out (by kernel_rfl)) (by decide) (fun K hK => ?_);refine Kd.R_append_rows_step (Kd.int .i64) (w0 := w28) w28.heap.size (by rfl) (.tmp 27) (.tmp 29) 27 3 (.int .i64 0) 8 rfl Try.underlying27 info3 rfl (by decide) (by omega) v27 ([] : List Int) ((rd_T66 ad ab).f1) _ _ _ (fun k_ => some k_ ≠ v26.ownBlock) (fun _ => False) rfl rfl P27.out ?aR (fun _ _ h_ => h_) (fun _ h_ => h_.elim) (fun k_ hk_ e_ => by have := Kd.R_lt P26.out _ e_.symm; omega) HBN.out HBN.out.size ?aL ?_;(case aR => exact Kd.C_below bq.out (below_step HB.out HBN.out));(case aL => have := L389.out; simp only [List.length_nil]; omega);intro v30 we91 ho_ hb hg_ hat_;rw [List.nil_append, E389.out] at ho_;have q_ := Aside0.mk (qfa.other_app P26.out hg_ hat_);clear P26 P27 HBN; have P26 := q_;have P27 := Aside0.mk ho_;clear q_ ho_ hg_ hat_; have hb_ := hb;replace ag := kR ag hb; replace aa := Aside0.mk (qfa.elder2 aa.out hb (Kd.R_base P26.out) (Kd.R_base P27.out)); have aW : Aside0 (Kd.R (Kd.int .i64) 3 we91 w.heap.size (fun k_ => True ∧ some k_ ≠ v30.ownBlock) v26 aX) := ⟨Kd.R_mono (Kd.R_lower P26.out (below_size HB.out)) (fun _ hk => ⟨trivial, hk⟩)⟩; have bc : Aside0 (Kd.R (Kd.int .i64) 3 we91 w.heap.size (fun k_ => True ∧ some k_ ≠ v26.ownBlock) v30 bd) := ⟨Kd.R_mono (Kd.R_lower P27.out (below_size HB.out)) (fun _ hk => ⟨trivial, hk⟩)⟩; replace ah := kU ah hb; replace ai := kU ai hb; replace ae := kU ae hb; replace aj := kU aj hb; replace HB := kH HB hb;(try clear hb);obtain ⟨bR, bS, bT⟩ := Kd.R_slice bc.out;(first | subst bT | (injection bT with f1_ f2_ f3_; have f4_ := f1_.symm; have f5_ := f3_.symm; clear f1_ f2_ f3_; subst f4_; subst f5_));obtain ⟨bU, bV, bW⟩ := Kd.R_slice aW.out;(first | subst bW | (injection bW with f1_ f2_ f3_; have f4_ := f1_.symm; have f5_ := f3_.symm; clear f1_ f2_ f3_; subst f4_; subst f5_));refine hK.out _ _ ⟨kk ae 0, kk ae 1, kk ae 2, kk aj 0, kk aj 1⟩ (fun hHeld => ?_);clear hK K;refine no (some 30) ?_;refine pu 10 (some 31) (bs 15 2047) HT_ ?_;refine one_ (i := 11) (N := some 32) (bs 15 4095) rfl rfl (one_of HT_.out (by kernel_rfl)) (by decide) (fun K hK => ?_);refine value_ (w1 := ?_) (v := ?_) (by rfl) rfl ?_ ?_
   rotate_left 2
   ·go_simp
    constructor
    ·rfl
    ·rfl
   refine hK.out _ _ ⟨(blk_cell (blk_alloc ae.out _) 0).trans rfl, (blk_cell (blk_alloc ae.out _) 1).trans rfl, (blk_cell (blk_alloc ae.out _) 2).trans rfl, (blk_cell (blk_alloc aj.out _) 0).trans rfl, (blk_cell (blk_alloc aj.out _) 1).trans rfl⟩ (fun hHeld => ?_);clear hK K;refine no (some 32) ?_;refine one_ (i := 12) (N := some 33) (bs 15 8191) rfl rfl (one_of HT_.out (by kernel_rfl)) (by decide) (fun K hK => ?_);refine Kd.S_append_step k66t (w0 := w) w.heap.size (by rfl) (.tmp 22) (.tmp 32) 24 66 (.agg #[(.slice none 0 0), (.slice none 0 0)]) 48 rfl Try.underlying24 info66 rfl (by decide) (by omega) al ak (⟨aX, bd⟩ : S66) [.slice bU aX.length bV, .slice bR bd.length bS] (fun k_ => k_ ≠ af) (fun k_ => some k_ = (.slice bU aX.length bV : Value).ownBlock ∨ some k_ = (.slice bR bd.length bS : Value).ownBlock) rfl rfl ?aP (fun k_ hk_ => hk_.elim (fun h_ => ((Kd.R_mono (ok' := fun k_ => ((fun k_ => k_ ≠ af)) k_ ∧ some k_ ≠ (al : Value).ownBlock) (Kd.R_types (Kd.R_apart' (aW.out) (Kd.S_typed aa.out) (by decide)) aj.out (by decide)) (fun k_ hk => ⟨hk.2, hk.1.2⟩))).1 k_ h_.symm) (fun h_ => ((Kd.R_mono (ok' := fun k_ => ((fun k_ => k_ ≠ af)) k_ ∧ some k_ ≠ (al : Value).ownBlock) (Kd.R_types (Kd.R_apart' (bc.out) (Kd.S_typed aa.out) (by decide)) aj.out (by decide)) (fun k_ hk => ⟨hk.2, hk.1.2⟩))).1 k_ h_.symm)) ?aF ?aO ?aB ?aS ?aL ?_;(case aP => exact k66t_mkM _ _ _ (⟨aX, bd⟩ : S66) (fun k_ h_ h2_ => (aW.out.1 k_ h_).2 h2_.symm) (Kd.R_mono (Kd.R_tight rfl (Kd.R_mono (ok' := fun k_ => ((fun k_ => k_ ≠ af)) k_ ∧ some k_ ≠ (al : Value).ownBlock) (Kd.R_types (Kd.R_apart' (aW.out) (Kd.S_typed aa.out) (by decide)) aj.out (by decide)) (fun k_ hk => ⟨hk.2, hk.1.2⟩))) (fun _ h_ => Or.inl h_)) (Kd.R_mono (Kd.R_tight rfl (Kd.R_mono (ok' := fun k_ => ((fun k_ => k_ ≠ af)) k_ ∧ some k_ ≠ (al : Value).ownBlock) (Kd.R_types (Kd.R_apart' (bc.out) (Kd.S_typed aa.out) (by decide)) aj.out (by decide)) (fun k_ hk => ⟨hk.2, hk.1.2⟩))) (fun _ h_ => Or.inr (h_))));(case aB => exact (kh HB));(case aF => exact (fun k_ hk => Kd.freshB (g := af) (o := .cells #[.slice an ((rd_T66 ad ab).f0).length ao, .slice ap ((rd_T66 ad ab).f1).length aq] 66 (0, 0)) (kb aj) k_ hk));(case aO => exact (by (with_reducible repeat first | apply Kd.S_alloc | apply Kd.S_drewN | apply Kd.S_drew); exact Kd.S_mono aa.out (fun k_ hk => ⟨hk.1.1, fun e_ => e_.elim (fun h_ => hk.1.2 h_) (fun h_ => hk.2 h_)⟩)));(case aS => exact (below_size (kh HB)));(case aL => have := bO.out; omega);intro cU w33 ho hb hg hat;rw [← bP.out] at ho;replace ag := Aside0.mk (Kd.R_over' (krR ag) (Kd.S_typed (krS aa)) (by decide) hg); replace ah := kXS ah aa hg; replace ai := kXS ai aa hg; replace ae := kXS ae aa hg; replace aj := Aside0.mk (blk_grown (g := af) (o := .cells #[.slice an ((rd_T66 ad ab).f0).length ao, .slice ap ((rd_T66 ad ab).f1).length aq] 66 (0, 0)) (kb aj) hg (Kd.S_away aa.out (fun _ hk => hk.1.1))); replace HB := Aside0.mk (hb); have bB := Aside0.mk (ho); clear aW bc aa;clear ho hb hg hat;obtain ⟨bG, bH, bX⟩ := Kd.S_slice bB.out;(first | subst bX | (injection bX with f1_ f2_ f3_; have f4_ := f1_.symm; have f5_ := f3_.symm; clear f1_ f2_ f3_; subst f4_; subst f5_));refine hK.out _ _ ⟨kk ae 0, kk ae 1, kk ae 2, kk aj 0, kk aj 1⟩ (fun hHeld => ?_);clear hK K;refine no (some 33) ?_;refine pu 13 (some 34) (bs 15 16383) HT_ ?_;refine last_ (i := 14) (N := none) (bs 15 32767) rfl rfl (one_of HT_.out (by kernel_rfl)) (by decide) (fun K hK => ?_);have cV : w33.cell? ⟨ar, 2, none⟩ = some (al) := kk ae 2;have cQ := blk_frozen ae.out 2;have ca := ax.out;have cb := az.out;have cc := aI.out;have cd := ay.out;have ce := aA.out;have cf := aH.out;refine skip_ (w1 := ?_) (by rfl) rfl ?_ ?_
   rotate_left
   ·go_simp
    rfl
   refine hK.out _ _ ?_;clear hK K;refine done_ (done_of HT_.out (by kernel_rfl)) ?_;(try go_wp2);go_roundg k1
   case measure => have := HK1.out; omega
   case rel => exact ⟨(wrap64 (ab + 1)), (bo), (.slice bG bo.length bH), et, H', ⟨by have := HK1.out; omega⟩, ⟨by (with_reducible repeat first | apply Kd.R_alloc | apply Kd.R_drewN | apply Kd.R_drew); exact Kd.R_mono (Kd.R_far (p := ⟨ar, 2, none⟩) (Kd.R_types ag.out ae.out (by decide)) (fun _ hk => hk.2) (.slice bG bo.length bH)) (fun _ hk => trivial)⟩, ⟨by (with_reducible repeat first | apply Kd.S_alloc | apply Kd.S_drewN | apply Kd.S_drew); exact Kd.S_mono (Kd.S_far (p := ⟨ar, 2, none⟩) (Kd.S_types bB.out ae.out (by decide)) (fun _ hk => hk.2) (.slice bG bo.length bH)) (fun _ hk => trivial)⟩, ⟨kg ah⟩, ⟨kg ai⟩, ⟨kg ae⟩, ⟨kh HB⟩⟩
def qfa.f (k : Nat) (aa : List (S64)) (ab : List (S61)) (ad : List (S66)) (l1 : List (S61)) : Option ((List (S64)) × (List (S61)) × (List (S66))) := (qfa.g k aa ab ad).bind fun r => some (r.1, l1, r.2.2)
theorem qfa.calls (k : Nat) (ae : Option Addr) (af : Nat) (aa : List (S64)) (ag : Option Addr) (ah : Nat) (ab : List (S61)) (ai : Option Addr) (aj : Nat) (ad : List (S66)) (A1 : Option Addr) (c1 : Nat) (l1 : List (S61)) (r1 : List (S64)) (r2 : List (S61)) (r3 : List (S66)) (w : World) (ak : Kd.C k64 w ae aa.length aa) (al : aa.length ≤ af) (an : Kd.C k61 w ag ab.length ab) (ao : ab.length ≤ ah) (ap : Kd.C k66 w ai ad.length ad) (aq : ad.length ≤ aj) {b0 : Nat} {ok0 : Nat → Prop} (hr1 : Kd.R k61 61 w b0 ok0 (.slice A1 l1.length c1) l1) (hb0 : b0 ≤ w.heap.size) (h : qfa.f k aa ab ad l1 = some (r1, r2, r3)) :
  Calls Try.prog 44 #[.agg #[.slice ae aa.length af, .slice ag ab.length ah, .slice ai ad.length aj], .slice A1 l1.length c1] w fun e w' => ∃ v0_ v2_ : Value, e = .returned (.agg #[v0_, .slice A1 r2.length c1, v2_]) ∧ Kd.R k64 64 w' b0 (fun k_ => w.heap.size ≤ k_) v0_ r1 ∧ Kd.R k61 61 w' b0 ok0 (.slice A1 r2.length c1) r2 ∧ Kd.S k66t 66 w' b0 (fun k_ => w.heap.size ≤ k_) v2_ r3 ∧ Below w.heap.size w w' := by
 obtain ⟨⟨g1, g2, g3⟩, hg, he⟩ := Option.bind_eq_some_iff.mp h;simp only [Option.some.injEq, Prod.mk.injEq] at he;obtain ⟨rfl, rfl, rfl⟩ := he
 exact (qfa.callsG k ae af aa ag ah ab ai aj ad A1 c1 l1 g1 g2 g3 w ak al an ao ap aq hg).mono fun e w' ⟨v0, v2, h0, h1, h2, h3⟩ => ⟨v0, v2, h0, Kd.R_lower (Kd.R_mono (Kd.R_bound h1) (fun _ hk => hk.2.1)) hb0, Kd.R_below hr1 h3, (let ⟨f_, q_⟩ := h2; ⟨f_, Kd.R_lower (Kd.R_mono (Kd.R_bound q_) (fun _ hk => hk.2.1)) hb0⟩), h3⟩
theorem qfa.callsN (k : Nat) (ae : Option Addr) (af : Nat) (aa : List (S64)) (ag : Option Addr) (ah : Nat) (ab : List (S61)) (ai : Option Addr) (aj : Nat) (ad : List (S66)) (A1 : Option Addr) (c1 : Nat) (l1 : List (S61)) (r1 : List (S64)) (r2 : List (S61)) (r3 : List (S66)) (w : World) (ak : Kd.C k64 w ae aa.length aa) (al : aa.length ≤ af) (an : Kd.C k61 w ag ab.length ab) (ao : ab.length ≤ ah) (ap : Kd.C k66 w ai ad.length ad) (aq : ad.length ≤ aj) {b0 : Nat} (hr1 : Kd.R k61 61 w b0 (fun _ => True) (.slice A1 l1.length c1) l1) (hb0 : b0 ≤ w.heap.size) (h : qfa.f k aa ab ad l1 = some (r1, r2, r3)) :
  Calls Try.prog 44 #[.agg #[.slice ae aa.length af, .slice ag ab.length ah, .slice ai ad.length aj], .slice A1 l1.length c1] w fun e w' => ∃ v0_ v1_ v2_ : Value, e = .returned (.agg #[v0_, v1_, v2_]) ∧ Kd.R k64 64 w' b0 (fun _ => True) v0_ r1 ∧ Kd.R k61 61 w' b0 (fun _ => True) v1_ r2 ∧ Kd.S k66 66 w' b0 (fun _ => True) v2_ r3 ∧ Below w.heap.size w w' :=
 (qfa.calls k ae af aa ag ah ab ai aj ad A1 c1 l1 r1 r2 r3 w ak al an ao ap aq hr1 hb0 h).mono fun e w' ⟨v0, v2, he, h0, h1, h2, h3⟩ => ⟨v0, _, v2, he, Kd.R_mono h0 (fun _ _ => trivial), h1, k66t_S (Kd.S_mono h2 (fun _ _ => trivial)), h3⟩
mutual
def qia.l0 : Nat → Int → List (S61) → List (S61) → Int → Int → List (S64) → List (S61) → List (S66) → Option ((List (S64)) × (List (S61)) × (List (S66)))
 | 0, _, _, _, _, _, _, _, _ => none
 | k + 1, x0, x5, x10, x11, x12, aa, ab, ad => if x12 < x11 then (if 0 ≤ x12 then (if x12 < (x10.length : Int) then (qia.l1 k x0 x5 true x10 x11 x12 aa ab ad ((rd_T61 x10 x12).f0) ((rd_T61 x10 x12).f1) ((rd_T61 x10 x12).f2) ((rd_T61 x10 x12).f3)) else (none)) else (none)) else ((qfa.f k aa ab ad x5).bind fun aj => (some (aj.1, aj.2.1, aj.2.2)))
def qia.l1 : Nat → Int → List (S61) → Bool → List (S61) → Int → Int → List (S64) → List (S61) → List (S66) → Int → Int → Int → Int → Option ((List (S64)) × (List (S61)) × (List (S66)))
 | 0, _, _, _, _, _, _, _, _, _, _, _, _, _ => none
 | k + 1, x0, x5, x8, x10, x11, x12, aa, ab, ad, af, ag, ah, ai => if x8 = true then ((qba.f k x0 x5 af ag ah ai).bind fun ae => (qia.l1 k x0 x5 ae.2.2.2.2 x10 x11 x12 aa ab ad ae.1 ae.2.1 ae.2.2.1 ae.2.2.2.1)) else (if x5.length < 4398046511104 then (qia.l0 k x0 (x5 ++ [(⟨af, ag, ah, ai⟩ : S61)]) x10 x11 (wrap64 (x12 + 1)) aa ab ad) else (none))
end
def qia.f (k : Nat) (a0 : Int) (ab : List (S64)) (aa : List (S61)) (ad : List (S66)) : Option ((List (S64)) × (List (S61)) × (List (S66))) := qia.l0 k a0 ([] : List (S61)) aa (aa.length : Int) 0 ab aa ad
theorem qia.calls (k : Nat) (a0 : Int) (aG : Option Addr) (aH : Nat) (ao : List (S64)) (aM : Option Addr) (aI : Nat) (ag : List (S61)) (aJ : Option Addr) (aK : Nat) (ap : List (S66)) (r1 : List (S64)) (r2 : List (S61)) (r3 : List (S66)) (w : World) (bd : Kd.C k64 w aG ao.length ao) (bf : ao.length ≤ aH) (bg : Kd.C k61 w aM ag.length ag) (bh : ag.length ≤ aI) (bi : Kd.C k66 w aJ ap.length ap) (bj : ap.length ≤ aK) (h : qia.f k a0 ao ag ap = some (r1, r2, r3)) :
  Calls Try.prog 19 #[.int .u64 a0, .agg #[.slice aG ao.length aH, .slice aM ag.length aI, .slice aJ ap.length aK]] w fun e w' => ∃ v0_ v1_ v2_ : Value, e = .returned (.agg #[v0_, v1_, v2_]) ∧ Kd.R k64 64 w' w.heap.size (fun _ => True) v0_ r1 ∧ Kd.R k61 61 w' w.heap.size (fun _ => True) v1_ r2 ∧ Kd.S k66 66 w' w.heap.size (fun _ => True) v2_ r3 ∧ Below w.heap.size w w' := by
 have hu26 := Try.underlying26;have hu61 := Try.underlying61;have bu := Aside0.mk bd;have bv := Aside0.mk bf;clear bd bf;have bk := Aside0.mk bg;have bw := Aside0.mk bh;clear bg bh;have bx := Aside0.mk bi;have bz := Aside0.mk bj;clear bi bj;have HB := Aside0.mk (Below.refl w.heap.size w);have H : (qia.l0 k a0 ([] : List (S61)) ag (ag.length : Int) 0 ao ag ap) = some (r1, r2, r3) := h;clear h;have H' := Aside0.mk H;clear H;go_enter Try.func19, Try.ntmps19;go_wp2_with (first | ((with_reducible refine gate_dst (N := 3) rfl ?_); refine box_event ?hg (N := 3) ?hd (cs := #[.slice aG ao.length aH, .slice aM ag.length aI, .slice aJ ap.length aK]) (t := 26) ?hr ?_; (case hd => rfl); (case hg => rfl); (case hr => first | (go_simp; done) | (go_simp; rfl)); intro bl hg w3 hbox hb; have af := am hbox; have bV := kG HB hg; have bW := kG HB hg; replace HB := kH HB hb; clear hb hbox hg) | ((with_reducible refine gate_dst (N := 4) rfl ?_); refine box_event ?hg (N := 4) ?hd (cs := #[.slice none 0 0, .slice none 0 0, .slice none 0 0]) (t := 26) ?hr ?_; (case hd => rfl); (case hg => rfl); (case hr => first | (go_simp; done) | (go_simp; rfl)); intro al hg w4 hbox hb; have ah := am hbox; have bX := kG HB hg; have bY := kG HB hg; replace HB := kH HB hb; have aC := kP af hg; have aD := kQ af hg; replace af := kU af hb; clear hb hbox hg; have cp := aC.out; have cq := aD.out; have Z6 := kz3 af));go_loopg [5, 12] k (fun kq v5 v12 w' => ∃ (aw : List (S61)) (ai : Int), v12 = .int .i64 ai ∧ Aside0 (qia.l0 kq a0 aw ag (ag.length : Int) ai ao ag ap = some (r1, r2, r3)) ∧ Aside0 (kq ≤ k) ∧ Aside0 (Kd.R k61 61 w' w.heap.size (fun _ => True) v5 aw) ∧ Aside0 (w'.heap[bl]? = some (.cells #[(.slice aG ao.length aH), (.slice aM ag.length aI), (.slice aJ ap.length aK)] 26 (0, 0))) ∧ Aside0 (w'.heap[al]? = some (.cells #[(.slice none 0 0), (.slice none 0 0), (.slice none 0 0)] 26 (0, 0))) ∧ Aside0 (Below w.heap.size w w'))
 case atStart => exact ⟨(([] : List (S61))), (0), et, H', ⟨Nat.le_refl _⟩, ⟨by first | exact Kd.R_nil _ _ _ _ _ | exact Kd.N_nil _ _ _ _ _ | exact Kd.V_nil _ _ _ _ _ | exact Kd.Q_nil _ _ _ _ _ | exact Kd.S_nil _ _ _ _ _⟩, ⟨kg af⟩, ⟨kg ah⟩, ⟨kh HB⟩⟩
 case round =>
  clear H'; (try clear Z6);obtain ⟨aw, ai, rfl, HA, HK1, ak, af, ah, HB⟩ := hrel
  cases gk with
  | zero => exact absurd HA.out (by simp [qia.l0])
  | succ k1 =>
   have H := HA.out;clear HA;simp only [qia.l0] at H
   by_cases c7 : ai < (ag.length : Int)
   rotate_left
   ·rw [if_neg c7] at H
    have bA := decide_eq_false c7;clear c7;replace H := Option.bind_eq_some_iff.mp H;obtain ⟨⟨aN, aQ, aT⟩, bB, H⟩ := H;(try dsimp only at H);have A27 := Aside0.mk bB;clear bB;simp only [Option.some.injEq, Prod.mk.injEq] at H;obtain ⟨rfl, rfl, rfl⟩ := H;have bZ := aC.out;have ca := aD.out;have Z29 := kz3 af;obtain ⟨bJ, bK, bL⟩ := Kd.R_slice ak.out;subst bL;go_wp2_with (first | ((with_reducible refine gate_callee (f := 44) rfl ?_); refine goesL_ (some 31) rfl rfl Try.func44 (by kernel_rfl) rfl #[.agg #[.slice aG ao.length aH, .slice aM ag.length aI, .slice aJ ap.length aK], .slice bJ aw.length bK] rfl (by (try simp only [qM1, qM2, qM3]); first | done | rfl) ?_; (with_reducible refine (qfa.callsN (b0 := w.heap.size) k1 _ _ ao _ _ ag _ _ ap _ _ aw aN aQ aT _ ?side1 ?side2 ?side3 ?side4 ?side5 ?side6 ?side7 ?side8 A27.out).mono ?_); (case side1 => repeat (first | exact (Kd.C_below bu.out HB.out) | (with_reducible first | refine Kd.C_alloc ?_ _ | refine Kd.C_drewN ?_ _ | refine Kd.C_drew ?_))); (case side2 => exact bv.out); (case side3 => repeat (first | exact (Kd.C_below bk.out HB.out) | (with_reducible first | refine Kd.C_alloc ?_ _ | refine Kd.C_drewN ?_ _ | refine Kd.C_drew ?_))); (case side4 => exact bw.out); (case side5 => repeat (first | exact (Kd.C_below bx.out HB.out) | (with_reducible first | refine Kd.C_alloc ?_ _ | refine Kd.C_drewN ?_ _ | refine Kd.C_drew ?_))); (case side6 => exact bz.out); (case side7 => exact Kd.R_mono (krR ak) (fun _ _ => trivial)); (case side8 => exact (below_size (by repeat (first | exact HB.out | apply below_alloc | apply pw_below_drewN | apply below_drew1)))); rintro e w31 ⟨cr, ct, cu, rfl, ho0, ho1, ho2, hb⟩; refine ⟨_, rfl, ?_⟩; replace ak := kR ak hb; have bm := Aside0.mk (ho0); have bn := Aside0.mk (ho1); have bo := Aside0.mk (ho2); replace af := kU af hb; replace ah := kU ah hb; replace HB := kH HB hb; (try clear hb); (try clear hb2); (try clear hk); (try clear hi); (try clear ho0); (try clear ho1); (try clear ho2); obtain ⟨aU, aV, bM⟩ := Kd.R_slice bm.out; subst bM; have Z33 := kz3 ah; obtain ⟨aW, aX, bN⟩ := Kd.R_slice bn.out; subst bN; obtain ⟨aY, aZ, bO⟩ := Kd.S_slice bo.out; subst bO));refine bodyPost_ret (results_cell_row rfl _ _ al 26 #[.slice aU aN.length aV, .slice aW aQ.length aX, .slice aY aT.length aZ] (0, 0) _ rfl (kg ah) Try.underlying26 rfl (by kernel_rfl)) rfl ?_;exact ⟨_, _, _, er, by (with_reducible repeat first | apply Kd.R_alloc | apply Kd.R_drewN | apply Kd.R_drew); exact Kd.R_mono (Kd.R_far (p := ⟨al, 2, none⟩) (Kd.R_far (p := ⟨al, 1, none⟩) (Kd.R_far (p := ⟨al, 0, none⟩) (Kd.R_types bm.out ah.out (by decide)) (fun _ hk => hk.2) (.slice aU aN.length aV)) (fun _ hk => hk.2) (.slice aW aQ.length aX)) (fun _ hk => hk.2) (.slice aY aT.length aZ)) (fun _ hk => trivial), by (with_reducible repeat first | apply Kd.R_alloc | apply Kd.R_drewN | apply Kd.R_drew); exact Kd.R_mono (Kd.R_far (p := ⟨al, 2, none⟩) (Kd.R_far (p := ⟨al, 1, none⟩) (Kd.R_far (p := ⟨al, 0, none⟩) (Kd.R_types bn.out ah.out (by decide)) (fun _ hk => hk.2) (.slice aU aN.length aV)) (fun _ hk => hk.2) (.slice aW aQ.length aX)) (fun _ hk => hk.2) (.slice aY aT.length aZ)) (fun _ hk => trivial), by (with_reducible repeat first | apply Kd.S_alloc | apply Kd.S_drewN | apply Kd.S_drew); exact Kd.S_mono (Kd.S_far (p := ⟨al, 2, none⟩) (Kd.S_far (p := ⟨al, 1, none⟩) (Kd.S_far (p := ⟨al, 0, none⟩) (Kd.S_types bo.out ah.out (by decide)) (fun _ hk => hk.2) (.slice aU aN.length aV)) (fun _ hk => hk.2) (.slice aW aQ.length aX)) (fun _ hk => hk.2) (.slice aY aT.length aZ)) (fun _ hk => trivial), kh HB⟩
   rw [if_pos c7] at H;have bA := decide_eq_true c7;clear c7
   by_cases c8 : 0 ≤ ai
   rotate_left
   ·rw [if_neg c8] at H
    exact absurd H (by simp)
   rw [if_pos c8] at H;have bP := decide_eq_true c8;clear c8
   by_cases c9 : ai < (ag.length : Int)
   rotate_left
   ·rw [if_neg c9] at H
    exact absurd H (by simp)
   rw [if_pos c9] at H;have bQ := decide_eq_true c9;clear c9;have H' := Aside0.mk H;clear H;have ba : 0 ≤ (ai : Int) := od;have bb : ai < (ag.length : Int) := od;obtain ⟨bC, bR, ax, ay, az, aA⟩ := at_T61 bk.out ai ba bb;cases bR;replace ax := (HB.out.cell (World.block_lt_of_cell? w _ ax)).trans ax;replace ay := (HB.out.cell (World.block_lt_of_cell? w _ ay)).trans ay;replace az := (HB.out.cell (World.block_lt_of_cell? w _ az)).trans az;replace aA := (HB.out.cell (World.block_lt_of_cell? w _ aA)).trans aA;replace ba := eq_true ba; replace bb := eq_true bb;go_wp2_with (first | ((with_reducible refine gate_dst (N := 7) rfl ?_); refine box_event ?hg (N := 7) ?hd (cs := #[.int .i64 0, .int .i64 0, .int .i64 0, .int .u64 0]) (t := 61) ?hr ?_; (case hd => rfl); (case hg => rfl); (case hr => first | (go_simp; done) | (go_simp; rfl)); intro aj hg w10 hbox hb; replace ak := Aside0.mk (Kd.R_below (Kd.R_elderB (krR ak) aj (Nat.le_of_eq hg.symm)) hb); have an := am hbox; have cb := kG HB hg; have cc := kG HB hg; replace HB := kH HB hb; have aq := kP af hg; have ar := kQ af hg; replace af := kU af hb; have au := kP ah hg; have av := kQ ah hg; replace ah := kU ah hb; clear hb hbox hg; have cd := ar.out; have ce := aq.out; have cf := av.out; have cg := au.out; have Z13 := kz4 an));go_loopg [8] k1 (fun kq v8 w' => ∃ (bc : Bool) (aa : Int) (ab : Int) (ad : Int) (ae : Int), v8 = .bool bc ∧ Aside0 (qia.l1 kq a0 aw bc ag (ag.length : Int) ai ao ag ap aa ab ad ae = some (r1, r2, r3)) ∧ Aside0 (kq ≤ k1) ∧ Aside0 (Kd.R k61 61 w' w.heap.size (fun k_ => k_ ≠ aj) u5 aw) ∧ Aside0 (w'.heap[bl]? = some (.cells #[(.slice aG ao.length aH), (.slice (some bC) ag.length aI), (.slice aJ ap.length aK)] 26 (0, 0))) ∧ Aside0 (w'.heap[al]? = some (.cells #[(.slice none 0 0), (.slice none 0 0), (.slice none 0 0)] 26 (0, 0))) ∧ Aside0 (w'.heap[aj]? = some (.cells #[.int .i64 aa, .int .i64 ab, .int .i64 ad, .int .u64 ae] 61 (0, 0))) ∧ Aside0 (Below w.heap.size w w'))
   case atStart => exact ⟨(true), ((rd_T61 ag ai).f0), ((rd_T61 ag ai).f1), ((rd_T61 ag ai).f2), ((rd_T61 ag ai).f3), et, H', ⟨Nat.le_refl _⟩, ⟨by (with_reducible repeat first | apply Kd.R_alloc | apply Kd.R_drewN | apply Kd.R_drew); exact Kd.R_mono (Kd.R_far (p := ⟨aj, 3, none⟩) (Kd.R_far (p := ⟨aj, 2, none⟩) (Kd.R_far (p := ⟨aj, 1, none⟩) (Kd.R_far (p := ⟨aj, 0, none⟩) (Kd.R_mono ak.out (fun k_ hk => (⟨hk, hk.2⟩ : _ ∧ k_ ≠ aj))) (fun _ hk => hk.2) (.int .i64 ((rd_T61 ag ai).f0))) (fun _ hk => hk.2) (.int .i64 ((rd_T61 ag ai).f1))) (fun _ hk => hk.2) (.int .i64 ((rd_T61 ag ai).f2))) (fun _ hk => hk.2) (.int .u64 ((rd_T61 ag ai).f3))) (fun _ hk => hk.1.2)⟩, ⟨kg af⟩, ⟨kg ah⟩, ⟨kg an⟩, ⟨kh HB⟩⟩
   case round =>
    clear H';(try clear bA bP bQ Z13 ax ay az aA ba bb);obtain ⟨bc, aa, ab, ad, ae, rfl, HA, HK2, ak, af, ah, an, HB⟩ := hrel
    cases gk with
    | zero => exact absurd HA.out (by simp [qia.l1])
    | succ k2 =>
     have H := HA.out;clear HA;simp only [qia.l1] at H
     by_cases c14 : bc = true
     ·subst c14
      replace H := ifT H;replace H := Option.bind_eq_some_iff.mp H;obtain ⟨⟨bp, bq, br, bt, bD⟩, bE, H⟩ := H;(try dsimp only at H);have A15 := Aside0.mk bE;clear bE;have H' := Aside0.mk H;clear H;have ch := ar.out;have ci := aq.out;have cj := av.out;have ck := au.out;have Z18 := kz4 an;obtain ⟨bS, bT, bU⟩ := Kd.R_slice ak.out;subst bU;go_wp2_with (first | ((with_reducible refine gate_callee (f := 43) rfl ?_); refine goesL_ (some 21) rfl rfl Try.func43 (by kernel_rfl) rfl #[.int .u64 a0, .slice bS aw.length bT, .agg #[.int .i64 aa, .int .i64 ab, .int .i64 ad, .int .u64 ae]] rfl (by (try simp only [qM1, qM2, qM3]); first | done | rfl) ?_; (with_reducible refine (qba.calls k2 a0 _ _ aw aa ab ad ae bp bq br bt bD _ ?side1 ?side2 A15.out).mono ?_); (case side1 => repeat (first | exact (Kd.R_reads' ak.out).2.2 | (with_reducible first | refine Kd.C_alloc ?_ _ | refine Kd.C_drewN ?_ _ | refine Kd.C_drew ?_))); (case side2 => exact (Kd.R_reads' ak.out).2.1); rintro e w20 ⟨rfl, hb⟩; refine ⟨_, rfl, ?_⟩; replace ak := kR ak hb; replace af := kU af hb; replace ah := kU ah hb; replace an := kU an hb; replace HB := kH HB hb; (try clear hb); (try clear hb2); (try clear hk); (try clear hi); have Z21 := kz4 an));go_roundg k2
      case measure => have := HK1.out; have := HK2.out; omega
      case rel => exact ⟨(bD), (bp), (bq), (br), (bt), et, H', ⟨by have := HK1.out; have := HK2.out; omega⟩, ⟨by (with_reducible repeat first | apply Kd.R_alloc | apply Kd.R_drewN | apply Kd.R_drew); exact Kd.R_mono (Kd.R_far (p := ⟨aj, 3, none⟩) (Kd.R_far (p := ⟨aj, 2, none⟩) (Kd.R_far (p := ⟨aj, 1, none⟩) (Kd.R_far (p := ⟨aj, 0, none⟩) (Kd.R_mono ak.out (fun k_ hk => (⟨hk, hk⟩ : _ ∧ k_ ≠ aj))) (fun _ hk => hk.2) (.int .i64 bp)) (fun _ hk => hk.2) (.int .i64 bq)) (fun _ hk => hk.2) (.int .i64 br)) (fun _ hk => hk.2) (.int .u64 bt)) (fun _ hk => hk.1)⟩, ⟨kg af⟩, ⟨kg ah⟩, ⟨kg an⟩, ⟨kh HB⟩⟩
     replace c14 := Bool.eq_false_iff.mpr c14;subst c14;replace H := ifF H
     by_cases c22 : aw.length < 4398046511104
     rotate_left
     ·rw [if_neg c22] at H
      exact absurd H (by simp)
     rw [if_pos c22] at H;have bF := Aside0.mk c22;clear c22;obtain ⟨bG, aE⟩ : ∃ y_ : List (S61), y_ = (aw ++ [(⟨aa, ab, ad, ae⟩ : S61)]) := ⟨_, rfl⟩
     replace H : (qia.l0 k2 a0 bG ag (ag.length : Int) (wrap64 (ai + 1)) ao ag ap) = some (r1, r2, r3) := by first | (rw [aE]; with_reducible exact H) | (have H2_ := (Option.bind_some _ _).symm.trans H; rw [aE]; with_reducible exact H2_) | (have H2_ := (Option.bind_some _ _).symm.trans H; with_reducible exact H2_) | with_reducible exact H | (rw [aE]; exact H) | exact H
     have bH := Aside0.mk aE;clear aE;have H' := Aside0.mk H;clear H;have cl := ar.out;have cm := aq.out;have cn := av.out;have co := au.out;have Z25 := kz4 an;go_wp2_with (first | ((with_reducible refine gate_builtin (b := .append) (xs := #[.tmp 24, .tmp 26]) rfl ?_); at_builtin; refine Kd.R_append k61 (w0 := w) w.heap.size rfl (.tmp 24) (.tmp 26) 23 61 (.agg #[(.int .i64 0), (.int .i64 0), (.int .i64 0), (.int .u64 0)]) 32 rfl Try.underlying23 info61 rfl (by decide) (by omega) u5 aw (⟨aa, ab, ad, ae⟩ : S61) [.int .i64 aa, .int .i64 ab, .int .i64 ad, .int .u64 ae] (fun k_ => k_ ≠ aj) (fun _ => False) rfl rfl ?aP (fun _ hk => hk.elim) ?aF ?aO ?aB ?aS ?aL ?_; (case aP => exact k61_mkM _ _ _ (⟨aa, ab, ad, ae⟩ : S61)); (case aB => exact (kh HB)); (case aF => exact (fun k_ hk => Kd.freshB (g := aj) (o := .cells #[.int .i64 aa, .int .i64 ab, .int .i64 ad, .int .u64 ae] 61 (0, 0)) (kb an) k_ hk)); (case aO => exact (krR ak)); (case aS => exact (below_size (kh HB))); (case aL => have := bF.out; omega); intro cv w26 ho hb hg hat; rw [← bH.out] at ho; replace af := kXR af ak hg; replace ah := kXR ah ak hg; replace an := Aside0.mk (blk_grown (g := aj) (o := .cells #[.int .i64 aa, .int .i64 ab, .int .i64 ad, .int .u64 ae] 61 (0, 0)) (kb an) hg (Kd.R_away ak.out (fun _ hk => hk))); replace HB := Aside0.mk (hb); have bI := Aside0.mk (ho); clear ak; clear ho hb hg hat));go_roundg k2
     case measure => have := HK1.out; have := HK2.out; omega
     case rel => exact ⟨(bG), (wrap64 (ai + 1)), et, H', ⟨by have := HK1.out; have := HK2.out; omega⟩, ⟨by (with_reducible repeat first | apply Kd.R_alloc | apply Kd.R_drewN | apply Kd.R_drew); exact Kd.R_mono bI.out (fun _ hk => trivial)⟩, ⟨kg af⟩, ⟨kg ah⟩, ⟨kh HB⟩⟩
def qna.f (k : Nat) (a0 : Int) (ad : List (S64)) (ae : List (S61)) (af : List (S66)) : Option (Bool) := (tune_Fold.f k a0 ad ae af).bind fun aa => ((qea.f k a0 ad ae af).bind fun ag => (if ag = 0 then ((qia.f k a0 ad ae af).bind fun ab => ((qva.f k aa.1 aa.2.1 aa.2.2.1 aa.2.2.2 ab.1 ab.2.1 ab.2.2 0).bind fun ah => (if ah = true then ((qsa.f k).bind fun ai => (some ai)) else (some false)))) else ((qva.f k aa.1 aa.2.1 aa.2.2.1 aa.2.2.2 ([] : List (S64)) ([] : List (S61)) ([] : List (S66)) ag).bind fun aj => (if aj = true then ((qsa.f k).bind fun ak => (some ak)) else (some false)))))
def qna.T5 : Bool × List (List Nat × List Nat) := (true, [([], []), ([], []), ([], []), ([], []), ([2, 3], [2, 3]), ([0, 1, 4, 4], [0, 1, 4]), ([5, 5], [5]), ([6, 6], [6]), ([6, 7], [6, 7]), ([8, 7, 0, 1, 2, 3, 4, 5, 6, 7, 8], [8])])
def qna.B5 : List Nat := [0, 0, 0, 0, 12, 31, 63, 127, 255, 511]
theorem qna.tab5 : rtab .any (opsOf Try.f4 5) = qna.T5 := by kernel_rfl
theorem qna.bits5 : waitsOk qna.T5.2 qna.B5 = true := by kernel_rfl
theorem qna.calls (k : Nat) (a0 : Int) (aq : Option Addr) (ar : Nat) (ag : List (S64)) (au : Option Addr) (av : Nat) (ah : List (S61)) (aw : Option Addr) (ax : Nat) (ai : List (S66)) (r : Bool) (w : World) (aT : Kd.C k64 w aq ag.length ag) (aU : ag.length ≤ ar) (aV : Kd.C k61 w au ah.length ah) (aW : ah.length ≤ av) (aX : Kd.C k66 w aw ai.length ai) (aY : ai.length ≤ ax) (h : qna.f k a0 ag ah ai = some r) (hrt : r = true := by rfl) :
  Calls Try.prog 4 #[.int .u64 a0, .agg #[.slice aq ag.length ar, .slice au ah.length av, .slice aw ai.length ax]] w fun e w' => e = .returned (.bool r) ∧ Below w.heap.size w w' := by
 have HRT := Aside0.mk hrt;clear hrt;have hu26 := Try.underlying26;have aC := Aside0.mk aT;have aD := Aside0.mk aU;clear aT aU;have aE := Aside0.mk aV;have aG := Aside0.mk aW;clear aV aW;have aH := Aside0.mk aX;have aI := Aside0.mk aY;clear aX aY;have HB := Aside0.mk (Below.refl w.heap.size w);have H : ((tune_Fold.f k a0 ag ah ai).bind fun al => ((qea.f k a0 ag ah ai).bind fun aJ => (if aJ = 0 then ((qia.f k a0 ag ah ai).bind fun aQ => ((qva.f k al.1 al.2.1 al.2.2.1 al.2.2.2 aQ.1 aQ.2.1 aQ.2.2 0).bind fun aZ => (if aZ = true then ((qsa.f k).bind fun ba => (some ba)) else (some false)))) else ((qva.f k al.1 al.2.1 al.2.2.1 al.2.2.2 ([] : List (S64)) ([] : List (S61)) ([] : List (S66)) aJ).bind fun bb => (if bb = true then ((qsa.f k).bind fun bc => (some bc)) else (some false)))))) = some r := h;clear h;replace H := Option.bind_eq_some_iff.mp H;obtain ⟨⟨ay, az, aA, aN⟩, A30, H⟩ := H;(try dsimp only at H);have A3 := Aside0.mk A30;clear A30;replace H := Option.bind_eq_some_iff.mp H;obtain ⟨aJ, A40, H⟩ := H;(try dsimp only at H);have A4 := Aside0.mk A40;clear A40
 by_cases c5 : aJ = 0
 rotate_left
 ·rw [if_neg c5] at H
  have bE := beq_eq_false_iff_ne.mpr c5;have bF := bne_iff_ne.mpr c5;replace H := Option.bind_eq_some_iff.mp H;obtain ⟨bb, bn, H⟩ := H;(try dsimp only at H);have A28 := Aside0.mk bn;clear bn
  by_cases c29 : bb = true
  rotate_left
  ·replace c29 := Bool.eq_false_iff.mpr c29
   subst c29;replace H := ifF H;exact absurd ((Option.some.inj H).trans HRT.out) (by decide)
  subst c29;replace H := ifT H;replace H := Option.bind_eq_some_iff.mp H;obtain ⟨bc, bo, H⟩ := H;(try dsimp only at H);have A30 := Aside0.mk bo;clear bo;obtain rfl := Option.some.inj H;go_enter Try.func4, Try.ntmps4;go_wp2_with (first | ((with_reducible refine gate_dst (N := 3) rfl ?_); refine box_event ?hg (N := 3) ?hd (cs := #[.slice aq ag.length ar, .slice au ah.length av, .slice aw ai.length ax]) (t := 26) ?hr ?_; (case hd => rfl); (case hg => rfl); (case hr => first | (go_simp; done) | (go_simp; rfl)); intro aK hg w31 hbox hb; have aa := am hbox; have bp := kG HB hg; have bq := kG HB hg; replace HB := kH HB hb; clear hb hbox hg; have Z32 := kz3 aa) | ((with_reducible refine gate_callee (f := 16) rfl ?_); refine goesL_ (some 11) rfl rfl Try.func16 (by kernel_rfl) rfl #[.int .u64 a0, .agg #[.slice aq ag.length ar, .slice au ah.length av, .slice aw ai.length ax]] rfl (by (try simp only [qM1, qM2, qM3]); first | done | rfl) ?_; (with_reducible refine (tune_Fold.calls k a0 _ _ ag _ _ ah _ _ ai ay az aA aN _ ?side1 ?side2 ?side3 ?side4 ?side5 ?side6 A3.out).mono ?_); (case side1 => repeat (first | exact (Kd.C_below aC.out HB.out) | (with_reducible first | refine Kd.C_alloc ?_ _ | refine Kd.C_drewN ?_ _ | refine Kd.C_drew ?_))); (case side2 => exact aD.out); (case side3 => repeat (first | exact (Kd.C_below aE.out HB.out) | (with_reducible first | refine Kd.C_alloc ?_ _ | refine Kd.C_drewN ?_ _ | refine Kd.C_drew ?_))); (case side4 => exact aG.out); (case side5 => repeat (first | exact (Kd.C_below aH.out HB.out) | (with_reducible first | refine Kd.C_alloc ?_ _ | refine Kd.C_drewN ?_ _ | refine Kd.C_drew ?_))); (case side6 => exact aI.out); rintro e w33 ⟨bG, bH, bI, rfl, ho0, ho1, ho2, hb⟩; refine ⟨_, rfl, ?_⟩; have ad := kLR ho0 HB; have ae := kLR ho1 HB; have af := kLS ho2 HB; replace aa := kU aa hb; replace HB := kH HB hb; (try clear hb); (try clear hb2); (try clear hk); (try clear hi); (try clear ho0); (try clear ho1); (try clear ho2)) | ((with_reducible refine gate_dst (N := 5) rfl ?_); refine box_event ?hg (N := 5) ?hd (cs := #[.slice none 0 0, .slice none 0 0, .slice none 0 0]) (t := 26) ?hr ?_; (case hd => rfl); (case hg => rfl); (case hr => first | (go_simp; done) | (go_simp; rfl)); intro aM hg w34 hbox hb; replace ad := kR ad hb; replace ae := kR ae hb; replace af := kS af hb; have ab := am hbox; have br := kG HB hg; have bt := kG HB hg; replace HB := kH HB hb; have aj := kP aa hg; have ak := kQ aa hg; replace aa := kU aa hb; clear hb hbox hg; obtain ⟨bu, bv, bJ⟩ := Kd.R_slice ad.out; subst bJ; have bV := ak.out; have bW := aj.out; have Z37 := kz3 ab; obtain ⟨bw, bx, bK⟩ := Kd.R_slice ae.out; subst bK; obtain ⟨bz, bA, bL⟩ := Kd.S_slice af.out; subst bL; have Z40 := kz3 aa) | ((with_reducible refine gate_callee (f := 17) rfl ?_); refine goesL_ (some 16) rfl rfl Try.func17 (by kernel_rfl) rfl #[.int .u64 a0, .agg #[.slice aq ag.length ar, .slice au ah.length av, .slice aw ai.length ax]] rfl (by (try simp only [qM1, qM2, qM3]); first | done | rfl) ?_; (with_reducible refine (qea.calls k a0 _ _ ag _ _ ah _ _ ai aJ _ ?side1 ?side2 ?side3 ?side4 ?side5 ?side6 A4.out).mono ?_); (case side1 => exact Kd.C_below aC.out (kh HB)); (case side2 => exact aD.out); (case side3 => exact Kd.C_below aE.out (kh HB)); (case side4 => exact aG.out); (case side5 => exact Kd.C_below aH.out (kh HB)); (case side6 => exact aI.out); rintro e w41 ⟨rfl, hb⟩; refine ⟨_, rfl, ?_⟩; replace ad := Aside0.mk (Kd.R_below (kt ad ab) hb); replace ae := Aside0.mk (Kd.R_below (kt ae ab) hb); replace af := Aside0.mk (Kd.S_below (ks af ab) hb); replace aa := kU aa hb; replace ab := kO (o' := .cells #[.slice bu ay.length bv, .slice bw az.length bx, .slice bz aA.length bA] 26 (0, 0)) ab hb; replace HB := kH HB hb; (try clear hb); (try clear hb2); (try clear hk); (try clear hi); have Z42 := kz3 ab) | ((with_reducible refine gate_callee (f := 18) rfl ?_); refine goesL_ (some 23) rfl rfl Try.func18 (by kernel_rfl) rfl #[.agg #[.slice bu ay.length bv, .slice bw az.length bx, .slice bz aA.length bA], .int .i64 aN, .agg #[.slice none 0 0, .slice none 0 0, .slice none 0 0], .int .i64 aJ] rfl (by (try simp only [qM1, qM2, qM3]); first | done | rfl) ?_; (refine (qva.calls k _ _ ay _ _ az _ _ aA aN _ _ ([] : List (S64)) _ _ ([] : List (S61)) _ _ ([] : List (S66)) aJ true _ ?side1 ?side2 ?side3 ?side4 ?side5 ?side6 ?side7 ?side8 ?side9 ?side10 ?side11 ?side12 A28.out).mono ?_); (case side1 => repeat (first | exact (Kd.R_reads' ad.out).2.2 | (with_reducible first | refine Kd.C_alloc ?_ _ | refine Kd.C_drewN ?_ _ | refine Kd.C_drew ?_))); (case side2 => exact (Kd.R_reads' ad.out).2.1); (case side3 => repeat (first | exact (Kd.R_reads' ae.out).2.2 | (with_reducible first | refine Kd.C_alloc ?_ _ | refine Kd.C_drewN ?_ _ | refine Kd.C_drew ?_))); (case side4 => exact (Kd.R_reads' ae.out).2.1); (case side5 => repeat (first | exact (Kd.S_reads' af.out).2.2 | (with_reducible first | refine Kd.C_alloc ?_ _ | refine Kd.C_drewN ?_ _ | refine Kd.C_drew ?_))); (case side6 => exact (Kd.S_reads' af.out).2.1); (case side7 => exact Kd.C_nil _ _); (case side8 => exact Nat.le_refl _); (case side9 => exact Kd.C_nil _ _); (case side10 => exact Nat.le_refl _); (case side11 => exact Kd.C_nil _ _); (case side12 => exact Nat.le_refl _); rintro e w43 ⟨rfl, hb⟩; refine ⟨_, rfl, ?_⟩; replace ad := kR ad hb; replace ae := kR ae hb; replace af := kS af hb; replace aa := kU aa hb; replace ab := kU ab hb; replace HB := kH HB hb; (try clear hb); (try clear hb2); (try clear hk); (try clear hi)) | (go_at_call 15; (with_reducible refine (qsa.calls k  bc _ A30.out (by first | rfl | exact HRT.out)).mono ?_); rintro e w44 ⟨rfl, hb⟩; replace ad := kR ad hb; replace ae := kR ae hb; replace af := kS af hb; replace aa := kU aa hb; replace ab := kU ab hb; replace HB := kH HB hb; (try clear hb); (try clear hb2); (try clear hk); (try clear hi)));go_ret;exact ⟨er, kh HB⟩
 rw [if_pos c5] at H;have bE := beq_iff_eq.mpr c5;have bF := bne_eq_false_iff_eq.mpr c5;clear c5;replace H := Option.bind_eq_some_iff.mp H;obtain ⟨⟨bd, bf, bg⟩, A60, H⟩ := H;(try dsimp only at H);have A6 := Aside0.mk A60;clear A60;replace H := Option.bind_eq_some_iff.mp H;obtain ⟨aZ, A70, H⟩ := H;(try dsimp only at H);have A7 := Aside0.mk A70;clear A70
 by_cases c8 : aZ = true
 rotate_left
 ·replace c8 := Bool.eq_false_iff.mpr c8
  subst c8;replace H := ifF H;exact absurd ((Option.some.inj H).trans HRT.out) (by decide)
 subst c8;replace H := ifT H;replace H := Option.bind_eq_some_iff.mp H;obtain ⟨ba, A90, H⟩ := H;(try dsimp only at H);have A9 := Aside0.mk A90;clear A90;obtain rfl := Option.some.inj H;go_enter Try.func4, Try.ntmps4;(try go_wp2_with (first | ((with_reducible refine gate_dst (N := 3) rfl ?_); refine box_event ?hg (N := 3) ?hd (cs := #[.slice aq ag.length ar, .slice au ah.length av, .slice aw ai.length ax]) (t := 26) ?hr ?_; (case hd => rfl); (case hg => rfl); (case hr => first | (go_simp; done) | (go_simp; rfl)); intro aK hg w10 hbox hb; have aa := am hbox; have bp := kG HB hg; have bq := kG HB hg; replace HB := kH HB hb; clear hb hbox hg; have Z11 := kz3 aa) | ((with_reducible refine gate_callee (f := 16) rfl ?_); refine goesL_ (some 11) rfl rfl Try.func16 (by kernel_rfl) rfl #[.int .u64 a0, .agg #[.slice aq ag.length ar, .slice au ah.length av, .slice aw ai.length ax]] rfl (by (try simp only [qM1, qM2, qM3]); first | done | rfl) ?_; (with_reducible refine (tune_Fold.calls k a0 _ _ ag _ _ ah _ _ ai ay az aA aN _ ?side1 ?side2 ?side3 ?side4 ?side5 ?side6 A3.out).mono ?_); (case side1 => repeat (first | exact (Kd.C_below aC.out HB.out) | (with_reducible first | refine Kd.C_alloc ?_ _ | refine Kd.C_drewN ?_ _ | refine Kd.C_drew ?_))); (case side2 => exact aD.out); (case side3 => repeat (first | exact (Kd.C_below aE.out HB.out) | (with_reducible first | refine Kd.C_alloc ?_ _ | refine Kd.C_drewN ?_ _ | refine Kd.C_drew ?_))); (case side4 => exact aG.out); (case side5 => repeat (first | exact (Kd.C_below aH.out HB.out) | (with_reducible first | refine Kd.C_alloc ?_ _ | refine Kd.C_drewN ?_ _ | refine Kd.C_drew ?_))); (case side6 => exact aI.out); rintro e w12 ⟨bG, bH, bI, rfl, ho0, ho1, ho2, hb⟩; refine ⟨_, rfl, ?_⟩; have ad := kLR ho0 HB; have ae := kLR ho1 HB; have af := kLS ho2 HB; replace aa := kU aa hb; replace HB := kH HB hb; (try clear hb); (try clear hb2); (try clear hk); (try clear hi); (try clear ho0); (try clear ho1); (try clear ho2)) | ((with_reducible refine gate_dst (N := 5) rfl ?_); refine box_event ?hg (N := 5) ?hd (cs := #[.slice none 0 0, .slice none 0 0, .slice none 0 0]) (t := 26) ?hr ?_; (case hd => rfl); (case hg => rfl); (case hr => first | (go_simp; done) | (go_simp; rfl)); intro aM hg w13 hbox hb; replace ad := kR ad hb; replace ae := kR ae hb; replace af := kS af hb; have ab := am hbox; have br := kG HB hg; have bt := kG HB hg; replace HB := kH HB hb; have aj := kP aa hg; have ak := kQ aa hg; replace aa := kU aa hb; clear hb hbox hg; obtain ⟨bh, bi, bM⟩ := Kd.R_slice ad.out; subst bM; have bX := ak.out; have bY := aj.out; have Z16 := kz3 ab; obtain ⟨bj, bk, bN⟩ := Kd.R_slice ae.out; subst bN; obtain ⟨bl, bm, bO⟩ := Kd.S_slice af.out; subst bO; have Z19 := kz3 aa) | ((with_reducible refine gate_callee (f := 17) rfl ?_); refine goesL_ (some 16) rfl rfl Try.func17 (by kernel_rfl) rfl #[.int .u64 a0, .agg #[.slice aq ag.length ar, .slice au ah.length av, .slice aw ai.length ax]] rfl (by (try simp only [qM1, qM2, qM3]); first | done | rfl) ?_; (with_reducible refine (qea.calls k a0 _ _ ag _ _ ah _ _ ai aJ _ ?side1 ?side2 ?side3 ?side4 ?side5 ?side6 A4.out).mono ?_); (case side1 => exact Kd.C_below aC.out (kh HB)); (case side2 => exact aD.out); (case side3 => exact Kd.C_below aE.out (kh HB)); (case side4 => exact aG.out); (case side5 => exact Kd.C_below aH.out (kh HB)); (case side6 => exact aI.out); rintro e w20 ⟨rfl, hb⟩; refine ⟨_, rfl, ?_⟩; replace ad := Aside0.mk (Kd.R_below (kt ad ab) hb); replace ae := Aside0.mk (Kd.R_below (kt ae ab) hb); replace af := Aside0.mk (Kd.S_below (ks af ab) hb); replace aa := kU aa hb; replace ab := kO (o' := .cells #[.slice bh ay.length bi, .slice bj az.length bk, .slice bl aA.length bm] 26 (0, 0)) ab hb; replace HB := kH HB hb; (try clear hb); (try clear hb2); (try clear hk); (try clear hi))));replace ad := kFR ad; replace ae := kFR ae; replace af := kFS af; replace aa := kD aa; replace ab := kD ab; replace HB := kE HB;refine start_ (n := 10) (S := fun w' => w'.cell? ⟨aM, 0, none⟩ = some (.slice bh ay.length bi) ∧ w'.cell? ⟨aM, 1, none⟩ = some (.slice bj az.length bk) ∧ w'.cell? ⟨aM, 2, none⟩ = some (.slice bl aA.length bm) ∧ w'.cell? ⟨aK, 0, none⟩ = some (.slice aq ag.length ar) ∧ w'.cell? ⟨aK, 1, none⟩ = some (.slice au ah.length av) ∧ w'.cell? ⟨aK, 2, none⟩ = some (.slice aw ai.length ax)) (ds := []) (bs 10 0) (by kernel_rfl) rfl rfl ⟨kk ab 0, kk ab 1, kk ab 2, kk aa 0, kk aa 1, kk aa 2⟩ (fun hHeld => ?_); refine with_tabW qna.tab5 qna.bits5 (fun HT_ HW_ => ?_);generalize w20.drew = w21 at ad ae af aa ab HB hHeld ⊢;refine pu 1 (some 28) (bs 10 2) HT_ ?_;refine pu 2 (some 29) (bs 10 6) HT_ ?_;refine ta 0 (some 27) (bs 10 7) HT_ HW_ hHeld ?_;refine ta 3 (some 30) (bs 10 15) HT_ HW_ hHeld ?_;refine one_ (i := 4) (N := some 31) (bs 10 31) rfl rfl (one_of HT_.out (by kernel_rfl)) (by decide) (fun K hK => ?_);refine goes_ Try.func19 (by kernel_rfl) rfl #[.int .u64 a0, .agg #[.slice aq ag.length ar, .slice au ah.length av, .slice aw ai.length ax]] (by rfl) rfl rfl (by (try simp only [qM1, qM2, qM3]); first | done | rfl) ?_;(with_reducible refine (qia.calls k a0 _ _ ag _ _ ah _ _ ai bd bf bg _ ?side1 ?side2 ?side3 ?side4 ?side5 ?side6 A6.out).mono ?_);(case side1 => repeat (first | exact (Kd.C_below aC.out HB.out) | (with_reducible first | refine Kd.C_alloc ?_ _ | refine Kd.C_drewN ?_ _ | refine Kd.C_drew ?_)));(case side2 => exact aD.out);(case side3 => repeat (first | exact (Kd.C_below aE.out HB.out) | (with_reducible first | refine Kd.C_alloc ?_ _ | refine Kd.C_drewN ?_ _ | refine Kd.C_drew ?_)));(case side4 => exact aG.out);(case side5 => repeat (first | exact (Kd.C_below aH.out HB.out) | (with_reducible first | refine Kd.C_alloc ?_ _ | refine Kd.C_drewN ?_ _ | refine Kd.C_drew ?_)));(case side6 => exact aI.out);rintro e w22 ⟨bZ, ca, cb, rfl, ho0, ho1, ho2, hb⟩;refine ⟨_, rfl, ?_⟩;have an := Aside0.mk (Kd.R_lower (Kd.R_new' ho0 (Kd.R_lt (krR ad))) (below_size (kh HB))); replace ad := Aside0.mk (Kd.R_elder' (krR ad) (Kd.R_base ho0) hb); have ao := Aside0.mk (Kd.R_lower (Kd.R_new' ho1 (Kd.R_lt (krR ae))) (below_size (kh HB))); replace ae := Aside0.mk (Kd.R_elder' (krR ae) (Kd.R_base ho1) hb); have ap := Aside0.mk (Kd.S_lower (Kd.S_new' ho2 (Kd.S_lt (krS af))) (below_size (kh HB))); replace af := Aside0.mk (Kd.S_elder' (krS af) (Kd.S_base ho2) hb); replace aa := kU aa hb; replace ab := kU ab hb; replace HB := kH HB hb;(try clear hb ho0 ho1 ho2);obtain ⟨bP, bQ, bB⟩ := Kd.R_slice an.out;(first | subst bB | (injection bB with f1_ f2_ f3_; have f4_ := f1_.symm; have f5_ := f3_.symm; clear f1_ f2_ f3_; subst f4_; subst f5_));obtain ⟨bR, bS, bC⟩ := Kd.R_slice ao.out;(first | subst bC | (injection bC with f1_ f2_ f3_; have f4_ := f1_.symm; have f5_ := f3_.symm; clear f1_ f2_ f3_; subst f4_; subst f5_));obtain ⟨bT, bU, bD⟩ := Kd.S_slice ap.out;(first | subst bD | (injection bD with f1_ f2_ f3_; have f4_ := f1_.symm; have f5_ := f3_.symm; clear f1_ f2_ f3_; subst f4_; subst f5_));refine hK.out _ _ ⟨kk ab 0, kk ab 1, kk ab 2, kk aa 0, kk aa 1, kk aa 2⟩ (fun hHeld => ?_);clear hK K;refine no (some 31) ?_;refine one_ (i := 5) (N := some 32) (bs 10 63) rfl rfl (one_of HT_.out (by kernel_rfl)) (by decide) (fun K hK => ?_);refine goes_ Try.func18 (by kernel_rfl) rfl #[.agg #[.slice bh ay.length bi, .slice bj az.length bk, .slice bl aA.length bm], .int .i64 aN, .agg #[.slice bP bd.length bQ, .slice bR bf.length bS, .slice bT bg.length bU], .int .i64 0] (by rfl) rfl rfl (by (try simp only [qM1, qM2, qM3]); first | done | rfl) ?_;(with_reducible refine (qva.calls k _ _ ay _ _ az _ _ aA aN _ _ bd _ _ bf _ _ bg 0 true _ ?side1 ?side2 ?side3 ?side4 ?side5 ?side6 ?side7 ?side8 ?side9 ?side10 ?side11 ?side12 A7.out).mono ?_);(case side1 => repeat (first | exact (Kd.R_reads' ad.out).2.2 | (with_reducible first | refine Kd.C_alloc ?_ _ | refine Kd.C_drewN ?_ _ | refine Kd.C_drew ?_)));(case side2 => exact (Kd.R_reads' ad.out).2.1);(case side3 => repeat (first | exact (Kd.R_reads' ae.out).2.2 | (with_reducible first | refine Kd.C_alloc ?_ _ | refine Kd.C_drewN ?_ _ | refine Kd.C_drew ?_)));(case side4 => exact (Kd.R_reads' ae.out).2.1);(case side5 => repeat (first | exact (Kd.S_reads' af.out).2.2 | (with_reducible first | refine Kd.C_alloc ?_ _ | refine Kd.C_drewN ?_ _ | refine Kd.C_drew ?_)));(case side6 => exact (Kd.S_reads' af.out).2.1);(case side7 => repeat (first | exact (Kd.R_reads' an.out).2.2 | (with_reducible first | refine Kd.C_alloc ?_ _ | refine Kd.C_drewN ?_ _ | refine Kd.C_drew ?_)));(case side8 => exact (Kd.R_reads' an.out).2.1);(case side9 => repeat (first | exact (Kd.R_reads' ao.out).2.2 | (with_reducible first | refine Kd.C_alloc ?_ _ | refine Kd.C_drewN ?_ _ | refine Kd.C_drew ?_)));(case side10 => exact (Kd.R_reads' ao.out).2.1);(case side11 => repeat (first | exact (Kd.S_reads' ap.out).2.2 | (with_reducible first | refine Kd.C_alloc ?_ _ | refine Kd.C_drewN ?_ _ | refine Kd.C_drew ?_)));(case side12 => exact (Kd.S_reads' ap.out).2.1);rintro e w26 ⟨rfl, hb⟩;refine ⟨_, rfl, ?_⟩;replace ad := kR ad hb; replace ae := kR ae hb; replace af := kS af hb; replace an := kR an hb; replace ao := kR ao hb; replace ap := kS ap hb; replace aa := kU aa hb; replace ab := kU ab hb; replace HB := kH HB hb;(try clear hb);refine hK.out _ _ ⟨kk ab 0, kk ab 1, kk ab 2, kk aa 0, kk aa 1, kk aa 2⟩ (fun hHeld => ?_);clear hK K;refine no (some 32) ?_;refine pu 6 (some 33) (bs 10 127) HT_ ?_;refine one_ (i := 7) (N := some 34) (bs 10 255) rfl rfl (one_of HT_.out (by kernel_rfl)) (by decide) (fun K hK => ?_);refine goes_ Try.func15 (by kernel_rfl) rfl #[] (by rfl) rfl rfl (by (try simp only [qM1, qM2, qM3]); first | done | rfl) ?_;(with_reducible refine (qsa.calls k  ba _ A9.out (by first | rfl | exact HRT.out)).mono ?_);rintro e w27 ⟨rfl, hb⟩;refine ⟨_, rfl, ?_⟩;replace ad := kR ad hb; replace ae := kR ae hb; replace af := kS af hb; replace an := kR an hb; replace ao := kR ao hb; replace ap := kS ap hb; replace aa := kU aa hb; replace ab := kU ab hb; replace HB := kH HB hb;(try clear hb);refine hK.out _ _ ⟨kk ab 0, kk ab 1, kk ab 2, kk aa 0, kk aa 1, kk aa 2⟩ (fun hHeld => ?_);clear hK K;refine no (some 34) ?_;refine pu 8 (some 35) (bs 10 511) HT_ ?_;refine pu 9 (some 4) (bs 10 1023) HT_ ?_;refine done_ (done_of HT_.out (by kernel_rfl)) ?_;(try go_wp2);go_ret;exact ⟨er, kh HB⟩
end Go.Proofs.Ytmlbliggbkfjnaa.J
/- What comes in laid out as a type says is a value of a kind, within the bounds that its weights leave: once for every type. -/
namespace Go.Proofs.Ytmlbliggbkfjnaa.Op
open Go.RowKit Go.Proofs.YtmlbliggbkfjnaaW.PrintWords Go.Proofs.YtmlbliggbkfjnaaW.PrintLast Go.Proofs.YtmlbliggbkfjnaaW.PrintMore
def Opens {α : Type} (P : Program) (d : Kd α) (t : TypeId) (wf : α → Prop) : Prop :=
  ∀ (H : Type) (enc : TypeId × Value → H) (w : World) (base fuel : Nat) (spare : Nat → Bool) (held : Bool) (cs : List Value) (x : DataW H × List MemPlace), cs.length = d.sz →
    DataW.trod enc P w base spare held fuel t cs = some x → (x.1.weights P t).all (· ≤ reachBytes) = true → ∃ a, d.K w a cs ∧ wf a
theorem op_int {P : Program} {t : TypeId} {k : IntKind} (ht : P.underlying t = some (.int k)) : Opens P (Kd.int k) t (fun n => (Lit.int k n).wf = true) := by
  intro H enc w base fuel spare held cs x _ h _;obtain ⟨n, rfl, _, hw⟩ := DataW.trod_int ht h;exact ⟨n, rfl, hw⟩
theorem op_bool {P : Program} {t : TypeId} (ht : P.underlying t = some .bool) : Opens P Kd.bool t (fun _ => True) := by
  intro H enc w base fuel spare held cs x _ h _;obtain ⟨n, rfl, _⟩ := DataW.trod_bool ht h;exact ⟨n, rfl, trivial⟩
theorem all_weights {H : Type} {P : Program} {e : TypeId} {p : Nat → Bool} : ∀ (ds : List (DataW H)), (DataW.weightsAll P e ds).all p = true → ∀ d ∈ ds, (d.weights P e).all p = true
  | [], _, d, hd => by simp at hd
  | a :: r, h, d, hd => by
    unfold DataW.weightsAll at h;rw [List.all_append, Bool.and_eq_true] at h
    rcases List.mem_cons.1 hd with rfl | hd
    · exact h.1
    · exact all_weights r h.2 d hd
theorem add_add_ (a : Addr) (i j : Nat) : a.add (i + j) = (a.add i).add j := by
  cases a
  unfold Addr.add
  rcases Nat.eq_zero_or_pos i with hi | hi <;> rcases Nat.eq_zero_or_pos j with hj | hj
  · simp [hi, hj]
  · simp [hi, show j ≠ 0 by omega]
  · simp [hj, show i ≠ 0 by omega]
  · simp [show i ≠ 0 by omega, show j ≠ 0 by omega, Nat.add_assoc]
theorem pick {β : Type} {p : Nat → β → Prop} : ∀ n, (∀ i : Nat, i < n → ∃ q, p i q) → ∃ l : List β, l.length = n ∧ ∀ (i : Nat) (q : β), l[i]? = some q → p i q
  | 0, _ => ⟨[], rfl, fun i q h => by simp at h⟩
  | n + 1, h => by
    obtain ⟨l, hl, hp⟩ := pick n (fun i hi => h i (by omega));obtain ⟨q, hq⟩ := h n (by omega);refine ⟨l ++ [q], by simp [hl], fun i r hr => ?_⟩
    rcases Nat.lt_or_ge i l.length with hi | hi
    · rw [List.getElem?_append_left hi] at hr
      exact hp i r hr
    · rw [List.getElem?_append_right hi] at hr
      have h0 : i - l.length = 0 := by
        rcases Nat.eq_zero_or_pos (i - l.length) with h' | h'
        · exact h'
        · rw [List.getElem?_eq_none (by simp; omega)] at hr; cases hr
      rw [h0] at hr
      obtain rfl : q = r := by simpa using hr
      have : i = n := by omega
      rw [this]; exact hq
theorem weights_at {H : Type} {P : Program} {p : Nat → Bool} : ∀ (ts : List TypeId) (ds : List (DataW H)) (j : Nat) {t : TypeId} {d : DataW H}, (DataW.weightsEach P ts ds).all p = true → ts[j]? = some t → ds[j]? = some d → (d.weights P t).all p = true
  | [], _, _, _, _, _, ht, _ => by simp at ht
  | _ :: _, [], _, _, _, _, _, hd => by simp at hd
  | t :: ts, d :: ds, j, t', d', h, ht, hd => by
    unfold DataW.weightsEach at h;rw [List.all_append, Bool.and_eq_true] at h
    match j, ht, hd with
    | 0, ht, hd =>
      obtain rfl : t = t' := by simpa using ht
      obtain rfl : d = d' := by simpa using hd
      exact h.1
    | j + 1, ht, hd => exact weights_at ts ds j h.2 (by simpa using ht) (by simpa using hd)
theorem op_slice {α : Type} {P : Program} {d : Kd α} {t e : TypeId} {B : Nat} {wf : α → Prop} (ht : P.underlying t = some (.slice e)) (hB : P.bytesOf e = B) (hsz : P.cellsOf e = d.sz) (he : Opens P d e wf) :
    Opens P (Kd.slice e d) t (fun l => l.length ≤ maxLen ∧ l.length * B ≤ 140737488351232 ∧ ∀ a ∈ l, wf a) := by
  intro H enc w base fuel spare held cs x _ h hw
  rcases Go.Deep.open_slice ht h with ⟨rfl, _⟩ | ⟨a, len, cap, m, n, D, Pl, rfl, hb, hl, hm, hmm, rfl, hx⟩
  · exact ⟨[], ⟨none, 0, rfl, Nat.le_refl _, rfl, Nat.zero_le _, fun h0 => absurd h0 (by simp)⟩, by simp, by simp, fun a ha => by simp at ha⟩
  · have hlm : len ≤ m := by rw [hmm]; split <;> omega
    simp only [DataW.weights, ht, List.all_cons, List.all_append, Bool.and_eq_true, List.length_map, List.length_range] at hw;obtain ⟨hw0, hw1, _⟩ := hw
    have each : ∀ i : Nat, i < len → ∃ q : α, wf q ∧ ∃ c : List Value, c.length = d.sz ∧ d.K w q c ∧ ∀ j u, c[j]? = some u → w.cell? (a.add (i * d.sz + j)) = some u := by
      intro i hi;obtain ⟨cs', h1, h2⟩ := hx i (by omega);rw [hsz] at h1;obtain ⟨_, hlen, hcell⟩ := World.cells?_some h1;obtain ⟨y, hK, hwf⟩ := he H enc w base n spare held cs' _ hlen h2 (all_weights _ hw1 _ (List.mem_map.2 ⟨i, List.mem_range.2 hi, rfl⟩));refine ⟨y, hwf, cs', hlen, hK, fun j u hu => ?_⟩
      have hj : j < d.sz := by
        rw [← hlen]
        rcases Nat.lt_or_ge j cs'.length with h' | h'
        · exact h'
        · rw [List.getElem?_eq_none h'] at hu; cases hu
      have := hcell j hj;rw [hu] at this;rw [show a.add (i * d.sz + j) = (a.add (i * d.sz)).add j from add_add_ _ _ _];exact this
    obtain ⟨l, rfl, hl2⟩ := pick len each;refine ⟨l, ⟨some a, cap, rfl, hl, rfl, Nat.le_trans hl hm, fun _ => ⟨a, rfl, fun j p hj => (hl2 j p hj).2⟩⟩, Nat.le_trans hl hm, ?_, ?_⟩
    · have hw2 := of_decide_eq_true hw0
      rw [hB] at hw2;exact Nat.le_trans (Nat.mul_le_mul_right _ (by omega)) hw2
    · intro y hy
      obtain ⟨j, hj⟩ := List.mem_iff_getElem?.1 hy;exact (hl2 j y hj).1
def OpL {β : Type} (P : Program) (d : Kd β) (fs : List Field) (o : Nat) (wf : β → Prop) : Prop :=
  ∀ (H : Type) (enc : TypeId × Value → H) (w : World) (base n : Nat) (spare : Nat → Bool) (held : Bool) (cs : List Value) (xs : List (DataW H × List MemPlace)), cs.length = d.sz → xs.length = fs.length →
    (∀ (i : Nat) (f : Field), fs[i]? = some f → DataW.trod enc P w base spare held n f.type ((cs.drop (f.offset - o)).take (P.cellsOf f.type)) = xs[i]?) →
    (DataW.weightsEach P (fs.map (·.type)) (xs.map (·.1))).all (· ≤ reachBytes) = true → ∃ a, d.K w a cs ∧ wf a
theorem opL_one {β : Type} {P : Program} {d : Kd β} {f : Field} {o : Nat} {wf : β → Prop} (ho : f.offset = o) (hc : P.cellsOf f.type = d.sz) (h : Opens P d f.type wf) : OpL P d [f] o wf := by
  intro H enc w base n spare held cs xs hl hx hf hw
  match xs, hx with
  | [y], _ =>
    have h0 := hf 0 f rfl;rw [ho, Nat.sub_self, List.drop_zero, hc, ← hl, List.take_length] at h0;simp only [List.map_cons, List.map_nil, DataW.weightsEach, List.append_nil] at hw;exact h H enc w base n spare held cs y hl h0 hw
theorem opL_cons {α β : Type} {P : Program} {d1 : Kd α} {d : Kd β} {f : Field} {fs : List Field} {o : Nat} {wf1 : α → Prop} {wf : β → Prop} (ho : f.offset = o) (hc : P.cellsOf f.type = d1.sz) (h1 : Opens P d1 f.type wf1)
    (aa : (fs.all fun g => decide (o + d1.sz ≤ g.offset)) = true) (h : OpL P d fs (o + d1.sz) wf) : OpL P (Kd.pair d1 d) (f :: fs) o (fun x => wf1 x.1 ∧ wf x.2) := by
  have hfs : ∀ g ∈ fs, o + d1.sz ≤ g.offset := fun g hg => of_decide_eq_true (List.all_eq_true.1 aa g hg)
  intro H enc w base n spare held cs xs hl hx hf hw;have hl' : cs.length = d1.sz + d.sz := hl
  match xs, hx with
  | y :: ys, hx =>
    have h0 := hf 0 f rfl;rw [ho, Nat.sub_self, List.drop_zero, hc] at h0;simp only [List.map_cons, DataW.weightsEach, List.all_append, Bool.and_eq_true] at hw;obtain ⟨a, ka, wa⟩ := h1 H enc w base n spare held (cs.take d1.sz) y (by rw [List.length_take]; omega) h0 hw.1
    obtain ⟨b, kb, wb⟩ := h H enc w base n spare held (cs.drop d1.sz) ys (by rw [List.length_drop]; omega) (by simpa using hx) (fun i g hg => by
      have := hf (i + 1) g (by simpa using hg);rw [List.drop_drop];have hg2 := hfs g (List.mem_of_getElem? hg);rw [show d1.sz + (g.offset - (o + d1.sz)) = g.offset - o by omega, this]
      simp) hw.2
    exact ⟨(a, b), ⟨cs.take d1.sz, cs.drop d1.sz, (List.take_append_drop _ _).symm, ka, kb⟩, wa, wb⟩
theorem op_struct {α β : Type} {P : Program} {d : Kd α} {t : TypeId} {fs : Array Field} {wf : α → Prop} {p : β → α} (g : α → β) (hg : ∀ a, p (g a) = a) (ht : P.underlying t = some (.struct fs)) (h : OpL P d fs.toList 0 wf) :
    Opens P (Kd.iso d p) t (fun b => wf (p b)) := by
  intro H enc w base fuel spare held cs x hl hx hw;obtain ⟨xs, n, rfl, rfl, _, hxl, hf⟩ := DataW.trod_struct ht hx;simp only [DataW.weights, ht] at hw
  obtain ⟨a, ka, wa⟩ := h H enc w base n spare held cs xs hl (by simpa using hxl) (fun i f hi => by
    rw [Nat.sub_zero]
    exact hf i f (by simpa using hi)) hw
  refine ⟨g a, ?_, ?_⟩
  · show d.K w (p (g a)) cs
    rw [hg]; exact ka
  · show wf (p (g a))
    rw [hg]; exact wa
theorem op_agg {α : Type} {P : Program} {d : Kd α} {t : TypeId} {fs : Array Field} {wf : α → Prop} (ht : P.underlying t = some (.struct fs)) (h : OpL P d fs.toList 0 wf) : Opens P d t wf :=
  op_struct (d := d) (p := fun a => a) (fun a => a) (fun _ => rfl) ht h
theorem op_array2 {α : Type} {P : Program} {d : Kd α} {t e : TypeId} {wf : α → Prop} (ht : P.underlying t = some (.array 2 e)) (hc : P.cellsOf e = d.sz) (h : Opens P d e wf) : Opens P (Kd.pair d d) t (fun x => wf x.1 ∧ wf x.2) := by
  intro H enc w base fuel spare held cs x hl hx hw;obtain ⟨xs, m, rfl, rfl, _, hxl, hf⟩ := DataW.trod_array ht hx;simp only [DataW.weights, ht] at hw;have hl' : cs.length = d.sz + d.sz := hl
  match xs, hxl with
  | [y, z], _ =>
    have h0 := hf 0 (by omega);have h1 := hf 1 (by omega);rw [Nat.zero_mul, List.drop_zero, hc] at h0;rw [Nat.one_mul, hc, List.take_of_length_le (by rw [List.length_drop]; omega)] at h1;simp only [List.map_cons, List.map_nil, DataW.weightsAll, List.all_append, Bool.and_eq_true] at hw;obtain ⟨a, ka, wa⟩ := h H enc w base m spare held (cs.take d.sz) y (by rw [List.length_take]; omega) h0 hw.1;obtain ⟨b, kb, wb⟩ := h H enc w base m spare held (cs.drop d.sz) z (by rw [List.length_drop]; omega) h1 hw.2.1;exact ⟨(a, b), ⟨cs.take d.sz, cs.drop d.sz, (List.take_append_drop _ _).symm, ka, kb⟩, wa, wb⟩
theorem okWide_arr {P : Program} {W : World} {r : Reach} {b0 : Nat} {t e : TypeId} {n : Nat} {v : Value} (ht : P.underlying t = some (.array n e)) (h : Value.okWide P W r b0 t v) : ∃ cs, v = .agg cs ∧ cs.size = P.cellsOf t := by
  simp only [Value.okWide, ht] at h;obtain ⟨cs, h1, h2, _⟩ := h;exact ⟨cs, h1, h2⟩
theorem okWide_agg {P : Program} {W : World} {r : Reach} {b0 : Nat} {t : TypeId} {fs : Array Field} {v : Value} (ht : P.underlying t = some (.struct fs)) (h : Value.okWide P W r b0 t v) : ∃ cs, v = .agg cs ∧ cs.size = P.cellsOf t := by
  simp only [Value.okWide, ht] at h;obtain ⟨cs, h1, h2, _⟩ := h;exact ⟨cs, h1, h2⟩
theorem arg {α H : Type} {enc : TypeId × Value → H} {P : Program} {d : Kd α} {t : TypeId} {wf : α → Prop} (h : Opens P d t wf) {w : World} {base : Nat} {spare : Nat → Bool} {held : Bool} {v : Value} {x : DataW H} {ps : List MemPlace}
    (hl : v.cells.toList.length = d.sz) (hv : DataW.Trod enc P w base spare held t v x ps) {ts : List TypeId} {ds : List (DataW H)} {j : Nat} (hsz : (DataW.weightsEach P ts ds).all (· ≤ reachBytes) = true) (ht : ts[j]? = some t) (hd : ds[j]? = some x) :
    ∃ a, d.K w a v.cells.toList ∧ wf a := by
  obtain ⟨fuel, hf⟩ := hv;exact h H enc w base fuel spare held _ _ hl hf (weights_at ts ds j hsz ht hd)
end Go.Proofs.Ytmlbliggbkfjnaa.Op
/- Three closed facts over the whole program, with its header's words as numbers. -/
namespace Go.Proofs.Ytmlbliggbkfjnaa.Facts
theorem toList_of (s : String) (l : List Char) (h : s = String.ofList l) : s.toList = l := by rw [h, String.toList_ofList]
def glue : List (List Char) → List Char
  | [] => []
  | [w] => w
  | w :: v :: r => w ++ Char.ofNat 32 :: glue (v :: r)
theorem signs_space (r : List Char) : wordsSigns (Char.ofNat 32 :: r) = [] :: wordsSigns r := rfl
theorem signs_cons (c : Char) (r : List Char) (h : c ≠ Char.ofNat 32) (w : List Char) (ws : List (List Char)) (e : wordsSigns r = w :: ws) : wordsSigns (c :: r) = (c :: w) :: ws := by
  rw [wordsSigns]
  · rw [e]
  · exact h
theorem signs_one : ∀ (w : List Char), (∀ c ∈ w, c ≠ Char.ofNat 32) → wordsSigns w = [w]
  | [], _ => rfl
  | c :: w, h => signs_cons c w (h c (List.mem_cons_self ..)) _ _ (signs_one w (fun d hd => h d (List.mem_cons_of_mem _ hd)))
theorem signs_more (r : List Char) : ∀ (w : List Char), (∀ c ∈ w, c ≠ Char.ofNat 32) → wordsSigns (w ++ Char.ofNat 32 :: r) = w :: wordsSigns r
  | [], _ => signs_space r
  | c :: w, h => signs_cons c _ (h c (List.mem_cons_self ..)) _ _ (signs_more r w (fun d hd => h d (List.mem_cons_of_mem _ hd)))
theorem signs_glue : ∀ (ws : List (List Char)), ws ≠ [] → (∀ w ∈ ws, ∀ c ∈ w, c ≠ Char.ofNat 32) → wordsSigns (glue ws) = ws
  | [], h, _ => absurd rfl h
  | [w], _, h => signs_one w (h w (List.mem_cons_self ..))
  | w :: v :: r, _, h => by
    rw [glue, signs_more _ w (h w (List.mem_cons_self ..)), signs_glue (v :: r) (by simp) (fun u hu => h u (List.mem_cons_of_mem _ hu))]
def W : List (List Char) := (List.map (List.map Char.ofNat) [[104, 97, 114, 110, 101, 115, 115],
  [57, 102, 101, 51, 102, 100, 99, 53, 49, 100, 57, 100, 102, 56, 54, 48, 56, 53, 55, 52, 52, 48, 57, 101, 56, 99, 100, 99, 99, 53, 54, 99, 49, 98, 57, 102, 57, 51, 54, 97, 99, 99, 57, 99, 48, 98, 56, 53, 101, 98, 53, 56, 55, 54, 48, 97, 49, 50, 51, 51, 54, 99, 50, 99],
  [99, 117, 116],
  [97, 116],
  [106, 117, 110, 116, 111, 47, 106, 117, 110, 116, 111, 108, 97, 119, 49, 54, 46, 84, 117, 110, 101, 76, 101, 118, 101, 108, 115],
  [106, 117, 110, 116, 111, 47, 106, 117, 110, 116, 111, 108, 97, 119, 49, 54, 46, 84, 117, 110, 101, 70, 111, 108, 100, 115],
  [106, 117, 110, 116, 111, 47, 106, 117, 110, 116, 111, 108, 97, 119, 49, 54, 46, 84, 117, 110, 101, 83, 104, 97, 114, 101, 115],
  [106, 117, 110, 116, 111, 47, 106, 117, 110, 116, 111, 108, 97, 119, 49, 54, 46, 84, 117, 110, 101, 80, 114, 117, 110, 101, 115],
  [106, 117, 110, 116, 111, 47, 106, 117, 110, 116, 111, 108, 97, 119, 49, 54, 46, 84, 117, 110, 101, 84, 117, 110, 101, 115],
  [106, 117, 110, 116, 111, 47, 106, 117, 110, 116, 111, 108, 97, 119, 49, 54, 46, 84, 117, 110, 101, 83, 97, 109, 101],
  [106, 117, 110, 116, 111, 47, 106, 117, 110, 116, 111, 108, 97, 119, 49, 54, 46, 84, 117, 110, 101, 76, 101, 115, 115],
  [106, 117, 110, 116, 111, 47, 106, 117, 110, 116, 111, 108, 97, 119, 49, 54, 46, 84, 117, 110, 101, 68, 111, 110, 101],
  [106, 117, 110, 116, 111, 47, 106, 117, 110, 116, 111, 108, 97, 119, 49, 54, 46, 84, 117, 110, 101, 82, 111, 117, 110, 100, 115]])
theorem head : Try.pinned.checked.prog.initOrder.toList = glue W := toList_of _ _ (by kernel_rfl)
theorem plain : (W.all fun w => w.all fun c => c.toNat != 32) = true := by kernel_rfl
theorem signs : wordsSigns Try.pinned.checked.prog.initOrder.toList = W := by
  rw [head]
  refine signs_glue W (by simp [W]) fun w hw c hc e => ?_
  have h := List.all_eq_true.1 (List.all_eq_true.1 plain w hw) c hc;rw [e] at h;cases h
theorem words : behindMainWord (wordsSigns Try.pinned.checked.prog.initOrder.toList) = W.drop 2 := by
  rw [signs]
  kernel_rfl
theorem lifts : Try.pinned.checked.prog.headLifts = [] := by
  unfold Program.headLifts;rw [words]
  kernel_rfl
theorem final : Try.pinned.checked.prog.liftsFinal = false := by
  unfold Program.liftsFinal;rw [words, lifts]
  kernel_rfl
theorem made_of (P : Program) (rest : List (List Char)) (h : behindMainWord (wordsSigns P.initOrder.toList) = [Char.ofNat 99, Char.ofNat 117, Char.ofNat 116] :: rest) : P.make = some .cut := by
  unfold Program.make;rw [h]
  kernel_rfl
theorem enters_of (P : Program) (rest : List (List Char)) (h : behindMainWord (wordsSigns P.initOrder.toList) = [Char.ofNat 99, Char.ofNat 117, Char.ofNat 116] :: rest) (hl : P.laysLater = false) (hb : P.bearsReflect = false) (hd : P.doorFits [] = true)
    (hs : stripLifts liftWords ([Char.ofNat 99, Char.ofNat 117, Char.ofNat 116] :: rest) = ([], [Char.ofNat 99, Char.ofNat 117, Char.ofNat 116] :: rest)) : P.mayEnter = true := by
  unfold Program.mayEnter;rw [h];simp only [hs, hl, hb, hd]
  kernel_rfl
theorem made : Try.pinned.checked.prog.make = some .cut := made_of _ (W.drop 3) (words.trans (by kernel_rfl))
theorem enters : Try.pinned.checked.prog.mayEnter = true := enters_of _ (W.drop 3) (words.trans (by kernel_rfl)) (by kernel_rfl) (by kernel_rfl) (by kernel_rfl) (by kernel_rfl)
end Go.Proofs.Ytmlbliggbkfjnaa.Facts
/- Gates: what they may be, what they mean, and their folding. -/
namespace Go.Proofs.Ytmlbliggbkfjnaa.L
open Go.RowKit Go.Proofs.YtmlbliggbkfjnaaW.PrintWords Go.Proofs.Ytmlbliggbkfjnaa.J
def atI (l : List Int) (i : Int) : Int := l.getD i.toNat 0
def atG (l : List S61) (i : Int) : S61 := l.getD i.toNat ⟨0, 0, 0, 0⟩
def okG (p s i : Int) (g : S61) : Prop :=
  (g.f0 = 1 ∧ 0 ≤ g.f1 ∧ g.f1 < s ∧ g.f2 = 0 ∧ g.f3 = 0) ∨
  (g.f0 = 2 ∧ g.f1 = 0 ∧ g.f2 = 0 ∧ 0 ≤ g.f3 ∧ g.f3 < p) ∨
  ((g.f0 = 3 ∨ g.f0 = 4 ∨ g.f0 = 5) ∧ 0 ≤ g.f1 ∧ g.f1 < i ∧ 0 ≤ g.f2 ∧ g.f2 < i ∧ g.f3 = 0) ∨
  (g.f0 = 6 ∧ 0 ≤ g.f1 ∧ g.f1 < i ∧ g.f2 = 0 ∧ 0 ≤ g.f3 ∧ g.f3 < p)
def okL (p s : Int) (l : List S61) : Prop := ∀ (i : Nat) (g : S61), l[i]? = some g → okG p s i g
theorem okL_nil (p s : Int) : okL p s [] := fun i g h => by simp at h
theorem okL_snoc {p s : Int} {l : List S61} {g : S61} (h : okL p s l) (hg : okG p s l.length g) : okL p s (l ++ [g]) := by
  intro i x hx;rw [List.getElem?_append] at hx
  split at hx
  · exact h i x hx
  · rename_i hi
    rw [List.getElem?_singleton] at hx
    split at hx
    · rename_i h0
      obtain rfl := Option.some.inj hx;rw [show i = l.length by omega]; exact hg
    · cases hx
theorem okL_cut {p s : Int} {l : List S61} {g : S61} (h : okL p s (l ++ [g])) : okL p s l ∧ okG p s l.length g := by
  constructor
  · intro i x hx
    refine h i x ?_;rw [List.getElem?_append_left (List.getElem?_eq_some_iff.1 hx).1]; exact hx
  · exact h l.length g (by simp)
theorem okL_app {p s : Int} {l m : List S61} (h : okL p s (l ++ m)) : okL p s l := by
  intro i x hx;refine h i x ?_;rw [List.getElem?_append_left (List.getElem?_eq_some_iff.1 hx).1]; exact hx
theorem okL_at {p s : Int} {l : List S61} (h : okL p s l) {i : Int} (h0 : 0 ≤ i) (h1 : i < l.length) : okG p s i (atG l i) := by
  have hi : i.toNat < l.length := by omega
  have := h i.toNat l[i.toNat] (List.getElem?_eq_getElem hi);unfold atG;rw [List.getD_eq_getElem?_getD, List.getElem?_eq_getElem hi]
  simpa [Int.toNat_of_nonneg h0] using this
theorem atG_left {l m : List S61} {i : Int} (h1 : i < l.length) (h0 : 0 ≤ i) : atG (l ++ m) i = atG l i := by
  unfold atG;rw [List.getD_eq_getElem?_getD, List.getD_eq_getElem?_getD, List.getElem?_append_left (by omega)]
theorem atI_left {l m : List Int} {i : Int} (h1 : i < l.length) (h0 : 0 ≤ i) : atI (l ++ m) i = atI l i := by
  unfold atI;rw [List.getD_eq_getElem?_getD, List.getD_eq_getElem?_getD, List.getElem?_append_left (by omega)]
theorem atI_last (l : List Int) (x : Int) : atI (l ++ [x]) l.length = x := by
  simp [atI, List.getD_eq_getElem?_getD]
theorem atG_last (l : List S61) (x : S61) : atG (l ++ [x]) l.length = x := by
  simp [atG, List.getD_eq_getElem?_getD]
structure Alg where
  inp : Int → Int
  con : Int → Int
  scl : Int → Int → Int
  two : Int → Int → Int → Int
def app (A : Alg) (v : List Int) (g : S61) : Int :=
  if g.f0 = 1 then A.inp g.f1 else if g.f0 = 2 then A.con g.f3 else if g.f0 = 6 then A.scl g.f3 (atI v g.f1) else A.two g.f0 (atI v g.f1) (atI v g.f2)
def snocs {α β : Type} (f : List α → β → α) : List α → List β → List α
  | d, [] => d
  | d, b :: bs => snocs f (d ++ [f d b]) bs
theorem snocs_snoc {α β : Type} (f : List α → β → α) (b : β) : ∀ (bs : List β) (d : List α), snocs f d (bs ++ [b]) = snocs f d bs ++ [f (snocs f d bs) b]
  | [], d => rfl
  | c :: bs, d => by simp only [List.cons_append, snocs]; exact snocs_snoc f b bs _
theorem snocs_len {α β : Type} (f : List α → β → α) : ∀ (bs : List β) (d : List α), (snocs f d bs).length = d.length + bs.length
  | [], d => rfl
  | c :: bs, d => by simp only [snocs, snocs_len f bs, List.length_append, List.length_cons, List.length_nil]; omega
def vals (A : Alg) (l : List S61) : List Int := snocs (app A) [] l
theorem vals_snoc (A : Alg) (l : List S61) (g : S61) : vals A (l ++ [g]) = vals A l ++ [app A (vals A l) g] := snocs_snoc _ _ _ _
theorem vals_len (A : Alg) (l : List S61) : (vals A l).length = l.length := by simp [vals, snocs_len]
theorem app_congr {A : Alg} {p s i : Int} {g : S61} {v v' : List Int} (h : okG p s i g) (e : ∀ x, 0 ≤ x → x < i → atI v x = atI v' x) : app A v g = app A v' g := by
  unfold app;unfold okG at h
  split
  · rfl
  split
  · rfl
  split
  · rw [e g.f1 (by omega) (by omega)]
  · rw [e g.f1 (by omega) (by omega), e g.f2 (by omega) (by omega)]
theorem snoc_ind {α : Type} {P : List α → Prop} (h0 : P []) (h1 : ∀ l x, P l → P (l ++ [x])) (l : List α) : P l := by
  rw [← List.reverse_reverse l]
  induction l.reverse with
  | nil => exact h0
  | cons x r ih => rw [List.reverse_cons]; exact h1 _ _ ih
theorem vals_at (A : Alg) {p s : Int} (l : List S61) : okL p s l → ∀ i : Int, 0 ≤ i → i < l.length → atI (vals A l) i = app A (vals A l) (atG l i) := by
  refine snoc_ind (P := fun l => okL p s l → ∀ i : Int, 0 ≤ i → i < l.length → atI (vals A l) i = app A (vals A l) (atG l i)) ?_ ?_ l
  · intro _ i h0 h1; simp at h1; omega
  · intro l g ih hok i h0 h1
    obtain ⟨hl, hg⟩ := okL_cut hok;have hlen := vals_len A l;rw [vals_snoc]
    by_cases h : i < l.length
    · rw [atI_left (by omega) h0, atG_left h h0, ih hl i h0 h]
      exact app_congr (okL_at hl h0 h) (fun x x0 x1 => (atI_left (by omega) x0).symm)
    · have hi : i = l.length := by simp at h1; omega
      rw [hi, atG_last];rw [show (l.length : Int) = ((vals A l).length : Nat) by rw [hlen], atI_last];exact app_congr hg (fun x x0 x1 => (atI_left (by omega) x0).symm)
def opV (p k a b : Int) : Int := if k = 3 then (a + b) % p else if k = 4 then (a + p - b) % p else a * b % p
def foldStep (p : Int) (l : List S61) (g : S61) : Option S61 :=
  if (g.f0 = 3 ∨ g.f0 = 4 ∨ g.f0 = 5) ∧ (atG l g.f1).f0 = 2 ∧ (atG l g.f2).f0 = 2 then some ⟨2, 0, 0, opV p g.f0 (atG l g.f1).f3 (atG l g.f2).f3⟩
  else if g.f0 = 6 ∧ (atG l g.f1).f0 = 2 then some ⟨2, 0, 0, (atG l g.f1).f3 * g.f3 % p⟩
  else if g.f0 = 5 ∧ (atG l g.f1).f0 = 2 then some ⟨6, g.f2, 0, (atG l g.f1).f3⟩
  else if g.f0 = 5 ∧ (atG l g.f2).f0 = 2 then some ⟨6, g.f1, 0, (atG l g.f2).f3⟩
  else if g.f0 = 6 ∧ g.f3 = 0 then some ⟨2, 0, 0, 0⟩
  else if g.f0 = 6 ∧ (atG l g.f1).f0 = 6 then some ⟨6, (atG l g.f1).f1, 0, (atG l g.f1).f3 * g.f3 % p⟩
  else if g.f0 = 4 ∧ g.f1 = g.f2 then some ⟨2, 0, 0, 0⟩
  else none
def meas (n : Nat) (g : S61) : Nat := if g.f0 = 5 then n + 1 else if g.f0 = 6 then g.f1.toNat + 1 else if g.f0 = 3 ∨ g.f0 = 4 then 1 else 0
theorem opV_range {p : Int} (hp : 0 < p) (k a b : Int) : 0 ≤ opV p k a b ∧ opV p k a b < p := by
  unfold opV
  split
  · exact ⟨Int.emod_nonneg _ (by omega), Int.emod_lt_of_pos _ hp⟩
  split
  · exact ⟨Int.emod_nonneg _ (by omega), Int.emod_lt_of_pos _ hp⟩
  · exact ⟨Int.emod_nonneg _ (by omega), Int.emod_lt_of_pos _ hp⟩
theorem fold_ok {p s : Int} (hp : 0 < p) {l : List S61} {g g' : S61} (hl : okL p s l) (hg : okG p s l.length g) (h : foldStep p l g = some g') : okG p s l.length g' ∧ meas l.length g' < meas l.length g := by
  have m1 := fun (a b : Int) => (⟨Int.emod_nonneg (a * b) (show p ≠ 0 by omega), Int.emod_lt_of_pos _ hp⟩ : 0 ≤ a * b % p ∧ a * b % p < p)
  unfold foldStep at h
  split at h
  · rename_i c
    obtain rfl := Option.some.inj h;refine ⟨.inr (.inl ⟨rfl, rfl, rfl, (opV_range hp _ _ _).1, (opV_range hp _ _ _).2⟩), ?_⟩;simp only [meas]; simp; split
    · omega
    · split
      · omega
      · rw [if_pos (by omega)]; omega
  split at h
  · rename_i c
    obtain rfl := Option.some.inj h;refine ⟨.inr (.inl ⟨rfl, rfl, rfl, (m1 _ _).1, (m1 _ _).2⟩), ?_⟩;simp [meas, c.1]
  split at h
  · rename_i c
    obtain rfl := Option.some.inj h
    have hg' : 0 ≤ g.f1 ∧ g.f1 < l.length ∧ 0 ≤ g.f2 ∧ g.f2 < l.length := by unfold okG at hg; omega
    have ha := okL_at hl hg'.1 hg'.2.1;generalize atG l g.f1 = a at *;refine ⟨.inr (.inr (.inr ⟨rfl, hg'.2.2.1, hg'.2.2.2, rfl, ?_⟩)), ?_⟩
    · unfold okG at ha; show 0 ≤ a.f3 ∧ a.f3 < p; omega
    · simp [meas, c.1]; omega
  split at h
  · rename_i c
    obtain rfl := Option.some.inj h
    have hg' : 0 ≤ g.f1 ∧ g.f1 < l.length ∧ 0 ≤ g.f2 ∧ g.f2 < l.length := by unfold okG at hg; omega
    have ha := okL_at hl hg'.2.2.1 hg'.2.2.2;generalize atG l g.f2 = a at *;refine ⟨.inr (.inr (.inr ⟨rfl, hg'.1, hg'.2.1, rfl, ?_⟩)), ?_⟩
    · unfold okG at ha; show 0 ≤ a.f3 ∧ a.f3 < p; omega
    · simp [meas, c.1]; omega
  split at h
  · rename_i c
    obtain rfl := Option.some.inj h;refine ⟨.inr (.inl ⟨rfl, rfl, rfl, Int.le_refl _, hp⟩), ?_⟩;simp [meas, c.1]
  split at h
  · rename_i c
    obtain rfl := Option.some.inj h
    have hg' : 0 ≤ g.f1 ∧ g.f1 < l.length := by unfold okG at hg; omega
    have ha := okL_at hl hg'.1 hg'.2;generalize atG l g.f1 = a at *
    have ha' : 0 ≤ a.f1 ∧ a.f1 < g.f1 := by unfold okG at ha; omega
    refine ⟨.inr (.inr (.inr ⟨rfl, ha'.1, by show a.f1 < _; omega, rfl, (m1 _ _).1, (m1 _ _).2⟩)), ?_⟩;simp [meas, c.1]; omega
  split at h
  · rename_i c
    obtain rfl := Option.some.inj h;refine ⟨.inr (.inl ⟨rfl, rfl, rfl, Int.le_refl _, hp⟩), ?_⟩;simp [meas, c.1]
  · cases h
def foldN (p : Int) (l : List S61) : Nat → S61 → S61
  | 0, g => g
  | n + 1, g => match foldStep p l g with
    | none => g
    | some g' => foldN p l n g'
def foldG (p : Int) (l : List S61) (g : S61) : S61 := foldN p l (l.length + 2) g
theorem foldN_ok {p s : Int} (hp : 0 < p) {l : List S61} (hl : okL p s l) : ∀ (n : Nat) (g : S61), meas l.length g < n → okG p s l.length g → okG p s l.length (foldN p l n g) ∧ foldStep p l (foldN p l n g) = none
  | 0, g, h, _ => by omega
  | n + 1, g, h, hg => by
    unfold foldN
    cases e : foldStep p l g with
    | none => exact ⟨hg, e⟩
    | some g' =>
      obtain ⟨h1, h2⟩ := fold_ok hp hl hg e;exact foldN_ok hp hl n g' (by omega) h1
theorem meas_lt {p s : Int} {n : Nat} {g : S61} (h : okG p s n g) : meas n g < n + 2 := by
  unfold meas; unfold okG at h
  split
  · omega
  split
  · omega
  split <;> omega
theorem foldG_ok {p s : Int} (hp : 0 < p) {l : List S61} (hl : okL p s l) {g : S61} (hg : okG p s l.length g) : okG p s l.length (foldG p l g) ∧ foldStep p l (foldG p l g) = none :=
  foldN_ok hp hl _ g (meas_lt hg) hg
def folds (p : Int) (d : List S61) (l : List S61) : List S61 := snocs (foldG p) d l
theorem folds_ok {p s : Int} (hp : 0 < p) (l : List S61) : okL p s l → okL p s (folds p [] l) := by
  refine snoc_ind (P := fun l => okL p s l → okL p s (folds p [] l)) (fun _ => okL_nil p s) ?_ l;intro l g ih h;obtain ⟨h1, h2⟩ := okL_cut h
  have hlen : (folds p [] l).length = l.length := by simp [folds, snocs_len]
  unfold folds;rw [snocs_snoc];refine okL_snoc (ih h1) ?_;exact (foldG_ok hp (ih h1) (by rw [hlen]; exact h2)).1
end Go.Proofs.Ytmlbliggbkfjnaa.L
/- Gates left out and others named in their place; gates that are alike. -/
namespace Go.Proofs.Ytmlbliggbkfjnaa.L
open Go.RowKit Go.Proofs.YtmlbliggbkfjnaaW.PrintWords Go.Proofs.Ytmlbliggbkfjnaa.J
def rnf (t : Int → Int) (g : S61) : S61 :=
  if g.f0 = 1 ∨ g.f0 = 2 then g else if g.f0 = 6 then ⟨g.f0, t g.f1, g.f2, g.f3⟩ else ⟨g.f0, t g.f1, t g.f2, g.f3⟩
theorem rnf_ok {p s i j : Int} {g : S61} {t : Int → Int} (h : okG p s i g)
    (e : g.f0 ≠ 1 → g.f0 ≠ 2 → 0 ≤ t g.f1 ∧ t g.f1 < j ∧ (g.f0 ≠ 6 → 0 ≤ t g.f2 ∧ t g.f2 < j)) : okG p s j (rnf t g) := by
  unfold rnf
  rcases h with h | h | h | h
  · rw [if_pos (.inl h.1)]; exact .inl h
  · rw [if_pos (.inr h.1)]; exact .inr (.inl h)
  · have h12 : ¬ (g.f0 = 1 ∨ g.f0 = 2) := by omega
    have h6 : ¬ g.f0 = 6 := by omega
    obtain ⟨a, b, c⟩ := e (by omega) (by omega);obtain ⟨c, d⟩ := c h6;rw [if_neg h12, if_neg h6];exact .inr (.inr (.inl ⟨h.1, a, b, c, d, h.2.2.2.2.2⟩))
  · obtain ⟨a, b, c⟩ := e (by omega) (by omega)
    rw [if_neg (by omega), if_pos h.1];exact .inr (.inr (.inr ⟨h.1, a, b, h.2.2.2.1, h.2.2.2.2⟩))
theorem okG_ops {p s i : Int} {g : S61} (h : okG p s i g) (h1 : g.f0 ≠ 1) (h2 : g.f0 ≠ 2) : 0 ≤ g.f1 ∧ g.f1 < i ∧ (g.f0 ≠ 6 → 0 ≤ g.f2 ∧ g.f2 < i) := by
  rcases h with h | h | h | h
  · exact absurd h.1 h1
  · exact absurd h.1 h2
  · exact ⟨h.2.1, h.2.2.1, fun _ => ⟨h.2.2.2.1, h.2.2.2.2.1⟩⟩
  · exact ⟨h.2.1, h.2.2.1, fun h6 => absurd h.1 h6⟩
def Comm (A : Alg) : Prop := ∀ a b, A.two 3 a b = A.two 3 b a ∧ A.two 5 a b = A.two 5 b a
def sameG (x y : S61) : Prop := x = y ∨ ((⟨x.f0, x.f2, x.f1, x.f3⟩ : S61) = y ∧ (x.f0 = 3 ∨ x.f0 = 5))
theorem S61.ext_iff' (x y : S61) : x = y ↔ x.f0 = y.f0 ∧ x.f1 = y.f1 ∧ x.f2 = y.f2 ∧ x.f3 = y.f3 := by
  cases x; cases y; simp
instance (x y : S61) : Decidable (x = y) := decidable_of_iff _ (S61.ext_iff' x y).symm
instance (x y : S61) : Decidable (sameG x y) := by unfold sameG; infer_instance
theorem app_same {A : Alg} (hA : Comm A) {x y : S61} (v : List Int) (h : sameG x y) : app A v x = app A v y := by
  rcases h with rfl | ⟨rfl, h⟩
  · rfl
  · unfold app
    rcases h with h | h
    · simp [h, (hA (atI v x.f1) (atI v x.f2)).1]
    · simp [h, (hA (atI v x.f1) (atI v x.f2)).2]
theorem app_rnf {A : Alg} {p s i : Int} {g : S61} {t : Int → Int} {v v' : List Int} (h : okG p s i g) (e : ∀ x, 0 ≤ x → x < i → x = g.f1 ∨ (g.f0 ≠ 6 ∧ x = g.f2) → g.f0 ≠ 1 → g.f0 ≠ 2 → atI v' (t x) = atI v x) : app A v' (rnf t g) = app A v g := by
  unfold rnf; unfold okG at h
  split
  · rename_i h1
    unfold app
    rcases h1 with h1 | h1 <;> simp [h1]
  split
  · rename_i h1 h6
    unfold app;simp only [h6, if_neg (show ¬ (6 : Int) = 1 by decide), if_neg (show ¬ (6 : Int) = 2 by decide), if_true];rw [e g.f1 (by omega) (by omega) (.inl rfl) (by omega) (by omega)]
  · rename_i h1 h6
    unfold app;simp only [if_neg (show ¬ g.f0 = 1 by omega), if_neg (show ¬ g.f0 = 2 by omega), if_neg h6];rw [e g.f1 (by omega) (by omega) (.inl rfl) (by omega) (by omega), e g.f2 (by omega) (by omega) (.inr ⟨h6, rfl⟩) (by omega) (by omega)]
structure Shr (p s : Int) (gs l : List S61) (t : Int → Int) (N : Int → Prop) : Prop where
  rng : ∀ i : Int, 0 ≤ i → i < gs.length → N i → 0 ≤ t i ∧ t i < l.length
  onto : ∀ j : Int, 0 ≤ j → j < l.length → ∃ i : Int, 0 ≤ i ∧ i < gs.length ∧ N i ∧ t i = j
  vals : ∀ A, Comm A → ∀ i : Int, 0 ≤ i → i < gs.length → N i → atI (L.vals A l) (t i) = atI (L.vals A gs) i
  ok : okL p s l
  cnt : ∀ f : S61 → Bool, (∀ g t, f (rnf t g) = f g) → (l.filter f).length ≤ (gs.filter f).length
theorem Shr.nil (p s : Int) (t : Int → Int) (N : Int → Prop) : Shr p s [] [] t N :=
  ⟨fun i h0 h1 => by simp at h1; omega, fun i h0 h1 => by simp at h1; omega, fun _ _ i h0 h1 => by simp at h1; omega, okL_nil p s, fun _ _ => Nat.le_refl _⟩
theorem vals_left (A : Alg) {l : List S61} {g : S61} {i : Int} (h0 : 0 ≤ i) (h1 : i < l.length) : atI (vals A (l ++ [g])) i = atI (vals A l) i := by
  rw [vals_snoc]; exact atI_left (by rw [vals_len]; exact h1) h0
theorem vals_last (A : Alg) (l : List S61) (g : S61) : atI (vals A (l ++ [g])) l.length = app A (vals A l) g := by
  rw [vals_snoc, show (l.length : Int) = ((vals A l).length : Nat) by rw [vals_len], atI_last]
def uses (g : S61) (x : Int) : Prop := g.f0 ≠ 1 ∧ g.f0 ≠ 2 ∧ (x = g.f1 ∨ (g.f0 ≠ 6 ∧ x = g.f2))
theorem uses_lt {p s i : Int} {g : S61} (h : okG p s i g) {x : Int} (hx : uses g x) : 0 ≤ x ∧ x < i := by
  obtain ⟨h1, h2, h3⟩ := hx;obtain ⟨a, b, c⟩ := okG_ops h h1 h2
  rcases h3 with rfl | ⟨h6, rfl⟩
  · exact ⟨a, b⟩
  · exact c h6
theorem Shr.new_ok {p s : Int} {gs l : List S61} {t : Int → Int} {N : Int → Prop} (h : Shr p s gs l t N) {g : S61} (hg : okG p s gs.length g)
    (hN : ∀ x, uses g x → N x) : okG p s l.length (rnf t g) := by
  refine rnf_ok hg fun h1 h2 => ?_
  have u1 : uses g g.f1 := ⟨h1, h2, .inl rfl⟩;obtain ⟨a, b⟩ := uses_lt hg u1;obtain ⟨c, d⟩ := h.rng _ a b (hN _ u1);refine ⟨c, d, fun h6 => ?_⟩;have u2 : uses g g.f2 := ⟨h1, h2, .inr ⟨h6, rfl⟩⟩;obtain ⟨a, b⟩ := uses_lt hg u2;exact h.rng _ a b (hN _ u2)
theorem Shr.new_val {p s : Int} {gs l : List S61} {t : Int → Int} {N : Int → Prop} (h : Shr p s gs l t N) {g : S61} (hg : okG p s gs.length g)
    (hN : ∀ x, uses g x → N x) {A : Alg} (hA : Comm A) : app A (L.vals A l) (rnf t g) = app A (L.vals A gs) g :=
  app_rnf hg fun x x0 x1 xe h1 h2 => h.vals A hA x x0 x1 (hN x ⟨h1, h2, xe⟩)
theorem Shr.stay {p s : Int} {gs l : List S61} {t t' : Int → Int} {N : Int → Prop} (h : Shr p s gs l t N) {g : S61} (hg : okG p s gs.length g)
    (ht : ∀ x : Int, 0 ≤ x → x < gs.length → t' x = t x) (hl : t' gs.length = l.length)
    (hN : ∀ x, uses g x → N x) (hN' : N gs.length) : Shr p s (gs ++ [g]) (l ++ [rnf t g]) t' N := by
  refine ⟨?_, ?_, ?_, okL_snoc h.ok (h.new_ok hg hN), ?_⟩
  · intro i i0 i1 iN
    simp only [List.length_append, List.length_cons, List.length_nil] at i1 ⊢
    by_cases e : i < gs.length
    · rw [ht i i0 e]; have := h.rng i i0 e iN; omega
    · rw [show i = gs.length by omega, hl]; omega
  · intro j j0 j1
    simp only [List.length_append, List.length_cons, List.length_nil] at j1 ⊢
    by_cases e : j < l.length
    · obtain ⟨i, i0, i1, iN, ij⟩ := h.onto j j0 e
      exact ⟨i, i0, by omega, iN, by rw [ht i i0 i1]; exact ij⟩
    · exact ⟨gs.length, by omega, by omega, hN', by rw [hl]; omega⟩
  · intro A hA i i0 i1 iN
    simp only [List.length_append, List.length_cons, List.length_nil] at i1
    by_cases e : i < gs.length
    · have r := h.rng i i0 e iN
      rw [ht i i0 e, vals_left A r.1 r.2, vals_left A i0 e];exact h.vals A hA i i0 e iN
    · rw [show i = gs.length by omega, hl, vals_last, vals_last]
      exact h.new_val hg hN hA
  · intro f hf
    have := h.cnt f hf;rw [List.filter_append, List.filter_append, List.length_append, List.length_append]
    have e : ([rnf t g].filter f).length = ([g].filter f).length := by
      simp only [List.filter_cons, hf, List.filter_nil]
      split <;> rfl
    omega
theorem Shr.other {p s : Int} {gs l : List S61} {t t' : Int → Int} {N : Int → Prop} (h : Shr p s gs l t N) {g : S61} (hg : okG p s gs.length g)
    (ht : ∀ x : Int, 0 ≤ x → x < gs.length → t' x = t x) (hN : N gs.length → (∀ x, uses g x → N x) ∧ 0 ≤ t' gs.length ∧ t' gs.length < l.length ∧ sameG (atG l (t' gs.length)) (rnf t g)) : Shr p s (gs ++ [g]) l t' N := by
  refine ⟨?_, ?_, ?_, h.ok, ?_⟩
  · intro i i0 i1 iN
    simp only [List.length_append, List.length_cons, List.length_nil] at i1 ⊢
    by_cases e : i < gs.length
    · rw [ht i i0 e]; exact h.rng i i0 e iN
    · have hi : i = gs.length := by omega
      subst hi;exact ⟨(hN iN).2.1, (hN iN).2.2.1⟩
  · intro j j0 j1
    obtain ⟨i, i0, i1, iN, ij⟩ := h.onto j j0 j1;exact ⟨i, i0, by simp; omega, iN, by rw [ht i i0 i1]; exact ij⟩
  · intro A hA i i0 i1 iN
    simp only [List.length_append, List.length_cons, List.length_nil] at i1
    by_cases e : i < gs.length
    · rw [ht i i0 e, vals_left A i0 e]
      exact h.vals A hA i i0 e iN
    · have hi : i = gs.length := by omega
      subst hi;obtain ⟨n1, n2, n3, n4⟩ := hN iN;rw [vals_last, vals_at A l h.ok _ n2 n3, app_same hA _ n4];exact h.new_val hg n1 hA
  · intro f hf
    have := h.cnt f hf;rw [List.filter_append, List.length_append]
    omega
def apart (l : List S61) : Prop := l.Pairwise fun x y => ¬ sameG x y
end Go.Proofs.Ytmlbliggbkfjnaa.L
/- Gates that nobody asks for; levels. -/
namespace Go.Proofs.Ytmlbliggbkfjnaa.L
open Go.RowKit Go.Proofs.YtmlbliggbkfjnaaW.PrintWords Go.Proofs.Ytmlbliggbkfjnaa.J
def atB (l : List Bool) (i : Int) : Bool := l.getD i.toNat false
def mkStep (gs : List S61) (a : List Bool) (i : Nat) : List Bool :=
  if atB a i = true ∧ (atG gs i).f0 ≠ 1 ∧ (atG gs i).f0 ≠ 2 then
    (if (atG gs i).f0 = 6 then a.set (atG gs i).f1.toNat true else (a.set (atG gs i).f1.toNat true).set (atG gs i).f2.toNat true)
  else a
def mkM (gs : List S61) : Nat → List Bool → List Bool
  | 0, a => a
  | m + 1, a => mkM gs m (mkStep gs a m)
end Go.Proofs.Ytmlbliggbkfjnaa.L
/- Both tests of a prime answer alike, and what they answer; loops. -/
namespace Go.Proofs.Ytmlbliggbkfjnaa.L
open Go.RowKit Go.Proofs.YtmlbliggbkfjnaaW.PrintWords Go.Proofs.Ytmlbliggbkfjnaa.J
theorem u64_small {n : Int} (h0 : 0 ≤ n) (h1 : n < 18446744073709551616) : IntKind.u64.wrap n = n := by
  simp [IntKind.wrap, IntKind.signed, IntKind.bits]
  omega
theorem w64_small {n : Int} (h0 : -9223372036854775808 ≤ n) (h1 : n < 9223372036854775808) : wrap64 n = n := by
  unfold wrap64
  omega
def free (a : Int) : Prop := ∀ y : Fin 257, 2 ≤ y.val → ((y.val : Int) * (y.val : Int)) ≤ a → a % (y.val : Int) ≠ 0
def isP (a : Int) : Bool := decide (3 ≤ a ∧ a ≤ 65537 ∧ ∀ y : Fin 257, 2 ≤ y.val → ((y.val : Int) * (y.val : Int)) ≤ a → a % (y.val : Int) ≠ 0)
theorem free_of {a : Int} (h : a ≤ 65537) (hf : ∀ y : Fin 257, 2 ≤ y.val → ((y.val : Int) * (y.val : Int)) ≤ a → a % (y.val : Int) ≠ 0) (y : Int) (h2 : 2 ≤ y) (hy : y * y ≤ a) : a % y ≠ 0 := by
  have hb : y < 257 := by
    rcases Int.lt_or_le y 257 with h' | h'
    · exact h'
    · have : 257 * 257 ≤ y * y := Int.mul_le_mul h' h' (by omega) (by omega)
      omega
  have := hf ⟨y.toNat, by omega⟩ (show 2 ≤ y.toNat by omega);simp only at this;rw [show ((y.toNat : Nat) : Int) = y by omega] at this;exact this hy
theorem isP_iff (a : Int) : isP a = true ↔ 3 ≤ a ∧ a ≤ 65537 ∧ ∀ y : Int, 2 ≤ y → y * y ≤ a → a % y ≠ 0 := by
  unfold isP;rw [decide_eq_true_iff]
  constructor
  · rintro ⟨h1, h2, h3⟩
    exact ⟨h1, h2, fun y hy => free_of h2 h3 y hy⟩
  · rintro ⟨h1, h2, h3⟩
    exact ⟨h1, h2, fun y hy hq => h3 y.val (by omega) hq⟩
theorem sq_small {x : Int} (h0 : 0 ≤ x) (h1 : x ≤ 300) : 0 ≤ x * x ∧ x * x ≤ 90000 :=
  ⟨Int.mul_nonneg h0 h0, Int.mul_le_mul h1 h1 h0 (by omega)⟩
theorem ref_loop (a : Int) (h3 : 3 ≤ a) (ha : a ≤ 65537) : ∀ (m : Nat) (x : Int), 2 ≤ x → x + m = 258 → (∀ y : Int, 2 ≤ y → y < x → y * y ≤ a → a % y ≠ 0) → Ev (fun k => qma.l0 k a x) (isP a)
  | 0, x, h2, hx, hy => by
    have hb : isP a = true := (isP_iff a).2 ⟨h3, ha, fun y y2 yq => hy y y2 (by
      rcases Int.lt_or_le y x with h' | h'
      · exact h'
      · have : 257 * 257 ≤ y * y := Int.mul_le_mul (by omega) (by omega) (by omega) (by omega)
        omega) yq⟩
    rw [hb];refine Ev.step (f := fun k => some true) (fun k => ?_) (Ev.now _);have hq := sq_small (x := x) (by omega) (by omega)
    have : ¬ (x * x ≤ a) := by
      have : 257 * 257 ≤ x * x := Int.mul_le_mul (by omega) (by omega) (by omega) (by omega)
      omega
    simp only [qma.l0];rw [u64_small hq.1 (by omega), if_neg this]
  | m + 1, x, h2, hx, hy => by
    have hq := sq_small (x := x) (by omega) (by omega)
    by_cases hle : x * x ≤ a
    · by_cases hd : a % x = 0
      · have hb : isP a = false := by
          rw [Bool.eq_false_iff];intro h';exact ((isP_iff a).1 h').2.2 x h2 hle hd
        rw [hb];refine Ev.step (f := fun k => some false) (fun k => ?_) (Ev.now _);simp only [qma.l0];rw [u64_small hq.1 (by omega), if_pos hle, if_neg (show ¬ x = 0 by omega), if_pos (by rw [Int.tmod_eq_emod_of_nonneg (by omega)]; exact hd)]
      · refine Ev.step (f := fun k => qma.l0 k a (x + 1)) (fun k => ?_) (ref_loop a h3 ha m (x + 1) (by omega) (by omega) fun y y2 yx yq => ?_)
        · conv => lhs; simp only [qma.l0]
          rw [u64_small hq.1 (by omega), if_pos hle, if_neg (show ¬ x = 0 by omega), if_neg (by rw [Int.tmod_eq_emod_of_nonneg (by omega)]; exact hd), u64_small (show 0 ≤ x + 1 by omega) (by omega)]
        · rcases Int.lt_or_le y x with h' | h'
          · exact hy y y2 h' yq
          · obtain rfl : y = x := by omega
            exact hd
    · have hb : isP a = true := (isP_iff a).2 ⟨h3, ha, fun y y2 yq => hy y y2 (by
        rcases Int.lt_or_le y x with h' | h'
        · exact h'
        · have : x * x ≤ y * y := Int.mul_le_mul h' h' (by omega) (by omega)
          omega) yq⟩
      rw [hb];refine Ev.step (f := fun k => some true) (fun k => ?_) (Ev.now _);simp only [qma.l0];rw [u64_small hq.1 (by omega), if_neg hle]
theorem odd_loop (a : Int) (h3 : 3 ≤ a) (ha : a ≤ 65537) (hodd : a % 2 = 1) : ∀ (m : Nat) (x : Int), 3 ≤ x → x % 2 = 1 → x + 2 * m = 259 → (∀ y : Int, 2 ≤ y → y < x → y * y ≤ a → a % y ≠ 0) → Ev (fun k => qpa.l0 k a x) (isP a)
  | 0, x, h2, hxo, hx, hy => by
    have hb : isP a = true := (isP_iff a).2 ⟨h3, ha, fun y y2 yq => hy y y2 (by
      rcases Int.lt_or_le y x with h' | h'
      · exact h'
      · have : 257 * 257 ≤ y * y := Int.mul_le_mul (by omega) (by omega) (by omega) (by omega)
        omega) yq⟩
    rw [hb];refine Ev.step (f := fun k => some true) (fun k => ?_) (Ev.now _);have hq := sq_small (x := x) (by omega) (by omega)
    have : ¬ (x * x ≤ a) := by
      have : 257 * 257 ≤ x * x := Int.mul_le_mul (by omega) (by omega) (by omega) (by omega)
      omega
    simp only [qpa.l0];rw [u64_small hq.1 (by omega), if_neg this]
  | m + 1, x, h2, hxo, hx, hy => by
    have hq := sq_small (x := x) (by omega) (by omega)
    by_cases hle : x * x ≤ a
    · by_cases hd : a % x = 0
      · have hb : isP a = false := by
          rw [Bool.eq_false_iff];intro h';exact ((isP_iff a).1 h').2.2 x (by omega) hle hd
        rw [hb];refine Ev.step (f := fun k => some false) (fun k => ?_) (Ev.now _);simp only [qpa.l0];rw [u64_small hq.1 (by omega), if_pos hle, if_neg (show ¬ x = 0 by omega), if_pos (by rw [Int.tmod_eq_emod_of_nonneg (by omega)]; exact hd)]
      · refine Ev.step (f := fun k => qpa.l0 k a (x + 2)) (fun k => ?_) (odd_loop a h3 ha hodd m (x + 2) (by omega) (by omega) (by omega) fun y y2 yx yq => ?_)
        · conv => lhs; simp only [qpa.l0]
          rw [u64_small hq.1 (by omega), if_pos hle, if_neg (show ¬ x = 0 by omega), if_neg (by rw [Int.tmod_eq_emod_of_nonneg (by omega)]; exact hd), u64_small (show 0 ≤ x + 2 by omega) (by omega)]
        · rcases Int.lt_or_le y x with h' | h'
          · exact hy y y2 h' yq
          · rcases Int.lt_or_le x y with h'' | h''
            · obtain rfl : y = x + 1 := by omega
              intro h0;have h1 : (2 : Int) ∣ a := Int.dvd_trans (Int.dvd_of_emod_eq_zero (by omega)) (Int.dvd_of_emod_eq_zero h0);have := Int.emod_eq_zero_of_dvd h1
              omega
            · obtain rfl : y = x := by omega
              exact hd
    · have hb : isP a = true := (isP_iff a).2 ⟨h3, ha, fun y y2 yq => hy y y2 (by
        rcases Int.lt_or_le y x with h' | h'
        · exact h'
        · have : x * x ≤ y * y := Int.mul_le_mul h' h' (by omega) (by omega)
          omega) yq⟩
      rw [hb];refine Ev.step (f := fun k => some true) (fun k => ?_) (Ev.now _);simp only [qpa.l0];rw [u64_small hq.1 (by omega), if_neg hle]
theorem not_isP {a : Int} (h : ¬ (3 ≤ a ∧ a ≤ 65537)) : isP a = false := by
  rw [Bool.eq_false_iff];intro h';have := (isP_iff a).1 h';exact h ⟨this.1, this.2.1⟩
theorem ref_is (a : Int) : Ev (fun k => qma.f k a) (isP a) := by
  by_cases h3 : a < 3
  · rw [not_isP (by omega)]
    refine Ev.step (f := fun k => some false) (fun k => ?_) (Ev.now _);simp [qma.f, qma.j0, h3]
  · by_cases hb : a > 65537
    · rw [not_isP (by omega)]
      refine Ev.step (f := fun k => some false) (fun k => ?_) (Ev.now _);simp [qma.f, qma.j0, h3, hb]
    · refine Ev.step (f := fun k => qma.l0 k a 2) (fun k => ?_) (ref_loop a (by omega) (by omega) 256 2 (by omega) (by omega) fun y y2 yx => by omega)
      simp [qma.f, qma.j0, h3, hb]
theorem field_is (a : Int) : Ev (fun k => qpa.f k a) (isP a) := by
  by_cases h3 : a < 3
  · rw [not_isP (by omega)]
    refine Ev.step (f := fun k => some false) (fun k => ?_) (Ev.now _);simp [qpa.f, qpa.j0, h3]
  · by_cases hb : a > 65537
    · rw [not_isP (by omega)]
      refine Ev.step (f := fun k => some false) (fun k => ?_) (Ev.now _);simp [qpa.f, qpa.j0, h3, hb]
    · by_cases ho : a % 2 = 0
      · have hp : isP a = false := by
          rw [Bool.eq_false_iff];intro h';exact ((isP_iff a).1 h').2.2 2 (by omega) (by omega) ho
        rw [hp];refine Ev.step (f := fun k => some false) (fun k => ?_) (Ev.now _)
        have ht : Int.tmod a 2 = 0 := by rw [Int.tmod_eq_emod_of_nonneg (by omega)]; exact ho
        simp [qpa.f, qpa.j0, h3, hb, ht]
      · refine Ev.step (f := fun k => qpa.l0 k a 3) (fun k => ?_) (odd_loop a (by omega) (by omega) (by omega) 128 3 (by omega) (by omega) (by omega) fun y y2 yx yq => ?_)
        · have ht : ¬ Int.tmod a 2 = 0 := by rw [Int.tmod_eq_emod_of_nonneg (by omega)]; exact ho
          simp [qpa.f, qpa.j0, h3, hb, ht]
        · obtain rfl : y = 2 := by omega
          exact ho
theorem Ev.fuel {α : Type} {g : Nat → Option α} {r : α} (n : Nat) (h : ∀ k, g (k + n) = some r) : Ev g r :=
  ⟨n, fun k hk => by obtain ⟨m, rfl⟩ := Nat.exists_eq_add_of_le hk; rw [Nat.add_comm]; exact h m⟩
theorem up {α : Type} {g : Nat → Nat → Option α} {R : Nat → α} {n : Nat} (last : Ev (fun k => g k n) (R n)) (step : ∀ i, i < n → Ev (fun k => g k (i + 1)) (R (i + 1)) → Ev (fun k => g k i) (R i)) : ∀ m i : Nat, i + m = n → Ev (fun k => g k i) (R i)
  | 0, i, h => by obtain rfl : i = n := by omega
                  exact last
  | m + 1, i, h => step i (by omega) (up last step m (i + 1) (by omega))
theorem up0 {α : Type} {g : Nat → Nat → Option α} {R : Nat → α} {n : Nat} (last : Ev (fun k => g k n) (R n)) (step : ∀ i, i < n → Ev (fun k => g k (i + 1)) (R (i + 1)) → Ev (fun k => g k i) (R i)) : Ev (fun k => g k 0) (R 0) := up last step n 0 (by omega)
theorem wadd {i : Nat} (h : i < 9223372036854775807) : wrap64 ((i : Int) + 1) = ((i + 1 : Nat) : Int) := by rw [w64_small (by omega) (by omega)]; omega
theorem u64_wf {n : Int} (h : (Lit.int .u64 n).wf = true) : 0 ≤ n ∧ n < 18446744073709551616 := by
  simp [Lit.wf, IntKind.min, IntKind.max, IntKind.signed, IntKind.bits] at h
  omega
end Go.Proofs.Ytmlbliggbkfjnaa.L
/- Both checks of a circuit answer alike, and what they answer. -/
namespace Go.Proofs.Ytmlbliggbkfjnaa.L
open Go.RowKit Go.Proofs.YtmlbliggbkfjnaaW.PrintWords Go.Proofs.Ytmlbliggbkfjnaa.J
def gateV (p s i : Int) (g : S61) : Int :=
  if g.f0 = 1 then (if g.f2 ≠ 0 ∨ g.f3 ≠ 0 then 4 else if g.f1 < 0 ∨ g.f1 ≥ s then 13 else 0)
  else if g.f0 = 2 then (if g.f1 ≠ 0 ∨ g.f2 ≠ 0 then 4 else if g.f3 ≥ p then 2 else 0)
  else if g.f0 = 3 ∨ g.f0 = 4 ∨ g.f0 = 5 then (if g.f3 ≠ 0 then 4 else if g.f1 < 0 ∨ g.f1 ≥ i ∨ g.f2 < 0 ∨ g.f2 ≥ i then 13 else 0)
  else if g.f0 = 6 then (if g.f2 ≠ 0 then 4 else if g.f1 < 0 ∨ g.f1 ≥ i then 13 else if g.f3 ≥ p then 2 else 0)
  else 4
theorem gateV_ok {p s i : Int} {g : S61} (h3 : 0 ≤ g.f3) : gateV p s i g = 0 ↔ okG p s i g := by
  unfold gateV okG
  split
  · split
    · simp; omega
    · split
      · simp; omega
      · simp; omega
  split
  · split
    · simp; omega
    · split
      · simp; omega
      · simp; omega
  split
  · split
    · simp; omega
    · split
      · simp; omega
      · simp; omega
  split
  · split
    · simp; omega
    · split
      · simp; omega
      · split
        · simp; omega
        · simp; omega
  · simp; omega
theorem within_is (b s : Int) : circ_Gate_1.f b s = some (!decide (b < 0 ∨ b ≥ s)) := by
  unfold circ_Gate_1.f
  by_cases h : b < 0
  · rw [if_neg (by omega)]; simp [h]
  · rw [if_pos (by omega)]
    by_cases h' : b < s
    · have : ¬ (b < 0 ∨ b ≥ s) := by omega
      simp [this, h']
    · have : (b < 0 ∨ b ≥ s) := by omega
      simp [this, h']
theorem circ_gate (p s i : Int) (g : S61) (hp : 0 < p) : Ev (fun k => circ_Gate.f k p s i g.f0 g.f1 g.f2 g.f3) (gateV p s i g) := by
  refine Ev.fuel 10 fun k => ?_
  unfold gateV;obtain ⟨a, b, c, d⟩ := g;simp only
  have hp' : ¬ p ≤ 0 := by omega
  by_cases h1 : a = 1
  · subst h1
    have e := within_is b s
    by_cases hb : b < 0 ∨ b ≥ s
    · rw [decide_eq_true hb] at e
      by_cases hc : c = 0 <;> by_cases hd : d = 0 <;> simp only [circ_Gate.f, circ_named.f, circ_Gate.j0, circ_Gate.j1, e, if_pos hb] <;> simp [hc, hd, hp']
    · rw [decide_eq_false hb] at e
      by_cases hc : c = 0 <;> by_cases hd : d = 0 <;> simp only [circ_Gate.f, circ_named.f, circ_Gate.j0, circ_Gate.j1, e, if_neg hb] <;> simp [hc, hd, hp']
  by_cases h2 : a = 2
  · subst h2
    by_cases hb : b = 0 <;> by_cases hc : c = 0 <;> by_cases hd : d ≥ p <;> simp [circ_Gate.f, circ_named.f, circ_Gate.j0, circ_Gate.j1, hb, hc, hd]
  by_cases h3 : a = 3 ∨ a = 4 ∨ a = 5
  · have e : circ_named.f (k + 10) a = some (false, true, true, false, true) := by
      rcases h3 with rfl | rfl | rfl <;> simp [circ_named.f, circ_named.j0]
    rw [if_neg h1, if_neg h2, if_pos h3];unfold circ_Gate.f;rw [e];have e1 := within_is b i;have e2 := within_is c i
    by_cases hb : b < 0 ∨ b ≥ i
    · rw [decide_eq_true hb] at e1
      have hh : b < 0 ∨ b ≥ i ∨ c < 0 ∨ c ≥ i := by omega
      by_cases hd : d = 0 <;> simp only [circ_Gate.j0, circ_Gate.j1, e1, e2, if_pos hh] <;> simp [hd, hp']
    · rw [decide_eq_false hb] at e1
      by_cases hc : c < 0 ∨ c ≥ i
      · rw [decide_eq_true hc] at e2
        have hh : b < 0 ∨ b ≥ i ∨ c < 0 ∨ c ≥ i := by omega
        by_cases hd : d = 0 <;> simp only [circ_Gate.j0, circ_Gate.j1, e1, e2, if_pos hh] <;> simp [hd, hp']
      · rw [decide_eq_false hc] at e2
        have hh : ¬ (b < 0 ∨ b ≥ i ∨ c < 0 ∨ c ≥ i) := by omega
        by_cases hd : d = 0 <;> simp only [circ_Gate.j0, circ_Gate.j1, e1, e2, if_neg hh] <;> simp [hd, hp']
  by_cases h6 : a = 6
  · subst h6
    have e := within_is b i
    by_cases hb : b < 0 ∨ b ≥ i
    · rw [decide_eq_true hb] at e
      by_cases hc : c = 0 <;> by_cases hd : d ≥ p <;> simp only [circ_Gate.f, circ_named.f, circ_named.j0, circ_Gate.j0, circ_Gate.j1, e, if_pos hb] <;> simp [hc, hd]
    · rw [decide_eq_false hb] at e
      by_cases hc : c = 0 <;> by_cases hd : d ≥ p <;> simp only [circ_Gate.f, circ_named.f, circ_named.j0, circ_Gate.j0, circ_Gate.j1, e, if_neg hb] <;> simp [hc, hd]
  · have e : circ_named.f (k + 10) a = some (false, false, false, false, false) := by
      have h5 : a ≠ 3 ∧ a ≠ 4 ∧ a ≠ 5 := by omega
      simp [circ_named.f, circ_named.j0, h1, h2, h5, h6]
    rw [if_neg h1, if_neg h2, if_neg h3, if_neg h6];unfold circ_Gate.f;rw [e]
    rfl
theorem ref_gate (p s i : Int) (g : S61) : Ev (fun k => qda.f k p s i g.f0 g.f1 g.f2 g.f3) (gateV p s i g) := by
  refine Ev.fuel 10 fun k => ?_
  unfold gateV;obtain ⟨a, b, c, d⟩ := g;simp only
  by_cases h1 : a = 1
  · subst h1
    by_cases hc : c = 0 <;> by_cases hd : d = 0 <;> by_cases hb : b < 0 <;> by_cases hb' : b ≥ s <;> simp [qda.f, qda.j0, qda.j1, qda.j2, qda.j3, qda.j4, hb, hb', hc, hd]
  by_cases h2 : a = 2
  · subst h2
    by_cases hb : b = 0 <;> by_cases hc : c = 0 <;> by_cases hd : d ≥ p <;> simp [qda.f, qda.j0, qda.j1, qda.j2, qda.j3, qda.j4, hb, hc, hd]
  by_cases h3 : a = 3 ∨ a = 4 ∨ a = 5
  · have e : qda.f (k + 10) p s i a b c d = qda.j1 (k + 9) p s i true true false a b c d := by
      rcases h3 with rfl | rfl | rfl <;> simp [qda.f, qda.j0]
    have h1' : ¬ a = 1 := h1;rw [if_neg h1, if_neg h2, if_pos h3, e]
    by_cases hd : d = 0 <;> by_cases hb : b < 0 <;> by_cases hb' : b ≥ i <;> by_cases hc : c < 0 <;> by_cases hc' : c ≥ i <;> simp [qda.j1, qda.j2, qda.j3, qda.j4, h1', hd, hb, hb', hc, hc']
  by_cases h6 : a = 6
  · subst h6
    by_cases hc : c = 0 <;> by_cases hb : b < 0 <;> by_cases hb' : b ≥ i <;> by_cases hd : d ≥ p <;> simp [qda.f, qda.j0, qda.j1, qda.j2, qda.j3, qda.j4, hd, hb, hb', hc]
  · have h5 : a ≠ 3 ∧ a ≠ 4 ∧ a ≠ 5 := by omega
    rw [if_neg h1, if_neg h2, if_neg h3, if_neg h6];simp [qda.f, qda.j0, h1, h2, h5, h6]
def firstE {β : Type} (f : Int → β → Int) : Nat → List β → Int
  | _, [] => 0
  | i, b :: bs => if f i b = 0 then firstE f (i + 1) bs else f i b
theorem firstE_step {β : Type} (f : Int → β → Int) (l : List β) (i : Nat) (h : i < l.length) : firstE f i (l.drop i) = if f i l[i] = 0 then firstE f (i + 1) (l.drop (i + 1)) else f i l[i] := by
  rw [List.drop_eq_getElem_cons h]; rfl
theorem firstE_end {β : Type} (f : Int → β → Int) (l : List β) : firstE f l.length (l.drop l.length) = 0 := by
  rw [List.drop_of_length_le (Nat.le_refl _)]; rfl
theorem firstE_zero {β : Type} (f : Int → β → Int) : ∀ (l : List β) (i : Nat), firstE f i l = 0 ↔ ∀ (j : Nat) b, l[j]? = some b → f ((i + j : Nat) : Int) b = 0
  | [], i => by simp [firstE]
  | b :: l, i => by
    unfold firstE
    constructor
    · intro h j c hc
      split at h
      · rename_i h0
        match j, hc with
        | 0, hc => obtain rfl : b = c := by simpa using hc
                   exact h0
        | j + 1, hc =>
          have := (firstE_zero f l (i + 1)).1 h j c (by simpa using hc);rw [show i + (j + 1) = i + 1 + j by omega]; exact this
      · rename_i h0; exact absurd h h0
    · intro h
      rw [if_pos (show f (i : Int) b = 0 from h 0 b rfl)]
      refine (firstE_zero f l (i + 1)).2 fun j c hc => ?_
      have := h (j + 1) c (by simpa using hc);rw [show i + (j + 1) = i + 1 + j by omega] at this; exact this
def rise (m : Int) : List Int → Bool
  | [] => true
  | x :: xs => decide (m < x ∧ x ≤ 13) && rise x xs
theorem rise_len : ∀ (l : List Int) (m : Int), m ≤ 13 → rise m l = true → (l.length : Int) ≤ 13 - m
  | [], m, h, _ => by simp only [List.length_nil]; omega
  | x :: xs, m, _, h => by
    simp only [rise, Bool.and_eq_true, decide_eq_true_eq] at h;have := rise_len xs x h.1.2 h.2;simp only [List.length_cons]; omega
def badX (n : Int) (l : List Int) : Bool := l.any fun x => decide (x < 0) || decide (x ≥ n)
def exitV (n : Int) (x : S66) : Int := if rise 0 x.f0 = true then (if (x.f1.length : Int) > 1024 then 3 else if badX n x.f1 = true then 13 else 0) else 2
theorem circ_exit (n : Int) (x : S66) (hl : x.f0.length ≤ maxLen) : Ev (fun k => circ_Exit.f k n x.f0 x.f1) (exitV n x) := by
  have hm : x.f0.length ≤ 9223372036854775807 := by simp only [maxLen] at hl; omega
  unfold circ_Exit.f
  have key : ∀ (m i : Nat) (last : Int), i + m = x.f0.length → Ev (fun k => circ_Exit.l0 k last x.f0 (x.f0.length : Int) (i : Int) n x.f0 x.f1) (if rise last (x.f0.drop i) = true then (if (x.f1.length : Int) > 1024 then 3 else if badX n x.f1 = true then 13 else 0) else 2) := by
    intro m
    induction m with
    | zero =>
      intro i last hi;rw [List.drop_of_length_le (by omega)]
      refine Ev.fuel 1 fun k => ?_
      simp only [circ_Exit.l0, rise, if_true];rw [if_neg (by omega)];unfold badX qra.f
      split
      · rfl
      · simp only [Option.bind_some]
        split <;> rfl
    | succ m ih =>
      intro i last hi
      have hlt : i < x.f0.length := by omega
      have hr : rd x.f0 (i : Int) = x.f0[i] := by simp [rd, List.getD_eq_getElem?_getD, hlt]
      rw [List.drop_eq_getElem_cons hlt]
      by_cases h1 : x.f0[i] ≤ last
      · refine Ev.step (f := fun k => some 2) (fun k => ?_) ?_
        · simp only [circ_Exit.l0]
          rw [if_pos (by omega), if_pos (by omega), if_pos (by omega), hr, if_pos h1]
        · have hf : rise last (x.f0[i] :: x.f0.drop (i + 1)) = false := by
            simp only [rise];rw [show decide (last < x.f0[i] ∧ x.f0[i] ≤ 13) = false by rw [decide_eq_false_iff_not]; omega, Bool.false_and]
          rw [if_neg (by rw [hf]; decide)]; exact Ev.now _
      by_cases h2 : x.f0[i] > 13
      · refine Ev.step (f := fun k => some 2) (fun k => ?_) ?_
        · simp only [circ_Exit.l0]
          rw [if_pos (by omega), if_pos (by omega), if_pos (by omega), hr, if_neg h1, if_pos h2]
        · have hf : rise last (x.f0[i] :: x.f0.drop (i + 1)) = false := by
            simp only [rise];rw [show decide (last < x.f0[i] ∧ x.f0[i] ≤ 13) = false by rw [decide_eq_false_iff_not]; omega, Bool.false_and]
          rw [if_neg (by rw [hf]; decide)]; exact Ev.now _
      · have hd : decide (last < x.f0[i] ∧ x.f0[i] ≤ 13) = true := by simp; omega
        have he : rise last (x.f0[i] :: x.f0.drop (i + 1)) = rise x.f0[i] (x.f0.drop (i + 1)) := by
          simp only [rise];rw [hd, Bool.true_and]
        rw [he];refine Ev.step (f := fun k => circ_Exit.l0 k x.f0[i] x.f0 (x.f0.length : Int) ((i + 1 : Nat) : Int) n x.f0 x.f1) (fun k => ?_) (ih (i + 1) x.f0[i] (by omega));simp only [circ_Exit.l0];rw [if_pos (by omega), if_pos (by omega), if_pos (by omega), hr, if_neg h1, if_neg h2, wadd (by omega)]
  exact key x.f0.length 0 0 (by omega)
theorem ref_rising (l : List Int) (hl : l.length ≤ maxLen) : Ev (fun k => qla.f k 13 l) (rise 0 l) := by
  have hm : l.length ≤ 9223372036854775807 := by simp only [maxLen] at hl; omega
  unfold qla.f
  have key : ∀ (m i : Nat), i + m = l.length → (0 < i → 1 ≤ atI l ((i : Int) - 1)) → Ev (fun k => qla.l0 k 13 l l (l.length : Int) (i : Int)) (rise (if i = 0 then 0 else atI l ((i : Int) - 1)) (l.drop i)) := by
    intro m
    induction m with
    | zero =>
      intro i hi _;rw [List.drop_of_length_le (by omega)]
      refine Ev.fuel 1 fun k => ?_
      simp only [qla.l0, rise];rw [if_neg (by omega)]
    | succ m ih =>
      intro i hi h0
      have hlt : i < l.length := by omega
      have hr : rd l (i : Int) = l[i] := by simp [rd, List.getD_eq_getElem?_getD, hlt]
      have ha : atI l ((i + 1 : Nat) - 1 : Int) = l[i] := by rw [show ((i + 1 : Nat) - 1 : Int) = (i : Int) by omega]; exact hr
      rw [List.drop_eq_getElem_cons hlt];simp only [rise]
      have stop : (l[i] < 1 ∨ l[i] > 13 ∨ (0 < i ∧ atI l ((i : Int) - 1) ≥ l[i])) → Ev (fun k => qla.l0 k 13 l l (l.length : Int) (i : Int)) false := by
        intro hs
        refine Ev.fuel 1 fun k => ?_
        simp only [qla.l0];rw [if_pos (by omega), if_pos (by omega), if_pos (by omega), hr]
        by_cases a1 : l[i] < 1
        · rw [if_pos a1]
        rw [if_neg a1]
        by_cases a2 : l[i] > 13
        · rw [if_pos a2]
        rw [if_neg a2]
        have a3 : 0 < i ∧ atI l ((i : Int) - 1) ≥ l[i] := by omega
        rw [if_pos (by omega), w64_small (by omega) (by omega), if_pos (by omega), if_pos (by omega), if_pos (by exact a3.2)]
      by_cases c : l[i] < 1 ∨ l[i] > 13 ∨ (0 < i ∧ atI l ((i : Int) - 1) ≥ l[i])
      · have e : decide ((if i = 0 then 0 else atI l ((i : Int) - 1)) < l[i] ∧ l[i] ≤ 13) = false := by
          rw [decide_eq_false_iff_not]
          split
          · omega
          · rename_i hne
            have := h0 (by omega)
            omega
        rw [e, Bool.false_and];exact stop c
      · have e : decide ((if i = 0 then 0 else atI l ((i : Int) - 1)) < l[i] ∧ l[i] ≤ 13) = true := by
          rw [decide_eq_true_iff]
          split <;> omega
        rw [e, Bool.true_and];have := ih (i + 1) (by omega) (fun _ => by rw [ha]; omega);rw [if_neg (by omega), ha] at this;refine Ev.step (f := fun k => qla.l0 k 13 l l (l.length : Int) ((i + 1 : Nat) : Int)) (fun k => ?_) this;simp only [qla.l0];rw [if_pos (by omega), if_pos (by omega), if_pos (by omega), hr, if_neg (by omega), if_neg (by omega), wadd (by omega)]
        by_cases hi0 : (i : Int) > 0
        · rw [if_pos hi0, w64_small (by omega) (by omega), if_pos (by omega), if_pos (by omega), if_neg (by show ¬ (atI l ((i : Int) - 1) ≥ l[i]); omega)]
        · rw [if_neg hi0]
  have := key l.length 0 (by omega) (by omega)
  simpa using this
theorem ref_exit (n : Int) (x : S66) (hl : x.f0.length ≤ maxLen) : Ev (fun k => qoa.f k n x.f0 x.f1) (exitV n x) := by
  unfold qoa.f exitV;refine Ev.bind (ref_rising x.f0 hl) ?_
  by_cases hr : rise 0 x.f0 = true
  · simp only [if_pos hr]
    by_cases h1 : (x.f1.length : Int) > 1024
    · simp only [if_pos h1]; exact Ev.now _
    simp only [if_neg h1]
    refine up0 (g := fun k i => qoa.l0 k n x.f1 (x.f1.length : Int) (i : Int)) (R := fun i => if badX n (x.f1.drop i) = true then 13 else 0) (n := x.f1.length) ?_ fun i hi h => ?_
    · rw [List.drop_of_length_le (Nat.le_refl _)]
      refine Ev.fuel 1 fun k => ?_
      simp only [qoa.l0];rw [if_neg (by omega)]
      rfl
    · have hr : rd x.f1 (i : Int) = x.f1[i] := by simp [rd, List.getD_eq_getElem?_getD, hi]
      rw [List.drop_eq_getElem_cons hi];unfold badX at h ⊢;rw [List.any_cons]
      by_cases a1 : x.f1[i] < 0
      · refine Ev.fuel 1 fun k => ?_
        simp only [qoa.l0];rw [if_pos (by omega), if_pos (by omega), if_pos (by omega), hr, if_pos a1];simp [a1]
      by_cases a2 : x.f1[i] ≥ n
      · refine Ev.fuel 1 fun k => ?_
        simp only [qoa.l0];rw [if_pos (by omega), if_pos (by omega), if_pos (by omega), hr, if_neg a1, if_pos a2];simp [a2]
      · rw [show (decide (x.f1[i] < 0) || decide (x.f1[i] ≥ n)) = false by simp; omega, Bool.false_or]
        refine Ev.step (f := fun k => qoa.l0 k n x.f1 (x.f1.length : Int) ((i + 1 : Nat) : Int)) (fun k => ?_) h;simp only [qoa.l0];rw [if_pos (by omega), if_pos (by omega), if_pos (by omega), hr, if_neg a1, if_neg a2, wadd (by omega)]
  · simp only [if_neg hr]; exact Ev.now _
def badS (s : List S64) : Bool := s.any fun x => decide (x.f0 < 1) || decide (x.f0 > 13)
def checkV (p : Int) (s : List S64) (g : List S61) (x : List S66) : Int :=
  if isP p = true then (if (s.length : Int) > 256 ∨ (g.length : Int) > 65536 ∨ (x.length : Int) > 4096 then 3 else if badS s = true then 2 else
    if firstE (gateV p s.length) 0 g = 0 then firstE (fun _ => exitV g.length) 0 x else firstE (gateV p s.length) 0 g) else 2
theorem rdX_at {x : List S66} {i : Nat} (h : i < x.length) : rd_T66 x (i : Int) = x[i] := by simp [rd_T66, List.getD_eq_getElem?_getD, h]
theorem rdG_get {x : List S61} {i : Nat} (h : i < x.length) : rd_T61 x (i : Int) = x[i] := by simp [rd_T61, List.getD_eq_getElem?_getD, h]
theorem rdS_at {x : List S64} {i : Nat} (h : i < x.length) : rd_T64 x (i : Int) = x[i] := by simp [rd_T64, List.getD_eq_getElem?_getD, h]
theorem circ_check_exits (s : List S64) (g : List S61) (x : List S66) (hx : (x.length : Int) ≤ 4096) (hl : ∀ e ∈ x, e.f0.length ≤ maxLen) : Ev (fun k => circ_Check.l1 k x (x.length : Int) 0 s g x) (firstE (fun _ => exitV g.length) 0 x) := by
  refine up0 (g := fun k i => circ_Check.l1 k x (x.length : Int) (i : Int) s g x) (R := fun i => firstE (fun _ => exitV g.length) i (x.drop i)) (n := x.length) ?_ fun i hi h => ?_
  · rw [firstE_end]
    refine Ev.fuel 1 fun k => ?_
    simp only [circ_Check.l1];rw [if_neg (by omega)]
  · rw [firstE_step _ _ _ hi]
    refine Ev.step (f := fun k => (circ_Exit.f k (g.length : Int) x[i].f0 x[i].f1).bind fun aa => (if aa = 0 then (circ_Check.l1 k x (x.length : Int) ((i + 1 : Nat) : Int) s g x) else (some aa))) (fun k => ?_) (Ev.bind (circ_exit _ x[i] (hl _ (List.getElem_mem hi))) ?_)
    · simp only [circ_Check.l1]
      rw [if_pos (by omega), if_pos (by omega), if_pos (by omega), rdX_at hi, wadd (by omega)]
    · by_cases e : exitV g.length x[i] = 0
      · simp only [if_pos e]; exact h
      · simp only [if_neg e]; exact Ev.now _
theorem circ_check (p : Int) (s : List S64) (g : List S61) (x : List S66) (hl : ∀ e ∈ x, e.f0.length ≤ maxLen) : Ev (fun k => circ_Check.f k p s g x) (checkV p s g x) := by
  unfold circ_Check.f checkV;refine Ev.bind (field_is p) ?_
  by_cases hp : isP p = true
  · simp only [if_pos hp]
    have hp3 := ((isP_iff p).1 hp).1
    have j0t : Ev (fun k => circ_Check.j0 k p true s g x) 3 := Ev.fuel 1 fun k => by simp [circ_Check.j0]
    by_cases h1 : (s.length : Int) > 256
    · simp only [if_pos h1, if_pos (show (s.length : Int) > 256 ∨ (g.length : Int) > 65536 ∨ (x.length : Int) > 4096 from .inl h1)]; exact j0t
    by_cases h2 : (g.length : Int) > 65536
    · simp only [if_neg h1, if_pos h2, if_pos (show (s.length : Int) > 256 ∨ (g.length : Int) > 65536 ∨ (x.length : Int) > 4096 from .inr (.inl h2))]; exact j0t
    by_cases h3 : (x.length : Int) > 4096
    · simp only [if_neg h1, if_neg h2, decide_eq_true h3, if_pos (show (s.length : Int) > 256 ∨ (g.length : Int) > 65536 ∨ (x.length : Int) > 4096 from .inr (.inr h3))]; exact j0t
    simp only [if_neg h1, if_neg h2, decide_eq_false h3, if_neg (show ¬ ((s.length : Int) > 256 ∨ (g.length : Int) > 65536 ∨ (x.length : Int) > 4096) by omega)]
    have hs : api_Slot_60.f s = some (badS s) := by
      unfold api_Slot_60.f badS
      congr 2
      funext y
      unfold circ_Check_1.f
      by_cases hy : y.f0 < 1
      · simp [hy]
      · simp [hy]
    refine Ev.step (f := fun k => (api_Slot_60.f s).bind fun ab => (if ab = true then (some 2) else (circ_Check.l0 k p g (g.length : Int) 0 s g x))) (fun k => by simp [circ_Check.j0]) ?_;rw [hs]
    by_cases hb : badS s = true
    · simp only [Option.bind_some, if_pos hb]; exact Ev.now _
    simp only [Option.bind_some, if_neg hb];have hx := circ_check_exits s g x (by omega) hl
    refine up0 (g := fun k i => circ_Check.l0 k p g (g.length : Int) (i : Int) s g x) (R := fun i => if firstE (gateV p s.length) i (g.drop i) = 0 then firstE (fun _ => exitV g.length) 0 x else firstE (gateV p s.length) i (g.drop i)) (n := g.length) ?_ fun i hi h => ?_
    · rw [firstE_end, if_pos rfl]
      refine Ev.step (f := fun k => circ_Check.l1 k x (x.length : Int) 0 s g x) (fun k => ?_) hx;simp only [circ_Check.l0];rw [if_neg (by omega)]
    · rw [firstE_step _ _ _ hi]
      refine Ev.step (f := fun k => (circ_Gate.f k p (s.length : Int) (i : Int) g[i].f0 g[i].f1 g[i].f2 g[i].f3).bind fun aa => (if aa = 0 then (circ_Check.l0 k p g (g.length : Int) ((i + 1 : Nat) : Int) s g x) else (some aa))) (fun k => ?_) (Ev.bind (circ_gate p _ _ g[i] (by omega)) ?_)
      · simp only [circ_Check.l0]
        rw [if_pos (by omega), if_pos (by omega), if_pos (by omega), rdG_get hi, wadd (by omega)]
      · by_cases e : gateV p s.length i g[i] = 0
        · simp only [if_pos e]; exact h
        · simp only [if_neg e]; exact Ev.now _
  · simp only [if_neg hp]; exact Ev.now _
theorem ref_check_exits (s : List S64) (g : List S61) (x : List S66) (hx : (x.length : Int) ≤ 4096) (hl : ∀ e ∈ x, e.f0.length ≤ maxLen) : Ev (fun k => qea.l2 k x (x.length : Int) 0 s g x) (firstE (fun _ => exitV g.length) 0 x) := by
  refine up0 (g := fun k i => qea.l2 k x (x.length : Int) (i : Int) s g x) (R := fun i => firstE (fun _ => exitV g.length) i (x.drop i)) (n := x.length) ?_ fun i hi h => ?_
  · rw [firstE_end]
    refine Ev.fuel 1 fun k => ?_
    simp only [qea.l2];rw [if_neg (by omega)]
  · rw [firstE_step _ _ _ hi]
    refine Ev.step (f := fun k => (qoa.f k (g.length : Int) x[i].f0 x[i].f1).bind fun aa => (if aa = 0 then (qea.l2 k x (x.length : Int) ((i + 1 : Nat) : Int) s g x) else (some aa))) (fun k => ?_) (Ev.bind (ref_exit _ x[i] (hl _ (List.getElem_mem hi))) ?_)
    · simp only [qea.l2]
      rw [if_pos (by omega), if_pos (by omega), if_pos (by omega), rdX_at hi, wadd (by omega)]
    · by_cases e : exitV g.length x[i] = 0
      · simp only [if_pos e]; exact h
      · simp only [if_neg e]; exact Ev.now _
theorem ref_check (p : Int) (s : List S64) (g : List S61) (x : List S66) (hl : ∀ e ∈ x, e.f0.length ≤ maxLen) : Ev (fun k => qea.f k p s g x) (checkV p s g x) := by
  unfold qea.f checkV;refine Ev.bind (ref_is p) ?_
  by_cases hp : isP p = true
  · simp only [if_pos hp]
    have hp3 := ((isP_iff p).1 hp).1
    have j0t : Ev (fun k => qea.j0 k p true s g x) 3 := Ev.fuel 1 fun k => by simp [qea.j0]
    by_cases h1 : (s.length : Int) > 256
    · simp only [if_pos h1, if_pos (show (s.length : Int) > 256 ∨ (g.length : Int) > 65536 ∨ (x.length : Int) > 4096 from .inl h1)]; exact j0t
    by_cases h2 : (g.length : Int) > 65536
    · simp only [if_neg h1, if_pos h2, if_pos (show (s.length : Int) > 256 ∨ (g.length : Int) > 65536 ∨ (x.length : Int) > 4096 from .inr (.inl h2))]; exact j0t
    by_cases h3 : (x.length : Int) > 4096
    · simp only [if_neg h1, if_neg h2, decide_eq_true h3, if_pos (show (s.length : Int) > 256 ∨ (g.length : Int) > 65536 ∨ (x.length : Int) > 4096 from .inr (.inr h3))]; exact j0t
    simp only [if_neg h1, if_neg h2, decide_eq_false h3, if_neg (show ¬ ((s.length : Int) > 256 ∨ (g.length : Int) > 65536 ∨ (x.length : Int) > 4096) by omega)];refine Ev.step (f := fun k => qea.l0 k p s (s.length : Int) 0 s g x) (fun k => by simp [qea.j0]) ?_;have hx := ref_check_exits s g x (by omega) hl
    have hg : Ev (fun k => qea.l1 k p g (g.length : Int) 0 s g x) (if firstE (gateV p s.length) 0 g = 0 then firstE (fun _ => exitV g.length) 0 x else firstE (gateV p s.length) 0 g) := by
      refine up0 (g := fun k i => qea.l1 k p g (g.length : Int) (i : Int) s g x) (R := fun i => if firstE (gateV p s.length) i (g.drop i) = 0 then firstE (fun _ => exitV g.length) 0 x else firstE (gateV p s.length) i (g.drop i)) (n := g.length) ?_ fun i hi h => ?_
      · rw [firstE_end, if_pos rfl]
        refine Ev.step (f := fun k => qea.l2 k x (x.length : Int) 0 s g x) (fun k => ?_) hx;simp only [qea.l1];rw [if_neg (by omega)]
      · rw [firstE_step _ _ _ hi]
        refine Ev.step (f := fun k => (qda.f k p (s.length : Int) (i : Int) g[i].f0 g[i].f1 g[i].f2 g[i].f3).bind fun aa => (if aa = 0 then (qea.l1 k p g (g.length : Int) ((i + 1 : Nat) : Int) s g x) else (some aa))) (fun k => ?_) (Ev.bind (ref_gate p _ _ g[i]) ?_)
        · simp only [qea.l1]
          rw [if_pos (by omega), if_pos (by omega), if_pos (by omega), rdG_get hi, wadd (by omega)]
        · by_cases e : gateV p s.length i g[i] = 0
          · simp only [if_pos e]; exact h
          · simp only [if_neg e]; exact Ev.now _
    refine up0 (g := fun k i => qea.l0 k p s (s.length : Int) (i : Int) s g x) (R := fun i => if badS (s.drop i) = true then 2 else (if firstE (gateV p s.length) 0 g = 0 then firstE (fun _ => exitV g.length) 0 x else firstE (gateV p s.length) 0 g)) (n := s.length) ?_ fun i hi h => ?_
    · rw [List.drop_of_length_le (Nat.le_refl _)]
      refine Ev.step (f := fun k => qea.l1 k p g (g.length : Int) 0 s g x) (fun k => ?_) hg;simp only [qea.l0];rw [if_neg (by omega)]
    · rw [List.drop_eq_getElem_cons hi]
      unfold badS at h ⊢;rw [List.any_cons]
      by_cases a1 : s[i].f0 < 1
      · refine Ev.fuel 1 fun k => ?_
        simp only [qea.l0];rw [if_pos (by omega), if_pos (by omega), if_pos (by omega), rdS_at hi, if_pos a1];simp [a1]
      by_cases a2 : s[i].f0 > 13
      · refine Ev.fuel 1 fun k => ?_
        simp only [qea.l0];rw [if_pos (by omega), if_pos (by omega), if_pos (by omega), rdS_at hi, if_neg a1, if_pos a2];simp [a2]
      · rw [show (decide (s[i].f0 < 1) || decide (s[i].f0 > 13)) = false by simp; omega, Bool.false_or]
        refine Ev.step (f := fun k => qea.l0 k p s (s.length : Int) ((i + 1 : Nat) : Int) s g x) (fun k => ?_) h;simp only [qea.l0];rw [if_pos (by omega), if_pos (by omega), if_pos (by omega), rdS_at hi, if_neg a1, if_neg a2, wadd (by omega)]
  · simp only [if_neg hp]; exact Ev.now _
structure Good (p : Int) (s : List S64) (g : List S61) (x : List S66) : Prop where
  prime : isP p = true
  ls : s.length ≤ 256
  lg : g.length ≤ 65536
  lx : x.length ≤ 4096
  slots : badS s = false
  gates : okL p s.length g
  exits : ∀ e ∈ x, exitV g.length e = 0
theorem good_of {p : Int} {s : List S64} {g : List S61} {x : List S66} (h : checkV p s g x = 0) (h3 : ∀ e ∈ g, 0 ≤ e.f3) : Good p s g x := by
  unfold checkV at h
  split at h
  · rename_i hp
    split at h
    · cases h
    rename_i hl
    split at h
    · cases h
    rename_i hb
    split at h
    · rename_i hg
      refine ⟨hp, by omega, by omega, by omega, by simpa using hb, ?_, ?_⟩
      · intro i y hy
        have := (firstE_zero _ g 0).1 hg i y hy;rw [Nat.zero_add] at this;exact (gateV_ok (h3 y (List.mem_of_getElem? hy))).1 this
      · intro e he
        obtain ⟨j, hj⟩ := List.getElem?_of_mem he;exact (firstE_zero _ x 0).1 h j e hj
    · rename_i hg; exact absurd h hg
  · cases h
theorem Good.check {p : Int} {s : List S64} {g : List S61} {x : List S66} (h : Good p s g x) : checkV p s g x = 0 := by
  have hg : firstE (gateV p s.length) 0 g = 0 := (firstE_zero _ g 0).2 fun j b hb => by
    have := h.gates j b hb;rw [Nat.zero_add];exact (gateV_ok (by unfold okG at this; omega)).2 this
  have hx : firstE (fun _ => exitV g.length) 0 x = 0 := (firstE_zero _ x 0).2 fun j b hb => h.exits b (List.mem_of_getElem? hb)
  unfold checkV;have := h.ls;have := h.lg;have := h.lx;rw [if_pos h.prime, if_neg (by omega), h.slots, hg, hx]
  rfl
theorem Good.pos {p : Int} {s : List S64} {g : List S61} {x : List S66} (h : Good p s g x) : 0 < p := by
  have := (isP_iff p).1 h.prime; omega
theorem Good.small {p : Int} {s : List S64} {g : List S61} {x : List S66} (h : Good p s g x) : p ≤ 65537 := by
  have := (isP_iff p).1 h.prime; omega
theorem exitV_zero {n : Int} {e : S66} (h : exitV n e = 0) : e.f0.length ≤ 13 ∧ e.f1.length ≤ 1024 ∧ ∀ x ∈ e.f1, 0 ≤ x ∧ x < n := by
  unfold exitV at h
  split at h
  · rename_i hr
    split at h
    · cases h
    rename_i hl
    split at h
    · cases h
    rename_i hb;have := rise_len _ _ (by omega) hr;refine ⟨by omega, by omega, fun x hx => ?_⟩;rw [Bool.not_eq_true] at hb;unfold badX at hb;have := List.any_eq_false.1 hb x hx;simp at this
    omega
  · cases h
theorem exitV_map {n n' : Int} {e : S66} {f : Int → Int} (h : exitV n e = 0) (hf : ∀ x, 0 ≤ x → x < n → x ∈ e.f1 → 0 ≤ f x ∧ f x < n') : exitV n' ⟨e.f0, e.f1.map f⟩ = 0 := by
  obtain ⟨h1, h2, h3⟩ := exitV_zero h
  have hr : rise 0 e.f0 = true := by
    unfold exitV at h
    split at h
    · assumption
    · cases h
  unfold exitV;simp only;rw [if_pos hr, List.length_map, if_neg (by omega), if_neg];unfold badX;rw [Bool.not_eq_true, List.any_eq_false];intro y hy;obtain ⟨x, hx, rfl⟩ := List.mem_map.1 hy;have := h3 x hx;have := hf x this.1 this.2 hx;simp; omega
theorem Good.other {p : Int} {s : List S64} {g g' : List S61} {x : List S66} {f : Int → Int} (h : Good p s g x) (hg : okL p s.length g') (hl : g'.length ≤ g.length)
    (hf : ∀ e ∈ x, ∀ y ∈ e.f1, 0 ≤ f y ∧ f y < g'.length) : Good p s g' (x.map fun e => ⟨e.f0, e.f1.map f⟩) :=
  ⟨h.prime, h.ls, by have := h.lg; omega, by rw [List.length_map]; exact h.lx, h.slots, hg, fun e he => by
    obtain ⟨e', he', rfl⟩ := List.mem_map.1 he
    exact exitV_map (h.exits e' he') fun y _ _ hy => hf e' he' y hy⟩
end Go.Proofs.Ytmlbliggbkfjnaa.L
