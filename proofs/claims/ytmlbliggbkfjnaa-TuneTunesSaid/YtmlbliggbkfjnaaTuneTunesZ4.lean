/- Part 4 of the proof of TuneTunes: what the functions compute as plain Lean functions, that the machine comes to just these answers, and that the answer is true; no conditions. -/
import Derived.Test.YtmlbliggbkfjnaaTuneTunesZ0
import Derived.Test.YtmlbliggbkfjnaaTuneTunesZ1
import Derived.Test.YtmlbliggbkfjnaaTuneTunesZ2
import Derived.Test.YtmlbliggbkfjnaaTuneTunesZ3
set_option linter.unusedSimpArgs false
set_option linter.unusedVariables false
set_option maxHeartbeats 8000000
set_option maxRecDepth 100000
namespace Go.Proofs.Ytmlbliggbkfjnaa.J
open Go.RowKit Go.Proofs.YtmlbliggbkfjnaaW.PrintWords Go.Proofs.YtmlbliggbkfjnaaW.PrintLast Go.Proofs.YtmlbliggbkfjnaaW.PrintMore
attribute [local go_sem] max2_int min2_int max_two min_two max_three min_three max_four min_four
def qta.l0 : Nat → List Int → List Int → Int → Int → Option (Bool)
 | 0, _, _, _, _ => none
 | k + 1, x0, x1, x12, x13 => if x13 < x12 then (if 0 ≤ x13 then (if x13 < (x0.length : Int) then (if x13 < (x1.length : Int) then (if (rd x0 x13) = (rd x1 x13) then (qta.l0 k x0 x1 x12 (wrap64 (x13 + 1))) else (some false)) else (none)) else (none)) else (none)) else (some true)
def qta.f (k : Nat) (l0 : List Int) (l1 : List Int) : Option (Bool) := if (l0.length : Int) = (l1.length : Int) then (qta.l0 k l0 l1 (l0.length : Int) 0) else (some false)
theorem qta.calls (k : Nat) (A0 : Option Addr) (c0 : Nat) (l0 : List Int) (A1 : Option Addr) (c1 : Nat) (l1 : List Int) (r : Bool) (w : World) (hr0 : Kd.C (Kd.int .i64) w A0 l0.length l0) (hc0 : l0.length ≤ c0) (hr1 : Kd.C (Kd.int .i64) w A1 l1.length l1) (hc1 : l1.length ≤ c1) (h : qta.f k l0 l1 = some r) :
  Calls Try.prog 56 #[.slice A0 l0.length c0, .slice A1 l1.length c1] w fun e w' => e = .returned (.bool r) ∧ Drawn0 w w' := by
 have HR0 := Aside0.mk hr0;have HC0 := Aside0.mk hc0;clear hr0 hc0;have HR1 := Aside0.mk hr1;have HC1 := Aside0.mk hc1;clear hr1 hc1;have H : (if (l0.length : Int) = (l1.length : Int) then (qta.l0 k l0 l1 (l0.length : Int) 0) else (some false)) = some r := h;clear h
 by_cases c3 : (l0.length : Int) = (l1.length : Int)
 rotate_left
 ·rw [if_neg c3] at H
  have ak := beq_eq_false_iff_ne.mpr c3;have al := bne_iff_ne.mpr c3
  have an : (l0.length == l1.length) = false := by first | simpa using c3 | (simp at c3 ⊢; omega)
  obtain rfl := qqI H;go_enter Try.func56, Try.ntmps56;go_wp2
  repeat (go_quiet (fail); try go_wp2)
  go_ret;exact ⟨et, by repeat (first | exact Drawn0.refl _ | apply Drawn0.step)⟩
 rw [if_pos c3] at H;have ak := beq_iff_eq.mpr c3;have al := bne_eq_false_iff_eq.mpr c3
 have an : (l0.length == l1.length) = true := by first | simpa using c3 | (simp at c3 ⊢; omega)
 clear c3;have H' := Aside0.mk H;clear H;go_enter Try.func56, Try.ntmps56;go_wp2
 repeat (go_quiet (fail); try go_wp2)
 go_loopg [13] k (fun kq v13 w' => ∃ (aa : Int), v13 = .int .i64 aa ∧ Aside0 (qta.l0 kq l0 l1 (l0.length : Int) aa = some r) ∧ Aside0 (kq ≤ k) ∧ Drawn0 w w')
 case atStart => exact ⟨(0), et, H', ⟨Nat.le_refl _⟩, by repeat (first | exact Drawn0.refl _ | apply Drawn0.step)⟩
 case round =>
  clear H';(try clear ak al an);obtain ⟨aa, rfl, HA, HK1, ⟨m1, rfl⟩⟩ := hrel
  cases gk with
  | zero => exact absurd HA.out (by simp [qta.l0])
  | succ k1 =>
   have H := HA.out;clear HA;simp only [qta.l0] at H
   by_cases c4 : aa < (l0.length : Int)
   rotate_left
   ·rw [if_neg c4] at H
    have aq := qqF c4;clear c4;obtain rfl := qqI H;go_wp2
    repeat (go_quiet (fail); try go_wp2)
    go_ret;exact ⟨et, by repeat (first | exact Drawn0.refl _ | apply Drawn0.step)⟩
   rw [if_pos c4] at H;have aq := qqT c4;clear c4
   by_cases c5 : 0 ≤ aa
   rotate_left
   ·rw [if_neg c5] at H
    exact absurd H (by simp)
   rw [if_pos c5] at H;have av := qqT c5;clear c5
   by_cases c6 : aa < (l0.length : Int)
   rotate_left
   ·rw [if_neg c6] at H
    exact absurd H (by simp)
   rw [if_pos c6] at H;have aw := qqT c6;clear c6
   by_cases c7 : aa < (l1.length : Int)
   rotate_left
   ·rw [if_neg c7] at H
    exact absurd H (by simp)
   rw [if_pos c7] at H;have ax := qqT c7;clear c7
   by_cases c8 : (rd l0 aa) = (rd l1 aa)
   rotate_left
   ·rw [if_neg c8] at H
    have ar := beq_eq_false_iff_ne.mpr c8;have au := bne_iff_ne.mpr c8;obtain rfl := qqI H;have ab : 0 ≤ (aa : Int) := od;have ad : aa < (l0.length : Int) := od;obtain ⟨ao, ai, ag⟩ := Kd.at_int HR0.out aa ab ad;cases ai;replace ab := eq_true ab; replace ad := eq_true ad;have ae : 0 ≤ (aa : Int) := od;have af : aa < (l1.length : Int) := od;obtain ⟨ap, aj, ah⟩ := Kd.at_int HR1.out aa ae af;cases aj;replace ae := eq_true ae; replace af := eq_true af;go_wp2
    repeat (go_quiet (fail); try go_wp2)
    go_ret;exact ⟨et, by repeat (first | exact Drawn0.refl _ | apply Drawn0.step)⟩
   rw [if_pos c8] at H;have ar := beq_iff_eq.mpr c8;have au := bne_eq_false_iff_eq.mpr c8;clear c8;have H' := Aside0.mk H;clear H;have ab : 0 ≤ (aa : Int) := od;have ad : aa < (l0.length : Int) := od;obtain ⟨ao, ai, ag⟩ := Kd.at_int HR0.out aa ab ad;cases ai;replace ab := eq_true ab; replace ad := eq_true ad;have ae : 0 ≤ (aa : Int) := od;have af : aa < (l1.length : Int) := od;obtain ⟨ap, aj, ah⟩ := Kd.at_int HR1.out aa ae af;cases aj;replace ae := eq_true ae; replace af := eq_true af;go_wp2
   repeat (go_quiet (fail); try go_wp2)
   go_roundg k1
   case measure => have := HK1.out; omega
   case rel => exact ⟨(wrap64 (aa + 1)), et, H', ⟨by have := HK1.out; omega⟩, by repeat (first | exact Drawn0.refl _ | apply Drawn0.step)⟩
end Go.Proofs.Ytmlbliggbkfjnaa.J
namespace Go.Proofs.Ytmlbliggbkfjnaa.J
open Go.RowKit Go.Proofs.YtmlbliggbkfjnaaW.PrintWords Go.Proofs.YtmlbliggbkfjnaaW.PrintLast Go.Proofs.YtmlbliggbkfjnaaW.PrintMore
attribute [local go_sem] max2_int min2_int max_two min_two max_three min_three max_four min_four
attribute [local go_sem high] eqA61 eqA64
mutual
def qca.j0 : Nat → Bool → List (S64) → List (S61) → List (S66) → List (S64) → List (S61) → List (S66) → Option (Bool)
 | 0, _, _, _, _, _, _, _ => none
 | k + 1, x32, ad, aa, ae, af, ab, ag => if x32 = true then (some false) else (qca.l0 k (ad.length : Int) 0 ad aa ae af ab ag)
def qca.l0 : Nat → Int → Int → List (S64) → List (S61) → List (S66) → List (S64) → List (S61) → List (S66) → Option (Bool)
 | 0, _, _, _, _, _, _, _, _ => none
 | k + 1, x35, x36, ad, aa, ae, af, ab, ag => if x36 < x35 then (if 0 ≤ x36 then (if x36 < (ad.length : Int) then (if x36 < (af.length : Int) then (if (!(((rd_T64 ad x36).f0) == ((rd_T64 af x36).f0)) || (!(((rd_T64 ad x36).f1) == ((rd_T64 af x36).f1)))) = true then (some false) else (qca.l0 k x35 (wrap64 (x36 + 1)) ad aa ae af ab ag)) else (none)) else (none)) else (none)) else (qca.l1 k (aa.length : Int) 0 ad aa ae af ab ag)
def qca.l1 : Nat → Int → Int → List (S64) → List (S61) → List (S66) → List (S64) → List (S61) → List (S66) → Option (Bool)
 | 0, _, _, _, _, _, _, _, _ => none
 | k + 1, x53, x54, ad, aa, ae, af, ab, ag => if x54 < x53 then (if 0 ≤ x54 then (if x54 < (aa.length : Int) then (if x54 < (ab.length : Int) then (if (!(((rd_T61 aa x54).f0) == ((rd_T61 ab x54).f0)) || (!(((rd_T61 aa x54).f1) == ((rd_T61 ab x54).f1)) || (!(((rd_T61 aa x54).f2) == ((rd_T61 ab x54).f2)) || (!(((rd_T61 aa x54).f3) == ((rd_T61 ab x54).f3)))))) = true then (some false) else (qca.l1 k x53 (wrap64 (x54 + 1)) ad aa ae af ab ag)) else (none)) else (none)) else (none)) else (qca.l2 k (ae.length : Int) 0 ad aa ae af ab ag)
def qca.l2 : Nat → Int → Int → List (S64) → List (S61) → List (S66) → List (S64) → List (S61) → List (S66) → Option (Bool)
 | 0, _, _, _, _, _, _, _, _ => none
 | k + 1, x71, x72, ad, aa, ae, af, ab, ag => if x72 < x71 then (if 0 ≤ x72 then (if x72 < (ae.length : Int) then (if x72 < (ag.length : Int) then ((qta.f k ((rd_T66 ae x72).f0) ((rd_T66 ag x72).f0)).bind fun ah => (if ah = true then ((qta.f k ((rd_T66 ae x72).f1) ((rd_T66 ag x72).f1)).bind fun ai => (if ai = true then (qca.l2 k x71 (wrap64 (x72 + 1)) ad aa ae af ab ag) else (some false))) else (some false))) else (none)) else (none)) else (none)) else (some true)
end
def qca.f (k : Nat) (aa : List (S64)) (ab : List (S61)) (ad : List (S66)) (ae : List (S64)) (af : List (S61)) (ag : List (S66)) : Option (Bool) := if (aa.length : Int) = (ae.length : Int) then (if (ab.length : Int) = (af.length : Int) then (qca.j0 k ((ad.length : Int) != (ag.length : Int)) aa ab ad ae af ag) else (qca.j0 k true aa ab ad ae af ag)) else (qca.j0 k true aa ab ad ae af ag)
def qca.T6 : Bool × List (List Nat × List Nat) := (true, [([], []), ([0], [0]), ([], []), ([1, 2], [1, 2]), ([3], [3]), ([], []), ([5], [5]), ([], []), ([6, 7], [6, 7]), ([8], [8]), ([4, 9], [4, 9])])
def qca.B6 : List Nat := [0, 1, 0, 7, 15, 0, 32, 0, 224, 480, 1023]
theorem qca.tab6 : rtab .any (opsOf Try.f29 6) = qca.T6 := by kernel_rfl
theorem qca.bits6 : waitsOk qca.T6.2 qca.B6 = true := by kernel_rfl
def qca.T12 : Bool × List (List Nat × List Nat) := (true, [([], []), ([0], [0]), ([], []), ([1, 2], [1, 2]), ([3], [3]), ([], []), ([5], [5]), ([], []), ([6, 7], [6, 7]), ([8], [8]), ([4, 9], [4, 9])])
def qca.B12 : List Nat := [0, 1, 0, 7, 15, 0, 32, 0, 224, 480, 1023]
theorem qca.tab12 : rtab .any (opsOf Try.f29 12) = qca.T12 := by kernel_rfl
theorem qca.bits12 : waitsOk qca.T12.2 qca.B12 = true := by kernel_rfl
def qca.T18 : Bool × List (List Nat × List Nat) := (true, [([], []), ([0], [0]), ([], []), ([1, 2], [1, 2]), ([3], [3]), ([4], [4]), ([], []), ([6], [6]), ([], []), ([7, 8], [7, 8]), ([9], [9]), ([10], [10]), ([5, 11], [5, 11]), ([12], [12]), ([13, 12], [13]), ([14], [14]), ([15, 14], [14, 15]), ([14], [14]), ([16, 17, 14], [14, 16, 17]), ([18, 14], [14, 18]), ([19, 14], [14, 19]), ([14], [14]), ([21, 14], [14, 21]), ([14], [14]), ([22, 23, 14], [14, 22, 23]), ([24, 14], [14, 24]), ([25, 14], [14, 25]), ([20, 26, 14, 14], [14, 20, 26]), ([27, 14], [14, 27]), ([14, 28], [14, 28])])
def qca.B18 : List Nat := [0, 1, 0, 7, 15, 31, 0, 64, 0, 448, 960, 1984, 4095, 8191, 16383, 32767, 65535, 32767, 262143, 524287, 1048575, 32767, 2129919, 32767, 14712831, 31490047, 65044479, 134217727, 268435455, 536870911]
theorem qca.tab18 : rtab .any (opsOf Try.f29 18) = qca.T18 := by kernel_rfl
theorem qca.bits18 : waitsOk qca.T18.2 qca.B18 = true := by kernel_rfl
theorem qca.calls (k : Nat) (bH : Option Addr) (bn : Nat) (ap : List (S64)) (bI : Option Addr) (bo : Nat) (ah : List (S61)) (bL : Option Addr) (bp : Nat) (ag : List (S66)) (bJ : Option Addr) (bq : Nat) (aq : List (S64)) (bK : Option Addr) (br : Nat) (aj : List (S61)) (bM : Option Addr) (bt : Nat) (ai : List (S66)) (r : Bool) (w : World) (cG : Kd.C k64 w bH ap.length ap) (cH : ap.length ≤ bn) (cI : Kd.C k61 w bI ah.length ah) (cJ : ah.length ≤ bo) (cK : Kd.C k66 w bL ag.length ag) (cL : ag.length ≤ bp) (cM : Kd.C k64 w bJ aq.length aq) (cN : aq.length ≤ bq) (cO : Kd.C k61 w bK aj.length aj) (cP : aj.length ≤ br) (cQ : Kd.C k66 w bM ai.length ai) (cR : ai.length ≤ bt) (h : qca.f k ap ah ag aq aj ai = some r) :
  Calls Try.prog 29 #[.agg #[.slice bH ap.length bn, .slice bI ah.length bo, .slice bL ag.length bp], .agg #[.slice bJ aq.length bq, .slice bK aj.length br, .slice bM ai.length bt]] w fun e w' => e = .returned (.bool r) ∧ Below w.heap.size w w' := by
 have hu26 := Try.underlying26;have hu64 := Try.underlying64;have hu61 := Try.underlying61;have cS := Aside0.mk cG;have dA := Aside0.mk cH;clear cG cH;have cT := Aside0.mk cI;have dB := Aside0.mk cJ;clear cI cJ;have ch := Aside0.mk cK;have dC := Aside0.mk cL;clear cK cL;have cU := Aside0.mk cM;have dD := Aside0.mk cN;clear cM cN;have cV := Aside0.mk cO;have dE := Aside0.mk cP;clear cO cP;have ci := Aside0.mk cQ;have dF := Aside0.mk cR;clear cQ cR;have HB := Aside0.mk (Below.refl w.heap.size w);have H : (if (ap.length : Int) = (aq.length : Int) then (if (ah.length : Int) = (aj.length : Int) then (qca.j0 k ((ag.length : Int) != (ai.length : Int)) ap ah ag aq aj ai) else (qca.j0 k true ap ah ag aq aj ai)) else (qca.j0 k true ap ah ag aq aj ai)) = some r := h;clear h;have HC3 := Aside0.mk H;clear H;go_enter Try.func29, Try.ntmps29;go_upto_region 1 with (first | ((with_reducible refine qfa (N := 2) rfl ?_); (try (refine gate_guard (by rfl) ?_; dsimp only)); refine qha ?hg (N := 2) ?hd (cs := #[.slice bH ap.length bn, .slice bI ah.length bo, .slice bL ag.length bp]) (t := 26) ?hr ?_; (case hd | hg => rfl); (case hr => go_simp; try rfl); intro ar hg w4 hbox hb; have ad := am hbox; have dG := kG HB hg; have dH := kG HB hg; replace HB := kH HB hb; clear hb hbox hg) | ((with_reducible refine qfa (N := 3) rfl ?_); (try (refine gate_guard (by rfl) ?_; dsimp only)); refine qha ?hg (N := 3) ?hd (cs := #[.slice bJ aq.length bq, .slice bK aj.length br, .slice bM ai.length bt]) (t := 26) ?hr ?_; (case hd | hg => rfl); (case hr => go_simp; try rfl); intro au hg w5 hbox hb; have ae := am hbox; have dI := kG HB hg; have dJ := kG HB hg; replace HB := kH HB hb; have aT := kP ad hg; have aU := kQ ad hg; replace ad := kU ad hb; clear hb hbox hg));(try simp only [Act.put, qS1, qS2, qS3]);go_cut [32] (fun v32 wc => ∃ (kq : Nat) (cw : Bool), v32 = .bool cw ∧ Aside0 (qca.j0 kq cw ap ah ag aq aj ai = some r) ∧ Aside0 (kq ≤ k) ∧ Aside0 (wc.heap[ar]? = some (.cells #[(.slice bH ap.length bn), (.slice bI ah.length bo), (.slice bL ag.length bp)] 26 (0, 0))) ∧ Aside0 (wc.heap[au]? = some (.cells #[(.slice bJ aq.length bq), (.slice bK aj.length br), (.slice bM ai.length bt)] 26 (0, 0))) ∧ Aside0 (Below w.heap.size w wc))
 case first =>
  have H := HC3.out;clear HC3
  by_cases c6 : (ap.length : Int) = (aq.length : Int)
  rotate_left
  ·rw [if_neg c6] at H
   have cz := beq_eq_false_iff_ne.mpr c6;have dt := bne_iff_ne.mpr c6
   have du : (ap.length == aq.length) = false := by first | simpa using c6 | (simp at c6 ⊢; omega)
   (first | rw [cz] | (simp only [i64_w, i32_w]; rw [cz]) | skip);have H' := Aside0.mk H;clear H;have dK := aT.out;have dL := aU.out;have Z15 := kz3 ad;have Z16 := kz3 ae;go_wp2;go_meet
   case rel => exact ⟨_, (true), et, H', ⟨by first | omega | exact Nat.le_refl _⟩, ⟨kg ad⟩, ⟨kg ae⟩, ⟨kh HB⟩⟩
  rw [if_pos c6] at H;have cz := beq_iff_eq.mpr c6;have dt := bne_eq_false_iff_eq.mpr c6
  have du : (ap.length == aq.length) = true := by first | simpa using c6 | (simp at c6 ⊢; omega)
  clear c6;(first | rw [cz] | (simp only [i64_w, i32_w]; rw [cz]) | skip)
  by_cases c7 : (ah.length : Int) = (aj.length : Int)
  rotate_left
  ·rw [if_neg c7] at H
   have dv := beq_eq_false_iff_ne.mpr c7;have dw := bne_iff_ne.mpr c7
   have dx : (ah.length == aj.length) = false := by first | simpa using c7 | (simp at c7 ⊢; omega)
   have H' := Aside0.mk H;clear H;have dM := aT.out;have dN := aU.out;have Z12 := kz3 ad;have Z13 := kz3 ae;go_wp2;go_meet
   case rel => exact ⟨_, (true), et, H', ⟨by first | omega | exact Nat.le_refl _⟩, ⟨kg ad⟩, ⟨kg ae⟩, ⟨kh HB⟩⟩
  rw [if_pos c7] at H;have dv := beq_iff_eq.mpr c7;have dw := bne_eq_false_iff_eq.mpr c7
  have dx : (ah.length == aj.length) = true := by first | simpa using c7 | (simp at c7 ⊢; omega)
  clear c7;have H' := Aside0.mk H;clear H;have ed := aT.out;have ee := aU.out;have Z9 := kz3 ad;have Z10 := kz3 ae;go_wp2;go_meet
  case rel => exact ⟨_, (((ag.length : Int) != (ai.length : Int))), et, H', ⟨by first | omega | exact Nat.le_refl _⟩, ⟨kg ad⟩, ⟨kg ae⟩, ⟨kh HB⟩⟩
 clear HC3;obtain ⟨kq, cw, rfl, HA, HJ2, ad, ae, HB⟩ := hcut
 cases kq with
 | zero => exact absurd HA.out (by simp [qca.j0])
 | succ kj2 =>
  have H := HA.out;clear HA;simp only [qca.j0] at H
  by_cases c17 : cw = true
  ·subst c17
   replace H := ifT H;obtain rfl := qqI H;go_wp2;go_ret;exact ⟨er, kh HB⟩
  replace c17 := Bool.eq_false_iff.mpr c17;subst c17;replace H := ifF H;have H' := Aside0.mk H;clear H;have dO := aT.out;have dP := aU.out;have Z19 := kz3 ad;go_wp2;go_loopg [36] kj2 (fun kq v36 w' => ∃ (af : Int), v36 = .int .i64 af ∧ Aside0 (qca.l0 kq (ap.length : Int) af ap ah ag aq aj ai = some r) ∧ Aside0 (kq ≤ kj2) ∧ Aside0 (w'.heap[ar]? = some (.cells #[(.slice bH ap.length bn), (.slice bI ah.length bo), (.slice bL ag.length bp)] 26 (0, 0))) ∧ Aside0 (w'.heap[au]? = some (.cells #[(.slice bJ aq.length bq), (.slice bK aj.length br), (.slice bM ai.length bt)] 26 (0, 0))) ∧ Aside0 (Below w.heap.size w w'))
  case atStart => exact ⟨(0), et, H', ⟨Nat.le_refl _⟩, ⟨kg ad⟩, ⟨kg ae⟩, ⟨kh HB⟩⟩
  case round =>
   clear H';(try clear c17 Z19);obtain ⟨af, rfl, HA, HK2, ad, ae, HB⟩ := hrel
   cases gk with
   | zero => exact absurd HA.out (by simp [qca.l0])
   | succ k2 =>
    have H := HA.out;clear HA;simp only [qca.l0] at H
    by_cases c20 : af < (ap.length : Int)
    ·rw [if_pos c20] at H
     have cW := qqT c20;clear c20
     by_cases c21 : 0 ≤ af
     rotate_left
     ·rw [if_neg c21] at H
      exact absurd H (by simp)
     rw [if_pos c21] at H;have dQ := qqT c21;clear c21
     by_cases c22 : af < (ap.length : Int)
     rotate_left
     ·rw [if_neg c22] at H
      exact absurd H (by simp)
     rw [if_pos c22] at H;have dR := qqT c22;clear c22
     by_cases c23 : af < (aq.length : Int)
     rotate_left
     ·rw [if_neg c23] at H
      exact absurd H (by simp)
     rw [if_pos c23] at H;have dS := qqT c23;clear c23
     by_cases c24 : (!(((rd_T64 ap af).f0) == ((rd_T64 aq af).f0)) || (!(((rd_T64 ap af).f1) == ((rd_T64 aq af).f1)))) = true
     ·rw [if_pos c24] at H
      have dm : (!(((rd_T64 ap af).f0) == ((rd_T64 aq af).f0)) || (!(((rd_T64 ap af).f1) == ((rd_T64 aq af).f1)))) = true := c24;clear c24;obtain rfl := qqI H;(try go_wp2);replace ad := kD ad; replace ae := kD ae; replace HB := kE HB;have cj : 0 ≤ (af : Int) := od;have ck : af < (ap.length : Int) := od;obtain ⟨bu, cY, aB, aC⟩ := at_T64 cS.out af cj ck;have bR := aC; have bS := aB;cases cY;replace aB := (HB.out.cell (qqW w _ aB)).trans aB;replace aC := (HB.out.cell (qqW w _ aC)).trans aC;replace cj := eq_true cj; replace ck := eq_true ck;have cl : 0 ≤ (af : Int) := od;have cm : af < (aq.length : Int) := od;obtain ⟨bv, cZ, aD, aE⟩ := at_T64 cU.out af cl cm;have bT := aE; have bU := aD;cases cZ;replace aD := (HB.out.cell (qqW w _ aD)).trans aD;replace aE := (HB.out.cell (qqW w _ aE)).trans aE;replace cl := eq_true cl; replace cm := eq_true cm;refine start_ (n := 11) (S := fun w' => w'.cell? ⟨ar, 0, none⟩ = some (.slice (some bu) ap.length bn) ∧ w'.cell? ⟨ar, 1, none⟩ = some (.slice bI ah.length bo) ∧ w'.cell? ⟨ar, 2, none⟩ = some (.slice bL ag.length bp) ∧ w'.cell? ⟨au, 0, none⟩ = some (.slice (some bv) aq.length bq) ∧ w'.cell? ⟨au, 1, none⟩ = some (.slice bK aj.length br) ∧ w'.cell? ⟨au, 2, none⟩ = some (.slice bM ai.length bt) ∧ w'.cell? (bu.add ((af).toNat * 2)) = some (.int .i64 ((rd_T64 ap af).f0)) ∧ w'.cell? ⟨(bu.add ((af).toNat * 2)).block, (bu.add ((af).toNat * 2)).off + 1, none⟩ = some (.bool ((rd_T64 ap af).f1)) ∧ w'.cell? (bv.add ((af).toNat * 2)) = some (.int .i64 ((rd_T64 aq af).f0)) ∧ w'.cell? ⟨(bv.add ((af).toNat * 2)).block, (bv.add ((af).toNat * 2)).off + 1, none⟩ = some (.bool ((rd_T64 aq af).f1))) (ds := []) (bs 11 0) (by kernel_rfl) rfl rfl ⟨kk ad 0, kk ad 1, kk ad 2, kk ae 0, kk ae 1, kk ae 2, (kq HB bS), (kq HB bR), (kq HB bU), (kq HB bT)⟩ (fun hHeld => ?_); refine with_tabW qca.tab6 qca.bits6 (fun HT_ HW_ => ?_);generalize wr.drew = w25 at ad ae HB aB aC aD aE hHeld ⊢;refine pu 0 (some 39) (bs 11 1) HT_ ?_;refine pu 2 (some 41) (bs 11 5) HT_ ?_;refine pu 5 (some 44) (bs 11 37) HT_ ?_;refine pu 7 (some 46) (bs 11 165) HT_ ?_;refine ta 1 (some 40) (bs 11 167) HT_ HW_ hHeld ?_;refine pu 3 (some 42) (bs 11 175) HT_ ?_;refine ta 4 (some 43) (bs 11 191) HT_ HW_ hHeld ?_;refine ta 6 (some 45) (bs 11 255) HT_ HW_ hHeld ?_;refine pu 8 (some 47) (bs 11 511) HT_ ?_;refine ta 9 (some 48) (bs 11 1023) HT_ HW_ hHeld ?_;refine pu 10 (some 49) (bs 11 2047) HT_ ?_;refine done_ (done_of HT_.out (by kernel_rfl)) ?_;(try go_wp2);go_ret;exact ⟨er, kh HB⟩
     rw [if_neg c24] at H
     have dm : (!(((rd_T64 ap af).f0) == ((rd_T64 aq af).f0)) || (!(((rd_T64 ap af).f1) == ((rd_T64 aq af).f1)))) = false := by simpa using c24
     clear c24;have H' := Aside0.mk H;clear H;(try go_wp2);replace ad := kD ad; replace ae := kD ae; replace HB := kE HB;have cj : 0 ≤ (af : Int) := od;have ck : af < (ap.length : Int) := od;obtain ⟨bu, cY, aB, aC⟩ := at_T64 cS.out af cj ck;have bR := aC; have bS := aB;cases cY;replace aB := (HB.out.cell (qqW w _ aB)).trans aB;replace aC := (HB.out.cell (qqW w _ aC)).trans aC;replace cj := eq_true cj; replace ck := eq_true ck;have cl : 0 ≤ (af : Int) := od;have cm : af < (aq.length : Int) := od;obtain ⟨bv, cZ, aD, aE⟩ := at_T64 cU.out af cl cm;have bT := aE; have bU := aD;cases cZ;replace aD := (HB.out.cell (qqW w _ aD)).trans aD;replace aE := (HB.out.cell (qqW w _ aE)).trans aE;replace cl := eq_true cl; replace cm := eq_true cm;refine start_ (n := 11) (S := fun w' => w'.cell? ⟨ar, 0, none⟩ = some (.slice (some bu) ap.length bn) ∧ w'.cell? ⟨ar, 1, none⟩ = some (.slice bI ah.length bo) ∧ w'.cell? ⟨ar, 2, none⟩ = some (.slice bL ag.length bp) ∧ w'.cell? ⟨au, 0, none⟩ = some (.slice (some bv) aq.length bq) ∧ w'.cell? ⟨au, 1, none⟩ = some (.slice bK aj.length br) ∧ w'.cell? ⟨au, 2, none⟩ = some (.slice bM ai.length bt) ∧ w'.cell? (bu.add ((af).toNat * 2)) = some (.int .i64 ((rd_T64 ap af).f0)) ∧ w'.cell? ⟨(bu.add ((af).toNat * 2)).block, (bu.add ((af).toNat * 2)).off + 1, none⟩ = some (.bool ((rd_T64 ap af).f1)) ∧ w'.cell? (bv.add ((af).toNat * 2)) = some (.int .i64 ((rd_T64 aq af).f0)) ∧ w'.cell? ⟨(bv.add ((af).toNat * 2)).block, (bv.add ((af).toNat * 2)).off + 1, none⟩ = some (.bool ((rd_T64 aq af).f1))) (ds := []) (bs 11 0) (by kernel_rfl) rfl rfl ⟨kk ad 0, kk ad 1, kk ad 2, kk ae 0, kk ae 1, kk ae 2, (kq HB bS), (kq HB bR), (kq HB bU), (kq HB bT)⟩ (fun hHeld => ?_); refine with_tabW qca.tab6 qca.bits6 (fun HT_ HW_ => ?_);generalize wr.drew = w26 at ad ae HB aB aC aD aE hHeld ⊢;refine pu 0 (some 39) (bs 11 1) HT_ ?_;refine pu 2 (some 41) (bs 11 5) HT_ ?_;refine pu 5 (some 44) (bs 11 37) HT_ ?_;refine pu 7 (some 46) (bs 11 165) HT_ ?_;refine ta 1 (some 40) (bs 11 167) HT_ HW_ hHeld ?_;refine pu 3 (some 42) (bs 11 175) HT_ ?_;refine ta 4 (some 43) (bs 11 191) HT_ HW_ hHeld ?_;refine ta 6 (some 45) (bs 11 255) HT_ HW_ hHeld ?_;refine pu 8 (some 47) (bs 11 511) HT_ ?_;refine ta 9 (some 48) (bs 11 1023) HT_ HW_ hHeld ?_;refine pu 10 (some 49) (bs 11 2047) HT_ ?_;refine done_ (done_of HT_.out (by kernel_rfl)) ?_;(try go_wp2);go_roundg k2
     case measure => have := HJ2.out; have := HK2.out; omega
     case rel => exact ⟨(wrap64 (af + 1)), et, H', ⟨by have := HJ2.out; have := HK2.out; omega⟩, ⟨kg ad⟩, ⟨kg ae⟩, ⟨kh HB⟩⟩
    rw [if_neg c20] at H;have cW := qqF c20;clear c20;have H' := Aside0.mk H;clear H;have dT := aT.out;have dU := aU.out;have Z28 := kz3 ad;go_wp2;go_loopg [54] k2 (fun kq v54 w' => ∃ (ab : Int), v54 = .int .i64 ab ∧ Aside0 (qca.l1 kq (ah.length : Int) ab ap ah ag aq aj ai = some r) ∧ Aside0 (kq ≤ k2) ∧ Aside0 (w'.heap[ar]? = some (.cells #[(.slice bH ap.length bn), (.slice bI ah.length bo), (.slice bL ag.length bp)] 26 (0, 0))) ∧ Aside0 (w'.heap[au]? = some (.cells #[(.slice bJ aq.length bq), (.slice bK aj.length br), (.slice bM ai.length bt)] 26 (0, 0))) ∧ Aside0 (Below w.heap.size w w'))
    case atStart => exact ⟨(0), et, H', ⟨Nat.le_refl _⟩, ⟨kg ad⟩, ⟨kg ae⟩, ⟨kh HB⟩⟩
    case round =>
     clear H';(try clear cW c21 Z28);obtain ⟨ab, rfl, HA, HK3, ad, ae, HB⟩ := hrel
     cases gk with
     | zero => exact absurd HA.out (by simp [qca.l1])
     | succ k3 =>
      have H := HA.out;clear HA;simp only [qca.l1] at H
      by_cases c29 : ab < (ah.length : Int)
      ·rw [if_pos c29] at H
       have cX := qqT c29;clear c29
       by_cases c30 : 0 ≤ ab
       rotate_left
       ·rw [if_neg c30] at H
        exact absurd H (by simp)
       rw [if_pos c30] at H;have dV := qqT c30;clear c30
       by_cases c31 : ab < (ah.length : Int)
       rotate_left
       ·rw [if_neg c31] at H
        exact absurd H (by simp)
       rw [if_pos c31] at H;have dW := qqT c31;clear c31
       by_cases c32 : ab < (aj.length : Int)
       rotate_left
       ·rw [if_neg c32] at H
        exact absurd H (by simp)
       rw [if_pos c32] at H;have dX := qqT c32;clear c32
       by_cases c33 : (!(((rd_T61 ah ab).f0) == ((rd_T61 aj ab).f0)) || (!(((rd_T61 ah ab).f1) == ((rd_T61 aj ab).f1)) || (!(((rd_T61 ah ab).f2) == ((rd_T61 aj ab).f2)) || (!(((rd_T61 ah ab).f3) == ((rd_T61 aj ab).f3)))))) = true
       ·rw [if_pos c33] at H
        have dn : (!(((rd_T61 ah ab).f0) == ((rd_T61 aj ab).f0)) || (!(((rd_T61 ah ab).f1) == ((rd_T61 aj ab).f1)) || (!(((rd_T61 ah ab).f2) == ((rd_T61 aj ab).f2)) || (!(((rd_T61 ah ab).f3) == ((rd_T61 aj ab).f3)))))) = true := c33;clear c33;obtain rfl := qqI H;(try go_wp2);replace ad := kD ad; replace ae := kD ae; replace HB := kE HB;have cn : 0 ≤ (ab : Int) := od;have co : ab < (ah.length : Int) := od;obtain ⟨aR, da, aF, aG, aH, aI⟩ := at_T61 cT.out ab cn co;have bV := aI; have bW := aH; have bX := aG; have bY := aF;cases da;replace aF := (HB.out.cell (qqW w _ aF)).trans aF;replace aG := (HB.out.cell (qqW w _ aG)).trans aG;replace aH := (HB.out.cell (qqW w _ aH)).trans aH;replace aI := (HB.out.cell (qqW w _ aI)).trans aI;replace cn := eq_true cn; replace co := eq_true co;have cp : 0 ≤ (ab : Int) := od;have cq : ab < (aj.length : Int) := od;obtain ⟨aS, db, aJ, aK, aL, aM⟩ := at_T61 cV.out ab cp cq;have bZ := aM; have ca := aL; have cb := aK; have cc := aJ;cases db;replace aJ := (HB.out.cell (qqW w _ aJ)).trans aJ;replace aK := (HB.out.cell (qqW w _ aK)).trans aK;replace aL := (HB.out.cell (qqW w _ aL)).trans aL;replace aM := (HB.out.cell (qqW w _ aM)).trans aM;replace cp := eq_true cp; replace cq := eq_true cq;refine start_ (n := 11) (S := fun w' => w'.cell? ⟨ar, 0, none⟩ = some (.slice bH ap.length bn) ∧ w'.cell? ⟨ar, 1, none⟩ = some (.slice (some aR) ah.length bo) ∧ w'.cell? ⟨ar, 2, none⟩ = some (.slice bL ag.length bp) ∧ w'.cell? ⟨au, 0, none⟩ = some (.slice bJ aq.length bq) ∧ w'.cell? ⟨au, 1, none⟩ = some (.slice (some aS) aj.length br) ∧ w'.cell? ⟨au, 2, none⟩ = some (.slice bM ai.length bt) ∧ w'.cell? (aR.add ((ab).toNat * 4)) = some (.int .i64 ((rd_T61 ah ab).f0)) ∧ w'.cell? ⟨(aR.add ((ab).toNat * 4)).block, (aR.add ((ab).toNat * 4)).off + 1, none⟩ = some (.int .i64 ((rd_T61 ah ab).f1)) ∧ w'.cell? ⟨(aR.add ((ab).toNat * 4)).block, (aR.add ((ab).toNat * 4)).off + 2, none⟩ = some (.int .i64 ((rd_T61 ah ab).f2)) ∧ w'.cell? ⟨(aR.add ((ab).toNat * 4)).block, (aR.add ((ab).toNat * 4)).off + 3, none⟩ = some (.int .u64 ((rd_T61 ah ab).f3)) ∧ w'.cell? (aS.add ((ab).toNat * 4)) = some (.int .i64 ((rd_T61 aj ab).f0)) ∧ w'.cell? ⟨(aS.add ((ab).toNat * 4)).block, (aS.add ((ab).toNat * 4)).off + 1, none⟩ = some (.int .i64 ((rd_T61 aj ab).f1)) ∧ w'.cell? ⟨(aS.add ((ab).toNat * 4)).block, (aS.add ((ab).toNat * 4)).off + 2, none⟩ = some (.int .i64 ((rd_T61 aj ab).f2)) ∧ w'.cell? ⟨(aS.add ((ab).toNat * 4)).block, (aS.add ((ab).toNat * 4)).off + 3, none⟩ = some (.int .u64 ((rd_T61 aj ab).f3))) (ds := []) (bs 11 0) (by kernel_rfl) rfl rfl ⟨kk ad 0, kk ad 1, kk ad 2, kk ae 0, kk ae 1, kk ae 2, (kq HB bY), (kq HB bX), (kq HB bW), (kq HB bV), (kq HB cc), (kq HB cb), (kq HB ca), (kq HB bZ)⟩ (fun hHeld => ?_); refine with_tabW qca.tab12 qca.bits12 (fun HT_ HW_ => ?_);generalize wr.drew = w34 at ad ae HB aF aG aH aI aJ aK aL aM hHeld ⊢;refine pu 0 (some 57) (bs 11 1) HT_ ?_;refine pu 2 (some 59) (bs 11 5) HT_ ?_;refine pu 5 (some 62) (bs 11 37) HT_ ?_;refine pu 7 (some 64) (bs 11 165) HT_ ?_;refine ta 1 (some 58) (bs 11 167) HT_ HW_ hHeld ?_;refine pu 3 (some 60) (bs 11 175) HT_ ?_;refine ta 4 (some 61) (bs 11 191) HT_ HW_ hHeld ?_;refine ta 6 (some 63) (bs 11 255) HT_ HW_ hHeld ?_;refine pu 8 (some 65) (bs 11 511) HT_ ?_;refine ta 9 (some 66) (bs 11 1023) HT_ HW_ hHeld ?_;refine pu 10 (some 67) (bs 11 2047) HT_ ?_;refine done_ (done_of HT_.out (by kernel_rfl)) ?_;(try go_wp2);go_ret;exact ⟨er, kh HB⟩
       rw [if_neg c33] at H
       have dn : (!(((rd_T61 ah ab).f0) == ((rd_T61 aj ab).f0)) || (!(((rd_T61 ah ab).f1) == ((rd_T61 aj ab).f1)) || (!(((rd_T61 ah ab).f2) == ((rd_T61 aj ab).f2)) || (!(((rd_T61 ah ab).f3) == ((rd_T61 aj ab).f3)))))) = false := by simpa using c33
       clear c33;have H' := Aside0.mk H;clear H;(try go_wp2);replace ad := kD ad; replace ae := kD ae; replace HB := kE HB;have cn : 0 ≤ (ab : Int) := od;have co : ab < (ah.length : Int) := od;obtain ⟨aR, da, aF, aG, aH, aI⟩ := at_T61 cT.out ab cn co;have bV := aI; have bW := aH; have bX := aG; have bY := aF;cases da;replace aF := (HB.out.cell (qqW w _ aF)).trans aF;replace aG := (HB.out.cell (qqW w _ aG)).trans aG;replace aH := (HB.out.cell (qqW w _ aH)).trans aH;replace aI := (HB.out.cell (qqW w _ aI)).trans aI;replace cn := eq_true cn; replace co := eq_true co;have cp : 0 ≤ (ab : Int) := od;have cq : ab < (aj.length : Int) := od;obtain ⟨aS, db, aJ, aK, aL, aM⟩ := at_T61 cV.out ab cp cq;have bZ := aM; have ca := aL; have cb := aK; have cc := aJ;cases db;replace aJ := (HB.out.cell (qqW w _ aJ)).trans aJ;replace aK := (HB.out.cell (qqW w _ aK)).trans aK;replace aL := (HB.out.cell (qqW w _ aL)).trans aL;replace aM := (HB.out.cell (qqW w _ aM)).trans aM;replace cp := eq_true cp; replace cq := eq_true cq;refine start_ (n := 11) (S := fun w' => w'.cell? ⟨ar, 0, none⟩ = some (.slice bH ap.length bn) ∧ w'.cell? ⟨ar, 1, none⟩ = some (.slice (some aR) ah.length bo) ∧ w'.cell? ⟨ar, 2, none⟩ = some (.slice bL ag.length bp) ∧ w'.cell? ⟨au, 0, none⟩ = some (.slice bJ aq.length bq) ∧ w'.cell? ⟨au, 1, none⟩ = some (.slice (some aS) aj.length br) ∧ w'.cell? ⟨au, 2, none⟩ = some (.slice bM ai.length bt) ∧ w'.cell? (aR.add ((ab).toNat * 4)) = some (.int .i64 ((rd_T61 ah ab).f0)) ∧ w'.cell? ⟨(aR.add ((ab).toNat * 4)).block, (aR.add ((ab).toNat * 4)).off + 1, none⟩ = some (.int .i64 ((rd_T61 ah ab).f1)) ∧ w'.cell? ⟨(aR.add ((ab).toNat * 4)).block, (aR.add ((ab).toNat * 4)).off + 2, none⟩ = some (.int .i64 ((rd_T61 ah ab).f2)) ∧ w'.cell? ⟨(aR.add ((ab).toNat * 4)).block, (aR.add ((ab).toNat * 4)).off + 3, none⟩ = some (.int .u64 ((rd_T61 ah ab).f3)) ∧ w'.cell? (aS.add ((ab).toNat * 4)) = some (.int .i64 ((rd_T61 aj ab).f0)) ∧ w'.cell? ⟨(aS.add ((ab).toNat * 4)).block, (aS.add ((ab).toNat * 4)).off + 1, none⟩ = some (.int .i64 ((rd_T61 aj ab).f1)) ∧ w'.cell? ⟨(aS.add ((ab).toNat * 4)).block, (aS.add ((ab).toNat * 4)).off + 2, none⟩ = some (.int .i64 ((rd_T61 aj ab).f2)) ∧ w'.cell? ⟨(aS.add ((ab).toNat * 4)).block, (aS.add ((ab).toNat * 4)).off + 3, none⟩ = some (.int .u64 ((rd_T61 aj ab).f3))) (ds := []) (bs 11 0) (by kernel_rfl) rfl rfl ⟨kk ad 0, kk ad 1, kk ad 2, kk ae 0, kk ae 1, kk ae 2, (kq HB bY), (kq HB bX), (kq HB bW), (kq HB bV), (kq HB cc), (kq HB cb), (kq HB ca), (kq HB bZ)⟩ (fun hHeld => ?_); refine with_tabW qca.tab12 qca.bits12 (fun HT_ HW_ => ?_);generalize wr.drew = w35 at ad ae HB aF aG aH aI aJ aK aL aM hHeld ⊢;refine pu 0 (some 57) (bs 11 1) HT_ ?_;refine pu 2 (some 59) (bs 11 5) HT_ ?_;refine pu 5 (some 62) (bs 11 37) HT_ ?_;refine pu 7 (some 64) (bs 11 165) HT_ ?_;refine ta 1 (some 58) (bs 11 167) HT_ HW_ hHeld ?_;refine pu 3 (some 60) (bs 11 175) HT_ ?_;refine ta 4 (some 61) (bs 11 191) HT_ HW_ hHeld ?_;refine ta 6 (some 63) (bs 11 255) HT_ HW_ hHeld ?_;refine pu 8 (some 65) (bs 11 511) HT_ ?_;refine ta 9 (some 66) (bs 11 1023) HT_ HW_ hHeld ?_;refine pu 10 (some 67) (bs 11 2047) HT_ ?_;refine done_ (done_of HT_.out (by kernel_rfl)) ?_;(try go_wp2);go_roundg k3
       case measure => have := HJ2.out; have := HK2.out; have := HK3.out; omega
       case rel => exact ⟨(wrap64 (ab + 1)), et, H', ⟨by have := HJ2.out; have := HK2.out; have := HK3.out; omega⟩, ⟨kg ad⟩, ⟨kg ae⟩, ⟨kh HB⟩⟩
      rw [if_neg c29] at H;have cX := qqF c29;clear c29;have H' := Aside0.mk H;clear H;have dY := aT.out;have dZ := aU.out;have Z37 := kz3 ad;go_wp2;go_loopg [72] k3 (fun kq v72 w' => ∃ (aa : Int), v72 = .int .i64 aa ∧ Aside0 (qca.l2 kq (ag.length : Int) aa ap ah ag aq aj ai = some r) ∧ Aside0 (kq ≤ k3) ∧ Aside0 (w'.heap[ar]? = some (.cells #[(.slice bH ap.length bn), (.slice bI ah.length bo), (.slice bL ag.length bp)] 26 (0, 0))) ∧ Aside0 (w'.heap[au]? = some (.cells #[(.slice bJ aq.length bq), (.slice bK aj.length br), (.slice bM ai.length bt)] 26 (0, 0))) ∧ Aside0 (Below w.heap.size w w'))
      case atStart => exact ⟨(0), et, H', ⟨Nat.le_refl _⟩, ⟨kg ad⟩, ⟨kg ae⟩, ⟨kh HB⟩⟩
      case round =>
       clear H';(try clear cX c30 Z37);obtain ⟨aa, rfl, HA, HK4, ad, ae, HB⟩ := hrel
       cases gk with
       | zero => exact absurd HA.out (by simp [qca.l2])
       | succ k4 =>
        have H := HA.out;clear HA;simp only [qca.l2] at H
        by_cases c38 : aa < (ag.length : Int)
        rotate_left
        ·rw [if_neg c38] at H
         have dp := qqF c38;clear c38;obtain rfl := qqI H;go_wp2;go_ret;exact ⟨er, kh HB⟩
        rw [if_pos c38] at H;have dp := qqT c38;clear c38
        by_cases c39 : 0 ≤ aa
        rotate_left
        ·rw [if_neg c39] at H
         exact absurd H (by simp)
        rw [if_pos c39] at H;have ea := qqT c39;clear c39
        by_cases c40 : aa < (ag.length : Int)
        rotate_left
        ·rw [if_neg c40] at H
         exact absurd H (by simp)
        rw [if_pos c40] at H;have eb := qqT c40;clear c40
        by_cases c41 : aa < (ai.length : Int)
        rotate_left
        ·rw [if_neg c41] at H
         exact absurd H (by simp)
        rw [if_pos c41] at H;have ec := qqT c41;clear c41;replace H := qqB H;obtain ⟨dy, dq, H⟩ := H;(try dsimp only at H);have A42 := Aside0.mk dq;clear dq
        by_cases c43 : dy = true
        rotate_left
        ·replace c43 := Bool.eq_false_iff.mpr c43
         subst c43;replace H := ifF H;obtain rfl := qqI H;(try go_wp2);replace ad := kD ad; replace ae := kD ae; replace HB := kE HB;have bN : 0 ≤ (aa : Int) := od;have bO : aa < (ag.length : Int) := od;obtain ⟨az, bb, bc, bf, bg, cA, ak, al, aV, hi286_0, aW, hi286_1⟩ := at_T66 ch.out aa bN bO;have aN := al; have aO := ak;cases cA;replace ak := (HB.out.cell (qqW w _ ak)).trans ak;replace al := (HB.out.cell (qqW w _ al)).trans al;have aX := Aside0.mk hi286_0;have bw := Aside0.mk aV;clear hi286_0 aV;have bx := Aside0.mk hi286_1;have cx := Aside0.mk aW;clear hi286_1 aW; replace bN := eq_true bN; replace bO := eq_true bO;have bP : 0 ≤ (aa : Int) := od;have bQ : aa < (ai.length : Int) := od;obtain ⟨aA, bd, be, bh, bi, cB, an, ao, aY, hi287_0, aZ, hi287_1⟩ := at_T66 ci.out aa bP bQ;have aP := ao; have aQ := an;cases cB;replace an := (HB.out.cell (qqW w _ an)).trans an;replace ao := (HB.out.cell (qqW w _ ao)).trans ao;have ba := Aside0.mk hi287_0;have bz := Aside0.mk aY;clear hi287_0 aY;have bA := Aside0.mk hi287_1;have cy := Aside0.mk aZ;clear hi287_1 aZ; replace bP := eq_true bP; replace bQ := eq_true bQ;refine start_ (n := 30) (S := fun w' => w'.cell? ⟨ar, 0, none⟩ = some (.slice bH ap.length bn) ∧ w'.cell? ⟨ar, 1, none⟩ = some (.slice bI ah.length bo) ∧ w'.cell? ⟨ar, 2, none⟩ = some (.slice (some az) ag.length bp) ∧ w'.cell? ⟨au, 0, none⟩ = some (.slice bJ aq.length bq) ∧ w'.cell? ⟨au, 1, none⟩ = some (.slice bK aj.length br) ∧ w'.cell? ⟨au, 2, none⟩ = some (.slice (some aA) ai.length bt) ∧ w'.cell? (az.add ((aa).toNat * 2)) = some (.slice bb ((rd_T66 ag aa).f0).length bc) ∧ w'.cell? ⟨(az.add ((aa).toNat * 2)).block, (az.add ((aa).toNat * 2)).off + 1, none⟩ = some (.slice bf ((rd_T66 ag aa).f1).length bg) ∧ w'.cell? (aA.add ((aa).toNat * 2)) = some (.slice bd ((rd_T66 ai aa).f0).length be) ∧ w'.cell? ⟨(aA.add ((aa).toNat * 2)).block, (aA.add ((aa).toNat * 2)).off + 1, none⟩ = some (.slice bh ((rd_T66 ai aa).f1).length bi)) (ds := []) (bs 30 0) (by kernel_rfl) rfl rfl ⟨kk ad 0, kk ad 1, kk ad 2, kk ae 0, kk ae 1, kk ae 2, (kq HB aO), (kq HB aN), (kq HB aQ), (kq HB aP)⟩ (fun hHeld => ?_); refine with_tabW qca.tab18 qca.bits18 (fun HT_ HW_ => ?_);generalize wr.drew = w48 at ad ae HB aX bx ba bA ak al an ao hHeld ⊢;refine pu 0 (some 75) (bs 30 1) HT_ ?_;refine pu 2 (some 77) (bs 30 5) HT_ ?_;refine pu 6 (some 81) (bs 30 69) HT_ ?_;refine pu 8 (some 83) (bs 30 325) HT_ ?_;refine ta 1 (some 76) (bs 30 327) HT_ HW_ hHeld ?_;refine pu 3 (some 78) (bs 30 335) HT_ ?_;refine pu 4 (some 79) (bs 30 351) HT_ ?_;refine ta 5 (some 80) (bs 30 383) HT_ HW_ hHeld ?_;refine ta 7 (some 82) (bs 30 511) HT_ HW_ hHeld ?_;refine pu 9 (some 84) (bs 30 1023) HT_ ?_;refine pu 10 (some 85) (bs 30 2047) HT_ ?_;refine ta 11 (some 86) (bs 30 4095) HT_ HW_ hHeld ?_;refine one_ (i := 12) (N := some 87) (bs 30 8191) rfl rfl (one_of HT_.out (by kernel_rfl)) (by decide) (fun K hK => ?_);refine goes_ Try.func56 (by kernel_rfl) rfl #[.slice bb ((rd_T66 ag aa).f0).length bc, .slice bd ((rd_T66 ai aa).f0).length be] (by rfl) rfl rfl (by (try simp only [qM1, qM2, qM3]); first | done | rfl) ?_;(with_reducible refine (qta.calls k4 _ _ ((rd_T66 ag aa).f0) _ _ ((rd_T66 ai aa).f0) false _ ?side1 ?side2 ?side3 ?side4 A42.out).mono ?_);(case side1 => repeat (first | exact (Kd.C_below aX.out HB.out) | (with_reducible first | refine Kd.C_alloc ?_ _ | refine Kd.C_drewN ?_ _ | refine Kd.C_drew ?_)));(case side2 => exact bw.out);(case side3 => repeat (first | exact (Kd.C_below ba.out HB.out) | (with_reducible first | refine Kd.C_alloc ?_ _ | refine Kd.C_drewN ?_ _ | refine Kd.C_drew ?_)));(case side4 => exact bz.out);rintro e w' ⟨rfl, ⟨nd, rfl⟩⟩;refine ⟨_, rfl, ?_⟩;refine hK.out _ _ ⟨kk ad 0, kk ad 1, kk ad 2, kk ae 0, kk ae 1, kk ae 2, (kq HB aO), (kq HB aN), (kq HB aQ), (kq HB aP)⟩ (fun hHeld => ?_);clear hK K;refine no (some 87) ?_;refine pu 13 (some 88) (bs 30 16383) HT_ ?_;refine pu 14 (some 89) (bs 30 32767) HT_ ?_;refine pure_ (i := 15) (N := some 90) (v := undef) (a' := ?_) (bs 30 65535) rfl rfl (any_of HT_.out (by kernel_rfl)) (fun _ _ _ h => h) (Or.inr ⟨by rfl, rfl⟩) ?_ ?_
         rotate_left
         ·simp only [Act.put, qS1, qS2, qS3, i64_w, i32_w]
          rfl
         refine pure_ (i := 16) (N := some 91) (v := undef) (a' := ?_) (bs 30 131071) rfl rfl (any_of HT_.out (by kernel_rfl)) (fun _ _ _ h => h) (Or.inr ⟨by rfl, rfl⟩) ?_ ?_
         rotate_left
         ·simp only [Act.put, qS1, qS2, qS3, i64_w, i32_w]
          rfl
         refine pure_ (i := 17) (N := some 92) (v := undef) (a' := ?_) (bs 30 262143) rfl rfl (any_of HT_.out (by kernel_rfl)) (fun _ _ _ h => h) (Or.inr ⟨by rfl, rfl⟩) ?_ ?_
         rotate_left
         ·simp only [Act.put, qS1, qS2, qS3, i64_w, i32_w]
          rfl
         refine pure_ (i := 18) (N := some 93) (v := undef) (a' := ?_) (bs 30 524287) rfl rfl (any_of HT_.out (by kernel_rfl)) (fun _ _ _ h => h) (Or.inr ⟨by rfl, rfl⟩) ?_ ?_
         rotate_left
         ·simp only [Act.put, qS1, qS2, qS3, i64_w, i32_w]
          rfl
         refine pure_ (i := 19) (N := some 94) (v := undef) (a' := ?_) (bs 30 1048575) rfl rfl (any_of HT_.out (by kernel_rfl)) (fun _ _ _ h => h) (Or.inr ⟨by rfl, rfl⟩) ?_ ?_
         rotate_left
         ·simp only [Act.put, qS1, qS2, qS3, i64_w, i32_w]
          rfl
         refine pure_ (i := 20) (N := some 95) (v := undef) (a' := ?_) (bs 30 2097151) rfl rfl (any_of HT_.out (by kernel_rfl)) (fun _ _ _ h => h) (Or.inr ⟨by rfl, rfl⟩) ?_ ?_
         rotate_left
         ·simp only [Act.put, qS1, qS2, qS3, i64_w, i32_w]
          rfl
         refine pure_ (i := 21) (N := some 96) (v := undef) (a' := ?_) (bs 30 4194303) rfl rfl (any_of HT_.out (by kernel_rfl)) (fun _ _ _ h => h) (Or.inr ⟨by rfl, rfl⟩) ?_ ?_
         rotate_left
         ·simp only [Act.put, qS1, qS2, qS3, i64_w, i32_w]
          rfl
         refine pure_ (i := 22) (N := some 97) (v := undef) (a' := ?_) (bs 30 8388607) rfl rfl (any_of HT_.out (by kernel_rfl)) (fun _ _ _ h => h) (Or.inr ⟨by rfl, rfl⟩) ?_ ?_
         rotate_left
         ·simp only [Act.put, qS1, qS2, qS3, i64_w, i32_w]
          rfl
         refine pure_ (i := 23) (N := some 98) (v := undef) (a' := ?_) (bs 30 16777215) rfl rfl (any_of HT_.out (by kernel_rfl)) (fun _ _ _ h => h) (Or.inr ⟨by rfl, rfl⟩) ?_ ?_
         rotate_left
         ·simp only [Act.put, qS1, qS2, qS3, i64_w, i32_w]
          rfl
         refine pure_ (i := 24) (N := some 99) (v := undef) (a' := ?_) (bs 30 33554431) rfl rfl (any_of HT_.out (by kernel_rfl)) (fun _ _ _ h => h) (Or.inr ⟨by rfl, rfl⟩) ?_ ?_
         rotate_left
         ·simp only [Act.put, qS1, qS2, qS3, i64_w, i32_w]
          rfl
         refine pure_ (i := 25) (N := some 100) (v := undef) (a' := ?_) (bs 30 67108863) rfl rfl (any_of HT_.out (by kernel_rfl)) (fun _ _ _ h => h) (Or.inr ⟨by rfl, rfl⟩) ?_ ?_
         rotate_left
         ·simp only [Act.put, qS1, qS2, qS3, i64_w, i32_w]
          rfl
         refine pure_ (i := 26) (N := some 101) (v := undef) (a' := ?_) (bs 30 134217727) rfl rfl (any_of HT_.out (by kernel_rfl)) (fun _ _ _ h => h) (Or.inr ⟨by rfl, rfl⟩) ?_ ?_
         rotate_left
         ·simp only [Act.put, qS1, qS2, qS3, i64_w, i32_w]
          rfl
         refine pure_ (i := 27) (N := some 102) (v := undef) (a' := ?_) (bs 30 268435455) rfl rfl (any_of HT_.out (by kernel_rfl)) (fun _ _ _ h => h) (Or.inr ⟨by rfl, rfl⟩) ?_ ?_
         rotate_left
         ·simp only [Act.put, qS1, qS2, qS3, i64_w, i32_w]
          rfl
         refine pure_ (i := 28) (N := some 103) (v := undef) (a' := ?_) (bs 30 536870911) rfl rfl (any_of HT_.out (by kernel_rfl)) (fun _ _ _ h => h) (Or.inr ⟨by rfl, rfl⟩) ?_ ?_
         rotate_left
         ·simp only [Act.put, qS1, qS2, qS3, i64_w, i32_w]
          rfl
         refine pu 29 (some 104) (bs 30 1073741823) HT_ ?_;refine done_ (done_of HT_.out (by kernel_rfl)) ?_;(try go_wp2);go_ret;exact ⟨er, kh HB⟩
        subst c43;replace H := ifT H;replace H := qqB H;obtain ⟨dz, dr, H⟩ := H;(try dsimp only at H);have A44 := Aside0.mk dr;clear dr
        by_cases c45 : dz = true
        rotate_left
        ·replace c45 := Bool.eq_false_iff.mpr c45
         subst c45;replace H := ifF H;obtain rfl := qqI H;(try go_wp2);replace ad := kD ad; replace ae := kD ae; replace HB := kE HB;have bN : 0 ≤ (aa : Int) := od;have bO : aa < (ag.length : Int) := od;obtain ⟨az, bb, bc, bf, bg, cA, ak, al, aV, hi286_0, aW, hi286_1⟩ := at_T66 ch.out aa bN bO;have aN := al; have aO := ak;cases cA;replace ak := (HB.out.cell (qqW w _ ak)).trans ak;replace al := (HB.out.cell (qqW w _ al)).trans al;have aX := Aside0.mk hi286_0;have bw := Aside0.mk aV;clear hi286_0 aV;have bx := Aside0.mk hi286_1;have cx := Aside0.mk aW;clear hi286_1 aW; replace bN := eq_true bN; replace bO := eq_true bO;have bP : 0 ≤ (aa : Int) := od;have bQ : aa < (ai.length : Int) := od;obtain ⟨aA, bd, be, bh, bi, cB, an, ao, aY, hi287_0, aZ, hi287_1⟩ := at_T66 ci.out aa bP bQ;have aP := ao; have aQ := an;cases cB;replace an := (HB.out.cell (qqW w _ an)).trans an;replace ao := (HB.out.cell (qqW w _ ao)).trans ao;have ba := Aside0.mk hi287_0;have bz := Aside0.mk aY;clear hi287_0 aY;have bA := Aside0.mk hi287_1;have cy := Aside0.mk aZ;clear hi287_1 aZ; replace bP := eq_true bP; replace bQ := eq_true bQ;have cr : 0 ≤ (aa : Int) := od;have ct : aa < (ag.length : Int) := od;obtain ⟨cC, dc, dd, de, df, dg, av, aw, bB, hi289_0, bC, hi289_1⟩ := at_T66 ch.out aa cr ct;have bj := aw; have bk := av;obtain rfl : az = cC := (by injection dg);replace av := (HB.out.cell (qqW w _ av)).trans av;replace aw := (HB.out.cell (qqW w _ aw)).trans aw;have cd := Aside0.mk hi289_0;have cE := Aside0.mk bB;clear hi289_0 bB;have bD := Aside0.mk hi289_1;have ce := Aside0.mk bC;clear hi289_1 bC; replace cr := eq_true cr; replace ct := eq_true ct;have ea_ := qqI (ak.symm.trans av)
         injection ea_ with ea_ en_ ec_
         subst ea_;subst ec_;clear en_;have ea_ := qqI (al.symm.trans aw)
         injection ea_ with ea_ en_ ec_
         subst ea_;subst ec_;clear en_;have cu : 0 ≤ (aa : Int) := od;have cv : aa < (ai.length : Int) := od;obtain ⟨cD, dh, di, dj, dk, dl, ax, ay, bE, hi290_0, bF, hi290_1⟩ := at_T66 ci.out aa cu cv;have bl := ay; have bm := ax;obtain rfl : aA = cD := (by injection dl);replace ax := (HB.out.cell (qqW w _ ax)).trans ax;replace ay := (HB.out.cell (qqW w _ ay)).trans ay;have cf := Aside0.mk hi290_0;have cF := Aside0.mk bE;clear hi290_0 bE;have bG := Aside0.mk hi290_1;have cg := Aside0.mk bF;clear hi290_1 bF; replace cu := eq_true cu; replace cv := eq_true cv;have ea_ := qqI (an.symm.trans ax)
         injection ea_ with ea_ en_ ec_
         subst ea_;subst ec_;clear en_;have ea_ := qqI (ao.symm.trans ay)
         injection ea_ with ea_ en_ ec_
         subst ea_;subst ec_;clear en_;refine start_ (n := 30) (S := fun w' => w'.cell? ⟨ar, 0, none⟩ = some (.slice bH ap.length bn) ∧ w'.cell? ⟨ar, 1, none⟩ = some (.slice bI ah.length bo) ∧ w'.cell? ⟨ar, 2, none⟩ = some (.slice (some az) ag.length bp) ∧ w'.cell? ⟨au, 0, none⟩ = some (.slice bJ aq.length bq) ∧ w'.cell? ⟨au, 1, none⟩ = some (.slice bK aj.length br) ∧ w'.cell? ⟨au, 2, none⟩ = some (.slice (some aA) ai.length bt) ∧ w'.cell? (az.add ((aa).toNat * 2)) = some (.slice bb ((rd_T66 ag aa).f0).length bc) ∧ w'.cell? ⟨(az.add ((aa).toNat * 2)).block, (az.add ((aa).toNat * 2)).off + 1, none⟩ = some (.slice bf ((rd_T66 ag aa).f1).length bg) ∧ w'.cell? (aA.add ((aa).toNat * 2)) = some (.slice bd ((rd_T66 ai aa).f0).length be) ∧ w'.cell? ⟨(aA.add ((aa).toNat * 2)).block, (aA.add ((aa).toNat * 2)).off + 1, none⟩ = some (.slice bh ((rd_T66 ai aa).f1).length bi) ∧ w'.cell? (az.add ((aa).toNat * 2)) = some (.slice bb ((rd_T66 ag aa).f0).length bc) ∧ w'.cell? ⟨(az.add ((aa).toNat * 2)).block, (az.add ((aa).toNat * 2)).off + 1, none⟩ = some (.slice bf ((rd_T66 ag aa).f1).length bg) ∧ w'.cell? (aA.add ((aa).toNat * 2)) = some (.slice bd ((rd_T66 ai aa).f0).length be) ∧ w'.cell? ⟨(aA.add ((aa).toNat * 2)).block, (aA.add ((aa).toNat * 2)).off + 1, none⟩ = some (.slice bh ((rd_T66 ai aa).f1).length bi)) (ds := []) (bs 30 0) (by kernel_rfl) rfl rfl ⟨kk ad 0, kk ad 1, kk ad 2, kk ae 0, kk ae 1, kk ae 2, (kq HB aO), (kq HB aN), (kq HB aQ), (kq HB aP), (kq HB bk), (kq HB bj), (kq HB bm), (kq HB bl)⟩ (fun hHeld => ?_); refine with_tabW qca.tab18 qca.bits18 (fun HT_ HW_ => ?_);generalize wr.drew = w47 at ad ae HB aX bx ba bA cd bD cf bG ak al an ao av aw ax ay hHeld ⊢;refine pu 0 (some 75) (bs 30 1) HT_ ?_;refine pu 2 (some 77) (bs 30 5) HT_ ?_;refine pu 6 (some 81) (bs 30 69) HT_ ?_;refine pu 8 (some 83) (bs 30 325) HT_ ?_;refine ta 1 (some 76) (bs 30 327) HT_ HW_ hHeld ?_;refine pu 3 (some 78) (bs 30 335) HT_ ?_;refine pu 4 (some 79) (bs 30 351) HT_ ?_;refine ta 5 (some 80) (bs 30 383) HT_ HW_ hHeld ?_;refine ta 7 (some 82) (bs 30 511) HT_ HW_ hHeld ?_;refine pu 9 (some 84) (bs 30 1023) HT_ ?_;refine pu 10 (some 85) (bs 30 2047) HT_ ?_;refine ta 11 (some 86) (bs 30 4095) HT_ HW_ hHeld ?_;refine one_ (i := 12) (N := some 87) (bs 30 8191) rfl rfl (one_of HT_.out (by kernel_rfl)) (by decide) (fun K hK => ?_);refine goes_ Try.func56 (by kernel_rfl) rfl #[.slice bb ((rd_T66 ag aa).f0).length bc, .slice bd ((rd_T66 ai aa).f0).length be] (by rfl) rfl rfl (by (try simp only [qM1, qM2, qM3]); first | done | rfl) ?_;(with_reducible refine (qta.calls k4 _ _ ((rd_T66 ag aa).f0) _ _ ((rd_T66 ai aa).f0) true _ ?side1 ?side2 ?side3 ?side4 A42.out).mono ?_);(case side1 => repeat (first | exact (Kd.C_below aX.out HB.out) | (with_reducible first | refine Kd.C_alloc ?_ _ | refine Kd.C_drewN ?_ _ | refine Kd.C_drew ?_)));(case side2 => exact bw.out);(case side3 => repeat (first | exact (Kd.C_below ba.out HB.out) | (with_reducible first | refine Kd.C_alloc ?_ _ | refine Kd.C_drewN ?_ _ | refine Kd.C_drew ?_)));(case side4 => exact bz.out);rintro e w' ⟨rfl, ⟨nd, rfl⟩⟩;refine ⟨_, rfl, ?_⟩;refine hK.out _ _ ⟨kk ad 0, kk ad 1, kk ad 2, kk ae 0, kk ae 1, kk ae 2, (kq HB aO), (kq HB aN), (kq HB aQ), (kq HB aP), (kq HB bk), (kq HB bj), (kq HB bm), (kq HB bl)⟩ (fun hHeld => ?_);clear hK K;refine no (some 87) ?_;refine pu 13 (some 88) (bs 30 16383) HT_ ?_;refine pu 14 (some 89) (bs 30 32767) HT_ ?_;refine pu 15 (some 90) (bs 30 65535) HT_ ?_;refine pu 17 (some 92) (bs 30 196607) HT_ ?_;refine pu 21 (some 96) (bs 30 2293759) HT_ ?_;refine pu 23 (some 98) (bs 30 10682367) HT_ ?_;refine ta 16 (some 91) (bs 30 10747903) HT_ HW_ hHeld ?_;refine pu 18 (some 93) (bs 30 11010047) HT_ ?_;refine pu 19 (some 94) (bs 30 11534335) HT_ ?_;refine ta 20 (some 95) (bs 30 12582911) HT_ HW_ hHeld ?_;refine ta 22 (some 97) (bs 30 16777215) HT_ HW_ hHeld ?_;refine pu 24 (some 99) (bs 30 33554431) HT_ ?_;refine pu 25 (some 100) (bs 30 67108863) HT_ ?_;refine ta 26 (some 101) (bs 30 134217727) HT_ HW_ hHeld ?_;refine one_ (i := 27) (N := some 102) (bs 30 268435455) rfl rfl (one_of HT_.out (by kernel_rfl)) (by decide) (fun K hK => ?_);refine goes_ Try.func56 (by kernel_rfl) rfl #[.slice bf ((rd_T66 ag aa).f1).length bg, .slice bh ((rd_T66 ai aa).f1).length bi] (by rfl) rfl rfl (by (try simp only [qM1, qM2, qM3]); first | done | rfl) ?_;(with_reducible refine (qta.calls k4 _ _ ((rd_T66 ag aa).f1) _ _ ((rd_T66 ai aa).f1) false _ ?side1 ?side2 ?side3 ?side4 A44.out).mono ?_);(case side1 => repeat (first | exact (Kd.C_below bD.out (kh HB)) | (with_reducible first | refine Kd.C_alloc ?_ _ | refine Kd.C_drewN ?_ _ | refine Kd.C_drew ?_)));(case side2 => exact ce.out);(case side3 => repeat (first | exact (Kd.C_below bG.out (kh HB)) | (with_reducible first | refine Kd.C_alloc ?_ _ | refine Kd.C_drewN ?_ _ | refine Kd.C_drew ?_)));(case side4 => exact cg.out);rintro e w' ⟨rfl, ⟨nd, rfl⟩⟩;refine ⟨_, rfl, ?_⟩;refine hK.out _ _ ⟨kk ad 0, kk ad 1, kk ad 2, kk ae 0, kk ae 1, kk ae 2, (kq HB aO), (kq HB aN), (kq HB aQ), (kq HB aP), (kq HB bk), (kq HB bj), (kq HB bm), (kq HB bl)⟩ (fun hHeld => ?_);clear hK K;refine no (some 102) ?_;refine pu 28 (some 103) (bs 30 536870911) HT_ ?_;refine pu 29 (some 104) (bs 30 1073741823) HT_ ?_;refine done_ (done_of HT_.out (by kernel_rfl)) ?_;(try go_wp2);go_ret;exact ⟨er, kh HB⟩
        subst c45;replace H := ifT H;have H' := Aside0.mk H;clear H;(try go_wp2);replace ad := kD ad; replace ae := kD ae; replace HB := kE HB;have bN : 0 ≤ (aa : Int) := od;have bO : aa < (ag.length : Int) := od;obtain ⟨az, bb, bc, bf, bg, cA, ak, al, aV, hi286_0, aW, hi286_1⟩ := at_T66 ch.out aa bN bO;have aN := al; have aO := ak;cases cA;replace ak := (HB.out.cell (qqW w _ ak)).trans ak;replace al := (HB.out.cell (qqW w _ al)).trans al;have aX := Aside0.mk hi286_0;have bw := Aside0.mk aV;clear hi286_0 aV;have bx := Aside0.mk hi286_1;have cx := Aside0.mk aW;clear hi286_1 aW; replace bN := eq_true bN; replace bO := eq_true bO;have bP : 0 ≤ (aa : Int) := od;have bQ : aa < (ai.length : Int) := od;obtain ⟨aA, bd, be, bh, bi, cB, an, ao, aY, hi287_0, aZ, hi287_1⟩ := at_T66 ci.out aa bP bQ;have aP := ao; have aQ := an;cases cB;replace an := (HB.out.cell (qqW w _ an)).trans an;replace ao := (HB.out.cell (qqW w _ ao)).trans ao;have ba := Aside0.mk hi287_0;have bz := Aside0.mk aY;clear hi287_0 aY;have bA := Aside0.mk hi287_1;have cy := Aside0.mk aZ;clear hi287_1 aZ; replace bP := eq_true bP; replace bQ := eq_true bQ;have cr : 0 ≤ (aa : Int) := od;have ct : aa < (ag.length : Int) := od;obtain ⟨cC, dc, dd, de, df, dg, av, aw, bB, hi289_0, bC, hi289_1⟩ := at_T66 ch.out aa cr ct;have bj := aw; have bk := av;obtain rfl : az = cC := (by injection dg);replace av := (HB.out.cell (qqW w _ av)).trans av;replace aw := (HB.out.cell (qqW w _ aw)).trans aw;have cd := Aside0.mk hi289_0;have cE := Aside0.mk bB;clear hi289_0 bB;have bD := Aside0.mk hi289_1;have ce := Aside0.mk bC;clear hi289_1 bC; replace cr := eq_true cr; replace ct := eq_true ct;have ea_ := qqI (ak.symm.trans av)
        injection ea_ with ea_ en_ ec_
        subst ea_;subst ec_;clear en_;have ea_ := qqI (al.symm.trans aw)
        injection ea_ with ea_ en_ ec_
        subst ea_;subst ec_;clear en_;have cu : 0 ≤ (aa : Int) := od;have cv : aa < (ai.length : Int) := od;obtain ⟨cD, dh, di, dj, dk, dl, ax, ay, bE, hi290_0, bF, hi290_1⟩ := at_T66 ci.out aa cu cv;have bl := ay; have bm := ax;obtain rfl : aA = cD := (by injection dl);replace ax := (HB.out.cell (qqW w _ ax)).trans ax;replace ay := (HB.out.cell (qqW w _ ay)).trans ay;have cf := Aside0.mk hi290_0;have cF := Aside0.mk bE;clear hi290_0 bE;have bG := Aside0.mk hi290_1;have cg := Aside0.mk bF;clear hi290_1 bF; replace cu := eq_true cu; replace cv := eq_true cv;have ea_ := qqI (an.symm.trans ax)
        injection ea_ with ea_ en_ ec_
        subst ea_;subst ec_;clear en_;have ea_ := qqI (ao.symm.trans ay)
        injection ea_ with ea_ en_ ec_
        subst ea_;subst ec_;clear en_;refine start_ (n := 30) (S := fun w' => w'.cell? ⟨ar, 0, none⟩ = some (.slice bH ap.length bn) ∧ w'.cell? ⟨ar, 1, none⟩ = some (.slice bI ah.length bo) ∧ w'.cell? ⟨ar, 2, none⟩ = some (.slice (some az) ag.length bp) ∧ w'.cell? ⟨au, 0, none⟩ = some (.slice bJ aq.length bq) ∧ w'.cell? ⟨au, 1, none⟩ = some (.slice bK aj.length br) ∧ w'.cell? ⟨au, 2, none⟩ = some (.slice (some aA) ai.length bt) ∧ w'.cell? (az.add ((aa).toNat * 2)) = some (.slice bb ((rd_T66 ag aa).f0).length bc) ∧ w'.cell? ⟨(az.add ((aa).toNat * 2)).block, (az.add ((aa).toNat * 2)).off + 1, none⟩ = some (.slice bf ((rd_T66 ag aa).f1).length bg) ∧ w'.cell? (aA.add ((aa).toNat * 2)) = some (.slice bd ((rd_T66 ai aa).f0).length be) ∧ w'.cell? ⟨(aA.add ((aa).toNat * 2)).block, (aA.add ((aa).toNat * 2)).off + 1, none⟩ = some (.slice bh ((rd_T66 ai aa).f1).length bi) ∧ w'.cell? (az.add ((aa).toNat * 2)) = some (.slice bb ((rd_T66 ag aa).f0).length bc) ∧ w'.cell? ⟨(az.add ((aa).toNat * 2)).block, (az.add ((aa).toNat * 2)).off + 1, none⟩ = some (.slice bf ((rd_T66 ag aa).f1).length bg) ∧ w'.cell? (aA.add ((aa).toNat * 2)) = some (.slice bd ((rd_T66 ai aa).f0).length be) ∧ w'.cell? ⟨(aA.add ((aa).toNat * 2)).block, (aA.add ((aa).toNat * 2)).off + 1, none⟩ = some (.slice bh ((rd_T66 ai aa).f1).length bi)) (ds := []) (bs 30 0) (by kernel_rfl) rfl rfl ⟨kk ad 0, kk ad 1, kk ad 2, kk ae 0, kk ae 1, kk ae 2, (kq HB aO), (kq HB aN), (kq HB aQ), (kq HB aP), (kq HB bk), (kq HB bj), (kq HB bm), (kq HB bl)⟩ (fun hHeld => ?_); refine with_tabW qca.tab18 qca.bits18 (fun HT_ HW_ => ?_);generalize wr.drew = w46 at ad ae HB aX bx ba bA cd bD cf bG ak al an ao av aw ax ay hHeld ⊢;refine pu 0 (some 75) (bs 30 1) HT_ ?_;refine pu 2 (some 77) (bs 30 5) HT_ ?_;refine pu 6 (some 81) (bs 30 69) HT_ ?_;refine pu 8 (some 83) (bs 30 325) HT_ ?_;refine ta 1 (some 76) (bs 30 327) HT_ HW_ hHeld ?_;refine pu 3 (some 78) (bs 30 335) HT_ ?_;refine pu 4 (some 79) (bs 30 351) HT_ ?_;refine ta 5 (some 80) (bs 30 383) HT_ HW_ hHeld ?_;refine ta 7 (some 82) (bs 30 511) HT_ HW_ hHeld ?_;refine pu 9 (some 84) (bs 30 1023) HT_ ?_;refine pu 10 (some 85) (bs 30 2047) HT_ ?_;refine ta 11 (some 86) (bs 30 4095) HT_ HW_ hHeld ?_;refine one_ (i := 12) (N := some 87) (bs 30 8191) rfl rfl (one_of HT_.out (by kernel_rfl)) (by decide) (fun K hK => ?_);refine goes_ Try.func56 (by kernel_rfl) rfl #[.slice bb ((rd_T66 ag aa).f0).length bc, .slice bd ((rd_T66 ai aa).f0).length be] (by rfl) rfl rfl (by (try simp only [qM1, qM2, qM3]); first | done | rfl) ?_;(with_reducible refine (qta.calls k4 _ _ ((rd_T66 ag aa).f0) _ _ ((rd_T66 ai aa).f0) true _ ?side1 ?side2 ?side3 ?side4 A42.out).mono ?_);(case side1 => repeat (first | exact (Kd.C_below aX.out HB.out) | (with_reducible first | refine Kd.C_alloc ?_ _ | refine Kd.C_drewN ?_ _ | refine Kd.C_drew ?_)));(case side2 => exact bw.out);(case side3 => repeat (first | exact (Kd.C_below ba.out HB.out) | (with_reducible first | refine Kd.C_alloc ?_ _ | refine Kd.C_drewN ?_ _ | refine Kd.C_drew ?_)));(case side4 => exact bz.out);rintro e w' ⟨rfl, ⟨nd, rfl⟩⟩;refine ⟨_, rfl, ?_⟩;refine hK.out _ _ ⟨kk ad 0, kk ad 1, kk ad 2, kk ae 0, kk ae 1, kk ae 2, (kq HB aO), (kq HB aN), (kq HB aQ), (kq HB aP), (kq HB bk), (kq HB bj), (kq HB bm), (kq HB bl)⟩ (fun hHeld => ?_);clear hK K;refine no (some 87) ?_;refine pu 13 (some 88) (bs 30 16383) HT_ ?_;refine pu 14 (some 89) (bs 30 32767) HT_ ?_;refine pu 15 (some 90) (bs 30 65535) HT_ ?_;refine pu 17 (some 92) (bs 30 196607) HT_ ?_;refine pu 21 (some 96) (bs 30 2293759) HT_ ?_;refine pu 23 (some 98) (bs 30 10682367) HT_ ?_;refine ta 16 (some 91) (bs 30 10747903) HT_ HW_ hHeld ?_;refine pu 18 (some 93) (bs 30 11010047) HT_ ?_;refine pu 19 (some 94) (bs 30 11534335) HT_ ?_;refine ta 20 (some 95) (bs 30 12582911) HT_ HW_ hHeld ?_;refine ta 22 (some 97) (bs 30 16777215) HT_ HW_ hHeld ?_;refine pu 24 (some 99) (bs 30 33554431) HT_ ?_;refine pu 25 (some 100) (bs 30 67108863) HT_ ?_;refine ta 26 (some 101) (bs 30 134217727) HT_ HW_ hHeld ?_;refine one_ (i := 27) (N := some 102) (bs 30 268435455) rfl rfl (one_of HT_.out (by kernel_rfl)) (by decide) (fun K hK => ?_);refine goes_ Try.func56 (by kernel_rfl) rfl #[.slice bf ((rd_T66 ag aa).f1).length bg, .slice bh ((rd_T66 ai aa).f1).length bi] (by rfl) rfl rfl (by (try simp only [qM1, qM2, qM3]); first | done | rfl) ?_;(with_reducible refine (qta.calls k4 _ _ ((rd_T66 ag aa).f1) _ _ ((rd_T66 ai aa).f1) true _ ?side1 ?side2 ?side3 ?side4 A44.out).mono ?_);(case side1 => repeat (first | exact (Kd.C_below bD.out (kh HB)) | (with_reducible first | refine Kd.C_alloc ?_ _ | refine Kd.C_drewN ?_ _ | refine Kd.C_drew ?_)));(case side2 => exact ce.out);(case side3 => repeat (first | exact (Kd.C_below bG.out (kh HB)) | (with_reducible first | refine Kd.C_alloc ?_ _ | refine Kd.C_drewN ?_ _ | refine Kd.C_drew ?_)));(case side4 => exact cg.out);rintro e w' ⟨rfl, ⟨nd, rfl⟩⟩;refine ⟨_, rfl, ?_⟩;refine hK.out _ _ ⟨kk ad 0, kk ad 1, kk ad 2, kk ae 0, kk ae 1, kk ae 2, (kq HB aO), (kq HB aN), (kq HB aQ), (kq HB aP), (kq HB bk), (kq HB bj), (kq HB bm), (kq HB bl)⟩ (fun hHeld => ?_);clear hK K;refine no (some 102) ?_;refine pu 28 (some 103) (bs 30 536870911) HT_ ?_;refine pu 29 (some 104) (bs 30 1073741823) HT_ ?_;refine done_ (done_of HT_.out (by kernel_rfl)) ?_;(try go_wp2);go_roundg k4
        case measure => have := HJ2.out; have := HK2.out; have := HK3.out; have := HK4.out; omega
        case rel => exact ⟨(wrap64 (aa + 1)), et, H', ⟨by have := HJ2.out; have := HK2.out; have := HK3.out; have := HK4.out; omega⟩, ⟨kg ad⟩, ⟨kg ae⟩, ⟨kh HB⟩⟩
end Go.Proofs.Ytmlbliggbkfjnaa.J
namespace Go.Proofs.Ytmlbliggbkfjnaa.J
open Go.RowKit Go.Proofs.YtmlbliggbkfjnaaW.PrintWords Go.Proofs.YtmlbliggbkfjnaaW.PrintLast Go.Proofs.YtmlbliggbkfjnaaW.PrintMore
attribute [local go_sem] max2_int min2_int max_two min_two max_three min_three max_four min_four
def qbb.f (k : Nat)  : Option (Bool) := (some (([(⟨1, false⟩ : S64)] : List (S64)) : List (S64))).bind fun ab => ((tune_Tune.f k 7 ab (([(⟨2, 0, 0, 2⟩ : S61), (⟨1, 0, 0, 0⟩ : S61), (⟨5, 0, 1, 0⟩ : S61), (⟨5, 2, 2, 0⟩ : S61)] : List (S61))) (([(⟨([] : List Int), (([3] : List Int))⟩ : S66)] : List (S66)))).bind fun aa => (if aa.2.2.2 = 0 then ((qca.f k aa.1 aa.2.1 aa.2.2.1 ab (([(⟨1, 0, 0, 0⟩ : S61), (⟨6, 0, 0, 2⟩ : S61), (⟨5, 1, 1, 0⟩ : S61)] : List (S61))) (([(⟨([] : List Int), (([2] : List Int))⟩ : S66)] : List (S66)))).bind fun ad => (if ad = true then ((tune_Levels.f k aa.1 aa.2.1 aa.2.2.1).bind fun ae => ((qra.f k ae (([0, 0, 1] : List Int))).bind fun af => (some af))) else (some false))) else (some false)))
theorem qbb.calls (k : Nat)  (r : Bool) (w : World) (h : qbb.f k  = some r) (hrt : r = true := by rfl) :
  Calls Try.prog 15 #[] w fun e w' => e = .returned (.bool r) ∧ Below w.heap.size w w' := by
 have HRT := Aside0.mk hrt;clear hrt;have hu64 := Try.underlying64;have hu61 := Try.underlying61;have hu66 := Try.underlying66;have hu26 := Try.underlying26;have HB := Aside0.mk (Below.refl w.heap.size w);have H : ((some (([(⟨1, false⟩ : S64)] : List (S64)) : List (S64))).bind fun ai => ((tune_Tune.f k 7 ai (([(⟨2, 0, 0, 2⟩ : S61), (⟨1, 0, 0, 0⟩ : S61), (⟨5, 0, 1, 0⟩ : S61), (⟨5, 2, 2, 0⟩ : S61)] : List (S61))) (([(⟨([] : List Int), (([3] : List Int))⟩ : S66)] : List (S66)))).bind fun aa => (if aa.2.2.2 = 0 then ((qca.f k aa.1 aa.2.1 aa.2.2.1 ai (([(⟨1, 0, 0, 0⟩ : S61), (⟨6, 0, 0, 2⟩ : S61), (⟨5, 1, 1, 0⟩ : S61)] : List (S61))) (([(⟨([] : List Int), (([2] : List Int))⟩ : S66)] : List (S66)))).bind fun aB => (if aB = true then ((tune_Levels.f k aa.1 aa.2.1 aa.2.2.1).bind fun ay => ((qra.f k ay (([0, 0, 1] : List Int))).bind fun az => (some az))) else (some false))) else (some false)))) = some r := h;clear h;obtain ⟨ai, aS⟩ : ∃ y_ : List (S64), y_ = (([(⟨1, false⟩ : S64)] : List (S64))) := ⟨_, rfl⟩
 replace H : ((tune_Tune.f k 7 ai (([(⟨2, 0, 0, 2⟩ : S61), (⟨1, 0, 0, 0⟩ : S61), (⟨5, 0, 1, 0⟩ : S61), (⟨5, 2, 2, 0⟩ : S61)] : List (S61))) (([(⟨([] : List Int), (([3] : List Int))⟩ : S66)] : List (S66)))).bind fun aa => (if aa.2.2.2 = 0 then ((qca.f k aa.1 aa.2.1 aa.2.2.1 ai (([(⟨1, 0, 0, 0⟩ : S61), (⟨6, 0, 0, 2⟩ : S61), (⟨5, 1, 1, 0⟩ : S61)] : List (S61))) (([(⟨([] : List Int), (([2] : List Int))⟩ : S66)] : List (S66)))).bind fun aB => (if aB = true then ((tune_Levels.f k aa.1 aa.2.1 aa.2.2.1).bind fun ay => ((qra.f k ay (([0, 0, 1] : List Int))).bind fun az => (some az))) else (some false))) else (some false))) = some r := by first | (rw [aS]; with_reducible exact H) | (have H2_ := (Option.bind_some _ _).symm.trans H; rw [aS]; with_reducible exact H2_) | (have H2_ := (Option.bind_some _ _).symm.trans H; with_reducible exact H2_) | with_reducible exact H | (rw [aS]; exact H) | exact H
 have bt := Aside0.mk aS;clear aS;obtain ⟨ar, aT⟩ : ∃ y_ : List (S61), y_ = (([(⟨2, 0, 0, 2⟩ : S61), (⟨1, 0, 0, 0⟩ : S61), (⟨5, 0, 1, 0⟩ : S61), (⟨5, 2, 2, 0⟩ : S61)] : List (S61))) := ⟨_, rfl⟩
 replace H : ((tune_Tune.f k 7 ai ar (([(⟨([] : List Int), (([3] : List Int))⟩ : S66)] : List (S66)))).bind fun aa => (if aa.2.2.2 = 0 then ((qca.f k aa.1 aa.2.1 aa.2.2.1 ai (([(⟨1, 0, 0, 0⟩ : S61), (⟨6, 0, 0, 2⟩ : S61), (⟨5, 1, 1, 0⟩ : S61)] : List (S61))) (([(⟨([] : List Int), (([2] : List Int))⟩ : S66)] : List (S66)))).bind fun aB => (if aB = true then ((tune_Levels.f k aa.1 aa.2.1 aa.2.2.1).bind fun ay => ((qra.f k ay (([0, 0, 1] : List Int))).bind fun az => (some az))) else (some false))) else (some false))) = some r := by first | (rw [aT]; with_reducible exact H) | (have H2_ := (Option.bind_some _ _).symm.trans H; rw [aT]; with_reducible exact H2_) | (have H2_ := (Option.bind_some _ _).symm.trans H; with_reducible exact H2_) | with_reducible exact H | (rw [aT]; exact H) | exact H
 have bu := Aside0.mk aT;clear aT;obtain ⟨bb, aU⟩ : ∃ y_ : List Int, y_ = (([3] : List Int)) := ⟨_, rfl⟩
 replace H : ((tune_Tune.f k 7 ai ar (([(⟨([] : List Int), bb⟩ : S66)] : List (S66)))).bind fun aa => (if aa.2.2.2 = 0 then ((qca.f k aa.1 aa.2.1 aa.2.2.1 ai (([(⟨1, 0, 0, 0⟩ : S61), (⟨6, 0, 0, 2⟩ : S61), (⟨5, 1, 1, 0⟩ : S61)] : List (S61))) (([(⟨([] : List Int), (([2] : List Int))⟩ : S66)] : List (S66)))).bind fun aB => (if aB = true then ((tune_Levels.f k aa.1 aa.2.1 aa.2.2.1).bind fun ay => ((qra.f k ay (([0, 0, 1] : List Int))).bind fun az => (some az))) else (some false))) else (some false))) = some r := by first | (rw [aU]; with_reducible exact H) | (have H2_ := (Option.bind_some _ _).symm.trans H; rw [aU]; with_reducible exact H2_) | (have H2_ := (Option.bind_some _ _).symm.trans H; with_reducible exact H2_) | with_reducible exact H | (rw [aU]; exact H) | exact H
 have bv := Aside0.mk aU;clear aU;obtain ⟨aC, aV⟩ : ∃ y_ : List (S66), y_ = (([(⟨([] : List Int), bb⟩ : S66)] : List (S66))) := ⟨_, rfl⟩
 replace H : ((tune_Tune.f k 7 ai ar aC).bind fun aa => (if aa.2.2.2 = 0 then ((qca.f k aa.1 aa.2.1 aa.2.2.1 ai (([(⟨1, 0, 0, 0⟩ : S61), (⟨6, 0, 0, 2⟩ : S61), (⟨5, 1, 1, 0⟩ : S61)] : List (S61))) (([(⟨([] : List Int), (([2] : List Int))⟩ : S66)] : List (S66)))).bind fun aB => (if aB = true then ((tune_Levels.f k aa.1 aa.2.1 aa.2.2.1).bind fun ay => ((qra.f k ay (([0, 0, 1] : List Int))).bind fun az => (some az))) else (some false))) else (some false))) = some r := by first | (rw [aV]; with_reducible exact H) | (have H2_ := (Option.bind_some _ _).symm.trans H; rw [aV]; with_reducible exact H2_) | (have H2_ := (Option.bind_some _ _).symm.trans H; with_reducible exact H2_) | with_reducible exact H | (rw [aV]; exact H) | exact H
 have bw := Aside0.mk aV;clear aV;replace H := qqB H;obtain ⟨⟨aA, au, ax, bn⟩, A10, H⟩ := H;(try dsimp only at H);have A1 := Aside0.mk A10;clear A10;obtain ⟨aI, aW⟩ : ∃ y_ : List (S61), y_ = (([(⟨1, 0, 0, 0⟩ : S61), (⟨6, 0, 0, 2⟩ : S61), (⟨5, 1, 1, 0⟩ : S61)] : List (S61))) := ⟨_, rfl⟩
 replace H : (if bn = 0 then ((qca.f k aA au ax ai aI (([(⟨([] : List Int), (([2] : List Int))⟩ : S66)] : List (S66)))).bind fun aB => (if aB = true then ((tune_Levels.f k aA au ax).bind fun ay => ((qra.f k ay (([0, 0, 1] : List Int))).bind fun az => (some az))) else (some false))) else (some false)) = some r := by first | (rw [aW]; with_reducible exact H) | (have H2_ := (Option.bind_some _ _).symm.trans H; rw [aW]; with_reducible exact H2_) | (have H2_ := (Option.bind_some _ _).symm.trans H; with_reducible exact H2_) | with_reducible exact H | (rw [aW]; exact H) | exact H
 have bx := Aside0.mk aW;clear aW;obtain ⟨bc, aX⟩ : ∃ y_ : List Int, y_ = (([2] : List Int)) := ⟨_, rfl⟩
 replace H : (if bn = 0 then ((qca.f k aA au ax ai aI (([(⟨([] : List Int), bc⟩ : S66)] : List (S66)))).bind fun aB => (if aB = true then ((tune_Levels.f k aA au ax).bind fun ay => ((qra.f k ay (([0, 0, 1] : List Int))).bind fun az => (some az))) else (some false))) else (some false)) = some r := by first | (rw [aX]; with_reducible exact H) | (have H2_ := (Option.bind_some _ _).symm.trans H; rw [aX]; with_reducible exact H2_) | (have H2_ := (Option.bind_some _ _).symm.trans H; with_reducible exact H2_) | with_reducible exact H | (rw [aX]; exact H) | exact H
 have bz := Aside0.mk aX;clear aX;obtain ⟨aQ, aY⟩ : ∃ y_ : List (S66), y_ = (([(⟨([] : List Int), bc⟩ : S66)] : List (S66))) := ⟨_, rfl⟩
 replace H : (if bn = 0 then ((qca.f k aA au ax ai aI aQ).bind fun aB => (if aB = true then ((tune_Levels.f k aA au ax).bind fun ay => ((qra.f k ay (([0, 0, 1] : List Int))).bind fun az => (some az))) else (some false))) else (some false)) = some r := by first | (rw [aY]; with_reducible exact H) | (have H2_ := (Option.bind_some _ _).symm.trans H; rw [aY]; with_reducible exact H2_) | (have H2_ := (Option.bind_some _ _).symm.trans H; with_reducible exact H2_) | with_reducible exact H | (rw [aY]; exact H) | exact H
 have bA := Aside0.mk aY;clear aY
 by_cases c2 : bn = 0
 rotate_left
 ·rw [if_neg c2] at H
  have bH := beq_eq_false_iff_ne.mpr c2;have bI := bne_iff_ne.mpr c2;exact absurd ((qqI H).trans HRT.out) (by decide)
 rw [if_pos c2] at H;have bH := beq_iff_eq.mpr c2;have bI := bne_eq_false_iff_eq.mpr c2;clear c2;replace H := qqB H;obtain ⟨aB, A30, H⟩ := H;(try dsimp only at H);have A3 := Aside0.mk A30;clear A30
 by_cases c4 : aB = true
 rotate_left
 ·replace c4 := Bool.eq_false_iff.mpr c4
  subst c4;replace H := ifF H;exact absurd ((qqI H).trans HRT.out) (by decide)
 subst c4;replace H := ifT H;replace H := qqB H;obtain ⟨ay, A50, H⟩ := H;(try dsimp only at H);have A5 := Aside0.mk A50;clear A50;obtain ⟨bC, aZ⟩ : ∃ y_ : List Int, y_ = (([0, 0, 1] : List Int)) := ⟨_, rfl⟩
 replace H : ((qra.f k ay bC).bind fun az => (some az)) = some r := by first | (rw [aZ]; with_reducible exact H) | (have H2_ := (Option.bind_some _ _).symm.trans H; rw [aZ]; with_reducible exact H2_) | (have H2_ := (Option.bind_some _ _).symm.trans H; with_reducible exact H2_) | with_reducible exact H | (rw [aZ]; exact H) | exact H
 have bB := Aside0.mk aZ;clear aZ;replace H := qqB H;obtain ⟨az, A60, H⟩ := H;(try dsimp only at H);have A6 := Aside0.mk A60;clear A60;obtain rfl := qqI H;go_enter Try.func15, Try.ntmps15;go_wp2_with (first | ((with_reducible refine qfa (N := 6) rfl ?_); (try (refine gate_guard (by rfl) ?_; dsimp only)); refine Kd.R_lit k64 _ 64 ?hg (N := 6) ?hd (xs := ([(⟨1, false⟩ : S64)] : List (S64))) (inner := [.int .i64 1, .bool false]) (ok := fun _ => True) (okp := fun _ => True) ?hr ?hp (fun _ hk => hk) trivial (Below.refl _ _) (Nat.le_refl _) (by simp) ?_; (case hd | hg => rfl); (case hr => go_simp; try rfl); (case hp => exact (Reps.c2 (show Kd.M k64 _ _ _ (⟨1, false⟩ : S64) [.int .i64 1, .bool false] from (k64_mkM _ _ _ (⟨1, false⟩ : S64) )) (Reps.none _ _))); intro bo w7 ho8 hb hg_ hnew_; clear hg_ hnew_; (first | rw [← bt.out] at ho8 | (simp only [Int.reduceToNat] at ho8; rw [← bt.out] at ho8)); have ab := kLR ho8 HB; replace HB := kH HB hb; clear hb ho8) | ((with_reducible refine qfa (N := 11) rfl ?_); (try (refine gate_guard (by rfl) ?_; dsimp only)); refine Kd.R_lit k61 _ 61 ?hg (N := 11) ?hd (xs := ([(⟨2, 0, 0, 2⟩ : S61), (⟨1, 0, 0, 0⟩ : S61), (⟨5, 0, 1, 0⟩ : S61), (⟨5, 2, 2, 0⟩ : S61)] : List (S61))) (inner := [.int .i64 2, .int .i64 0, .int .i64 0, .int .u64 2, .int .i64 1, .int .i64 0, .int .i64 0, .int .u64 0, .int .i64 5, .int .i64 0, .int .i64 1, .int .u64 0, .int .i64 5, .int .i64 2, .int .i64 2, .int .u64 0]) (ok := fun _ => True) (okp := fun _ => True) ?hr ?hp (fun _ hk => hk) trivial (Below.refl _ _) (Nat.le_refl _) (by simp) ?_; (case hd | hg => rfl); (case hr => go_simp; try rfl); (case hp => exact (Reps.c4 (show Kd.M k61 _ _ _ (⟨2, 0, 0, 2⟩ : S61) [.int .i64 2, .int .i64 0, .int .i64 0, .int .u64 2] from (k61_mkM _ _ _ (⟨2, 0, 0, 2⟩ : S61) )) (Reps.c4 (show Kd.M k61 _ _ _ (⟨1, 0, 0, 0⟩ : S61) [.int .i64 1, .int .i64 0, .int .i64 0, .int .u64 0] from (k61_mkM _ _ _ (⟨1, 0, 0, 0⟩ : S61) )) (Reps.c4 (show Kd.M k61 _ _ _ (⟨5, 0, 1, 0⟩ : S61) [.int .i64 5, .int .i64 0, .int .i64 1, .int .u64 0] from (k61_mkM _ _ _ (⟨5, 0, 1, 0⟩ : S61) )) (Reps.c4 (show Kd.M k61 _ _ _ (⟨5, 2, 2, 0⟩ : S61) [.int .i64 5, .int .i64 2, .int .i64 2, .int .u64 0] from (k61_mkM _ _ _ (⟨5, 2, 2, 0⟩ : S61) )) (Reps.none _ _)))))); intro bp w9 ho10 hb hg_ hnew_; clear hg_ hnew_; (first | rw [← bu.out] at ho10 | (simp only [Int.reduceToNat] at ho10; rw [← bu.out] at ho10)); replace ab := kR ab hb; have ad := kLR ho10 HB; replace HB := kH HB hb; clear hb ho10) | ((with_reducible refine qfa (N := 12) rfl ?_); (try (refine gate_guard (by rfl) ?_; dsimp only)); refine Kd.R_lit (Kd.int .i64) _ 3 ?hg (N := 12) ?hd (xs := ([3] : List Int)) (inner := [.int .i64 3]) (ok := fun _ => True) (okp := fun _ => True) ?hr ?hp (fun _ hk => hk) trivial (Below.refl _ _) (Nat.le_refl _) (by simp) ?_; (case hd | hg => rfl); (case hr => go_simp; try rfl); (case hp => exact (Reps.one (show Kd.M (Kd.int .i64) _ _ _ 3 [.int .i64 3] from rfl) (Reps.none _ _))); intro cj w11 ho12 hb hg_ hnew_; clear hg_ hnew_; (first | rw [← bv.out] at ho12 | (simp only [Int.reduceToNat] at ho12; rw [← bv.out] at ho12)); replace ab := kR ab hb; replace ad := kR ad hb; have be := kLR ho12 HB; replace HB := kH HB hb; clear hb ho12; obtain ⟨bD, bE, bJ⟩ := Kd.R_slice be.out; subst bJ) | ((with_reducible refine qfa (N := 14) rfl ?_); (try (refine gate_guard (by rfl) ?_; dsimp only)); refine Kd.N_lit k66 _ 66 ?hg (N' := 14) ?hd (xs := ([(⟨([] : List Int), bb⟩ : S66)] : List (S66))) (inner := [.slice none 0 0, .slice bD bb.length bE]) (ok := (fun k_ => some k_ ≠ (bo : Value).ownBlock ∧ some k_ ≠ (bp : Value).ownBlock)) (okp := (fun k_ => some k_ ≠ (bo : Value).ownBlock ∧ some k_ ≠ (bp : Value).ownBlock)) ?hr ?hp (fun _ hk => hk) ((show ∀ k_, w11.heap.size ≤ k_ → (fun k_ => some k_ ≠ (bo : Value).ownBlock ∧ some k_ ≠ (bp : Value).ownBlock) k_ from fun k_ hk => ⟨Kd.fresh' (Kd.R_lt (krR ab)) k_ hk, Kd.fresh' (Kd.R_lt (krR ad)) k_ hk⟩) _ (Nat.le_refl _)) (Below.refl _ _) (Nat.le_refl _) (by simp) ?_; (case hd | hg => rfl); (case hr => go_simp; try rfl); (case hp => exact (Reps.c2 (show Kd.FK k66 _ _ (⟨([] : List Int), bb⟩ : S66) [.slice none 0 0, .slice bD bb.length bE] from (k66_mkF _ _ (⟨([] : List Int), bb⟩ : S66) (Nat.le_refl _) (Kd.F_nil _ _ _) (Kd.R_reads' (Kd.R_mono (ok' := (fun k_ => some k_ ≠ (bo : Value).ownBlock ∧ some k_ ≠ (bp : Value).ownBlock)) (Kd.R_apart' (Kd.R_apart' (be.out) (Kd.R_typed ab.out) (by decide)) (Kd.R_typed ad.out) (by decide)) (fun k_ hk => ⟨hk.1.2, hk.2⟩))).2.1 (Kd.R_F (Kd.R_mono (ok' := (fun k_ => some k_ ≠ (bo : Value).ownBlock ∧ some k_ ≠ (bp : Value).ownBlock)) (Kd.R_apart' (Kd.R_apart' (be.out) (Kd.R_typed ab.out) (by decide)) (Kd.R_typed ad.out) (by decide)) (fun k_ hk => ⟨hk.1.2, hk.2⟩))))) (Reps.none _ _))); intro ck w14 ho15 hb hg_ hnew_; clear hg_ hnew_; (first | rw [← bw.out] at ho15 | (simp only [Int.reduceToNat] at ho15; rw [← bw.out] at ho15)); replace ab := kR ab hb; replace ad := kR ad hb; have ag := kLN ho15 HB; replace HB := kH HB hb; clear be; clear hb ho15; obtain ⟨aH, aG, bK⟩ := Kd.N_slice ag.out; subst bK; obtain ⟨aD, aE, bL⟩ := Kd.R_slice ad.out; subst bL; obtain ⟨av, aw, bM⟩ := Kd.R_slice ab.out; subst bM) | ((with_reducible refine qfa (N := 1) rfl ?_); (try (refine gate_guard (by rfl) ?_; dsimp only)); refine qha ?hg (N := 1) ?hd (cs := #[.slice none 0 0, .slice none 0 0, .slice none 0 0]) (t := 26) ?hr ?_; (case hd | hg => rfl); (case hr => go_simp; try rfl); intro an hg w19 hbox hb; replace ab := kR ab hb; replace ad := kR ad hb; replace ag := Aside0.mk (Kd.N_below (Kd.N_elderB (krN ag) an (Nat.le_of_eq hg.symm)) hb); have ae := am hbox; have bX := kG HB hg; have bY := kG HB hg; replace HB := kH HB hb; clear hb hbox hg; have Z20 := kz3 ae) | ((with_reducible refine gate_callee (f := 24) rfl ?_); refine goesL_ (some 18) rfl rfl Try.func24 (by kernel_rfl) rfl #[.int .u64 7, .agg #[.slice av ai.length aw, .slice aD ar.length aE, .slice aH aC.length aG]] rfl (by (try simp only [qM1, qM2, qM3]); first | done | rfl) ?_; (with_reducible refine (tune_Tune.calls k 7 _ _ ai _ _ ar _ _ aC aA au ax bn _ ?side1 ?side2 ?side3 ?side4 ?side5 ?side6 A1.out).mono ?_); (case side1 => exact (Kd.R_reads' (kt ab ae)).2.2); (case side2 => exact (Kd.R_reads' ab.out).2.1); (case side3 => exact (Kd.R_reads' (kt ad ae)).2.2); (case side4 => exact (Kd.R_reads' ad.out).2.1); (case side5 => refine (Kd.N_reads' (e := 66) (base := w.heap.size) (ok := fun k_ => ((some k_ ≠ (.slice av ai.length aw : Value).ownBlock ∧ some k_ ≠ (.slice aD ar.length aE : Value).ownBlock) ∧ k_ ≠ an)) (n := aC.length) (c := aG) ?_).2.2; exact (by (with_reducible repeat first | apply Kd.N_alloc | apply Kd.N_drewN | apply Kd.N_drew); exact (Kd.N_mono (Kd.N_far (p := ⟨an, 2, none⟩) (Kd.N_far (p := ⟨an, 1, none⟩) (Kd.N_far (p := ⟨an, 0, none⟩) (Kd.N_mono ag.out (fun k_ hk => (⟨hk, hk.2⟩ : _ ∧ k_ ≠ an))) (fun _ hk => hk.2) (.slice av ai.length aw)) (fun _ hk => hk.2) (.slice aD ar.length aE)) (fun _ hk => hk.2) (.slice aH aC.length aG)) (fun _ h_ => h_.1)))); (case side6 => exact (Kd.N_reads' ag.out).2.1); rintro e w21 ⟨bN, bO, cl, rfl, ho0, ho1, ho2, hb⟩; refine ⟨_, rfl, ?_⟩; have aj := Aside0.mk (Kd.R_lower (Kd.R_new' ho0 (Kd.R_lt (kt ab ae))) (below_size (kh HB))); have ah := Aside0.mk (Kd.R_lower (Kd.R_new' ho1 (Kd.R_lt (kt ad ae))) (below_size (kh HB))); have ak := Aside0.mk (Kd.N_lower (Kd.N_mono (ok' := fun k_ => some k_ ≠ (bN : Value).ownBlock ∧ some k_ ≠ (bO : Value).ownBlock ∧ some k_ ≠ (.slice av ai.length aw : Value).ownBlock ∧ some k_ ≠ (.slice aD ar.length aE : Value).ownBlock ∧ some k_ ≠ (.slice aH aC.length aG : Value).ownBlock ∧ k_ ≠ an) (Kd.S_N (Kd.S_bound (Kd.S_apart' (Kd.S_apart' ho2 (Kd.R_typed ho0) (by decide)) (Kd.R_typed ho1) (by decide)))) (fun k_ hk_ => ⟨hk_.1.1.2, hk_.1.2, (Kd.fresh' (Kd.R_lt (kt ab ae)) k_ hk_.2.1), (Kd.fresh' (Kd.R_lt (kt ad ae)) k_ hk_.2.1), (Kd.fresh' (Kd.N_lt (by (with_reducible repeat first | apply Kd.N_alloc | apply Kd.N_drewN | apply Kd.N_drew); exact (Kd.N_mono (Kd.N_far (p := ⟨an, 2, none⟩) (Kd.N_far (p := ⟨an, 1, none⟩) (Kd.N_far (p := ⟨an, 0, none⟩) (Kd.N_mono ag.out (fun k_ hk => (⟨hk, hk.2⟩ : _ ∧ k_ ≠ an))) (fun _ hk => hk.2) (.slice av ai.length aw)) (fun _ hk => hk.2) (.slice aD ar.length aE)) (fun _ hk => hk.2) (.slice aH aC.length aG)) (fun _ h_ => h_.1)))) k_ hk_.2.1), (Kd.freshB (g := an) (o := .cells #[.slice av ai.length aw, .slice aD ar.length aE, .slice aH aC.length aG] 26 (0, 0)) (kg ae) k_ hk_.2.1)⟩)) (below_size (kh HB))); replace ab := Aside0.mk (Kd.R_elder' (kt ab ae) (Kd.R_base ho0) hb); replace ad := Aside0.mk (Kd.R_elder' (kt ad ae) (Kd.R_base ho1) hb); replace ag := Aside0.mk (Kd.N_mono (Kd.N_told (Kd.N_told (Kd.N_told (Kd.N_old (by (with_reducible repeat first | apply Kd.N_alloc | apply Kd.N_drewN | apply Kd.N_drew); exact (Kd.N_mono (Kd.N_far (p := ⟨an, 2, none⟩) (Kd.N_far (p := ⟨an, 1, none⟩) (Kd.N_far (p := ⟨an, 0, none⟩) (Kd.N_mono ag.out (fun k_ hk => (⟨hk, hk.2⟩ : _ ∧ k_ ≠ an))) (fun _ hk => hk.2) (.slice av ai.length aw)) (fun _ hk => hk.2) (.slice aD ar.length aE)) (fun _ hk => hk.2) (.slice aH aC.length aG)) (fun _ h_ => h_.1))) hb) (Kd.R_base ho0)) (Kd.R_base ho1)) (Kd.S_base ho2)) (fun _ h_ => h_.1)); replace ae := kO (o' := .cells #[.slice av ai.length aw, .slice aD ar.length aE, .slice aH aC.length aG] 26 (0, 0)) ae hb; replace HB := kH HB hb; (try clear hb); (try clear hb2); (try clear hk); (try clear hi); (try clear ho0); (try clear ho1); (try clear ho2)) | ((with_reducible refine qfa (N := 2) rfl ?_); (try (refine gate_guard (by rfl) ?_; dsimp only)); refine qha ?hg (N := 2) ?hd (cs := #[.slice none 0 0, .slice none 0 0, .slice none 0 0]) (t := 26) ?hr ?_; (case hd | hg => rfl); (case hr => go_simp; try rfl); intro ap hg w22 hbox hb; replace ab := kR ab hb; replace ad := kR ad hb; replace ag := Aside0.mk (Kd.N_below (Kd.N_elderB (krN ag) ap (Nat.le_of_eq hg.symm)) hb); replace aj := kR aj hb; replace ah := kR ah hb; replace ak := Aside0.mk (Kd.N_below (Kd.N_elderB (krN ak) ap (Nat.le_of_eq hg.symm)) hb); have af := am hbox; have bZ := kG HB hg; have ca := kG HB hg; replace HB := kH HB hb; have bg := kP ae hg; have bh := kQ ae hg; replace ae := kU ae hb; clear hb hbox hg; obtain ⟨aM, aN, bP⟩ := Kd.R_slice aj.out; subst bP; have cb := bh.out; have cc := bg.out; have Z25 := kz3 af; obtain ⟨aK, aJ, bQ⟩ := Kd.R_slice ah.out; subst bQ; obtain ⟨aO, aL, bR⟩ := Kd.N_slice ak.out; subst bR; have Z28 := kz3 ae) | ((with_reducible refine qfa (N := 26) rfl ?_); (try (refine gate_guard (by rfl) ?_; dsimp only)); refine Kd.R_lit k61 _ 61 ?hg (N := 26) ?hd (xs := ([(⟨1, 0, 0, 0⟩ : S61), (⟨6, 0, 0, 2⟩ : S61), (⟨5, 1, 1, 0⟩ : S61)] : List (S61))) (inner := [.int .i64 1, .int .i64 0, .int .i64 0, .int .u64 0, .int .i64 6, .int .i64 0, .int .i64 0, .int .u64 2, .int .i64 5, .int .i64 1, .int .i64 1, .int .u64 0]) (ok := fun _ => True) (okp := fun _ => True) ?hr ?hp (fun _ hk => hk) trivial (Below.refl _ _) (Nat.le_refl _) (by simp) ?_; (case hd | hg => rfl); (case hr => go_simp; try rfl); (case hp => exact (Reps.c4 (show Kd.M k61 _ _ _ (⟨1, 0, 0, 0⟩ : S61) [.int .i64 1, .int .i64 0, .int .i64 0, .int .u64 0] from (k61_mkM _ _ _ (⟨1, 0, 0, 0⟩ : S61) )) (Reps.c4 (show Kd.M k61 _ _ _ (⟨6, 0, 0, 2⟩ : S61) [.int .i64 6, .int .i64 0, .int .i64 0, .int .u64 2] from (k61_mkM _ _ _ (⟨6, 0, 0, 2⟩ : S61) )) (Reps.c4 (show Kd.M k61 _ _ _ (⟨5, 1, 1, 0⟩ : S61) [.int .i64 5, .int .i64 1, .int .i64 1, .int .u64 0] from (k61_mkM _ _ _ (⟨5, 1, 1, 0⟩ : S61) )) (Reps.none _ _))))); intro bq w29 ho30 hb hg_ hnew_; clear hg_ hnew_; (first | rw [← bx.out] at ho30 | (simp only [Int.reduceToNat] at ho30; rw [← bx.out] at ho30)); replace ab := Aside0.mk (Kd.R_below (kt ab af) hb); replace ag := Aside0.mk (Kd.N_elder' (by (with_reducible repeat first | apply Kd.N_alloc | apply Kd.N_drewN | apply Kd.N_drew); exact (Kd.N_mono (Kd.N_far (p := ⟨ap, 2, none⟩) (Kd.N_far (p := ⟨ap, 1, none⟩) (Kd.N_far (p := ⟨ap, 0, none⟩) (Kd.N_mono ag.out (fun k_ hk => (⟨hk, hk.2⟩ : _ ∧ k_ ≠ ap))) (fun _ hk => hk.2) (.slice aM aA.length aN)) (fun _ hk => hk.2) (.slice aK au.length aJ)) (fun _ hk => hk.2) (.slice aO ax.length aL)) (fun _ h_ => h_.1))) (Kd.R_base ho30) hb); replace aj := Aside0.mk (Kd.R_below (kt aj af) hb); replace ak := Aside0.mk (Kd.N_elder' (by (with_reducible repeat first | apply Kd.N_alloc | apply Kd.N_drewN | apply Kd.N_drew); exact (Kd.N_mono (Kd.N_far (p := ⟨ap, 2, none⟩) (Kd.N_far (p := ⟨ap, 1, none⟩) (Kd.N_far (p := ⟨ap, 0, none⟩) (Kd.N_mono ak.out (fun k_ hk => (⟨hk, hk.2⟩ : _ ∧ k_ ≠ ap))) (fun _ hk => hk.2) (.slice aM aA.length aN)) (fun _ hk => hk.2) (.slice aK au.length aJ)) (fun _ hk => hk.2) (.slice aO ax.length aL)) (fun _ h_ => h_.1))) (Kd.R_base ho30) hb); have ao := Aside0.mk (Kd.R_lower (Kd.R_new' (Kd.R_new' ho30 (Kd.R_lt (kt ad af))) (Kd.R_lt (kt ah af))) (below_size (kh HB))); replace ad := Aside0.mk (Kd.R_elder' (kt ad af) (Kd.R_base ho30) hb); replace ah := Aside0.mk (Kd.R_elder' (kt ah af) (Kd.R_base ho30) hb); replace ae := kU ae hb; replace af := kO (o' := .cells #[.slice aM aA.length aN, .slice aK au.length aJ, .slice aO ax.length aL] 26 (0, 0)) af hb; replace HB := kH HB hb; clear hb ho30) | ((with_reducible refine qfa (N := 27) rfl ?_); (try (refine gate_guard (by rfl) ?_; dsimp only)); refine Kd.R_lit (Kd.int .i64) _ 3 ?hg (N := 27) ?hd (xs := ([2] : List Int)) (inner := [.int .i64 2]) (ok := fun _ => True) (okp := fun _ => True) ?hr ?hp (fun _ hk => hk) trivial (Below.refl _ _) (Nat.le_refl _) (by simp) ?_; (case hd | hg => rfl); (case hr => go_simp; try rfl); (case hp => exact (Reps.one (show Kd.M (Kd.int .i64) _ _ _ 2 [.int .i64 2] from rfl) (Reps.none _ _))); intro cm w31 ho32 hb hg_ hnew_; clear hg_ hnew_; (first | rw [← bz.out] at ho32 | (simp only [Int.reduceToNat] at ho32; rw [← bz.out] at ho32)); replace ab := kR ab hb; replace ad := kR ad hb; replace ag := Aside0.mk (Kd.N_elder' (krN ag) (Kd.R_base ho32) hb); replace aj := kR aj hb; replace ah := kR ah hb; replace ak := Aside0.mk (Kd.N_elder' (krN ak) (Kd.R_base ho32) hb); replace ao := kR ao hb; have bf := kLR ho32 HB; replace ae := kU ae hb; replace af := kU af hb; replace HB := kH HB hb; clear hb ho32; obtain ⟨bF, bG, bS⟩ := Kd.R_slice bf.out; subst bS) | ((with_reducible refine qfa (N := 29) rfl ?_); (try (refine gate_guard (by rfl) ?_; dsimp only)); refine Kd.N_lit k66 _ 66 ?hg (N' := 29) ?hd (xs := ([(⟨([] : List Int), bc⟩ : S66)] : List (S66))) (inner := [.slice none 0 0, .slice bF bc.length bG]) (ok := (fun k_ => some k_ ≠ (.slice av ai.length aw : Value).ownBlock ∧ some k_ ≠ (.slice aD ar.length aE : Value).ownBlock ∧ some k_ ≠ (.slice aH aC.length aG : Value).ownBlock ∧ some k_ ≠ (.slice aM aA.length aN : Value).ownBlock ∧ some k_ ≠ (.slice aK au.length aJ : Value).ownBlock ∧ some k_ ≠ (.slice aO ax.length aL : Value).ownBlock ∧ some k_ ≠ (bq : Value).ownBlock ∧ k_ ≠ an ∧ k_ ≠ ap)) (okp := (fun k_ => some k_ ≠ (.slice av ai.length aw : Value).ownBlock ∧ some k_ ≠ (.slice aD ar.length aE : Value).ownBlock ∧ some k_ ≠ (.slice aH aC.length aG : Value).ownBlock ∧ some k_ ≠ (.slice aM aA.length aN : Value).ownBlock ∧ some k_ ≠ (.slice aK au.length aJ : Value).ownBlock ∧ some k_ ≠ (.slice aO ax.length aL : Value).ownBlock ∧ some k_ ≠ (bq : Value).ownBlock ∧ k_ ≠ an ∧ k_ ≠ ap)) ?hr ?hp (fun _ hk => hk) ((show ∀ k_, w31.heap.size ≤ k_ → (fun k_ => some k_ ≠ (.slice av ai.length aw : Value).ownBlock ∧ some k_ ≠ (.slice aD ar.length aE : Value).ownBlock ∧ some k_ ≠ (.slice aH aC.length aG : Value).ownBlock ∧ some k_ ≠ (.slice aM aA.length aN : Value).ownBlock ∧ some k_ ≠ (.slice aK au.length aJ : Value).ownBlock ∧ some k_ ≠ (.slice aO ax.length aL : Value).ownBlock ∧ some k_ ≠ (bq : Value).ownBlock ∧ k_ ≠ an ∧ k_ ≠ ap) k_ from fun k_ hk => ⟨Kd.fresh' (Kd.R_lt (krR ab)) k_ hk, Kd.fresh' (Kd.R_lt (krR ad)) k_ hk, Kd.fresh' (Kd.N_lt (krN ag)) k_ hk, Kd.fresh' (Kd.R_lt (krR aj)) k_ hk, Kd.fresh' (Kd.R_lt (krR ah)) k_ hk, Kd.fresh' (Kd.N_lt (krN ak)) k_ hk, Kd.fresh' (Kd.R_lt (krR ao)) k_ hk, Kd.freshB (g := an) (o := .cells #[.slice av ai.length aw, .slice aD ar.length aE, .slice aH aC.length aG] 26 (0, 0)) (kb ae) k_ hk, Kd.freshB (g := ap) (o := .cells #[.slice aM aA.length aN, .slice aK au.length aJ, .slice aO ax.length aL] 26 (0, 0)) (kb af) k_ hk⟩) _ (Nat.le_refl _)) (Below.refl _ _) (Nat.le_refl _) (by simp) ?_; (case hd | hg => rfl); (case hr => go_simp; try rfl); (case hp => exact (Reps.c2 (show Kd.FK k66 _ _ (⟨([] : List Int), bc⟩ : S66) [.slice none 0 0, .slice bF bc.length bG] from (k66_mkF _ _ (⟨([] : List Int), bc⟩ : S66) (Nat.le_refl _) (Kd.F_nil _ _ _) (Kd.R_reads' (Kd.R_mono (ok' := (fun k_ => some k_ ≠ (.slice av ai.length aw : Value).ownBlock ∧ some k_ ≠ (.slice aD ar.length aE : Value).ownBlock ∧ some k_ ≠ (.slice aH aC.length aG : Value).ownBlock ∧ some k_ ≠ (.slice aM aA.length aN : Value).ownBlock ∧ some k_ ≠ (.slice aK au.length aJ : Value).ownBlock ∧ some k_ ≠ (.slice aO ax.length aL : Value).ownBlock ∧ some k_ ≠ (bq : Value).ownBlock ∧ k_ ≠ an ∧ k_ ≠ ap)) (Kd.R_types (Kd.R_types (Kd.R_apart' (Kd.R_apart' (Kd.R_apart' (Kd.R_apart' (Kd.R_apart' (Kd.R_apart' (Kd.R_apart' (bf.out) (Kd.R_typed ab.out) (by decide)) (Kd.R_typed ad.out) (by decide)) (Kd.N_typed ag.out) (by decide)) (Kd.R_typed aj.out) (by decide)) (Kd.R_typed ah.out) (by decide)) (Kd.N_typed ak.out) (by decide)) (Kd.R_typed ao.out) (by decide)) ae.out (by decide)) af.out (by decide)) (fun k_ hk => ⟨hk.1.1.1.1.1.1.1.1.2, ⟨hk.1.1.1.1.1.1.1.2, ⟨hk.1.1.1.1.1.1.2, ⟨hk.1.1.1.1.1.2, ⟨hk.1.1.1.1.2, ⟨hk.1.1.1.2, ⟨hk.1.1.2, ⟨hk.1.2, hk.2⟩⟩⟩⟩⟩⟩⟩⟩))).2.1 (Kd.R_F (Kd.R_mono (ok' := (fun k_ => some k_ ≠ (.slice av ai.length aw : Value).ownBlock ∧ some k_ ≠ (.slice aD ar.length aE : Value).ownBlock ∧ some k_ ≠ (.slice aH aC.length aG : Value).ownBlock ∧ some k_ ≠ (.slice aM aA.length aN : Value).ownBlock ∧ some k_ ≠ (.slice aK au.length aJ : Value).ownBlock ∧ some k_ ≠ (.slice aO ax.length aL : Value).ownBlock ∧ some k_ ≠ (bq : Value).ownBlock ∧ k_ ≠ an ∧ k_ ≠ ap)) (Kd.R_types (Kd.R_types (Kd.R_apart' (Kd.R_apart' (Kd.R_apart' (Kd.R_apart' (Kd.R_apart' (Kd.R_apart' (Kd.R_apart' (bf.out) (Kd.R_typed ab.out) (by decide)) (Kd.R_typed ad.out) (by decide)) (Kd.N_typed ag.out) (by decide)) (Kd.R_typed aj.out) (by decide)) (Kd.R_typed ah.out) (by decide)) (Kd.N_typed ak.out) (by decide)) (Kd.R_typed ao.out) (by decide)) ae.out (by decide)) af.out (by decide)) (fun k_ hk => ⟨hk.1.1.1.1.1.1.1.1.2, ⟨hk.1.1.1.1.1.1.1.2, ⟨hk.1.1.1.1.1.1.2, ⟨hk.1.1.1.1.1.2, ⟨hk.1.1.1.1.2, ⟨hk.1.1.1.2, ⟨hk.1.1.2, ⟨hk.1.2, hk.2⟩⟩⟩⟩⟩⟩⟩⟩))))) (Reps.none _ _))); intro cn w34 ho35 hb hg_ hnew_; clear hg_ hnew_; (first | rw [← bA.out] at ho35 | (simp only [Int.reduceToNat] at ho35; rw [← bA.out] at ho35)); replace ab := kR ab hb; replace ad := kR ad hb; replace ag := Aside0.mk (Kd.N_elder' (krN ag) (Kd.N_base ho35) hb); replace aj := kR aj hb; replace ah := kR ah hb; replace ak := Aside0.mk (Kd.N_elder' (krN ak) (Kd.N_base ho35) hb); replace ao := kR ao hb; have aF := kLN ho35 HB; replace ae := kU ae hb; replace af := kU af hb; replace HB := kH HB hb; clear bf; clear hb ho35; obtain ⟨bi, bd, bT⟩ := Kd.N_slice aF.out; subst bT; obtain ⟨ba, aR, bU⟩ := Kd.R_slice ao.out; subst bU) | ((with_reducible refine qfa (N := 4) rfl ?_); (try (refine gate_guard (by rfl) ?_; dsimp only)); refine qha ?hg (N := 4) ?hd (cs := #[.slice none 0 0, .slice none 0 0, .slice none 0 0]) (t := 26) ?hr ?_; (case hd | hg => rfl); (case hr => go_simp; try rfl); intro al hg w38 hbox hb; replace ab := kR ab hb; replace ad := kR ad hb; replace ag := Aside0.mk (Kd.N_below (Kd.N_elderB (krN ag) al (Nat.le_of_eq hg.symm)) hb); replace aj := kR aj hb; replace ah := kR ah hb; replace ak := Aside0.mk (Kd.N_below (Kd.N_elderB (krN ak) al (Nat.le_of_eq hg.symm)) hb); replace ao := kR ao hb; replace aF := Aside0.mk (Kd.N_below (Kd.N_elderB (krN aF) al (Nat.le_of_eq hg.symm)) hb); have aq := am hbox; have cd := kG HB hg; have ce := kG HB hg; replace HB := kH HB hb; have bj := kP ae hg; have bk := kQ ae hg; replace ae := kU ae hb; have bl := kP af hg; have bm := kQ af hg; replace af := kU af hb; clear hb hbox hg; have cf := bk.out; have cg := bj.out; have ch := bm.out; have ci := bl.out; have Z41 := kz3 aq; have Z42 := kz3 af) | (go_at_call 29; (with_reducible refine (qca.calls k _ _ aA _ _ au _ _ ax _ _ ai _ _ aI _ _ aQ true _ ?side1 ?side2 ?side3 ?side4 ?side5 ?side6 ?side7 ?side8 ?side9 ?side10 ?side11 ?side12 A3.out).mono ?_); (case side1 => exact (Kd.R_reads' (kt aj aq)).2.2); (case side2 => exact (Kd.R_reads' aj.out).2.1); (case side3 => refine (Kd.R_reads' (e := 61) (base := w.heap.size) (ok := fun k_ => ((True ∧ some k_ ≠ (.slice aD ar.length aE : Value).ownBlock) ∧ some k_ ≠ (.slice ba aI.length aR : Value).ownBlock)) (n := au.length) (c := aJ) ?_).2.2; exact (kt ah aq)); (case side4 => exact (Kd.R_reads' ah.out).2.1); (case side5 => exact (Kd.N_reads' (e := 66) (base := w.heap.size) (n := ax.length) (c := aL) (by (with_reducible repeat first | apply Kd.N_alloc | apply Kd.N_drewN | apply Kd.N_drew); exact (Kd.N_mono (Kd.N_far (p := ⟨al, 2, none⟩) (Kd.N_far (p := ⟨al, 1, none⟩) (Kd.N_far (p := ⟨al, 0, none⟩) (Kd.N_mono ak.out (fun k_ hk => (⟨hk, hk.2⟩ : _ ∧ k_ ≠ al))) (fun _ hk => hk.2) (.slice av ai.length aw)) (fun _ hk => hk.2) (.slice ba aI.length aR)) (fun _ hk => hk.2) (.slice bi aQ.length bd)) (fun _ h_ => h_.1)))).2.2); (case side6 => exact (Kd.N_reads' ak.out).2.1); (case side7 => exact (Kd.R_reads' (kt ab aq)).2.2); (case side8 => exact (Kd.R_reads' ab.out).2.1); (case side9 => refine (Kd.R_reads' (e := 61) (base := w.heap.size) (ok := fun k_ => ((True ∧ some k_ ≠ (.slice aD ar.length aE : Value).ownBlock) ∧ some k_ ≠ (.slice aK au.length aJ : Value).ownBlock)) (n := aI.length) (c := aR) ?_).2.2; exact (kt ao aq)); (case side10 => exact (Kd.R_reads' ao.out).2.1); (case side11 => refine (Kd.N_reads' (e := 66) (base := w.heap.size) (ok := fun k_ => ((some k_ ≠ (.slice av ai.length aw : Value).ownBlock ∧ (some k_ ≠ (.slice aD ar.length aE : Value).ownBlock ∧ (some k_ ≠ (.slice aH aC.length aG : Value).ownBlock ∧ (some k_ ≠ (.slice aM aA.length aN : Value).ownBlock ∧ (some k_ ≠ (.slice aK au.length aJ : Value).ownBlock ∧ (some k_ ≠ (.slice aO ax.length aL : Value).ownBlock ∧ (some k_ ≠ (.slice ba aI.length aR : Value).ownBlock ∧ (k_ ≠ an ∧ k_ ≠ ap)))))))) ∧ k_ ≠ al)) (n := aQ.length) (c := bd) ?_).2.2; exact (by (with_reducible repeat first | apply Kd.N_alloc | apply Kd.N_drewN | apply Kd.N_drew); exact (Kd.N_mono (Kd.N_far (p := ⟨al, 2, none⟩) (Kd.N_far (p := ⟨al, 1, none⟩) (Kd.N_far (p := ⟨al, 0, none⟩) (Kd.N_mono aF.out (fun k_ hk => (⟨hk, hk.2⟩ : _ ∧ k_ ≠ al))) (fun _ hk => hk.2) (.slice av ai.length aw)) (fun _ hk => hk.2) (.slice ba aI.length aR)) (fun _ hk => hk.2) (.slice bi aQ.length bd)) (fun _ h_ => h_.1)))); (case side12 => exact (Kd.N_reads' aF.out).2.1); rintro e w43 ⟨rfl, hb⟩; replace ab := Aside0.mk (Kd.R_below (kt ab aq) hb); replace ad := Aside0.mk (Kd.R_below (kt ad aq) hb); replace ag := Aside0.mk (Kd.N_below (by (with_reducible repeat first | apply Kd.N_alloc | apply Kd.N_drewN | apply Kd.N_drew); exact (Kd.N_mono (Kd.N_far (p := ⟨al, 2, none⟩) (Kd.N_far (p := ⟨al, 1, none⟩) (Kd.N_far (p := ⟨al, 0, none⟩) (Kd.N_mono ag.out (fun k_ hk => (⟨hk, hk.2⟩ : _ ∧ k_ ≠ al))) (fun _ hk => hk.2) (.slice av ai.length aw)) (fun _ hk => hk.2) (.slice ba aI.length aR)) (fun _ hk => hk.2) (.slice bi aQ.length bd)) (fun _ h_ => h_.1))) hb); replace aj := Aside0.mk (Kd.R_below (kt aj aq) hb); replace ah := Aside0.mk (Kd.R_below (kt ah aq) hb); replace ak := Aside0.mk (Kd.N_below (by (with_reducible repeat first | apply Kd.N_alloc | apply Kd.N_drewN | apply Kd.N_drew); exact (Kd.N_mono (Kd.N_far (p := ⟨al, 2, none⟩) (Kd.N_far (p := ⟨al, 1, none⟩) (Kd.N_far (p := ⟨al, 0, none⟩) (Kd.N_mono ak.out (fun k_ hk => (⟨hk, hk.2⟩ : _ ∧ k_ ≠ al))) (fun _ hk => hk.2) (.slice av ai.length aw)) (fun _ hk => hk.2) (.slice ba aI.length aR)) (fun _ hk => hk.2) (.slice bi aQ.length bd)) (fun _ h_ => h_.1))) hb); replace ao := Aside0.mk (Kd.R_below (kt ao aq) hb); replace aF := Aside0.mk (Kd.N_below (by (with_reducible repeat first | apply Kd.N_alloc | apply Kd.N_drewN | apply Kd.N_drew); exact (Kd.N_mono (Kd.N_far (p := ⟨al, 2, none⟩) (Kd.N_far (p := ⟨al, 1, none⟩) (Kd.N_far (p := ⟨al, 0, none⟩) (Kd.N_mono aF.out (fun k_ hk => (⟨hk, hk.2⟩ : _ ∧ k_ ≠ al))) (fun _ hk => hk.2) (.slice av ai.length aw)) (fun _ hk => hk.2) (.slice ba aI.length aR)) (fun _ hk => hk.2) (.slice bi aQ.length bd)) (fun _ h_ => h_.1))) hb); replace ae := kU ae hb; replace af := kU af hb; replace aq := kO (o' := .cells #[.slice av ai.length aw, .slice ba aI.length aR, .slice bi aQ.length bd] 26 (0, 0)) aq hb; replace HB := kH HB hb; (try clear hb); (try clear hb2); (try clear hk); (try clear hi); have Z44 := kz3 af) | (go_at_call 14; (with_reducible refine (tune_Levels.calls k _ _ aA _ _ au _ _ ax ay _ ?side1 ?side2 ?side3 ?side4 ?side5 ?side6 A5.out).mono ?_); (case side1 => repeat (first | exact (Kd.R_reads' aj.out).2.2 | (with_reducible first | refine Kd.C_alloc ?_ _ | refine Kd.C_drewN ?_ _ | refine Kd.C_drew ?_))); (case side2 => exact (Kd.R_reads' aj.out).2.1); (case side3 => repeat (first | exact (Kd.R_reads' ah.out).2.2 | (with_reducible first | refine Kd.C_alloc ?_ _ | refine Kd.C_drewN ?_ _ | refine Kd.C_drew ?_))); (case side4 => exact (Kd.R_reads' ah.out).2.1); (case side5 => repeat (first | exact (Kd.N_reads' ak.out).2.2 | (with_reducible first | refine Kd.C_alloc ?_ _ | refine Kd.C_drewN ?_ _ | refine Kd.C_drew ?_))); (case side6 => exact (Kd.N_reads' ak.out).2.1); rintro e w45 ⟨co, rfl, ho0, hb⟩; replace ab := kR ab hb; replace ad := kR ad hb; replace ag := Aside0.mk (Kd.N_elder' (krN ag) (Kd.R_base ho0) hb); replace aj := kR aj hb; replace ah := kR ah hb; replace ak := Aside0.mk (Kd.N_elder' (krN ak) (Kd.R_base ho0) hb); replace ao := kR ao hb; replace aF := Aside0.mk (Kd.N_elder' (krN aF) (Kd.R_base ho0) hb); have aP := kLR ho0 HB; replace ae := kU ae hb; replace af := kU af hb; replace aq := kU aq hb; replace HB := kH HB hb; (try clear hb); (try clear hb2); (try clear hk); (try clear hi); (try clear ho0)) | ((with_reducible refine qfa (N := 41) rfl ?_); (try (refine gate_guard (by rfl) ?_; dsimp only)); refine Kd.R_lit (Kd.int .i64) _ 3 ?hg (N := 41) ?hd (xs := ([0, 0, 1] : List Int)) (inner := [.int .i64 0, .int .i64 0, .int .i64 1]) (ok := fun _ => True) (okp := fun _ => True) ?hr ?hp (fun _ hk => hk) trivial (Below.refl _ _) (Nat.le_refl _) (by simp) ?_; (case hd | hg => rfl); (case hr => go_simp; try rfl); (case hp => exact (Reps.one (show Kd.M (Kd.int .i64) _ _ _ 0 [.int .i64 0] from rfl) (Reps.one (show Kd.M (Kd.int .i64) _ _ _ 0 [.int .i64 0] from rfl) (Reps.one (show Kd.M (Kd.int .i64) _ _ _ 1 [.int .i64 1] from rfl) (Reps.none _ _))))); intro cp w46 ho47 hb hg_ hnew_; clear hg_ hnew_; (first | rw [← bB.out] at ho47 | (simp only [Int.reduceToNat] at ho47; rw [← bB.out] at ho47)); replace ab := kR ab hb; replace ad := kR ad hb; replace ag := Aside0.mk (Kd.N_elder' (krN ag) (Kd.R_base ho47) hb); replace aj := kR aj hb; replace ah := kR ah hb; replace ak := Aside0.mk (Kd.N_elder' (krN ak) (Kd.R_base ho47) hb); replace ao := kR ao hb; replace aF := Aside0.mk (Kd.N_elder' (krN aF) (Kd.R_base ho47) hb); have br := Aside0.mk (Kd.R_lower (Kd.R_new' ho47 (Kd.R_lt (krR aP))) (below_size (kh HB))); replace aP := Aside0.mk (Kd.R_elder' (krR aP) (Kd.R_base ho47) hb); replace ae := kU ae hb; replace af := kU af hb; replace aq := kU aq hb; replace HB := kH HB hb; clear hb ho47; obtain ⟨cq, cr, bV⟩ := Kd.R_slice aP.out; subst bV; obtain ⟨ct, cu, bW⟩ := Kd.R_slice br.out; subst bW) | (go_at_call 13; (with_reducible refine (qra.calls k _ _ ay _ _ bC az _ ?side1 ?side2 ?side3 ?side4 A6.out).mono ?_); (case side1 => repeat (first | exact (Kd.R_reads' aP.out).2.2 | (with_reducible first | refine Kd.C_alloc ?_ _ | refine Kd.C_drewN ?_ _ | refine Kd.C_drew ?_))); (case side2 => exact (Kd.R_reads' aP.out).2.1); (case side3 => repeat (first | exact (Kd.R_reads' br.out).2.2 | (with_reducible first | refine Kd.C_alloc ?_ _ | refine Kd.C_drewN ?_ _ | refine Kd.C_drew ?_))); (case side4 => exact (Kd.R_reads' br.out).2.1); rintro e w' ⟨rfl, ⟨nd, rfl⟩⟩))
 go_ret;exact ⟨er, kh HB⟩
mutual
def qpa.j0 : Nat → Int → Bool → Option (Bool)
 | 0, _, _ => none
 | k + 1, x0, x9 => if x9 = true then (some false) else (qpa.l0 k x0 2)
def qpa.l0 : Nat → Int → Int → Option (Bool)
 | 0, _, _ => none
 | k + 1, x0, x3 => if (IntKind.u64.wrap (x3 * x3)) ≤ x0 then (if x3 = 0 then (none) else (if (Int.tmod x0 x3) = 0 then (some false) else (qpa.l0 k x0 (IntKind.u64.wrap (x3 + 1))))) else (some true)
end
def qpa.f (k : Nat) (a0 : Int) : Option (Bool) := if a0 < 3 then (qpa.j0 k a0 true) else (qpa.j0 k a0 (decide (a0 > 65537)))
theorem qpa.calls (k : Nat) (a0 : Int) (r : Bool) (w : World) (h : qpa.f k a0 = some r) :
  Calls Try.prog 40 #[.int .u64 a0] w fun e w' => e = .returned (.bool r) ∧ Drawn0 w w' := by
 have H : (if a0 < 3 then (qpa.j0 k a0 true) else (qpa.j0 k a0 (decide (a0 > 65537)))) = some r := h;clear h;have HC2 := Aside0.mk H;clear H;go_enter Try.func40, Try.ntmps40;go_upto_region 1 with (fail);go_cut [9] (fun v9 wc => ∃ (kq : Nat) (ad : Bool), v9 = .bool ad ∧ Aside0 (qpa.j0 kq a0 ad = some r) ∧ Aside0 (kq ≤ k) ∧ Drawn0 w wc)
 case first =>
  have H := HC2.out;clear HC2
  by_cases c3 : a0 < 3
  ·rw [if_pos c3] at H
   have ab := qqT c3;clear c3;(first | rw [ab] | (simp only [i64_w, i32_w]; rw [ab]) | skip);have H' := Aside0.mk H;clear H;go_wp2;go_meet
   case rel => exact ⟨_, (true), et, H', ⟨by first | omega | exact Nat.le_refl _⟩, by repeat (first | exact Drawn0.refl _ | apply Drawn0.step)⟩
  rw [if_neg c3] at H;have ab := qqF c3;clear c3;(first | rw [ab] | (simp only [i64_w, i32_w]; rw [ab]) | skip);have H' := Aside0.mk H;clear H;go_wp2;go_meet
  case rel => exact ⟨_, (decide (a0 > 65537)), et, H', ⟨by first | omega | exact Nat.le_refl _⟩, by repeat (first | exact Drawn0.refl _ | apply Drawn0.step)⟩
 clear HC2;obtain ⟨kq, ad, rfl, HA, HJ1, ⟨mc1, rfl⟩⟩ := hcut
 cases kq with
 | zero => exact absurd HA.out (by simp [qpa.j0])
 | succ kj1 =>
  have H := HA.out;clear HA;simp only [qpa.j0] at H
  by_cases c4 : ad = true
  ·subst c4
   replace H := ifT H;obtain rfl := qqI H;go_wp2;go_ret;exact ⟨et, by repeat (first | exact Drawn0.refl _ | apply Drawn0.step)⟩
  replace c4 := Bool.eq_false_iff.mpr c4;subst c4;replace H := ifF H;have H' := Aside0.mk H;clear H;go_wp2;go_loopg [3] kj1 (fun kq v3 w' => ∃ (aa : Int), v3 = .int .u64 aa ∧ Aside0 (qpa.l0 kq a0 aa = some r) ∧ Aside0 (kq ≤ kj1) ∧ Drawn0 w w')
  case atStart => exact ⟨(2), et, H', ⟨Nat.le_refl _⟩, by repeat (first | exact Drawn0.refl _ | apply Drawn0.step)⟩
  case round =>
   clear H'; (try clear c4);obtain ⟨aa, rfl, HA, HK2, ⟨m2, rfl⟩⟩ := hrel
   cases gk with
   | zero => exact absurd HA.out (by simp [qpa.l0])
   | succ k2 =>
    have H := HA.out;clear HA;simp only [qpa.l0] at H
    by_cases c5 : (IntKind.u64.wrap (aa * aa)) ≤ a0
    rotate_left
    ·rw [if_neg c5] at H
     have ae := qqF c5;clear c5;obtain rfl := qqI H;go_wp2;go_ret;exact ⟨et, by repeat (first | exact Drawn0.refl _ | apply Drawn0.step)⟩
    rw [if_pos c5] at H;have ae := qqT c5;clear c5
    by_cases c6 : aa = 0
    ·rw [if_pos c6] at H
     exact absurd H (by simp)
    rw [if_neg c6] at H;have ah := beq_eq_false_iff_ne.mpr c6;have ai := bne_iff_ne.mpr c6
    by_cases c7 : (Int.tmod a0 aa) = 0
    ·rw [if_pos c7] at H
     have af := beq_iff_eq.mpr c7;have ag := bne_eq_false_iff_eq.mpr c7;clear c7;obtain rfl := qqI H;go_wp2;go_ret;exact ⟨et, by repeat (first | exact Drawn0.refl _ | apply Drawn0.step)⟩
    rw [if_neg c7] at H;have af := beq_eq_false_iff_ne.mpr c7;have ag := bne_iff_ne.mpr c7;have H' := Aside0.mk H;clear H;go_wp2;go_roundg k2
    case measure => have := HJ1.out; have := HK2.out; omega
    case rel => exact ⟨(IntKind.u64.wrap (aa + 1)), et, H', ⟨by have := HJ1.out; have := HK2.out; omega⟩, by repeat (first | exact Drawn0.refl _ | apply Drawn0.step)⟩
mutual
def qea.j1 : Nat → Int → Int → Int → Bool → Bool → Bool → Int → Int → Int → Int → Option (Int)
 | 0, _, _, _, _, _, _, _, _, _, _ => none
 | k + 1, x0, x1, x2, x9, x10, x11, ae, ad, aa, ab => if x9 = true then (if x10 = true then (if x11 = true then (qea.j2 k x0 x1 x2 x9 x10 x11 false ae ad aa ab) else (qea.j2 k x0 x1 x2 x9 x10 x11 (ab != 0) ae ad aa ab)) else (if aa = 0 then (if x11 = true then (qea.j2 k x0 x1 x2 x9 x10 x11 false ae ad aa ab) else (qea.j2 k x0 x1 x2 x9 x10 x11 (ab != 0) ae ad aa ab)) else (qea.j2 k x0 x1 x2 x9 x10 x11 true ae ad aa ab))) else (if ad = 0 then (if x10 = true then (if x11 = true then (qea.j2 k x0 x1 x2 x9 x10 x11 false ae ad aa ab) else (qea.j2 k x0 x1 x2 x9 x10 x11 (ab != 0) ae ad aa ab)) else (if aa = 0 then (if x11 = true then (qea.j2 k x0 x1 x2 x9 x10 x11 false ae ad aa ab) else (qea.j2 k x0 x1 x2 x9 x10 x11 (ab != 0) ae ad aa ab)) else (qea.j2 k x0 x1 x2 x9 x10 x11 true ae ad aa ab))) else (qea.j2 k x0 x1 x2 x9 x10 x11 true ae ad aa ab))
def qea.j2 : Nat → Int → Int → Int → Bool → Bool → Bool → Bool → Int → Int → Int → Int → Option (Int)
 | 0, _, _, _, _, _, _, _, _, _, _, _ => none
 | k + 1, x0, x1, x2, x9, x10, x11, x49, ae, ad, aa, ab => if x49 = true then (some 4) else (if ae = 1 then (qea.j3 k x0 x9 x10 x11 x1 ae ad aa ab) else (qea.j3 k x0 x9 x10 x11 x2 ae ad aa ab))
def qea.j3 : Nat → Int → Bool → Bool → Bool → Int → Int → Int → Int → Int → Option (Int)
 | 0, _, _, _, _, _, _, _, _, _ => none
 | k + 1, x0, x9, x10, x11, x12, ae, ad, aa, ab => if x9 = true then (if ad < 0 then (qea.j4 k x0 x11 true ae ad aa ab) else (if ad ≥ x12 then (qea.j4 k x0 x11 true ae ad aa ab) else (if x10 = true then (if aa < 0 then (qea.j4 k x0 x11 true ae ad aa ab) else (qea.j4 k x0 x11 (decide (aa ≥ x12)) ae ad aa ab)) else (qea.j4 k x0 x11 false ae ad aa ab)))) else (if x10 = true then (if aa < 0 then (qea.j4 k x0 x11 true ae ad aa ab) else (qea.j4 k x0 x11 (decide (aa ≥ x12)) ae ad aa ab)) else (qea.j4 k x0 x11 false ae ad aa ab))
def qea.j4 : Nat → Int → Bool → Bool → Int → Int → Int → Int → Option (Int)
 | 0, _, _, _, _, _, _, _ => none
 | k + 1, x0, x11, x80, ae, ad, aa, ab => if x80 = true then (some 13) else (if x11 = true then (if ab ≥ x0 then (some 2) else (some 0)) else (some 0))
def qea.j0 : Nat → Int → Int → Int → Bool → Bool → Int → Bool → Int → Int → Int → Int → Option (Int)
 | 0, _, _, _, _, _, _, _, _, _, _, _ => none
 | k + 1, x0, x1, x2, x10, x11, x14, x19, ae, ad, aa, ab => if x19 = true then (qea.j1 k x0 x1 x2 true true x11 ae ad aa ab) else (if x14 = 6 then (qea.j1 k x0 x1 x2 true x10 true ae ad aa ab) else (some 4))
end
def qea.f (k : Nat) (a0 : Int) (a1 : Int) (a2 : Int) (aa : Int) (ab : Int) (ad : Int) (ae : Int) : Option (Int) := if aa = 1 then (qea.j1 k a0 a1 a2 true false false aa ab ad ae) else (if aa = 2 then (qea.j1 k a0 a1 a2 false false true aa ab ad ae) else (if aa = 3 then (qea.j0 k a0 a1 a2 false false aa (aa == 3) aa ab ad ae) else (if aa = 4 then (qea.j0 k a0 a1 a2 false false aa (aa == 4) aa ab ad ae) else (qea.j0 k a0 a1 a2 false false aa (aa == 5) aa ab ad ae))))
theorem qea.calls (k : Nat) (a0 : Int) (a1 : Int) (a2 : Int) (ab : Int) (af : Int) (ad : Int) (ae : Int) (r : Int) (w : World) (h : qea.f k a0 a1 a2 ab af ad ae = some r) :
  Calls Try.prog 41 #[.int .u64 a0, .int .i64 a1, .int .i64 a2, .agg #[.int .i64 ab, .int .i64 af, .int .i64 ad, .int .u64 ae]] w fun e w' => e = .returned (.int .i64 r) ∧ Below w.heap.size w w' := by
 have hu61 := Try.underlying61;have HB := Aside0.mk (Below.refl w.heap.size w);have H : (if ab = 1 then (qea.j1 k a0 a1 a2 true false false ab af ad ae) else (if ab = 2 then (qea.j1 k a0 a1 a2 false false true ab af ad ae) else (if ab = 3 then (qea.j0 k a0 a1 a2 false false ab (ab == 3) ab af ad ae) else (if ab = 4 then (qea.j0 k a0 a1 a2 false false ab (ab == 4) ab af ad ae) else (qea.j0 k a0 a1 a2 false false ab (ab == 5) ab af ad ae))))) = some r := h;clear h;have HC5 := Aside0.mk H;clear H;go_enter Try.func41, Try.ntmps41;go_upto_block 0 with (first | ((with_reducible refine qfa (N := 7) rfl ?_); refine qha ?hg (N := 7) ?hd (cs := #[.int .i64 ab, .int .i64 af, .int .i64 ad, .int .u64 ae]) (t := 61) ?hr ?_; (case hd | hg => rfl); (case hr => go_simp; try rfl); intro an hg w6 hbox hb; have aa := am hbox; have aW := kG HB hg; have aX := kG HB hg; replace HB := kH HB hb; clear hb hbox hg; have Z7 := kz4 aa));(try simp only [Act.put, qS1, qS2, qS3]);go_cut [9, 10, 11] (fun v9 v10 v11 wc => ∃ (kq : Nat) (av : Bool) (ah : Bool) (ag : Bool), v9 = .bool av ∧ v10 = .bool ah ∧ v11 = .bool ag ∧ Aside0 (qea.j1 kq a0 a1 a2 av ah ag ab af ad ae = some r) ∧ Aside0 (kq ≤ k) ∧ Aside0 (wc.heap[an]? = some (.cells #[.int .i64 ab, .int .i64 af, .int .i64 ad, .int .u64 ae] 61 (0, 0))) ∧ Aside0 (Below w.heap.size w wc))
 case first =>
  have H := HC5.out;clear HC5
  by_cases c8 : ab = 1
  ·rw [if_pos c8] at H
   have ax := beq_iff_eq.mpr c8;have aC := bne_eq_false_iff_eq.mpr c8;clear c8;(first | rw [ax] | (simp only [i64_w, i32_w]; rw [ax]) | skip);have H' := Aside0.mk H;clear H;go_wp2;go_meet
   case rel => exact ⟨_, (true), (false), (false), et, et, et, H', ⟨by first | omega | exact Nat.le_refl _⟩, ⟨kg aa⟩, ⟨kh HB⟩⟩
  rw [if_neg c8] at H;have ax := beq_eq_false_iff_ne.mpr c8;have aC := bne_iff_ne.mpr c8;(first | rw [ax] | (simp only [i64_w, i32_w]; rw [ax]) | skip)
  by_cases c9 : ab = 2
  ·rw [if_pos c9] at H
   have aD := beq_iff_eq.mpr c9;have aE := bne_eq_false_iff_eq.mpr c9;clear c9;have H' := Aside0.mk H;clear H;go_wp2;go_meet
   case rel => exact ⟨_, (false), (false), (true), et, et, et, H', ⟨by first | omega | exact Nat.le_refl _⟩, ⟨kg aa⟩, ⟨kh HB⟩⟩
  rw [if_neg c9] at H;have aD := beq_eq_false_iff_ne.mpr c9;have aE := bne_iff_ne.mpr c9;have ay := Aside0.mk H;clear H;go_upto_if 19 with (fail);go_cut [19] (fun v19 wc => ∃ (kq : Nat) (aw : Bool), v19 = .bool aw ∧ Aside0 (qea.j0 kq a0 a1 a2 false false ab aw ab af ad ae = some r) ∧ Aside0 (kq ≤ k) ∧ Aside0 (wc.heap[an]? = some (.cells #[.int .i64 ab, .int .i64 af, .int .i64 ad, .int .u64 ae] 61 (0, 0))) ∧ Aside0 (Below w.heap.size w wc))
  case first =>
   have H := ay.out;clear ay
   by_cases c11 : ab = 3
   ·rw [if_pos c11] at H
    have ao := beq_iff_eq.mpr c11;have aF := bne_eq_false_iff_eq.mpr c11;clear c11;(first | rw [ao] | (simp only [i64_w, i32_w]; rw [ao]) | skip);have H' := Aside0.mk H;clear H;go_wp2;go_meet
    case rel => exact ⟨_, ((ab == 3)), et, H', ⟨by first | omega | exact Nat.le_refl _⟩, ⟨kg aa⟩, ⟨kh HB⟩⟩
   rw [if_neg c11] at H;have ao := beq_eq_false_iff_ne.mpr c11;have aF := bne_iff_ne.mpr c11;(first | rw [ao] | (simp only [i64_w, i32_w]; rw [ao]) | skip)
   by_cases c12 : ab = 4
   rotate_left
   ·rw [if_neg c12] at H
    have aG := beq_eq_false_iff_ne.mpr c12;have aH := bne_iff_ne.mpr c12;have H' := Aside0.mk H;clear H;go_wp2;go_meet
    case rel => exact ⟨_, ((ab == 5)), et, H', ⟨by first | omega | exact Nat.le_refl _⟩, ⟨kg aa⟩, ⟨kh HB⟩⟩
   rw [if_pos c12] at H;have aG := beq_iff_eq.mpr c12;have aH := bne_eq_false_iff_eq.mpr c12;clear c12;have H' := Aside0.mk H;clear H;go_wp2;go_meet
   case rel => exact ⟨_, ((ab == 4)), et, H', ⟨by first | omega | exact Nat.le_refl _⟩, ⟨kg aa⟩, ⟨kh HB⟩⟩
  clear ay;(try clear ax aC aD aE Z7);obtain ⟨kq, aw, rfl, HA, HJ9, aa, HB⟩ := hcut
  cases kq with
  | zero => exact absurd HA.out (by simp [qea.j0])
  | succ kj9 =>
   have H := HA.out;clear HA;simp only [qea.j0] at H
   by_cases c13 : aw = true
   ·subst c13
    replace H := ifT H;have H' := Aside0.mk H;clear H;go_wp2;go_meet
    case rel => exact ⟨_, (true), (true), (false), et, et, et, H', ⟨by have := HJ9.out; first | omega | exact Nat.le_refl _⟩, ⟨kg aa⟩, ⟨kh HB⟩⟩
   replace c13 := Bool.eq_false_iff.mpr c13;subst c13;replace H := ifF H
   by_cases c14 : ab = 6
   rotate_left
   ·rw [if_neg c14] at H
    have aI := beq_eq_false_iff_ne.mpr c14;have aJ := bne_iff_ne.mpr c14;obtain rfl := qqI H;go_wp2;go_ret;exact ⟨er, kh HB⟩
   rw [if_pos c14] at H;have aI := beq_iff_eq.mpr c14;have aJ := bne_eq_false_iff_eq.mpr c14;clear c14;have H' := Aside0.mk H;clear H;go_wp2;go_meet
   case rel => exact ⟨_, (true), (false), (true), et, et, et, H', ⟨by have := HJ9.out; first | omega | exact Nat.le_refl _⟩, ⟨kg aa⟩, ⟨kh HB⟩⟩
 clear HC5; (try clear Z7);obtain ⟨kq, av, ah, ag, rfl, rfl, rfl, HA, HJ4, aa, HB⟩ := hcut
 cases kq with
 | zero => exact absurd HA.out (by simp [qea.j1])
 | succ kj4 =>
  have H := HA.out;clear HA;simp only [qea.j1] at H;have az := Aside0.mk H;clear H;go_upto_region 14 with (fail);go_cut [49] (fun v49 wc => ∃ (kq : Nat) (ak : Bool), v49 = .bool ak ∧ Aside0 (qea.j2 kq a0 a1 a2 av ah ag ak ab af ad ae = some r) ∧ Aside0 (kq ≤ kj4) ∧ Aside0 (wc.heap[an]? = some (.cells #[.int .i64 ab, .int .i64 af, .int .i64 ad, .int .u64 ae] 61 (0, 0))) ∧ Aside0 (Below w.heap.size w wc))
  case first =>
   have H := az.out;clear az
   by_cases c16 : av = true
   ·subst c16
    replace H := ifT H
    by_cases c17 : ah = true
    ·subst c17
     replace H := ifT H
     by_cases c18 : ag = true
     ·subst c18
      replace H := ifT H;have H' := Aside0.mk H;clear H;go_wp2;go_meet
      case rel => exact ⟨_, (false), et, H', ⟨by have := HJ4.out; first | omega | exact Nat.le_refl _⟩, ⟨kg aa⟩, ⟨kh HB⟩⟩
     replace c18 := Bool.eq_false_iff.mpr c18;subst c18;replace H := ifF H;have H' := Aside0.mk H;clear H;have Z19 := kz4 aa;go_wp2;go_meet
     case rel => exact ⟨_, ((ae != 0)), et, H', ⟨by have := HJ4.out; first | omega | exact Nat.le_refl _⟩, ⟨kg aa⟩, ⟨kh HB⟩⟩
    replace c17 := Bool.eq_false_iff.mpr c17;subst c17;replace H := ifF H
    by_cases c20 : ad = 0
    rotate_left
    ·rw [if_neg c20] at H
     have ap := beq_eq_false_iff_ne.mpr c20;have aK := bne_iff_ne.mpr c20;(first | rw [ap] | (simp only [i64_w, i32_w]; rw [ap]) | skip);have H' := Aside0.mk H;clear H;have Z24 := kz4 aa;go_wp2;go_meet
     case rel => exact ⟨_, (true), et, H', ⟨by have := HJ4.out; first | omega | exact Nat.le_refl _⟩, ⟨kg aa⟩, ⟨kh HB⟩⟩
    rw [if_pos c20] at H;have ap := beq_iff_eq.mpr c20;have aK := bne_eq_false_iff_eq.mpr c20;clear c20;(first | rw [ap] | (simp only [i64_w, i32_w]; rw [ap]) | skip)
    by_cases c21 : ag = true
    ·subst c21
     replace H := ifT H;have H' := Aside0.mk H;clear H;have Z22 := kz4 aa;go_wp2;go_meet
     case rel => exact ⟨_, (false), et, H', ⟨by have := HJ4.out; first | omega | exact Nat.le_refl _⟩, ⟨kg aa⟩, ⟨kh HB⟩⟩
    replace c21 := Bool.eq_false_iff.mpr c21;subst c21;replace H := ifF H;have H' := Aside0.mk H;clear H;have Z23 := kz4 aa;go_wp2;go_meet
    case rel => exact ⟨_, ((ae != 0)), et, H', ⟨by have := HJ4.out; first | omega | exact Nat.le_refl _⟩, ⟨kg aa⟩, ⟨kh HB⟩⟩
   replace c16 := Bool.eq_false_iff.mpr c16;subst c16;replace H := ifF H
   by_cases c25 : af = 0
   rotate_left
   ·rw [if_neg c25] at H
    have aL := beq_eq_false_iff_ne.mpr c25;have aM := bne_iff_ne.mpr c25;have H' := Aside0.mk H;clear H;have Z35 := kz4 aa;go_wp2;go_meet
    case rel => exact ⟨_, (true), et, H', ⟨by have := HJ4.out; first | omega | exact Nat.le_refl _⟩, ⟨kg aa⟩, ⟨kh HB⟩⟩
   rw [if_pos c25] at H;have aL := beq_iff_eq.mpr c25;have aM := bne_eq_false_iff_eq.mpr c25;clear c25
   by_cases c26 : ah = true
   ·subst c26
    replace H := ifT H
    by_cases c27 : ag = true
    ·subst c27
     replace H := ifT H;have H' := Aside0.mk H;clear H;have Z28 := kz4 aa;go_wp2;go_meet
     case rel => exact ⟨_, (false), et, H', ⟨by have := HJ4.out; first | omega | exact Nat.le_refl _⟩, ⟨kg aa⟩, ⟨kh HB⟩⟩
    replace c27 := Bool.eq_false_iff.mpr c27;subst c27;replace H := ifF H;have H' := Aside0.mk H;clear H;have Z29 := kz4 aa;go_wp2;go_meet
    case rel => exact ⟨_, ((ae != 0)), et, H', ⟨by have := HJ4.out; first | omega | exact Nat.le_refl _⟩, ⟨kg aa⟩, ⟨kh HB⟩⟩
   replace c26 := Bool.eq_false_iff.mpr c26;subst c26;replace H := ifF H
   by_cases c30 : ad = 0
   rotate_left
   ·rw [if_neg c30] at H
    have aN := beq_eq_false_iff_ne.mpr c30;have aO := bne_iff_ne.mpr c30;have H' := Aside0.mk H;clear H;have Z34 := kz4 aa;go_wp2;go_meet
    case rel => exact ⟨_, (true), et, H', ⟨by have := HJ4.out; first | omega | exact Nat.le_refl _⟩, ⟨kg aa⟩, ⟨kh HB⟩⟩
   rw [if_pos c30] at H;have aN := beq_iff_eq.mpr c30;have aO := bne_eq_false_iff_eq.mpr c30;clear c30
   by_cases c31 : ag = true
   ·subst c31
    replace H := ifT H;have H' := Aside0.mk H;clear H;have Z32 := kz4 aa;go_wp2;go_meet
    case rel => exact ⟨_, (false), et, H', ⟨by have := HJ4.out; first | omega | exact Nat.le_refl _⟩, ⟨kg aa⟩, ⟨kh HB⟩⟩
   replace c31 := Bool.eq_false_iff.mpr c31;subst c31;replace H := ifF H;have H' := Aside0.mk H;clear H;have Z33 := kz4 aa;go_wp2;go_meet
   case rel => exact ⟨_, ((ae != 0)), et, H', ⟨by have := HJ4.out; first | omega | exact Nat.le_refl _⟩, ⟨kg aa⟩, ⟨kh HB⟩⟩
  clear az;obtain ⟨kq, ak, rfl, HA, aj, aa, HB⟩ := hcut
  cases kq with
  | zero => exact absurd HA.out (by simp [qea.j2])
  | succ aU =>
   have H := HA.out;clear HA;simp only [qea.j2] at H
   by_cases c36 : ak = true
   ·subst c36
    replace H := ifT H;obtain rfl := qqI H;go_wp2;go_ret;exact ⟨er, kh HB⟩
   replace c36 := Bool.eq_false_iff.mpr c36;subst c36;replace H := ifF H;have aA := Aside0.mk H;clear H;have Z38 := kz4 aa;go_upto_if 53 with (fail);go_cut [12] (fun v12 wc => ∃ (kq : Nat) (ai : Int), v12 = .int .i64 ai ∧ Aside0 (qea.j3 kq a0 av ah ag ai ab af ad ae = some r) ∧ Aside0 (kq ≤ aU) ∧ Aside0 (wc.heap[an]? = some (.cells #[.int .i64 ab, .int .i64 af, .int .i64 ad, .int .u64 ae] 61 (0, 0))) ∧ Aside0 (Below w.heap.size w wc))
   case first =>
    have H := aA.out;clear aA
    by_cases c39 : ab = 1
    rotate_left
    ·rw [if_neg c39] at H
     have aq := beq_eq_false_iff_ne.mpr c39;have aP := bne_iff_ne.mpr c39;(first | rw [aq] | (simp only [i64_w, i32_w]; rw [aq]) | skip);have H' := Aside0.mk H;clear H;go_wp2;go_meet
     case rel => exact ⟨_, (a2), et, H', ⟨by have := HJ4.out; have := aj.out; first | omega | exact Nat.le_refl _⟩, ⟨kg aa⟩, ⟨kh HB⟩⟩
    rw [if_pos c39] at H;have aq := beq_iff_eq.mpr c39;have aP := bne_eq_false_iff_eq.mpr c39;clear c39;(first | rw [aq] | (simp only [i64_w, i32_w]; rw [aq]) | skip);have H' := Aside0.mk H;clear H;go_wp2;go_meet
    case rel => exact ⟨_, (a1), et, H', ⟨by have := HJ4.out; have := aj.out; first | omega | exact Nat.le_refl _⟩, ⟨kg aa⟩, ⟨kh HB⟩⟩
   clear aA;(try clear c36 Z38);obtain ⟨kq, ai, rfl, HA, ar, aa, HB⟩ := hcut
   cases kq with
   | zero => exact absurd HA.out (by simp [qea.j3])
   | succ aV =>
    have H := HA.out;clear HA;simp only [qea.j3] at H;have aB := Aside0.mk H;clear H;go_upto_region 19 with (fail);go_cut [80] (fun v80 wc => ∃ (kq : Nat) (al : Bool), v80 = .bool al ∧ Aside0 (qea.j4 kq a0 ag al ab af ad ae = some r) ∧ Aside0 (kq ≤ aV) ∧ Aside0 (wc.heap[an]? = some (.cells #[.int .i64 ab, .int .i64 af, .int .i64 ad, .int .u64 ae] 61 (0, 0))) ∧ Aside0 (Below w.heap.size w wc))
    case first =>
     have H := aB.out;clear aB
     by_cases c41 : av = true
     rotate_left
     ·replace c41 := Bool.eq_false_iff.mpr c41
      subst c41;replace H := ifF H
      by_cases c51 : ah = true
      rotate_left
      ·replace c51 := Bool.eq_false_iff.mpr c51
       subst c51;replace H := ifF H;have H' := Aside0.mk H;clear H;go_wp2;go_meet
       case rel => exact ⟨_, (false), et, H', ⟨by have := HJ4.out; have := aj.out; have := ar.out; first | omega | exact Nat.le_refl _⟩, ⟨kg aa⟩, ⟨kh HB⟩⟩
      subst c51;replace H := ifT H
      by_cases c52 : ad < 0
      ·rw [if_pos c52] at H
       have aQ := qqT c52;clear c52;have H' := Aside0.mk H;clear H;have Z53 := kz4 aa;go_wp2;go_meet
       case rel => exact ⟨_, (true), et, H', ⟨by have := HJ4.out; have := aj.out; have := ar.out; first | omega | exact Nat.le_refl _⟩, ⟨kg aa⟩, ⟨kh HB⟩⟩
      rw [if_neg c52] at H;have aQ := qqF c52;clear c52;have H' := Aside0.mk H;clear H;have Z54 := kz4 aa;go_wp2;go_meet
      case rel => exact ⟨_, (decide (ad ≥ ai)), et, H', ⟨by have := HJ4.out; have := aj.out; have := ar.out; first | omega | exact Nat.le_refl _⟩, ⟨kg aa⟩, ⟨kh HB⟩⟩
     subst c41;replace H := ifT H
     by_cases c42 : af < 0
     ·rw [if_pos c42] at H
      have au := qqT c42;clear c42;(first | rw [au] | (simp only [i64_w, i32_w]; rw [au]) | skip);have H' := Aside0.mk H;clear H;have Z43 := kz4 aa;go_wp2;go_meet
      case rel => exact ⟨_, (true), et, H', ⟨by have := HJ4.out; have := aj.out; have := ar.out; first | omega | exact Nat.le_refl _⟩, ⟨kg aa⟩, ⟨kh HB⟩⟩
     rw [if_neg c42] at H;have au := qqF c42;clear c42;(first | rw [au] | (simp only [i64_w, i32_w]; rw [au]) | skip)
     by_cases c44 : af ≥ ai
     ·rw [if_pos c44] at H
      have aR := qqT c44;clear c44;have H' := Aside0.mk H;clear H;have Z45 := kz4 aa;go_wp2;go_meet
      case rel => exact ⟨_, (true), et, H', ⟨by have := HJ4.out; have := aj.out; have := ar.out; first | omega | exact Nat.le_refl _⟩, ⟨kg aa⟩, ⟨kh HB⟩⟩
     rw [if_neg c44] at H;have aR := qqF c44;clear c44
     by_cases c46 : ah = true
     rotate_left
     ·replace c46 := Bool.eq_false_iff.mpr c46
      subst c46;replace H := ifF H;have H' := Aside0.mk H;clear H;have Z50 := kz4 aa;go_wp2;go_meet
      case rel => exact ⟨_, (false), et, H', ⟨by have := HJ4.out; have := aj.out; have := ar.out; first | omega | exact Nat.le_refl _⟩, ⟨kg aa⟩, ⟨kh HB⟩⟩
     subst c46;replace H := ifT H
     by_cases c47 : ad < 0
     ·rw [if_pos c47] at H
      have aS := qqT c47;clear c47;have H' := Aside0.mk H;clear H;have Z48 := kz4 aa;go_wp2;go_meet
      case rel => exact ⟨_, (true), et, H', ⟨by have := HJ4.out; have := aj.out; have := ar.out; first | omega | exact Nat.le_refl _⟩, ⟨kg aa⟩, ⟨kh HB⟩⟩
     rw [if_neg c47] at H;have aS := qqF c47;clear c47;have H' := Aside0.mk H;clear H;have Z49 := kz4 aa;go_wp2;go_meet
     case rel => exact ⟨_, (decide (ad ≥ ai)), et, H', ⟨by have := HJ4.out; have := aj.out; have := ar.out; first | omega | exact Nat.le_refl _⟩, ⟨kg aa⟩, ⟨kh HB⟩⟩
    clear aB;obtain ⟨kq, al, rfl, HA, aY, aa, HB⟩ := hcut
    cases kq with
    | zero => exact absurd HA.out (by simp [qea.j4])
    | succ aZ =>
     have H := HA.out;clear HA;simp only [qea.j4] at H
     by_cases c55 : al = true
     ·subst c55
      replace H := ifT H;obtain rfl := qqI H;go_wp2;go_ret;exact ⟨er, kh HB⟩
     replace c55 := Bool.eq_false_iff.mpr c55;subst c55;replace H := ifF H
     by_cases c56 : ag = true
     rotate_left
     ·replace c56 := Bool.eq_false_iff.mpr c56
      subst c56;replace H := ifF H;obtain rfl := qqI H;go_wp2;go_ret;exact ⟨er, kh HB⟩
     subst c56;replace H := ifT H
     by_cases c57 : ae ≥ a0
     ·rw [if_pos c57] at H
      have aT := qqT c57;clear c57;obtain rfl := qqI H;have Z58 := kz4 aa;go_wp2;go_ret;exact ⟨er, kh HB⟩
     rw [if_neg c57] at H;have aT := qqF c57;clear c57;obtain rfl := qqI H;have Z59 := kz4 aa;go_wp2;go_ret;exact ⟨er, kh HB⟩
def qoa.l0 : Nat → Int → List Int → List Int → Int → Int → Option (Bool)
 | 0, _, _, _, _, _ => none
 | k + 1, x0, x1, x7, x8, x9 => if x9 < x8 then (if 0 ≤ x9 then (if x9 < (x7.length : Int) then (if (rd x7 x9) < 1 then (some false) else (if (rd x7 x9) > x0 then (some false) else (if x9 > 0 then (if 0 ≤ (wrap64 (x9 - 1)) then (if (wrap64 (x9 - 1)) < (x1.length : Int) then (if (rd x1 (wrap64 (x9 - 1))) ≥ (rd x7 x9) then (some false) else (qoa.l0 k x0 x1 x7 x8 (wrap64 (x9 + 1)))) else (none)) else (none)) else (qoa.l0 k x0 x1 x7 x8 (wrap64 (x9 + 1)))))) else (none)) else (none)) else (some true)
def qoa.f (k : Nat) (a0 : Int) (l1 : List Int) : Option (Bool) := qoa.l0 k a0 l1 l1 (l1.length : Int) 0
theorem qoa.calls (k : Nat) (a0 : Int) (A1 : Option Addr) (c1 : Nat) (l1 : List Int) (r : Bool) (w : World) (hr1 : Kd.C (Kd.int .i64) w A1 l1.length l1) (hc1 : l1.length ≤ c1) (h : qoa.f k a0 l1 = some r) :
  Calls Try.prog 71 #[.int .i64 a0, .slice A1 l1.length c1] w fun e w' => e = .returned (.bool r) ∧ Drawn0 w w' := by
 have HR1 := Aside0.mk hr1;have HC1 := Aside0.mk hc1;clear hr1 hc1;have H : (qoa.l0 k a0 l1 l1 (l1.length : Int) 0) = some r := h;clear h;have H' := Aside0.mk H;clear H;go_enter Try.func71, Try.ntmps71;go_wp2;go_loopg [9] k (fun kq v9 w' => ∃ (aa : Int), v9 = .int .i64 aa ∧ Aside0 (qoa.l0 kq a0 l1 l1 (l1.length : Int) aa = some r) ∧ Aside0 (kq ≤ k) ∧ Drawn0 w w')
 case atStart => exact ⟨(0), et, H', ⟨Nat.le_refl _⟩, by repeat (first | exact Drawn0.refl _ | apply Drawn0.step)⟩
 case round =>
  clear H';obtain ⟨aa, rfl, HA, HK1, ⟨m1, rfl⟩⟩ := hrel
  cases gk with
  | zero => exact absurd HA.out (by simp [qoa.l0])
  | succ k1 =>
   have H := HA.out;clear HA;simp only [qoa.l0] at H
   by_cases c3 : aa < (l1.length : Int)
   rotate_left
   ·rw [if_neg c3] at H
    have ap := qqF c3;clear c3;obtain rfl := qqI H;go_wp2;go_ret;exact ⟨et, by repeat (first | exact Drawn0.refl _ | apply Drawn0.step)⟩
   rw [if_pos c3] at H;have ap := qqT c3;clear c3
   by_cases c4 : 0 ≤ aa
   rotate_left
   ·rw [if_neg c4] at H
    exact absurd H (by simp)
   rw [if_pos c4] at H;have ay := qqT c4;clear c4
   by_cases c5 : aa < (l1.length : Int)
   rotate_left
   ·rw [if_neg c5] at H
    exact absurd H (by simp)
   rw [if_pos c5] at H;have az := qqT c5;clear c5
   by_cases c6 : (rd l1 aa) < 1
   ·rw [if_pos c6] at H
    have aq := qqT c6;clear c6;obtain rfl := qqI H;have ab : 0 ≤ (aa : Int) := od;have ad : aa < (l1.length : Int) := od;obtain ⟨af, ag, ae⟩ := Kd.at_int HR1.out aa ab ad;cases ag;replace ab := eq_true ab; replace ad := eq_true ad;go_wp2;go_ret;exact ⟨et, by repeat (first | exact Drawn0.refl _ | apply Drawn0.step)⟩
   rw [if_neg c6] at H;have aq := qqF c6;clear c6
   by_cases c7 : (rd l1 aa) > a0
   ·rw [if_pos c7] at H
    have ar := qqT c7;clear c7;obtain rfl := qqI H;have ab : 0 ≤ (aa : Int) := od;have ad : aa < (l1.length : Int) := od;obtain ⟨af, ag, ae⟩ := Kd.at_int HR1.out aa ab ad;cases ag;replace ab := eq_true ab; replace ad := eq_true ad;go_wp2;go_ret;exact ⟨et, by repeat (first | exact Drawn0.refl _ | apply Drawn0.step)⟩
   rw [if_neg c7] at H;have ar := qqF c7;clear c7
   by_cases c8 : aa > 0
   rotate_left
   ·rw [if_neg c8] at H
    have au := qqF c8;clear c8;have H' := Aside0.mk H;clear H;have ab : 0 ≤ (aa : Int) := od;have ad : aa < (l1.length : Int) := od;obtain ⟨af, ag, ae⟩ := Kd.at_int HR1.out aa ab ad;cases ag;replace ab := eq_true ab; replace ad := eq_true ad;go_wp2;go_roundg k1
    case measure => have := HK1.out; omega
    case rel => exact ⟨(wrap64 (aa + 1)), et, H', ⟨by have := HK1.out; omega⟩, by repeat (first | exact Drawn0.refl _ | apply Drawn0.step)⟩
   rw [if_pos c8] at H;have au := qqT c8;clear c8;obtain ⟨ji9, ak⟩ : ∃ j_ : Int, (wrap64 (aa - 1)) = j_ := ⟨_, rfl⟩
   replace H : (if 0 ≤ (ji9) then (if (ji9) < (l1.length : Int) then (if (rd l1 (ji9)) ≥ (rd l1 aa) then (some false) else (qoa.l0 k1 a0 l1 l1 (l1.length : Int) (wrap64 (aa + 1)))) else (none)) else (none)) = some r := by first | (rw [ak] at H; exact H) | (simp only [ak] at H ⊢; exact H)
   have av : (IntKind.i64.wrap (aa - 1)) = ji9 := (i64_w _).trans ak
   by_cases c10 : 0 ≤ (ji9)
   rotate_left
   ·rw [if_neg c10] at H
    exact absurd H (by simp)
   rw [if_pos c10] at H;have aw := qqT c10;clear c10
   by_cases c11 : (ji9) < (l1.length : Int)
   rotate_left
   ·rw [if_neg c11] at H
    exact absurd H (by simp)
   rw [if_pos c11] at H;have ax := qqT c11;clear c11
   by_cases c12 : (rd l1 (ji9)) ≥ (rd l1 aa)
   ·rw [if_pos c12] at H
    have ao := qqT c12;clear c12;obtain rfl := qqI H;have ab : 0 ≤ (aa : Int) := od;have ad : aa < (l1.length : Int) := od;obtain ⟨af, ag, ae⟩ := Kd.at_int HR1.out aa ab ad;cases ag;replace ab := eq_true ab; replace ad := eq_true ad;have ah : 0 ≤ ((ji9) : Int) := od;have ai : (ji9) < (l1.length : Int) := od;obtain ⟨aj, an, al⟩ := Kd.at_int HR1.out (ji9) ah ai;obtain rfl : af = aj := (by injection an);replace ah := eq_true ah; replace ai := eq_true ai;go_wp2;go_ret;exact ⟨by first | rfl | (simp; done) | (simp only [← ak] <;> (first | rfl | simp)) | (simp [*]; done), by repeat (first | exact Drawn0.refl _ | apply Drawn0.step)⟩
   rw [if_neg c12] at H;have ao := qqF c12;clear c12;have H' := Aside0.mk H;clear H;have ab : 0 ≤ (aa : Int) := od;have ad : aa < (l1.length : Int) := od;obtain ⟨af, ag, ae⟩ := Kd.at_int HR1.out aa ab ad;cases ag;replace ab := eq_true ab; replace ad := eq_true ad;have ah : 0 ≤ ((ji9) : Int) := od;have ai : (ji9) < (l1.length : Int) := od;obtain ⟨aj, an, al⟩ := Kd.at_int HR1.out (ji9) ah ai;obtain rfl : af = aj := (by injection an);replace ah := eq_true ah; replace ai := eq_true ai;go_wp2;go_roundg k1
   case measure => have := HK1.out; omega
   case rel => exact ⟨(wrap64 (aa + 1)), et, H', ⟨by have := HK1.out; omega⟩, by repeat (first | exact Drawn0.refl _ | apply Drawn0.step)⟩
def qua.l0 : Nat → Int → List Int → Int → Int → Option (Int)
 | 0, _, _, _, _ => none
 | k + 1, x0, x16, x17, x18 => if x18 < x17 then (if 0 ≤ x18 then (if x18 < (x16.length : Int) then (if (rd x16 x18) < 0 then (some 13) else (if (rd x16 x18) ≥ x0 then (some 13) else (qua.l0 k x0 x16 x17 (wrap64 (x18 + 1))))) else (none)) else (none)) else (some 0)
def qua.f (k : Nat) (a0 : Int) (ab : List Int) (aa : List Int) : Option (Int) := (qoa.f k 13 ab).bind fun ad => (if ad = true then (if (aa.length : Int) > 1024 then (some 3) else (qua.l0 k a0 aa (aa.length : Int) 0)) else (some 2))
theorem qua.calls (k : Nat) (a0 : Int) (ai : Option Addr) (aj : Nat) (ae : List Int) (ak : Option Addr) (al : Nat) (ad : List Int) (r : Int) (w : World) (au : Kd.C (Kd.int .i64) w ai ae.length ae) (av : ae.length ≤ aj) (aw : Kd.C (Kd.int .i64) w ak ad.length ad) (ax : ad.length ≤ al) (h : qua.f k a0 ae ad = some r) :
  Calls Try.prog 42 #[.int .i64 a0, .agg #[.slice ai ae.length aj, .slice ak ad.length al]] w fun e w' => e = .returned (.int .i64 r) ∧ Below w.heap.size w w' := by
 have hu66 := Try.underlying66;have an := Aside0.mk au;have ao := Aside0.mk av;clear au av;have ap := Aside0.mk aw;have aH := Aside0.mk ax;clear aw ax;have HB := Aside0.mk (Below.refl w.heap.size w);have H : ((qoa.f k 13 ae).bind fun aB => (if aB = true then (if (ad.length : Int) > 1024 then (some 3) else (qua.l0 k a0 ad (ad.length : Int) 0)) else (some 2))) = some r := h;clear h;replace H := qqB H;obtain ⟨aB, A30, H⟩ := H;(try dsimp only at H);have A3 := Aside0.mk A30;clear A30
 by_cases c4 : aB = true
 rotate_left
 ·replace c4 := Bool.eq_false_iff.mpr c4
  subst c4;replace H := ifF H;obtain rfl := qqI H;go_enter Try.func42, Try.ntmps42;go_wp2_with (first | ((with_reducible refine qfa (N := 3) rfl ?_); refine qha ?hg (N := 3) ?hd (cs := #[.slice ai ae.length aj, .slice ak ad.length al]) (t := 66) ?hr ?_; (case hd | hg => rfl); (case hr => go_simp; try rfl); intro aq hg w15 hbox hb; have af := am hbox; have ay := kG HB hg; have az := kG HB hg; replace HB := kH HB hb; clear hb hbox hg; have Z16 := kz2 af) | ((with_reducible refine gate_callee (f := 71) rfl ?_); refine goesL_ (some 9) rfl rfl Try.func71 (by kernel_rfl) rfl #[.int .i64 13, .slice ai ae.length aj] rfl (by (try simp only [qM1, qM2, qM3]); first | done | rfl) ?_; (with_reducible refine (qoa.calls k 13 _ _ ae false _ ?side1 ?side2 A3.out).mono ?_); (case side1 => repeat (first | exact (Kd.C_below an.out HB.out) | (with_reducible first | refine Kd.C_alloc ?_ _ | refine Kd.C_drewN ?_ _ | refine Kd.C_drew ?_))); (case side2 => exact ao.out); rintro e w' ⟨rfl, ⟨nd, rfl⟩⟩; refine ⟨_, rfl, ?_⟩));go_ret;exact ⟨er, kh HB⟩
 subst c4;replace H := ifT H
 by_cases c5 : (ad.length : Int) > 1024
 ·rw [if_pos c5] at H
  have aC := qqT c5;have aD : decide (1024 < ad.length) = true := qqT (by omega);clear c5;obtain rfl := qqI H;go_enter Try.func42, Try.ntmps42;go_wp2_with (first | ((with_reducible refine qfa (N := 3) rfl ?_); refine qha ?hg (N := 3) ?hd (cs := #[.slice ai ae.length aj, .slice ak ad.length al]) (t := 66) ?hr ?_; (case hd | hg => rfl); (case hr => go_simp; try rfl); intro aq hg w6 hbox hb; have af := am hbox; have ay := kG HB hg; have az := kG HB hg; replace HB := kH HB hb; clear hb hbox hg; have Z7 := kz2 af) | ((with_reducible refine gate_callee (f := 71) rfl ?_); refine goesL_ (some 9) rfl rfl Try.func71 (by kernel_rfl) rfl #[.int .i64 13, .slice ai ae.length aj] rfl (by (try simp only [qM1, qM2, qM3]); first | done | rfl) ?_; (with_reducible refine (qoa.calls k 13 _ _ ae true _ ?side1 ?side2 A3.out).mono ?_); (case side1 => repeat (first | exact (Kd.C_below an.out HB.out) | (with_reducible first | refine Kd.C_alloc ?_ _ | refine Kd.C_drewN ?_ _ | refine Kd.C_drew ?_))); (case side2 => exact ao.out); rintro e w' ⟨rfl, ⟨nd, rfl⟩⟩; refine ⟨_, rfl, ?_⟩));go_ret;exact ⟨er, kh HB⟩
 rw [if_neg c5] at H;have aC := qqF c5;have aD : decide (1024 < ad.length) = false := qqF (by omega);clear c5;have H' := Aside0.mk H;clear H;go_enter Try.func42, Try.ntmps42;go_wp2_with (first | ((with_reducible refine qfa (N := 3) rfl ?_); refine qha ?hg (N := 3) ?hd (cs := #[.slice ai ae.length aj, .slice ak ad.length al]) (t := 66) ?hr ?_; (case hd | hg => rfl); (case hr => go_simp; try rfl); intro aq hg w8 hbox hb; have af := am hbox; have ay := kG HB hg; have az := kG HB hg; replace HB := kH HB hb; clear hb hbox hg; have Z9 := kz2 af) | ((with_reducible refine gate_callee (f := 71) rfl ?_); refine goesL_ (some 9) rfl rfl Try.func71 (by kernel_rfl) rfl #[.int .i64 13, .slice ai ae.length aj] rfl (by (try simp only [qM1, qM2, qM3]); first | done | rfl) ?_; (with_reducible refine (qoa.calls k 13 _ _ ae true _ ?side1 ?side2 A3.out).mono ?_); (case side1 => repeat (first | exact (Kd.C_below an.out HB.out) | (with_reducible first | refine Kd.C_alloc ?_ _ | refine Kd.C_drewN ?_ _ | refine Kd.C_drew ?_))); (case side2 => exact ao.out); rintro e w' ⟨rfl, ⟨nd, rfl⟩⟩; refine ⟨_, rfl, ?_⟩));go_loopg [18] k (fun kq v18 w' => ∃ (ab : Int), v18 = .int .i64 ab ∧ Aside0 (qua.l0 kq a0 ad (ad.length : Int) ab = some r) ∧ Aside0 (kq ≤ k) ∧ Aside0 (w'.heap[aq]? = some (.cells #[(.slice ai ae.length aj), (.slice ak ad.length al)] 66 (0, 0))) ∧ Aside0 (Below w.heap.size w w'))
 case atStart => exact ⟨(0), et, H', ⟨Nat.le_refl _⟩, ⟨kg af⟩, ⟨kh HB⟩⟩
 case round =>
  clear H';(try clear c4 aC aD Z7 Z9);obtain ⟨ab, rfl, HA, HK1, af, HB⟩ := hrel
  cases gk with
  | zero => exact absurd HA.out (by simp [qua.l0])
  | succ k1 =>
   have H := HA.out;clear HA;simp only [qua.l0] at H
   by_cases c10 : ab < (ad.length : Int)
   rotate_left
   ·rw [if_neg c10] at H
    have aE := qqF c10;clear c10;obtain rfl := qqI H;go_wp2;go_ret;exact ⟨er, kh HB⟩
   rw [if_pos c10] at H;have aE := qqT c10;clear c10
   by_cases c11 : 0 ≤ ab
   rotate_left
   ·rw [if_neg c11] at H
    exact absurd H (by simp)
   rw [if_pos c11] at H;have aI := qqT c11;clear c11
   by_cases c12 : ab < (ad.length : Int)
   rotate_left
   ·rw [if_neg c12] at H
    exact absurd H (by simp)
   rw [if_pos c12] at H;have aJ := qqT c12;clear c12
   by_cases c13 : (rd ad ab) < 0
   ·rw [if_pos c13] at H
    have aF := qqT c13;clear c13;obtain rfl := qqI H;have ag : 0 ≤ (ab : Int) := od;have ah : ab < (ad.length : Int) := od;obtain ⟨aA, ar, aa⟩ := Kd.at_int ap.out ab ag ah;cases ar;replace aa := (HB.out.cell (qqW w _ aa)).trans aa;replace ag := eq_true ag; replace ah := eq_true ah;go_wp2;go_ret;exact ⟨er, kh HB⟩
   rw [if_neg c13] at H;have aF := qqF c13;clear c13
   by_cases c14 : (rd ad ab) ≥ a0
   ·rw [if_pos c14] at H
    have aG := qqT c14;clear c14;obtain rfl := qqI H;have ag : 0 ≤ (ab : Int) := od;have ah : ab < (ad.length : Int) := od;obtain ⟨aA, ar, aa⟩ := Kd.at_int ap.out ab ag ah;cases ar;replace aa := (HB.out.cell (qqW w _ aa)).trans aa;replace ag := eq_true ag; replace ah := eq_true ah;go_wp2;go_ret;exact ⟨er, kh HB⟩
   rw [if_neg c14] at H;have aG := qqF c14;clear c14;have H' := Aside0.mk H;clear H;have ag : 0 ≤ (ab : Int) := od;have ah : ab < (ad.length : Int) := od;obtain ⟨aA, ar, aa⟩ := Kd.at_int ap.out ab ag ah;cases ar;replace aa := (HB.out.cell (qqW w _ aa)).trans aa;replace ag := eq_true ag; replace ah := eq_true ah;go_wp2;go_roundg k1
   case measure => have := HK1.out; omega
   case rel => exact ⟨(wrap64 (ab + 1)), et, H', ⟨by have := HK1.out; omega⟩, ⟨kg af⟩, ⟨kh HB⟩⟩
mutual
def qia.j0 : Nat → Int → Bool → List (S64) → List (S61) → List (S66) → Option (Int)
 | 0, _, _, _, _, _ => none
 | k + 1, x0, x31, aa, ab, ad => if x31 = true then (some 3) else (qia.l0 k x0 aa (aa.length : Int) 0 aa ab ad)
def qia.l0 : Nat → Int → List (S64) → Int → Int → List (S64) → List (S61) → List (S66) → Option (Int)
 | 0, _, _, _, _, _, _, _ => none
 | k + 1, x0, x33, x34, x35, aa, ab, ad => if x35 < x34 then (if 0 ≤ x35 then (if x35 < (x33.length : Int) then (if ((rd_T64 x33 x35).f0) < 1 then (some 2) else (if ((rd_T64 x33 x35).f0) > 13 then (some 2) else (qia.l0 k x0 x33 x34 (wrap64 (x35 + 1)) aa ab ad))) else (none)) else (none)) else (qia.l1 k x0 ab (ab.length : Int) 0 aa ab ad)
def qia.l1 : Nat → Int → List (S61) → Int → Int → List (S64) → List (S61) → List (S66) → Option (Int)
 | 0, _, _, _, _, _, _, _ => none
 | k + 1, x0, x49, x50, x51, aa, ab, ad => if x51 < x50 then (if 0 ≤ x51 then (if x51 < (x49.length : Int) then ((qea.f k x0 (aa.length : Int) x51 ((rd_T61 x49 x51).f0) ((rd_T61 x49 x51).f1) ((rd_T61 x49 x51).f2) ((rd_T61 x49 x51).f3)).bind fun ae => (if ae = 0 then (qia.l1 k x0 x49 x50 (wrap64 (x51 + 1)) aa ab ad) else (some ae))) else (none)) else (none)) else (qia.l2 k ad (ad.length : Int) 0 aa ab ad)
def qia.l2 : Nat → List (S66) → Int → Int → List (S64) → List (S61) → List (S66) → Option (Int)
 | 0, _, _, _, _, _, _ => none
 | k + 1, x68, x69, x70, aa, ab, ad => if x70 < x69 then (if 0 ≤ x70 then (if x70 < (x68.length : Int) then ((qua.f k (ab.length : Int) ((rd_T66 x68 x70).f0) ((rd_T66 x68 x70).f1)).bind fun af => (if af = 0 then (qia.l2 k x68 x69 (wrap64 (x70 + 1)) aa ab ad) else (some af))) else (none)) else (none)) else (some 0)
end
def qia.f (k : Nat) (a0 : Int) (aa : List (S64)) (ab : List (S61)) (ad : List (S66)) : Option (Int) := (qpa.f k a0).bind fun ae => (if ae = true then (if (aa.length : Int) > 256 then (qia.j0 k a0 true aa ab ad) else (if (ab.length : Int) > 65536 then (qia.j0 k a0 true aa ab ad) else (qia.j0 k a0 (decide ((ad.length : Int) > 4096)) aa ab ad))) else (some 2))
theorem qia.calls (k : Nat) (a0 : Int) (aN : Option Addr) (aO : Nat) (ag : List (S64)) (aP : Option Addr) (aQ : Nat) (ad : List (S61)) (aR : Option Addr) (aS : Nat) (ae : List (S66)) (r : Int) (w : World) (bd : Kd.C k64 w aN ag.length ag) (be : ag.length ≤ aO) (bf : Kd.C k61 w aP ad.length ad) (bg : ad.length ≤ aQ) (bh : Kd.C k66 w aR ae.length ae) (bi : ae.length ≤ aS) (h : qia.f k a0 ag ad ae = some r) :
  Calls Try.prog 17 #[.int .u64 a0, .agg #[.slice aN ag.length aO, .slice aP ad.length aQ, .slice aR ae.length aS]] w fun e w' => e = .returned (.int .i64 r) ∧ Below w.heap.size w w' := by
 have hu26 := Try.underlying26;have hu64 := Try.underlying64;have hu61 := Try.underlying61;have hu66 := Try.underlying66;have ba := Aside0.mk bd;have bU := Aside0.mk be;clear bd be;have bj := Aside0.mk bf;have bV := Aside0.mk bg;clear bf bg;have bk := Aside0.mk bh;have bW := Aside0.mk bi;clear bh bi;have HB := Aside0.mk (Below.refl w.heap.size w);have H : ((qpa.f k a0).bind fun br => (if br = true then (if (ag.length : Int) > 256 then (qia.j0 k a0 true ag ad ae) else (if (ad.length : Int) > 65536 then (qia.j0 k a0 true ag ad ae) else (qia.j0 k a0 (decide ((ae.length : Int) > 4096)) ag ad ae))) else (some 2))) = some r := h;clear h;replace H := qqB H;obtain ⟨br, A30, H⟩ := H;(try dsimp only at H);have A3 := Aside0.mk A30;clear A30
 by_cases c4 : br = true
 rotate_left
 ·replace c4 := Bool.eq_false_iff.mpr c4
  subst c4;replace H := ifF H;obtain rfl := qqI H;go_enter Try.func17, Try.ntmps17;go_wp2_with (first | ((with_reducible refine qfa (N := 3) rfl ?_); (try (refine gate_guard (by rfl) ?_; dsimp only)); refine qha ?hg (N := 3) ?hd (cs := #[.slice aN ag.length aO, .slice aP ad.length aQ, .slice aR ae.length aS]) (t := 26) ?hr ?_; (case hd | hg => rfl); (case hr => go_simp; try rfl); intro aT hg w60 hbox hb; have aa := am hbox; have bx := kG HB hg; have bz := kG HB hg; replace HB := kH HB hb; clear hb hbox hg) | ((with_reducible refine gate_callee (f := 40) rfl ?_); refine goesL_ (some 14) rfl rfl Try.func40 (by kernel_rfl) rfl #[.int .u64 a0] rfl (by (try simp only [qM1, qM2, qM3]); first | done | rfl) ?_; (with_reducible refine (qpa.calls k a0 false _ A3.out).mono ?_); rintro e w' ⟨rfl, ⟨nd, rfl⟩⟩; refine ⟨_, rfl, ?_⟩));go_ret;exact ⟨er, kh HB⟩
 subst c4;replace H := ifT H;have HC5 := Aside0.mk H;clear H;go_enter Try.func17, Try.ntmps17;go_upto_region 3 with (first | ((with_reducible refine qfa (N := 3) rfl ?_); (try (refine gate_guard (by rfl) ?_; dsimp only)); refine qha ?hg (N := 3) ?hd (cs := #[.slice aN ag.length aO, .slice aP ad.length aQ, .slice aR ae.length aS]) (t := 26) ?hr ?_; (case hd | hg => rfl); (case hr => go_simp; try rfl); intro aT hg w6 hbox hb; have aa := am hbox; have bx := kG HB hg; have bz := kG HB hg; replace HB := kH HB hb; clear hb hbox hg) | ((with_reducible refine gate_callee (f := 40) rfl ?_); refine goesL_ (some 14) rfl rfl Try.func40 (by kernel_rfl) rfl #[.int .u64 a0] rfl (by (try simp only [qM1, qM2, qM3]); first | done | rfl) ?_; (with_reducible refine (qpa.calls k a0 true _ A3.out).mono ?_); rintro e w' ⟨rfl, ⟨nd, rfl⟩⟩; refine ⟨_, rfl, ?_⟩));(try simp only [Act.put, qS1, qS2, qS3]);go_cut [31] (fun v31 wc => ∃ (kq : Nat) (aZ : Bool), v31 = .bool aZ ∧ Aside0 (qia.j0 kq a0 aZ ag ad ae = some r) ∧ Aside0 (kq ≤ k) ∧ Aside0 (wc.heap[aT]? = some (.cells #[(.slice aN ag.length aO), (.slice aP ad.length aQ), (.slice aR ae.length aS)] 26 (0, 0))) ∧ Aside0 (Below w.heap.size w wc))
 case first =>
  have H := HC5.out;clear HC5
  by_cases c7 : (ag.length : Int) > 256
  ·rw [if_pos c7] at H
   have bb := qqT c7;have bR : decide (256 < ag.length) = true := qqT (by omega);clear c7;(first | rw [bb] | (simp only [i64_w, i32_w]; rw [bb]) | skip);have H' := Aside0.mk H;clear H;have Z8 := kz3 aa;go_wp2;go_meet
   case rel => exact ⟨_, (true), et, H', ⟨by first | omega | exact Nat.le_refl _⟩, ⟨kg aa⟩, ⟨kh HB⟩⟩
  rw [if_neg c7] at H;have bb := qqF c7;have bR : decide (256 < ag.length) = false := qqF (by omega);clear c7;(first | rw [bb] | (simp only [i64_w, i32_w]; rw [bb]) | skip)
  by_cases c9 : (ad.length : Int) > 65536
  ·rw [if_pos c9] at H
   have bS := qqT c9;have bT : decide (65536 < ad.length) = true := qqT (by omega);clear c9;have H' := Aside0.mk H;clear H;have Z10 := kz3 aa;go_wp2;go_meet
   case rel => exact ⟨_, (true), et, H', ⟨by first | omega | exact Nat.le_refl _⟩, ⟨kg aa⟩, ⟨kh HB⟩⟩
  rw [if_neg c9] at H;have bS := qqF c9;have bT : decide (65536 < ad.length) = false := qqF (by omega);clear c9;have H' := Aside0.mk H;clear H;have Z11 := kz3 aa;go_wp2;go_meet
  case rel => exact ⟨_, (decide ((ae.length : Int) > 4096)), et, H', ⟨by first | omega | exact Nat.le_refl _⟩, ⟨kg aa⟩, ⟨kh HB⟩⟩
 clear HC5; (try clear c4);obtain ⟨kq, aZ, rfl, HA, HJ4, aa, HB⟩ := hcut
 cases kq with
 | zero => exact absurd HA.out (by simp [qia.j0])
 | succ kj4 =>
  have H := HA.out;clear HA;simp only [qia.j0] at H
  by_cases c12 : aZ = true
  ·subst c12
   replace H := ifT H;obtain rfl := qqI H;go_wp2;go_ret;exact ⟨er, kh HB⟩
  replace c12 := Bool.eq_false_iff.mpr c12;subst c12;replace H := ifF H;have H' := Aside0.mk H;clear H;have Z13 := kz3 aa;go_wp2;go_loopg [35] kj4 (fun kq v35 w' => ∃ (aj : Int), v35 = .int .i64 aj ∧ Aside0 (qia.l0 kq a0 ag (ag.length : Int) aj ag ad ae = some r) ∧ Aside0 (kq ≤ kj4) ∧ Aside0 (w'.heap[aT]? = some (.cells #[(.slice aN ag.length aO), (.slice aP ad.length aQ), (.slice aR ae.length aS)] 26 (0, 0))) ∧ Aside0 (Below w.heap.size w w'))
  case atStart => exact ⟨(0), et, H', ⟨Nat.le_refl _⟩, ⟨kg aa⟩, ⟨kh HB⟩⟩
  case round =>
   clear H';(try clear c12 Z13);obtain ⟨aj, rfl, HA, HK2, aa, HB⟩ := hrel
   cases gk with
   | zero => exact absurd HA.out (by simp [qia.l0])
   | succ k2 =>
    have H := HA.out;clear HA;simp only [qia.l0] at H
    by_cases c14 : aj < (ag.length : Int)
    ·rw [if_pos c14] at H
     have bl := qqT c14;clear c14
     by_cases c15 : 0 ≤ aj
     rotate_left
     ·rw [if_neg c15] at H
      exact absurd H (by simp)
     rw [if_pos c15] at H;have bX := qqT c15;clear c15
     by_cases c16 : aj < (ag.length : Int)
     rotate_left
     ·rw [if_neg c16] at H
      exact absurd H (by simp)
     rw [if_pos c16] at H;have bY := qqT c16;clear c16
     by_cases c17 : ((rd_T64 ag aj).f0) < 1
     ·rw [if_pos c17] at H
      have bA := qqT c17;clear c17;obtain rfl := qqI H;have aB : 0 ≤ (aj : Int) := od;have aC : aj < (ag.length : Int) := od;obtain ⟨bm, bc, ah, ai⟩ := at_T64 ba.out aj aB aC;cases bc;replace ah := (HB.out.cell (qqW w _ ah)).trans ah;replace ai := (HB.out.cell (qqW w _ ai)).trans ai;replace aB := eq_true aB; replace aC := eq_true aC;go_wp2_with (first | ((with_reducible refine qfa (N := 6) rfl ?_); (try (refine gate_guard (by rfl) ?_; dsimp only)); refine qha ?hg (N := 6) ?hd (cs := #[.int .i64 0, .bool false]) (t := 64) ?hr ?_; (case hd | hg => rfl); (case hr => go_simp; try rfl); intro bn hg w18 hbox hb; have aU := am hbox; have bo := kG HB hg; have bp := kG HB hg; replace HB := kH HB hb; have ak := kP aa hg; have al := kQ aa hg; replace aa := kU aa hb; clear hb hbox hg; have bZ := al.out; have ca := ak.out; have Z20 := kz2 aU));go_ret;exact ⟨er, kh HB⟩
     rw [if_neg c17] at H;have bA := qqF c17;clear c17
     by_cases c21 : ((rd_T64 ag aj).f0) > 13
     ·rw [if_pos c21] at H
      have bB := qqT c21;clear c21;obtain rfl := qqI H;have aB : 0 ≤ (aj : Int) := od;have aC : aj < (ag.length : Int) := od;obtain ⟨bm, bc, ah, ai⟩ := at_T64 ba.out aj aB aC;cases bc;replace ah := (HB.out.cell (qqW w _ ah)).trans ah;replace ai := (HB.out.cell (qqW w _ ai)).trans ai;replace aB := eq_true aB; replace aC := eq_true aC;go_wp2_with (first | ((with_reducible refine qfa (N := 6) rfl ?_); (try (refine gate_guard (by rfl) ?_; dsimp only)); refine qha ?hg (N := 6) ?hd (cs := #[.int .i64 0, .bool false]) (t := 64) ?hr ?_; (case hd | hg => rfl); (case hr => go_simp; try rfl); intro bn hg w22 hbox hb; have aU := am hbox; have bo := kG HB hg; have bp := kG HB hg; replace HB := kH HB hb; have ak := kP aa hg; have al := kQ aa hg; replace aa := kU aa hb; clear hb hbox hg; have cb := al.out; have cc := ak.out; have Z24 := kz2 aU));go_ret;exact ⟨er, kh HB⟩
     rw [if_neg c21] at H;have bB := qqF c21;clear c21;have H' := Aside0.mk H;clear H;have aB : 0 ≤ (aj : Int) := od;have aC : aj < (ag.length : Int) := od;obtain ⟨bm, bc, ah, ai⟩ := at_T64 ba.out aj aB aC;cases bc;replace ah := (HB.out.cell (qqW w _ ah)).trans ah;replace ai := (HB.out.cell (qqW w _ ai)).trans ai;replace aB := eq_true aB; replace aC := eq_true aC;go_wp2_with (first | ((with_reducible refine qfa (N := 6) rfl ?_); (try (refine gate_guard (by rfl) ?_; dsimp only)); refine qha ?hg (N := 6) ?hd (cs := #[.int .i64 0, .bool false]) (t := 64) ?hr ?_; (case hd | hg => rfl); (case hr => go_simp; try rfl); intro bn hg w25 hbox hb; have aU := am hbox; have bo := kG HB hg; have bp := kG HB hg; replace HB := kH HB hb; have ak := kP aa hg; have al := kQ aa hg; replace aa := kU aa hb; clear hb hbox hg; have cd := al.out; have ce := ak.out; have Z27 := kz2 aU));go_roundg k2
     case measure => have := HJ4.out; have := HK2.out; omega
     case rel => exact ⟨(wrap64 (aj + 1)), et, H', ⟨by have := HJ4.out; have := HK2.out; omega⟩, ⟨kg aa⟩, ⟨kh HB⟩⟩
    rw [if_neg c14] at H;have bl := qqF c14;clear c14;have H' := Aside0.mk H;clear H;have Z28 := kz3 aa;go_wp2;go_loopg [51] k2 (fun kq v51 w' => ∃ (ab : Int), v51 = .int .i64 ab ∧ Aside0 (qia.l1 kq a0 ad (ad.length : Int) ab ag ad ae = some r) ∧ Aside0 (kq ≤ k2) ∧ Aside0 (w'.heap[aT]? = some (.cells #[(.slice aN ag.length aO), (.slice aP ad.length aQ), (.slice aR ae.length aS)] 26 (0, 0))) ∧ Aside0 (Below w.heap.size w w'))
    case atStart => exact ⟨(0), et, H', ⟨Nat.le_refl _⟩, ⟨kg aa⟩, ⟨kh HB⟩⟩
    case round =>
     clear H';(try clear bl c15 Z28);obtain ⟨ab, rfl, HA, HK3, aa, HB⟩ := hrel
     cases gk with
     | zero => exact absurd HA.out (by simp [qia.l1])
     | succ k3 =>
      have H := HA.out;clear HA;simp only [qia.l1] at H
      by_cases c29 : ab < (ad.length : Int)
      ·rw [if_pos c29] at H
       have bq := qqT c29;clear c29
       by_cases c30 : 0 ≤ ab
       rotate_left
       ·rw [if_neg c30] at H
        exact absurd H (by simp)
       rw [if_pos c30] at H;have cf := qqT c30;clear c30
       by_cases c31 : ab < (ad.length : Int)
       rotate_left
       ·rw [if_neg c31] at H
        exact absurd H (by simp)
       rw [if_pos c31] at H;have cg := qqT c31;clear c31;replace H := qqB H;obtain ⟨bt, bC, H⟩ := H;(try dsimp only at H);have A32 := Aside0.mk bC;clear bC
       by_cases c33 : bt = 0
       rotate_left
       ·rw [if_neg c33] at H
        have bD := beq_eq_false_iff_ne.mpr c33;have bE := bne_iff_ne.mpr c33;obtain rfl := qqI H;have aV : 0 ≤ (ab : Int) := od;have aW : ab < (ad.length : Int) := od;obtain ⟨bF, bu, an, ao, ap, aq⟩ := at_T61 bj.out ab aV aW;cases bu;replace an := (HB.out.cell (qqW w _ an)).trans an;replace ao := (HB.out.cell (qqW w _ ao)).trans ao;replace ap := (HB.out.cell (qqW w _ ap)).trans ap;replace aq := (HB.out.cell (qqW w _ aq)).trans aq;replace aV := eq_true aV; replace aW := eq_true aW;go_wp2_with (first | ((with_reducible refine qfa (N := 8) rfl ?_); (try (refine gate_guard (by rfl) ?_; dsimp only)); refine qha ?hg (N := 8) ?hd (cs := #[.int .i64 0, .int .i64 0, .int .i64 0, .int .u64 0]) (t := 61) ?hr ?_; (case hd | hg => rfl); (case hr => go_simp; try rfl); intro bG hg w39 hbox hb; have aD := am hbox; have bH := kG HB hg; have bI := kG HB hg; replace HB := kH HB hb; have ax := kP aa hg; have ay := kQ aa hg; replace aa := kU aa hb; clear hb hbox hg; have ch := ay.out; have ci := ax.out; have Z41 := kz4 aD; have Z42 := kz3 aa) | ((with_reducible refine gate_callee (f := 41) rfl ?_); refine goesL_ (some 62) rfl rfl Try.func41 (by kernel_rfl) rfl #[.int .u64 a0, .int .i64 (ag.length : Int), .int .i64 ab, .agg #[.int .i64 ((rd_T61 ad ab).f0), .int .i64 ((rd_T61 ad ab).f1), .int .i64 ((rd_T61 ad ab).f2), .int .u64 ((rd_T61 ad ab).f3)]] rfl (by (try simp only [qM1, qM2, qM3]); first | done | rfl) ?_; (with_reducible refine (qea.calls k3 a0 (ag.length : Int) ab ((rd_T61 ad ab).f0) ((rd_T61 ad ab).f1) ((rd_T61 ad ab).f2) ((rd_T61 ad ab).f3) bt _ A32.out).mono ?_); rintro e w43 ⟨rfl, hb⟩; refine ⟨_, rfl, ?_⟩; replace aa := kU aa hb; replace aD := kO (o' := .cells #[.int .i64 ((rd_T61 ad ab).f0), .int .i64 ((rd_T61 ad ab).f1), .int .i64 ((rd_T61 ad ab).f2), .int .u64 ((rd_T61 ad ab).f3)] 61 (0, 0)) aD hb; replace HB := kH HB hb; (try clear hb); (try clear hb2); (try clear hk); (try clear hi)));go_ret;exact ⟨er, kh HB⟩
       rw [if_pos c33] at H;have bD := beq_iff_eq.mpr c33;have bE := bne_eq_false_iff_eq.mpr c33;clear c33;have H' := Aside0.mk H;clear H;have aV : 0 ≤ (ab : Int) := od;have aW : ab < (ad.length : Int) := od;obtain ⟨bF, bu, an, ao, ap, aq⟩ := at_T61 bj.out ab aV aW;cases bu;replace an := (HB.out.cell (qqW w _ an)).trans an;replace ao := (HB.out.cell (qqW w _ ao)).trans ao;replace ap := (HB.out.cell (qqW w _ ap)).trans ap;replace aq := (HB.out.cell (qqW w _ aq)).trans aq;replace aV := eq_true aV; replace aW := eq_true aW;go_wp2_with (first | ((with_reducible refine qfa (N := 8) rfl ?_); (try (refine gate_guard (by rfl) ?_; dsimp only)); refine qha ?hg (N := 8) ?hd (cs := #[.int .i64 0, .int .i64 0, .int .i64 0, .int .u64 0]) (t := 61) ?hr ?_; (case hd | hg => rfl); (case hr => go_simp; try rfl); intro bG hg w34 hbox hb; have aD := am hbox; have bH := kG HB hg; have bI := kG HB hg; replace HB := kH HB hb; have ax := kP aa hg; have ay := kQ aa hg; replace aa := kU aa hb; clear hb hbox hg; have cj := ay.out; have ck := ax.out; have Z36 := kz4 aD; have Z37 := kz3 aa) | ((with_reducible refine gate_callee (f := 41) rfl ?_); refine goesL_ (some 62) rfl rfl Try.func41 (by kernel_rfl) rfl #[.int .u64 a0, .int .i64 (ag.length : Int), .int .i64 ab, .agg #[.int .i64 ((rd_T61 ad ab).f0), .int .i64 ((rd_T61 ad ab).f1), .int .i64 ((rd_T61 ad ab).f2), .int .u64 ((rd_T61 ad ab).f3)]] rfl (by (try simp only [qM1, qM2, qM3]); first | done | rfl) ?_; (with_reducible refine (qea.calls k3 a0 (ag.length : Int) ab ((rd_T61 ad ab).f0) ((rd_T61 ad ab).f1) ((rd_T61 ad ab).f2) ((rd_T61 ad ab).f3) bt _ A32.out).mono ?_); rintro e w38 ⟨rfl, hb⟩; refine ⟨_, rfl, ?_⟩; replace aa := kU aa hb; replace aD := kO (o' := .cells #[.int .i64 ((rd_T61 ad ab).f0), .int .i64 ((rd_T61 ad ab).f1), .int .i64 ((rd_T61 ad ab).f2), .int .u64 ((rd_T61 ad ab).f3)] 61 (0, 0)) aD hb; replace HB := kH HB hb; (try clear hb); (try clear hb2); (try clear hk); (try clear hi)));go_roundg k3
       case measure => have := HJ4.out; have := HK2.out; have := HK3.out; omega
       case rel => exact ⟨(wrap64 (ab + 1)), et, H', ⟨by have := HJ4.out; have := HK2.out; have := HK3.out; omega⟩, ⟨kg aa⟩, ⟨kh HB⟩⟩
      rw [if_neg c29] at H;have bq := qqF c29;clear c29;have H' := Aside0.mk H;clear H;have Z44 := kz3 aa;go_wp2;go_loopg [70] k3 (fun kq v70 w' => ∃ (af : Int), v70 = .int .i64 af ∧ Aside0 (qia.l2 kq ae (ae.length : Int) af ag ad ae = some r) ∧ Aside0 (kq ≤ k3) ∧ Aside0 (w'.heap[aT]? = some (.cells #[(.slice aN ag.length aO), (.slice aP ad.length aQ), (.slice aR ae.length aS)] 26 (0, 0))) ∧ Aside0 (Below w.heap.size w w'))
      case atStart => exact ⟨(0), et, H', ⟨Nat.le_refl _⟩, ⟨kg aa⟩, ⟨kh HB⟩⟩
      case round =>
       clear H';(try clear bq c30 Z44);obtain ⟨af, rfl, HA, HK4, aa, HB⟩ := hrel
       cases gk with
       | zero => exact absurd HA.out (by simp [qia.l2])
       | succ k4 =>
        have H := HA.out;clear HA;simp only [qia.l2] at H
        by_cases c45 : af < (ae.length : Int)
        rotate_left
        ·rw [if_neg c45] at H
         have bJ := qqF c45;clear c45;obtain rfl := qqI H;go_wp2;go_ret;exact ⟨er, kh HB⟩
        rw [if_pos c45] at H;have bJ := qqT c45;clear c45
        by_cases c46 : 0 ≤ af
        rotate_left
        ·rw [if_neg c46] at H
         exact absurd H (by simp)
        rw [if_pos c46] at H;have cl := qqT c46;clear c46
        by_cases c47 : af < (ae.length : Int)
        rotate_left
        ·rw [if_neg c47] at H
         exact absurd H (by simp)
        rw [if_pos c47] at H;have cm := qqT c47;clear c47;replace H := qqB H;obtain ⟨bv, bK, H⟩ := H;(try dsimp only at H);have A48 := Aside0.mk bK;clear bK
        by_cases c49 : bv = 0
        rotate_left
        ·rw [if_neg c49] at H
         have bL := beq_eq_false_iff_ne.mpr c49;have bM := bne_iff_ne.mpr c49;obtain rfl := qqI H;have aX : 0 ≤ (af : Int) := od;have aY : af < (ae.length : Int) := od;obtain ⟨bN, aE, aF, aG, aH, bw, ar, au, av, hi357_0, aw, hi357_1⟩ := at_T66 bk.out af aX aY;cases bw;replace ar := (HB.out.cell (qqW w _ ar)).trans ar;replace au := (HB.out.cell (qqW w _ au)).trans au;have aJ := Aside0.mk hi357_0;have aK := Aside0.mk av;clear hi357_0 av;have aL := Aside0.mk hi357_1;have aM := Aside0.mk aw;clear hi357_1 aw; replace aX := eq_true aX; replace aY := eq_true aY;go_wp2_with (first | ((with_reducible refine qfa (N := 11) rfl ?_); (try (refine gate_guard (by rfl) ?_; dsimp only)); refine qha ?hg (N := 11) ?hd (cs := #[.slice none 0 0, .slice none 0 0]) (t := 66) ?hr ?_; (case hd | hg => rfl); (case hr => go_simp; try rfl); intro bO hg w55 hbox hb; have aI := am hbox; have bP := kG HB hg; have bQ := kG HB hg; replace HB := kH HB hb; have az := kP aa hg; have aA := kQ aa hg; replace aa := kU aa hb; clear hb hbox hg; have cn := aA.out; have co := az.out; have Z57 := kz2 aI; have Z58 := kz3 aa) | ((with_reducible refine gate_callee (f := 42) rfl ?_); refine goesL_ (some 78) rfl rfl Try.func42 (by kernel_rfl) rfl #[.int .i64 (ad.length : Int), .agg #[.slice aE ((rd_T66 ae af).f0).length aF, .slice aG ((rd_T66 ae af).f1).length aH]] rfl (by (try simp only [qM1, qM2, qM3]); first | done | rfl) ?_; (with_reducible refine (qua.calls k4 (ad.length : Int) _ _ ((rd_T66 ae af).f0) _ _ ((rd_T66 ae af).f1) bv _ ?side1 ?side2 ?side3 ?side4 A48.out).mono ?_); (case side1 => exact Kd.C_below aJ.out (kh HB)); (case side2 => exact aK.out); (case side3 => exact Kd.C_below aL.out (kh HB)); (case side4 => exact aM.out); rintro e w59 ⟨rfl, hb⟩; refine ⟨_, rfl, ?_⟩; replace aa := kU aa hb; replace aI := kO (o' := .cells #[.slice aE ((rd_T66 ae af).f0).length aF, .slice aG ((rd_T66 ae af).f1).length aH] 66 (0, 0)) aI hb; replace HB := kH HB hb; (try clear hb); (try clear hb2); (try clear hk); (try clear hi)));go_ret;exact ⟨er, kh HB⟩
        rw [if_pos c49] at H;have bL := beq_iff_eq.mpr c49;have bM := bne_eq_false_iff_eq.mpr c49;clear c49;have H' := Aside0.mk H;clear H;have aX : 0 ≤ (af : Int) := od;have aY : af < (ae.length : Int) := od;obtain ⟨bN, aE, aF, aG, aH, bw, ar, au, av, hi357_0, aw, hi357_1⟩ := at_T66 bk.out af aX aY;cases bw;replace ar := (HB.out.cell (qqW w _ ar)).trans ar;replace au := (HB.out.cell (qqW w _ au)).trans au;have aJ := Aside0.mk hi357_0;have aK := Aside0.mk av;clear hi357_0 av;have aL := Aside0.mk hi357_1;have aM := Aside0.mk aw;clear hi357_1 aw; replace aX := eq_true aX; replace aY := eq_true aY;go_wp2_with (first | ((with_reducible refine qfa (N := 11) rfl ?_); (try (refine gate_guard (by rfl) ?_; dsimp only)); refine qha ?hg (N := 11) ?hd (cs := #[.slice none 0 0, .slice none 0 0]) (t := 66) ?hr ?_; (case hd | hg => rfl); (case hr => go_simp; try rfl); intro bO hg w50 hbox hb; have aI := am hbox; have bP := kG HB hg; have bQ := kG HB hg; replace HB := kH HB hb; have az := kP aa hg; have aA := kQ aa hg; replace aa := kU aa hb; clear hb hbox hg; have cp := aA.out; have cq := az.out; have Z52 := kz2 aI; have Z53 := kz3 aa) | ((with_reducible refine gate_callee (f := 42) rfl ?_); refine goesL_ (some 78) rfl rfl Try.func42 (by kernel_rfl) rfl #[.int .i64 (ad.length : Int), .agg #[.slice aE ((rd_T66 ae af).f0).length aF, .slice aG ((rd_T66 ae af).f1).length aH]] rfl (by (try simp only [qM1, qM2, qM3]); first | done | rfl) ?_; (with_reducible refine (qua.calls k4 (ad.length : Int) _ _ ((rd_T66 ae af).f0) _ _ ((rd_T66 ae af).f1) bv _ ?side1 ?side2 ?side3 ?side4 A48.out).mono ?_); (case side1 => exact Kd.C_below aJ.out (kh HB)); (case side2 => exact aK.out); (case side3 => exact Kd.C_below aL.out (kh HB)); (case side4 => exact aM.out); rintro e w54 ⟨rfl, hb⟩; refine ⟨_, rfl, ?_⟩; replace aa := kU aa hb; replace aI := kO (o' := .cells #[.slice aE ((rd_T66 ae af).f0).length aF, .slice aG ((rd_T66 ae af).f1).length aH] 66 (0, 0)) aI hb; replace HB := kH HB hb; (try clear hb); (try clear hb2); (try clear hk); (try clear hi)));go_roundg k4
        case measure => have := HJ4.out; have := HK2.out; have := HK3.out; have := HK4.out; omega
        case rel => exact ⟨(wrap64 (af + 1)), et, H', ⟨by have := HJ4.out; have := HK2.out; have := HK3.out; have := HK4.out; omega⟩, ⟨kg aa⟩, ⟨kh HB⟩⟩
def qdb.f (k : Nat) (aa : List (S64)) (ab : List (S61)) (ad : List (S66)) (a1 : Int) (ae : List (S64)) (af : List (S61)) (ag : List (S66)) (a3 : Int) : Option (Bool) := if a3 = 0 then (if a1 = 0 then ((qca.f k aa ab ad ae af ag).bind fun ah => (some ah)) else (some false)) else (if a1 = a3 then ((qca.f k aa ab ad ([] : List (S64)) ([] : List (S61)) ([] : List (S66))).bind fun ai => (some ai)) else (some false))
theorem qdb.calls (k : Nat) (al : Option Addr) (an : Nat) (ae : List (S64)) (ao : Option Addr) (ap : Nat) (af : List (S61)) (aq : Option Addr) (ar : Nat) (ag : List (S66)) (a1 : Int) (au : Option Addr) (av : Nat) (ai : List (S64)) (aw : Option Addr) (ax : Nat) (aj : List (S61)) (ay : Option Addr) (az : Nat) (ak : List (S66)) (a3 : Int) (r : Bool) (w : World) (aG : Kd.C k64 w al ae.length ae) (aH : ae.length ≤ an) (aI : Kd.C k61 w ao af.length af) (aJ : af.length ≤ ap) (aK : Kd.C k66 w aq ag.length ag) (aL : ag.length ≤ ar) (aM : Kd.C k64 w au ai.length ai) (aN : ai.length ≤ av) (aO : Kd.C k61 w aw aj.length aj) (aP : aj.length ≤ ax) (aQ : Kd.C k66 w ay ak.length ak) (aR : ak.length ≤ az) (h : qdb.f k ae af ag a1 ai aj ak a3 = some r) :
  Calls Try.prog 18 #[.agg #[.slice al ae.length an, .slice ao af.length ap, .slice aq ag.length ar], .int .i64 a1, .agg #[.slice au ai.length av, .slice aw aj.length ax, .slice ay ak.length az], .int .i64 a3] w fun e w' => e = .returned (.bool r) ∧ Below w.heap.size w w' := by
 have hu26 := Try.underlying26;have aS := Aside0.mk aG;have aT := Aside0.mk aH;clear aG aH;have aU := Aside0.mk aI;have aV := Aside0.mk aJ;clear aI aJ;have aW := Aside0.mk aK;have aX := Aside0.mk aL;clear aK aL;have ba := Aside0.mk aM;have bb := Aside0.mk aN;clear aM aN;have bc := Aside0.mk aO;have bd := Aside0.mk aP;clear aO aP;have be := Aside0.mk aQ;have bf := Aside0.mk aR;clear aQ aR;have HB := Aside0.mk (Below.refl w.heap.size w);have H : (if a3 = 0 then (if a1 = 0 then ((qca.f k ae af ag ai aj ak).bind fun aY => (some aY)) else (some false)) else (if a1 = a3 then ((qca.f k ae af ag ([] : List (S64)) ([] : List (S61)) ([] : List (S66))).bind fun aZ => (some aZ)) else (some false))) = some r := h;clear h
 by_cases c5 : a3 = 0
 ·rw [if_pos c5] at H
  have bj := beq_iff_eq.mpr c5;have bk := bne_eq_false_iff_eq.mpr c5;clear c5
  by_cases c6 : a1 = 0
  rotate_left
  ·rw [if_neg c6] at H
   have bl := beq_eq_false_iff_ne.mpr c6;have bm := bne_iff_ne.mpr c6;obtain rfl := qqI H;go_enter Try.func18, Try.ntmps18;go_wp2_with (first | ((with_reducible refine qfa (N := 4) rfl ?_); refine qha ?hg (N := 4) ?hd (cs := #[.slice al ae.length an, .slice ao af.length ap, .slice aq ag.length ar]) (t := 26) ?hr ?_; (case hd | hg => rfl); (case hr => go_simp; try rfl); intro aA hg w14 hbox hb; have aa := am hbox; have aB := kG HB hg; have aC := kG HB hg; replace HB := kH HB hb; clear hb hbox hg) | ((with_reducible refine qfa (N := 6) rfl ?_); refine qha ?hg (N := 6) ?hd (cs := #[.slice au ai.length av, .slice aw aj.length ax, .slice ay ak.length az]) (t := 26) ?hr ?_; (case hd | hg => rfl); (case hr => go_simp; try rfl); intro aD hg w15 hbox hb; have ah := am hbox; have aE := kG HB hg; have aF := kG HB hg; replace HB := kH HB hb; have ab := kP aa hg; have ad := kQ aa hg; replace aa := kU aa hb; clear hb hbox hg));go_ret;exact ⟨er, kh HB⟩
  rw [if_pos c6] at H;have bl := beq_iff_eq.mpr c6;have bm := bne_eq_false_iff_eq.mpr c6;clear c6;replace H := qqB H;obtain ⟨aY, A70, H⟩ := H;(try dsimp only at H);have A7 := Aside0.mk A70;clear A70;obtain rfl := qqI H;go_enter Try.func18, Try.ntmps18;go_wp2_with (first | ((with_reducible refine qfa (N := 4) rfl ?_); refine qha ?hg (N := 4) ?hd (cs := #[.slice al ae.length an, .slice ao af.length ap, .slice aq ag.length ar]) (t := 26) ?hr ?_; (case hd | hg => rfl); (case hr => go_simp; try rfl); intro aA hg w8 hbox hb; have aa := am hbox; have aB := kG HB hg; have aC := kG HB hg; replace HB := kH HB hb; clear hb hbox hg) | ((with_reducible refine qfa (N := 6) rfl ?_); refine qha ?hg (N := 6) ?hd (cs := #[.slice au ai.length av, .slice aw aj.length ax, .slice ay ak.length az]) (t := 26) ?hr ?_; (case hd | hg => rfl); (case hr => go_simp; try rfl); intro aD hg w9 hbox hb; have ah := am hbox; have aE := kG HB hg; have aF := kG HB hg; replace HB := kH HB hb; have ab := kP aa hg; have ad := kQ aa hg; replace aa := kU aa hb; clear hb hbox hg; have bn := ab.out; have bo := ad.out; have Z11 := kz3 aa; have Z12 := kz3 ah) | (go_at_call 29; (with_reducible refine (qca.calls k _ _ ae _ _ af _ _ ag _ _ ai _ _ aj _ _ ak aY _ ?side1 ?side2 ?side3 ?side4 ?side5 ?side6 ?side7 ?side8 ?side9 ?side10 ?side11 ?side12 A7.out).mono ?_); (case side1 => repeat (first | exact (Kd.C_below aS.out HB.out) | (with_reducible first | refine Kd.C_alloc ?_ _ | refine Kd.C_drewN ?_ _ | refine Kd.C_drew ?_))); (case side2 => exact aT.out); (case side3 => repeat (first | exact (Kd.C_below aU.out HB.out) | (with_reducible first | refine Kd.C_alloc ?_ _ | refine Kd.C_drewN ?_ _ | refine Kd.C_drew ?_))); (case side4 => exact aV.out); (case side5 => repeat (first | exact (Kd.C_below aW.out HB.out) | (with_reducible first | refine Kd.C_alloc ?_ _ | refine Kd.C_drewN ?_ _ | refine Kd.C_drew ?_))); (case side6 => exact aX.out); (case side7 => repeat (first | exact (Kd.C_below ba.out HB.out) | (with_reducible first | refine Kd.C_alloc ?_ _ | refine Kd.C_drewN ?_ _ | refine Kd.C_drew ?_))); (case side8 => exact bb.out); (case side9 => repeat (first | exact (Kd.C_below bc.out HB.out) | (with_reducible first | refine Kd.C_alloc ?_ _ | refine Kd.C_drewN ?_ _ | refine Kd.C_drew ?_))); (case side10 => exact bd.out); (case side11 => repeat (first | exact (Kd.C_below be.out HB.out) | (with_reducible first | refine Kd.C_alloc ?_ _ | refine Kd.C_drewN ?_ _ | refine Kd.C_drew ?_))); (case side12 => exact bf.out); rintro e w13 ⟨rfl, hb⟩; replace aa := kU aa hb; replace ah := kU ah hb; replace HB := kH HB hb; (try clear hb); (try clear hb2); (try clear hk); (try clear hi)));go_ret;exact ⟨er, kh HB⟩
 rw [if_neg c5] at H;have bj := beq_eq_false_iff_ne.mpr c5;have bk := bne_iff_ne.mpr c5
 by_cases c16 : a1 = a3
 rotate_left
 ·rw [if_neg c16] at H
  have bg := beq_eq_false_iff_ne.mpr c16;have bh := bne_iff_ne.mpr c16;obtain rfl := qqI H;go_enter Try.func18, Try.ntmps18;go_wp2_with (first | ((with_reducible refine qfa (N := 4) rfl ?_); refine qha ?hg (N := 4) ?hd (cs := #[.slice al ae.length an, .slice ao af.length ap, .slice aq ag.length ar]) (t := 26) ?hr ?_; (case hd | hg => rfl); (case hr => go_simp; try rfl); intro aA hg w23 hbox hb; have aa := am hbox; have aB := kG HB hg; have aC := kG HB hg; replace HB := kH HB hb; clear hb hbox hg) | ((with_reducible refine qfa (N := 6) rfl ?_); refine qha ?hg (N := 6) ?hd (cs := #[.slice au ai.length av, .slice aw aj.length ax, .slice ay ak.length az]) (t := 26) ?hr ?_; (case hd | hg => rfl); (case hr => go_simp; try rfl); intro aD hg w24 hbox hb; have ah := am hbox; have aE := kG HB hg; have aF := kG HB hg; replace HB := kH HB hb; have ab := kP aa hg; have ad := kQ aa hg; replace aa := kU aa hb; clear hb hbox hg));go_ret;exact ⟨er, kh HB⟩
 rw [if_pos c16] at H;have bg := beq_iff_eq.mpr c16;have bh := bne_eq_false_iff_eq.mpr c16;clear c16;replace H := qqB H;obtain ⟨aZ, bi, H⟩ := H;(try dsimp only at H);have A17 := Aside0.mk bi;clear bi;obtain rfl := qqI H;go_enter Try.func18, Try.ntmps18;go_wp2_with (first | ((with_reducible refine qfa (N := 4) rfl ?_); refine qha ?hg (N := 4) ?hd (cs := #[.slice al ae.length an, .slice ao af.length ap, .slice aq ag.length ar]) (t := 26) ?hr ?_; (case hd | hg => rfl); (case hr => go_simp; try rfl); intro aA hg w18 hbox hb; have aa := am hbox; have aB := kG HB hg; have aC := kG HB hg; replace HB := kH HB hb; clear hb hbox hg) | ((with_reducible refine qfa (N := 6) rfl ?_); refine qha ?hg (N := 6) ?hd (cs := #[.slice au ai.length av, .slice aw aj.length ax, .slice ay ak.length az]) (t := 26) ?hr ?_; (case hd | hg => rfl); (case hr => go_simp; try rfl); intro aD hg w19 hbox hb; have ah := am hbox; have aE := kG HB hg; have aF := kG HB hg; replace HB := kH HB hb; have ab := kP aa hg; have ad := kQ aa hg; replace aa := kU aa hb; clear hb hbox hg; have bp := ab.out; have bq := ad.out; have Z21 := kz3 aa) | (go_at_call 29; (refine (qca.calls k _ _ ae _ _ af _ _ ag _ _ ([] : List (S64)) _ _ ([] : List (S61)) _ _ ([] : List (S66)) aZ _ ?side1 ?side2 ?side3 ?side4 ?side5 ?side6 ?side7 ?side8 ?side9 ?side10 ?side11 ?side12 A17.out).mono ?_); (case side1 => repeat (first | exact (Kd.C_below aS.out HB.out) | (with_reducible first | refine Kd.C_alloc ?_ _ | refine Kd.C_drewN ?_ _ | refine Kd.C_drew ?_))); (case side2 => exact aT.out); (case side3 => repeat (first | exact (Kd.C_below aU.out HB.out) | (with_reducible first | refine Kd.C_alloc ?_ _ | refine Kd.C_drewN ?_ _ | refine Kd.C_drew ?_))); (case side4 => exact aV.out); (case side5 => repeat (first | exact (Kd.C_below aW.out HB.out) | (with_reducible first | refine Kd.C_alloc ?_ _ | refine Kd.C_drewN ?_ _ | refine Kd.C_drew ?_))); (case side6 => exact aX.out); (case side7 => exact Kd.C_nil _ _); (case side8 => exact Nat.le_refl _); (case side9 => exact Kd.C_nil _ _); (case side10 => exact Nat.le_refl _); (case side11 => exact Kd.C_nil _ _); (case side12 => exact Nat.le_refl _); rintro e w22 ⟨rfl, hb⟩; replace aa := kU aa hb; replace ah := kU ah hb; replace HB := kH HB hb; (try clear hb); (try clear hb2); (try clear hk); (try clear hi)));go_ret;exact ⟨er, kh HB⟩
def qna.f (l0 : List (S61)) (a1 : Int) : Option (Bool) := if 0 ≤ a1 then (if a1 < (l0.length : Int) then (some (((rd_T61 l0 a1).f0) == 2)) else (none)) else (none)
theorem qna.calls (A0 : Option Addr) (c0 : Nat) (l0 : List (S61)) (a1 : Int) (r : Bool) (w : World) (hr0 : Kd.C k61 w A0 l0.length l0) (hc0 : l0.length ≤ c0) (h : qna.f l0 a1 = some r) :
  Calls Try.prog 72 #[.slice A0 l0.length c0, .int .i64 a1] w fun e w' => e = .returned (.bool r) ∧ Drawn0 w w' := by
 have HR0 := Aside0.mk hr0;have HC0 := Aside0.mk hc0;clear hr0 hc0;have H : (if 0 ≤ a1 then (if a1 < (l0.length : Int) then (some (((rd_T61 l0 a1).f0) == 2)) else (none)) else (none)) = some r := h;clear h
 by_cases c3 : 0 ≤ a1
 rotate_left
 ·rw [if_neg c3] at H
  exact absurd H (by simp)
 rw [if_pos c3] at H;have aj := qqT c3;clear c3
 by_cases c4 : a1 < (l0.length : Int)
 rotate_left
 ·rw [if_neg c4] at H
  exact absurd H (by simp)
 rw [if_pos c4] at H;have ak := qqT c4;clear c4;obtain rfl := qqI H;have aa : 0 ≤ (a1 : Int) := od;have ab : a1 < (l0.length : Int) := od;obtain ⟨ai, ah, ad, ae, af, ag⟩ := at_T61 HR0.out a1 aa ab;cases ah;replace aa := eq_true aa; replace ab := eq_true ab;go_enter Try.func72, Try.ntmps72;go_wp2;go_ret;exact ⟨et, by repeat (first | exact Drawn0.refl _ | apply Drawn0.step)⟩
def qma.f (a0 : Int) : Option (Int × Int × Int × Int × Bool) := some (2, 0, 0, a0, true)
theorem qma.calls (a0 : Int) (r1 : Int) (r2 : Int) (r3 : Int) (r4 : Int) (r5 : Bool) (w : World) (h : qma.f a0 = some (r1, r2, r3, r4, r5)) :
  Calls Try.prog 73 #[.int .u64 a0] w fun e w' => e = .returned (.tuple #[.agg #[.int .i64 r1, .int .i64 r2, .int .i64 r3, .int .u64 r4], .bool r5]) ∧ Below w.heap.size w w' := by
 have hu61 := Try.underlying61;have HB := Aside0.mk (Below.refl w.heap.size w);have H : (some (2, 0, 0, a0, true)) = some (r1, r2, r3, r4, r5) := h;clear h;simp only [Option.some.injEq, Prod.mk.injEq] at H;obtain ⟨rfl, rfl, rfl, rfl, rfl⟩ := H;go_enter Try.func73, Try.ntmps73;go_wp2_with (first | ((with_reducible refine qfa (N := 2) rfl ?_); refine qha ?hg (N := 2) ?hd (cs := #[.int .i64 0, .int .i64 0, .int .i64 0, .int .u64 0]) (t := 61) ?hr ?_; (case hd | hg => rfl); (case hr => go_simp; try rfl); intro ab hg w2 hbox hb; have aa := am hbox; have ad := kG HB hg; have ae := kG HB hg; replace HB := kH HB hb; clear hb hbox hg; have Z3 := kz4 aa));refine bodyPost_ret (results_ct rfl _ _ ab 61 #[.int .i64 2, .int .i64 0, .int .i64 0, .int .u64 a0] (0, 0) _ rfl (kg aa) Try.underlying61 rfl (by kernel_rfl)) rfl ?_;exact ⟨er, kh HB⟩
def qjb.f (a0 : Int) (a1 : Int) (a2 : Int) : Option (Int) := if a0 = 0 then (none) else (some (Int.tmod (IntKind.u64.wrap (a1 + a2)) a0))
theorem qjb.calls (a0 : Int) (a1 : Int) (a2 : Int) (r : Int) (w : World) (h : qjb.f a0 a1 a2 = some r) :
  Calls Try.prog 74 #[.int .u64 a0, .int .u64 a1, .int .u64 a2] w fun e w' => e = .returned (.int .u64 r) ∧ Drawn0 w w' := by
 have H : (if a0 = 0 then (none) else (some (Int.tmod (IntKind.u64.wrap (a1 + a2)) a0))) = some r := h;clear h
 by_cases c4 : a0 = 0
 ·rw [if_pos c4] at H
  exact absurd H (by simp)
 rw [if_neg c4] at H;have aa := beq_eq_false_iff_ne.mpr c4;have ab := bne_iff_ne.mpr c4;obtain rfl := qqI H;go_enter Try.func74, Try.ntmps74;go_wp2;go_ret;exact ⟨et, by repeat (first | exact Drawn0.refl _ | apply Drawn0.step)⟩
def qeb.f (a0 : Int) (a1 : Int) (a2 : Int) : Option (Int) := if a0 = 0 then (none) else (some (Int.tmod (IntKind.u64.wrap ((IntKind.u64.wrap (a1 + a0)) - a2)) a0))
theorem qeb.calls (a0 : Int) (a1 : Int) (a2 : Int) (r : Int) (w : World) (h : qeb.f a0 a1 a2 = some r) :
  Calls Try.prog 75 #[.int .u64 a0, .int .u64 a1, .int .u64 a2] w fun e w' => e = .returned (.int .u64 r) ∧ Drawn0 w w' := by
 have H : (if a0 = 0 then (none) else (some (Int.tmod (IntKind.u64.wrap ((IntKind.u64.wrap (a1 + a0)) - a2)) a0))) = some r := h;clear h
 by_cases c4 : a0 = 0
 ·rw [if_pos c4] at H
  exact absurd H (by simp)
 rw [if_neg c4] at H;have aa := beq_eq_false_iff_ne.mpr c4;have ab := bne_iff_ne.mpr c4;obtain rfl := qqI H;go_enter Try.func75, Try.ntmps75;go_wp2;go_ret;exact ⟨et, by repeat (first | exact Drawn0.refl _ | apply Drawn0.step)⟩
theorem qeb.callsB (a0 : Int) (a1 : Int) (a2 : Int) (r : Int) (w : World) (h : qeb.f a0 a1 a2 = some r) :
  Calls Try.prog 75 #[.int .u64 a0, .int .u64 a1, .int .u64 a2] w fun e w' => e = .returned (.int .u64 r) ∧ Below w.heap.size w w' := (qeb.calls a0 a1 a2 r w h).mono fun _ _ h_ => ⟨h_.1, h_.2.below⟩
def qcb.f (a0 : Int) (a1 : Int) (a2 : Int) : Option (Int) := if a0 = 0 then (none) else (some (Int.tmod (IntKind.u64.wrap (a1 * a2)) a0))
theorem qcb.calls (a0 : Int) (a1 : Int) (a2 : Int) (r : Int) (w : World) (h : qcb.f a0 a1 a2 = some r) :
  Calls Try.prog 76 #[.int .u64 a0, .int .u64 a1, .int .u64 a2] w fun e w' => e = .returned (.int .u64 r) ∧ Drawn0 w w' := by
 have H : (if a0 = 0 then (none) else (some (Int.tmod (IntKind.u64.wrap (a1 * a2)) a0))) = some r := h;clear h
 by_cases c4 : a0 = 0
 ·rw [if_pos c4] at H
  exact absurd H (by simp)
 rw [if_neg c4] at H;have aa := beq_eq_false_iff_ne.mpr c4;have ab := bne_iff_ne.mpr c4;obtain rfl := qqI H;go_enter Try.func76, Try.ntmps76;go_wp2;go_ret;exact ⟨et, by repeat (first | exact Drawn0.refl _ | apply Drawn0.step)⟩
end Go.Proofs.Ytmlbliggbkfjnaa.J
