/- Part 6 of the proof of TuneTunes: what the functions compute as plain Lean functions, that the machine comes to just these answers, and that the answer is true; no conditions. -/
import Derived.Test.YtmlbliggbkfjnaaTuneTunesZ0
import Derived.Test.YtmlbliggbkfjnaaTuneTunesZ1
import Derived.Test.YtmlbliggbkfjnaaTuneTunesZ2
import Derived.Test.YtmlbliggbkfjnaaTuneTunesZ3
import Derived.Test.YtmlbliggbkfjnaaTuneTunesZ4
import Derived.Test.YtmlbliggbkfjnaaTuneTunesZ5
import Derived.Deep.Slices
import Derived.ChangeArms
import Derived.DataReads
import Derived.SizedLaws
import Derived.WideShapes
import Derived.OpenShut
import Derived.Test.YtmlbliggbkfjnaaRows
import Derived.JoinedOf
import Derived.KernelRfl
set_option linter.unusedSimpArgs false
set_option linter.unusedVariables false
set_option maxHeartbeats 8000000
set_option maxRecDepth 100000
namespace Go.Proofs.Ytmlbliggbkfjnaa.J
open Go.RowKit Go.Proofs.YtmlbliggbkfjnaaW.PrintWords Go.Proofs.YtmlbliggbkfjnaaW.PrintLast Go.Proofs.YtmlbliggbkfjnaaW.PrintMore
attribute [local go_sem] max2_int min2_int max_two min_two max_three min_three max_four min_four
mutual
def qda.l0 : Nat → List Bool → List (S66) → Int → Int → List (S64) → List (S61) → List (S66) → Option ((List (S64)) × (List (S61)) × (List (S66)))
 | 0, _, _, _, _, _, _, _ => none
 | k + 1, x3, x18, x19, x20, ab, aa, ad => if x20 < x19 then (if 0 ≤ x20 then (if x20 < (x18.length : Int) then (qda.l1 k x3 x18 x19 x20 ((rd_T66 x18 x20).f1) (((rd_T66 x18 x20).f1).length : Int) 0 ab aa ad) else (none)) else (none)) else (qda.l2 k x3 (wrap64 ((aa.length : Int) - 1)) ab aa ad)
def qda.l1 : Nat → List Bool → List (S66) → Int → Int → List Int → Int → Int → List (S64) → List (S61) → List (S66) → Option ((List (S64)) × (List (S61)) × (List (S66)))
 | 0, _, _, _, _, _, _, _, _, _, _ => none
 | k + 1, x3, x18, x19, x20, x25, x26, x27, ab, aa, ad => if x27 < x26 then (if 0 ≤ x27 then (if x27 < (x25.length : Int) then (if 0 ≤ (rd x25 x27) then (if (rd x25 x27) < (x3.length : Int) then (qda.l1 k (x3.set ((rd x25 x27) : Int).toNat true) x18 x19 x20 x25 x26 (wrap64 (x27 + 1)) ab aa ad) else (none)) else (none)) else (none)) else (none)) else (qda.l0 k x3 x18 x19 (wrap64 (x20 + 1)) ab aa ad)
def qda.l2 : Nat → List Bool → Int → List (S64) → List (S61) → List (S66) → Option ((List (S64)) × (List (S61)) × (List (S66)))
 | 0, _, _, _, _, _ => none
 | k + 1, x3, x8, ab, aa, ad => if x8 ≥ 0 then (if 0 ≤ x8 then (if x8 < (x3.length : Int) then (if rdOf false x3 x8 = true then (if x8 < (aa.length : Int) then ((qza.f ((rd_T61 aa x8).f0) ((rd_T61 aa x8).f1) ((rd_T61 aa x8).f2) ((rd_T61 aa x8).f3)).bind fun ai => (qda.j3 k x3 x8 ai ab aa ad)) else (none)) else (qda.j3 k x3 x8 false ab aa ad)) else (none)) else (none)) else (if 0 ≤ (aa.length : Int) then (if ((aa.length : Int) : Int).toNat ≤ 35184372088832 then (qda.l3 k x3 ([] : List (S61)) (List.replicate ((aa.length : Int) : Int).toNat 0) aa (aa.length : Int) 0 ab aa ad) else (none)) else (none))
def qda.j3 : Nat → List Bool → Int → Bool → List (S64) → List (S61) → List (S66) → Option ((List (S64)) × (List (S61)) × (List (S66)))
 | 0, _, _, _, _, _, _ => none
 | k + 1, x3, x8, x55, ab, aa, ad => if x55 = true then (if 0 ≤ x8 then (if x8 < (aa.length : Int) then (if 0 ≤ ((rd_T61 aa x8).f1) then (if ((rd_T61 aa x8).f1) < (x3.length : Int) then ((some (x3.set (((rd_T61 aa x8).f1) : Int).toNat true : List Bool)).bind fun ag => (if x8 < (x3.length : Int) then (if rdOf false ag x8 = true then ((qqa.f ((rd_T61 aa x8).f0) ((rd_T61 aa x8).f1) ((rd_T61 aa x8).f2) ((rd_T61 aa x8).f3)).bind fun aj => (if aj = true then (if 0 ≤ ((rd_T61 aa x8).f2) then (if ((rd_T61 aa x8).f2) < (x3.length : Int) then (qda.l2 k (ag.set (((rd_T61 aa x8).f2) : Int).toNat true) (wrap64 (x8 - 1)) ab aa ad) else (none)) else (none)) else (qda.l2 k ag (wrap64 (x8 - 1)) ab aa ad))) else (qda.l2 k ag (wrap64 (x8 - 1)) ab aa ad)) else (none))) else (none)) else (none)) else (none)) else (none)) else (if 0 ≤ x8 then (if x8 < (x3.length : Int) then (if rdOf false x3 x8 = true then (if x8 < (aa.length : Int) then ((qqa.f ((rd_T61 aa x8).f0) ((rd_T61 aa x8).f1) ((rd_T61 aa x8).f2) ((rd_T61 aa x8).f3)).bind fun ak => (if ak = true then (if 0 ≤ ((rd_T61 aa x8).f2) then (if ((rd_T61 aa x8).f2) < (x3.length : Int) then (qda.l2 k (x3.set (((rd_T61 aa x8).f2) : Int).toNat true) (wrap64 (x8 - 1)) ab aa ad) else (none)) else (none)) else (qda.l2 k x3 (wrap64 (x8 - 1)) ab aa ad))) else (none)) else (qda.l2 k x3 (wrap64 (x8 - 1)) ab aa ad)) else (none)) else (none))
def qda.l3 : Nat → List Bool → List (S61) → List Int → List (S61) → Int → Int → List (S64) → List (S61) → List (S66) → Option ((List (S64)) × (List (S61)) × (List (S66)))
 | 0, _, _, _, _, _, _, _, _, _ => none
 | k + 1, x3, x9, x10, x89, x90, x91, ab, aa, ad => if x91 < x90 then (if 0 ≤ x91 then (if x91 < (x89.length : Int) then (if x91 < (x3.length : Int) then (if rdOf false x3 x91 = true then (if x91 < (x10.length : Int) then ((some (x10.set (x91 : Int).toNat (x9.length : Int) : List Int)).bind fun ah => ((qxa.f ((rd_T61 x89 x91).f0) ((rd_T61 x89 x91).f1) ((rd_T61 x89 x91).f2) ((rd_T61 x89 x91).f3) ah).bind fun ae => (if x9.length < 4398046511104 then (qda.l3 k x3 (x9 ++ [(⟨ae.1, ae.2.1, ae.2.2.1, ae.2.2.2⟩ : S61)]) ah x89 x90 (wrap64 (x91 + 1)) ab aa ad) else (none)))) else (none)) else (qda.l3 k x3 x9 x10 x89 x90 (wrap64 (x91 + 1)) ab aa ad)) else (none)) else (none)) else (none)) else ((qka.f k ab aa ad x9 x10).bind fun af => (some (af.1, af.2.1, af.2.2)))
end
def qda.f (k : Nat) (ad : List (S64)) (aa : List (S61)) (ab : List (S66)) : Option ((List (S64)) × (List (S61)) × (List (S66))) := if 0 ≤ (aa.length : Int) then (if ((aa.length : Int) : Int).toNat ≤ 281474976710656 then (qda.l0 k (List.replicate ((aa.length : Int) : Int).toNat false) ab (ab.length : Int) 0 ad aa ab) else (none)) else (none)
theorem qda.calls (k : Nat) (bt : Option Addr) (bu : Nat) (an : List (S64)) (bB : Option Addr) (bv : Nat) (aa : List (S61)) (bC : Option Addr) (bw : Nat) (ah : List (S66)) (r1 : List (S64)) (r2 : List (S61)) (r3 : List (S66)) (w : World) (du : Kd.C k64 w bt an.length an) (dv : an.length ≤ bu) (dw : Kd.C k61 w bB aa.length aa) (dx : aa.length ≤ bv) (dy : Kd.C k66 w bC ah.length ah) (dz : ah.length ≤ bw) (h : qda.f k an aa ah = some (r1, r2, r3)) :
  Calls Try.prog 23 #[.agg #[.slice bt an.length bu, .slice bB aa.length bv, .slice bC ah.length bw]] w fun e w' => ∃ v0_ v1_ v2_ : Value, e = .returned (.agg #[v0_, v1_, v2_]) ∧ Kd.R k64 64 w' w.heap.size (fun _ => True) v0_ r1 ∧ Kd.R k61 61 w' w.heap.size (fun _ => True) v1_ r2 ∧ Kd.S k66 66 w' w.heap.size (fun _ => True) v2_ r3 ∧ Below w.heap.size w w' := by
 have hu26 := Try.underlying26;have hu66 := Try.underlying66;have hu61 := Try.underlying61;have ex := Aside0.mk du;have ey := Aside0.mk dv;clear du dv;have aE := Aside0.mk dw;have ez := Aside0.mk dx;clear dw dx;have dA := Aside0.mk dy;have eC := Aside0.mk dz;clear dy dz;have HB := Aside0.mk (Below.refl w.heap.size w);have H : (if 0 ≤ (aa.length : Int) then (if ((aa.length : Int) : Int).toNat ≤ 281474976710656 then (qda.l0 k (List.replicate ((aa.length : Int) : Int).toNat false) ah (ah.length : Int) 0 an aa ah) else (none)) else (none)) = some (r1, r2, r3) := h;clear h
 by_cases c2 : 0 ≤ (aa.length : Int)
 rotate_left
 ·rw [if_neg c2] at H
  exact absurd H (by simp)
 rw [if_pos c2] at H;have fG := eq_true c2;have fH := qqT c2;clear c2
 by_cases c3 : ((aa.length : Int) : Int).toNat ≤ 281474976710656
 rotate_left
 ·rw [if_neg c3] at H
  exact absurd H (by simp)
 rw [if_pos c3] at H;have fI := eq_true c3;have fJ := qqT c3;clear c3;obtain ⟨eD, bT⟩ : ∃ y_ : List Bool, y_ = (List.replicate ((aa.length : Int) : Int).toNat false) := ⟨_, rfl⟩
 replace H : (qda.l0 k eD ah (ah.length : Int) 0 an aa ah) = some (r1, r2, r3) := by first | (rw [bT]; with_reducible exact H) | (have H2_ := (Option.bind_some _ _).symm.trans H; rw [bT]; with_reducible exact H2_) | (have H2_ := (Option.bind_some _ _).symm.trans H; with_reducible exact H2_) | with_reducible exact H | (rw [bT]; exact H) | exact H
 have dB := Aside0.mk bT;clear bT;have H' := Aside0.mk H;clear H;go_enter Try.func23, Try.ntmps23;go_wp2_with (first | ((with_reducible refine qfa (N := 1) rfl ?_); refine qha ?hg (N := 1) ?hd (cs := #[.slice bt an.length bu, .slice bB aa.length bv, .slice bC ah.length bw]) (t := 26) ?hr ?_; (case hd | hg => rfl); (case hr => go_simp; try rfl); intro bx hg w4 hbox hb; have ae := am hbox; have gA := kG HB hg; have gB := kG HB hg; replace HB := kH HB hb; clear hb hbox hg) | ((with_reducible refine qfa (N := 2) rfl ?_); refine qha ?hg (N := 2) ?hd (cs := #[.slice none 0 0, .slice none 0 0, .slice none 0 0]) (t := 26) ?hr ?_; (case hd | hg => rfl); (case hr => go_simp; try rfl); intro aC hg w5 hbox hb; have af := am hbox; have gC := kG HB hg; have gD := kG HB hg; replace HB := kH HB hb; have ao := kP ae hg; have ap := kQ ae hg; replace ae := kU ae hb; clear hb hbox hg; have im := ao.out; have io := ap.out; have Z7 := kz3 ae) | ((with_reducible refine qfa (N := 16) rfl ?_); refine Kd.R_make Kd.bool _ 4 rfl (N := 16) rfl 81 _ _ rfl (aa.length : Int) rfl rfl Try.underlying81 (.bool false) 1 info4 rfl (by decide) (by omega) false (ok := fun _ => True) (okp := fun _ => True) rfl (fun _ hk => hk) trivial od (Nat.le_trans (Nat.mul_le_mul_right _ (od : (aa.length : Int).toNat ≤ 281474976710656)) (by omega)) (Below.refl _ _) (Nat.le_refl _) ?_; intro cC w8 ho9 hb hg_ hnew_; clear hg_ hnew_; (first | rw [← dB.out] at ho9 | (simp only [Int.reduceToNat] at ho9; rw [← dB.out] at ho9)); have eE := kLR ho9 HB; replace ae := kU ae hb; replace af := kU af hb; replace HB := kH HB hb; clear hb ho9; have Z10 := kz3 ae));go_loopg [20] k (fun kq v20 w' => ∃ (cL : List Bool) (ak : Int), v20 = .int .i64 ak ∧ Aside0 (qda.l0 kq cL ah (ah.length : Int) ak an aa ah = some (r1, r2, r3)) ∧ Aside0 (kq ≤ k) ∧ Aside0 (Kd.R Kd.bool 4 w' w.heap.size (fun _ => True) cC cL) ∧ Aside0 (w'.heap[bx]? = some (.cells #[(.slice bt an.length bu), (.slice bB aa.length bv), (.slice bC ah.length bw)] 26 (0, 0))) ∧ Aside0 (w'.heap[aC]? = some (.cells #[(.slice none 0 0), (.slice none 0 0), (.slice none 0 0)] 26 (0, 0))) ∧ Aside0 (Below w.heap.size w w'))
 case atStart => exact ⟨(eD), (0), et, H', ⟨Nat.le_refl _⟩, ⟨krR eE⟩, ⟨kg ae⟩, ⟨kg af⟩, ⟨kh HB⟩⟩
 case round =>
  clear H';(try clear fG fH fI fJ Z10 Z7);obtain ⟨cL, ak, rfl, HA, HK1, ag, ae, af, HB⟩ := hrel
  cases gk with
  | zero => exact absurd HA.out (by simp [qda.l0])
  | succ k1 =>
   have H := HA.out;clear HA;simp only [qda.l0] at H
   by_cases c11 : ak < (ah.length : Int)
   ·rw [if_pos c11] at H
    have cM := qqT c11;clear c11
    by_cases c12 : 0 ≤ ak
    rotate_left
    ·rw [if_neg c12] at H
     exact absurd H (by simp)
    rw [if_pos c12] at H;have eF := qqT c12;clear c12
    by_cases c13 : ak < (ah.length : Int)
    rotate_left
    ·rw [if_neg c13] at H
     exact absurd H (by simp)
    rw [if_pos c13] at H;have eG := qqT c13;clear c13;have H' := Aside0.mk H;clear H;have di : 0 ≤ (ak : Int) := od;have dj : ak < (ah.length : Int) := od;obtain ⟨eH, cN, cO, cP, cQ, fK, bj, bk, cq, hi542_0, cr, hi542_1⟩ := at_T66 dA.out ak di dj;cases fK;replace bj := (HB.out.cell (qqW w _ bj)).trans bj;replace bk := (HB.out.cell (qqW w _ bk)).trans bk;have fB := Aside0.mk hi542_0;have fC := Aside0.mk cq;clear hi542_0 cq;have dk := Aside0.mk hi542_1;have fD := Aside0.mk cr;clear hi542_1 cr; replace di := eq_true di; replace dj := eq_true dj;go_wp2_with (first | ((with_reducible refine qfa (N := 5) rfl ?_); refine qha ?hg (N := 5) ?hd (cs := #[.slice none 0 0, .slice none 0 0]) (t := 66) ?hr ?_; (case hd | hg => rfl); (case hr => go_simp; try rfl); intro cR hg w14 hbox hb; replace ag := kR ag hb; have bl := am hbox; have gE := kG HB hg; have gF := kG HB hg; replace HB := kH HB hb; have cD := kP ae hg; have cF := kQ ae hg; replace ae := kU ae hb; have cG := kP af hg; have cH := kQ af hg; replace af := kU af hb; clear hb hbox hg; have gG := cF.out; have gH := cD.out; have gI := cH.out; have gJ := cG.out; have Z17 := kz2 bl));go_loopg [27] k1 (fun kq v27 w' => ∃ (aj : List Bool) (au : Int), v27 = .int .i64 au ∧ Aside0 (qda.l1 kq aj ah (ah.length : Int) ak ((rd_T66 ah ak).f1) (((rd_T66 ah ak).f1).length : Int) au an aa ah = some (r1, r2, r3)) ∧ Aside0 (kq ≤ k1) ∧ Aside0 (Kd.R Kd.bool 4 w' w.heap.size (fun _ => True) cC aj) ∧ Aside0 (w'.heap[bx]? = some (.cells #[(.slice bt an.length bu), (.slice bB aa.length bv), (.slice (some eH) ah.length bw)] 26 (0, 0))) ∧ Aside0 (w'.heap[aC]? = some (.cells #[(.slice none 0 0), (.slice none 0 0), (.slice none 0 0)] 26 (0, 0))) ∧ Aside0 (w'.heap[cR]? = some (.cells #[(.slice cN ((rd_T66 ah ak).f0).length cO), (.slice cP ((rd_T66 ah ak).f1).length cQ)] 66 (0, 0))) ∧ Aside0 (Below w.heap.size w w'))
    case atStart => exact ⟨(cL), (0), et, H', ⟨Nat.le_refl _⟩, ⟨by (with_reducible repeat first | apply Kd.R_alloc | apply Kd.R_drewN | apply Kd.R_drew); exact Kd.R_mono (Kd.R_far (p := ⟨cR, 1, none⟩) (Kd.R_far (p := ⟨cR, 0, none⟩) (Kd.R_types ag.out bl.out (by decide)) (fun _ hk => hk.2) (.slice cN ((rd_T66 ah ak).f0).length cO)) (fun _ hk => hk.2) (.slice cP ((rd_T66 ah ak).f1).length cQ)) (fun _ hk => trivial)⟩, ⟨kg ae⟩, ⟨kg af⟩, ⟨kg bl⟩, ⟨kh HB⟩⟩
    case round =>
     clear H';(try clear cM eF eG Z17 bj bk di dj);obtain ⟨aj, au, rfl, HA, HK2, ag, ae, af, bl, HB⟩ := hrel
     cases gk with
     | zero => exact absurd HA.out (by simp [qda.l1])
     | succ k2 =>
      have H := HA.out;clear HA;simp only [qda.l1] at H
      by_cases c18 : au < (((rd_T66 ah ak).f1).length : Int)
      rotate_left
      ·rw [if_neg c18] at H
       have eI := qqF c18;clear c18;have H' := Aside0.mk H;clear H;go_wp2;go_roundg k2
       case measure => have := HK1.out; have := HK2.out; omega
       case rel => exact ⟨(aj), (wrap64 (ak + 1)), et, H', ⟨by have := HK1.out; have := HK2.out; omega⟩, ⟨krR ag⟩, ⟨kg ae⟩, ⟨kg af⟩, ⟨kh HB⟩⟩
      rw [if_pos c18] at H;have eI := qqT c18;clear c18
      by_cases c19 : 0 ≤ au
      rotate_left
      ·rw [if_neg c19] at H
       exact absurd H (by simp)
      rw [if_pos c19] at H;have gK := qqT c19;clear c19
      by_cases c20 : au < (((rd_T66 ah ak).f1).length : Int)
      rotate_left
      ·rw [if_neg c20] at H
       exact absurd H (by simp)
      rw [if_pos c20] at H;have gL := qqT c20;clear c20
      by_cases c21 : 0 ≤ (rd ((rd_T66 ah ak).f1) au)
      rotate_left
      ·rw [if_neg c21] at H
       exact absurd H (by simp)
      rw [if_pos c21] at H;have gM := qqT c21;clear c21
      by_cases c22 : (rd ((rd_T66 ah ak).f1) au) < (aj.length : Int)
      rotate_left
      ·rw [if_neg c22] at H
       exact absurd H (by simp)
      rw [if_pos c22] at H;have gN := qqT c22;clear c22;obtain ⟨dP, bU⟩ : ∃ y_ : List Bool, y_ = (aj.set ((rd ((rd_T66 ah ak).f1) au) : Int).toNat true) := ⟨_, rfl⟩
      replace H : (qda.l1 k2 dP ah (ah.length : Int) ak ((rd_T66 ah ak).f1) (((rd_T66 ah ak).f1).length : Int) (wrap64 (au + 1)) an aa ah) = some (r1, r2, r3) := by first | (rw [bU]; with_reducible exact H) | (have H2_ := (Option.bind_some _ _).symm.trans H; rw [bU]; with_reducible exact H2_) | (have H2_ := (Option.bind_some _ _).symm.trans H; with_reducible exact H2_) | with_reducible exact H | (rw [bU]; exact H) | exact H
      have eJ := Aside0.mk bU;clear bU;have H' := Aside0.mk H;clear H;have dQ : 0 ≤ (au : Int) := od;have dR : au < (((rd_T66 ah ak).f1).length : Int) := od;obtain ⟨gO, fL, bD⟩ := Kd.at_int dk.out au dQ dR;cases fL;replace bD := (HB.out.cell (qqW w _ bD)).trans bD;replace dQ := eq_true dQ; replace dR := eq_true dR;have p23 : 0 ≤ ((rd ((rd_T66 ah ak).f1) au) : Int) := od;have q23 : ((rd ((rd_T66 ah ak).f1) au) : Int) < ((aj.length : Int) : Int) := od;obtain ⟨dS, fM, eK, eL, gl23, cl23, HG23⟩ := Kd.R_form ag.out (by omega);(first | cases eK | (injection eK with ea_ en_ ec_; (first | subst ea_ | (injection ea_ with ea_; subst ea_)); subst ec_; clear en_));have fN := Aside0.mk eL;have ip := Aside0.mk HG23;clear eL gl23 HG23;obtain ⟨fO, fP⟩ := Kd.R_celln false ag.out ((rd ((rd_T66 ah ak).f1) au) : Int) p23 q23;replace p23 := eq_true p23; replace q23 := eq_true q23;have dT := Kd.R_putg ag.out ((rd ((rd_T66 ah ak).f1) au) : Int) true;go_wp2_with (first | ((with_reducible refine gate_store (t := 4) (p := 33) rfl ?_); refine store_event (t := 4) (p := 33) (v := ?vo_w25) (w1 := (wr.setCell ⟨dS, ((rd ((rd_T66 ah ak).f1) au) : Int).toNat, none⟩ (.bool true))) ?hg ?ho ?hn ?hr ?_; (case ho => rfl); (case hg => rfl); (case hn => rfl); (case hr => go_simp; try rfl); intro w25 hw; have hg : wr.grownBy w25 (some dS) := (by rw [hw]; exact dT.2); have hp_ : Kd.R Kd.bool 4 w25 w.heap.size (fun _ => True) (.slice (some ⟨dS, 0, none⟩) aj.length fM) dP := (by rw [hw, eJ.out]; exact dT.1); clear dT; replace ae := kXR ae ag hg; replace af := kXR af ag hg; replace bl := kXR bl ag hg; replace ag := Aside0.mk (hp_); replace HB := Aside0.mk ((by rw [hw]; exact below_set (HB.out) fN.out : Below w.heap.size w w25)); clear hg hw hp_));go_roundg k2
      case measure => have := HK1.out; have := HK2.out; omega
      case rel => exact ⟨(dP), (wrap64 (au + 1)), et, H', ⟨by have := HK1.out; have := HK2.out; omega⟩, ⟨krR ag⟩, ⟨kg ae⟩, ⟨kg af⟩, ⟨kg bl⟩, ⟨kh HB⟩⟩
   rw [if_neg c11] at H;have cM := qqF c11;clear c11;have H' := Aside0.mk H;clear H;have gP := ao.out;have gQ := ap.out;have Z27 := kz3 ae;go_wp2;go_loopg [8] k1 (fun kq v8 w' => ∃ (aj : List Bool) (ab : Int), v8 = .int .i64 ab ∧ Aside0 (qda.l2 kq aj ab an aa ah = some (r1, r2, r3)) ∧ Aside0 (kq ≤ k1) ∧ Aside0 (Kd.R Kd.bool 4 w' w.heap.size (fun _ => True) cC aj) ∧ Aside0 (w'.heap[bx]? = some (.cells #[(.slice bt an.length bu), (.slice bB aa.length bv), (.slice bC ah.length bw)] 26 (0, 0))) ∧ Aside0 (w'.heap[aC]? = some (.cells #[(.slice none 0 0), (.slice none 0 0), (.slice none 0 0)] 26 (0, 0))) ∧ Aside0 (Below w.heap.size w w'))
   case atStart => exact ⟨(cL), (wrap64 ((aa.length : Int) - 1)), et, H', ⟨Nat.le_refl _⟩, ⟨krR ag⟩, ⟨kg ae⟩, ⟨kg af⟩, ⟨kh HB⟩⟩
   case round =>
    clear H';(try clear cM c12 Z27);obtain ⟨aj, ab, rfl, HA, HK2, ag, ae, af, HB⟩ := hrel
    cases gk with
    | zero => exact absurd HA.out (by simp [qda.l2])
    | succ k2 =>
     have H := HA.out;clear HA;simp only [qda.l2] at H
     by_cases c28 : ab ≥ 0
     rotate_left
     ·rw [if_neg c28] at H
      have cS := qqF c28;clear c28
      by_cases c96 : 0 ≤ (aa.length : Int)
      rotate_left
      ·rw [if_neg c96] at H
       exact absurd H (by simp)
      rw [if_pos c96] at H;have eM := eq_true c96;have eN := qqT c96;clear c96
      by_cases c97 : ((aa.length : Int) : Int).toNat ≤ 35184372088832
      rotate_left
      ·rw [if_neg c97] at H
       exact absurd H (by simp)
      rw [if_pos c97] at H;have eO := eq_true c97;have eP := qqT c97;clear c97;obtain ⟨eQ, bV⟩ : ∃ y_ : List Int, y_ = (List.replicate ((aa.length : Int) : Int).toNat 0) := ⟨_, rfl⟩
      replace H : (qda.l3 k2 aj ([] : List (S61)) eQ aa (aa.length : Int) 0 an aa ah) = some (r1, r2, r3) := by first | (rw [bV]; with_reducible exact H) | (have H2_ := (Option.bind_some _ _).symm.trans H; rw [bV]; with_reducible exact H2_) | (have H2_ := (Option.bind_some _ _).symm.trans H; with_reducible exact H2_) | with_reducible exact H | (rw [bV]; exact H) | exact H
      have dC := Aside0.mk bV;clear bV;have H' := Aside0.mk H;clear H;have gR := ao.out;have gS := ap.out;have Z99 := kz3 ae;go_wp2_with (first | ((with_reducible refine qfa (N := 87) rfl ?_); refine Kd.R_make (Kd.int .i64) _ 3 rfl (N := 87) rfl 27 _ _ rfl (aa.length : Int) rfl rfl Try.underlying27 (.int .i64 0) 8 info3 rfl (by decide) (by omega) 0 (ok := fun _ => True) (okp := fun _ => True) rfl (fun _ hk => hk) trivial od (Nat.le_trans (Nat.mul_le_mul_right _ (od : (aa.length : Int).toNat ≤ 35184372088832)) (by omega)) (Below.refl _ _) (Nat.le_refl _) ?_; intro eR iq ho101 hb hg_ hnew_; clear hg_ hnew_; (first | rw [← dC.out] at ho101 | (simp only [Int.reduceToNat] at ho101; rw [← dC.out] at ho101)); replace ag := kR ag hb; have eS := kLR ho101 HB; replace ae := kU ae hb; replace af := kU af hb; replace HB := kH HB hb; clear hb ho101; have fQ := kz3 ae));go_loopg [9, 91] k2 (fun kq v9 v91 w' => ∃ (aG : List (S61)) (aA : List Int) (ad : Int), v91 = .int .i64 ad ∧ Aside0 (qda.l3 kq aj aG aA aa (aa.length : Int) ad an aa ah = some (r1, r2, r3)) ∧ Aside0 (kq ≤ k2) ∧ Aside0 (Kd.R Kd.bool 4 w' w.heap.size (fun _ => True) cC aj) ∧ Aside0 (Kd.R k61 61 w' w.heap.size (fun _ => True) v9 aG) ∧ Aside0 (Kd.R (Kd.int .i64) 3 w' w.heap.size (fun _ => True) eR aA) ∧ Aside0 (w'.heap[bx]? = some (.cells #[(.slice bt an.length bu), (.slice bB aa.length bv), (.slice bC ah.length bw)] 26 (0, 0))) ∧ Aside0 (w'.heap[aC]? = some (.cells #[(.slice none 0 0), (.slice none 0 0), (.slice none 0 0)] 26 (0, 0))) ∧ Aside0 (Below w.heap.size w w'))
      case atStart => exact ⟨(([] : List (S61))), (eQ), (0), et, H', ⟨Nat.le_refl _⟩, ⟨krR ag⟩, ⟨by first | exact Kd.R_nil _ _ _ _ _ | exact Kd.N_nil _ _ _ _ _ | exact Kd.V_nil _ _ _ _ _ | exact Kd.Q_nil _ _ _ _ _ | exact Kd.S_nil _ _ _ _ _⟩, ⟨krR eS⟩, ⟨kg ae⟩, ⟨kg af⟩, ⟨kh HB⟩⟩
      case round =>
       clear H';(try clear cS eM eN eO eP fQ Z99);obtain ⟨aG, aA, ad, rfl, HA, HK3, ag, aD, al, ae, af, HB⟩ := hrel
       cases gk with
       | zero => exact absurd HA.out (by simp [qda.l3])
       | succ k3 =>
        have H := HA.out;clear HA;simp only [qda.l3] at H
        by_cases cI : ad < (aa.length : Int)
        rotate_left
        ·rw [if_neg cI] at H
         have dU := qqF cI;clear cI;replace H := qqB H;obtain ⟨⟨cT, cU, cV⟩, dD, H⟩ := H;(try dsimp only at H);have fR := Aside0.mk dD;clear dD;simp only [Option.some.injEq, Prod.mk.injEq] at H;obtain ⟨rfl, rfl, rfl⟩ := H;have fS := ao.out;have fT := ap.out;have ir := kz3 ae;obtain ⟨eT, eU, eV⟩ := Kd.R_slice aD.out;subst eV;obtain ⟨eW, eX, eY⟩ := Kd.R_slice al.out;subst eY;go_wp2_with (first | ((with_reducible refine gate_callee (f := 50) rfl ?_); refine goesL_ (some 115) rfl rfl Try.func50 (by kernel_rfl) rfl #[.agg #[.slice bt an.length bu, .slice bB aa.length bv, .slice bC ah.length bw], .slice eT aG.length eU, .slice eW aA.length eX] rfl (by (try simp only [qM1, qM2, qM3]); first | done | rfl) ?_; (with_reducible refine (qka.callsN (b0 := w.heap.size) k3 _ _ an _ _ aa _ _ ah _ _ aG _ _ aA cT cU cV _ ?side1 ?side2 ?side3 ?side4 ?side5 ?side6 ?side7 ?side8 ?side9 ?side10 fR.out).mono ?_); (case side1 => repeat (first | exact (Kd.C_below ex.out HB.out) | (with_reducible first | refine Kd.C_alloc ?_ _ | refine Kd.C_drewN ?_ _ | refine Kd.C_drew ?_))); (case side2 => exact ey.out); (case side3 => repeat (first | exact (Kd.C_below aE.out HB.out) | (with_reducible first | refine Kd.C_alloc ?_ _ | refine Kd.C_drewN ?_ _ | refine Kd.C_drew ?_))); (case side4 => exact ez.out); (case side5 => repeat (first | exact (Kd.C_below dA.out HB.out) | (with_reducible first | refine Kd.C_alloc ?_ _ | refine Kd.C_drewN ?_ _ | refine Kd.C_drew ?_))); (case side6 => exact eC.out); (case side7 => exact Kd.R_mono (krR aD) (fun _ _ => trivial)); (case side8 => exact (below_size (by repeat (first | exact HB.out | apply below_alloc | apply pw_below_drewN | apply below_drew1)))); (case side9 => repeat (first | exact (Kd.R_reads' al.out).2.2 | (with_reducible first | refine Kd.C_alloc ?_ _ | refine Kd.C_drewN ?_ _ | refine Kd.C_drew ?_))); (case side10 => exact (Kd.R_reads' al.out).2.1); rintro e it ⟨iu, iv, iw, rfl, ho0, ho1, ho2, hb⟩; refine ⟨_, rfl, ?_⟩; replace ag := kR ag hb; replace aD := kR aD hb; replace al := kR al hb; have dE := Aside0.mk (ho0); have dF := Aside0.mk (ho1); have dG := Aside0.mk (ho2); replace ae := kU ae hb; replace af := kU af hb; replace HB := kH HB hb; (try clear hb); (try clear hb2); (try clear hk); (try clear hi); (try clear ho0); (try clear ho1); (try clear ho2); obtain ⟨ct, cu, eZ⟩ := Kd.R_slice dE.out; subst eZ; have ix := kz3 af; obtain ⟨cv, cw, fa⟩ := Kd.R_slice dF.out; subst fa; obtain ⟨cx, cy, fb⟩ := Kd.S_slice dG.out; subst fb));refine bodyPost_ret (results_cell_row rfl _ _ aC 26 #[.slice ct cT.length cu, .slice cv cU.length cw, .slice cx cV.length cy] (0, 0) _ rfl (kg af) Try.underlying26 rfl (by kernel_rfl)) rfl ?_;exact ⟨_, _, _, er, by (with_reducible repeat first | apply Kd.R_alloc | apply Kd.R_drewN | apply Kd.R_drew); exact Kd.R_mono (Kd.R_far (p := ⟨aC, 2, none⟩) (Kd.R_far (p := ⟨aC, 1, none⟩) (Kd.R_far (p := ⟨aC, 0, none⟩) (Kd.R_types dE.out af.out (by decide)) (fun _ hk => hk.2) (.slice ct cT.length cu)) (fun _ hk => hk.2) (.slice cv cU.length cw)) (fun _ hk => hk.2) (.slice cx cV.length cy)) (fun _ hk => trivial), by (with_reducible repeat first | apply Kd.R_alloc | apply Kd.R_drewN | apply Kd.R_drew); exact Kd.R_mono (Kd.R_far (p := ⟨aC, 2, none⟩) (Kd.R_far (p := ⟨aC, 1, none⟩) (Kd.R_far (p := ⟨aC, 0, none⟩) (Kd.R_types dF.out af.out (by decide)) (fun _ hk => hk.2) (.slice ct cT.length cu)) (fun _ hk => hk.2) (.slice cv cU.length cw)) (fun _ hk => hk.2) (.slice cx cV.length cy)) (fun _ hk => trivial), by (with_reducible repeat first | apply Kd.S_alloc | apply Kd.S_drewN | apply Kd.S_drew); exact Kd.S_mono (Kd.S_far (p := ⟨aC, 2, none⟩) (Kd.S_far (p := ⟨aC, 1, none⟩) (Kd.S_far (p := ⟨aC, 0, none⟩) (Kd.S_types dG.out af.out (by decide)) (fun _ hk => hk.2) (.slice ct cT.length cu)) (fun _ hk => hk.2) (.slice cv cU.length cw)) (fun _ hk => hk.2) (.slice cx cV.length cy)) (fun _ hk => trivial), kh HB⟩
        rw [if_pos cI] at H;have dU := qqT cI;clear cI
        by_cases dl : 0 ≤ ad
        rotate_left
        ·rw [if_neg dl] at H
         exact absurd H (by simp)
        rw [if_pos dl] at H;have fU := qqT dl;clear dl
        by_cases dm : ad < (aa.length : Int)
        rotate_left
        ·rw [if_neg dm] at H
         exact absurd H (by simp)
        rw [if_pos dm] at H;have fV := qqT dm;clear dm
        by_cases dn : ad < (aj.length : Int)
        rotate_left
        ·rw [if_neg dn] at H
         exact absurd H (by simp)
        rw [if_pos dn] at H;have fW := qqT dn;clear dn;obtain ⟨dH, hbq107⟩ : ∃ b_ : Bool, b_ = (rdOf false aj ad) := ⟨_, rfl⟩
        replace H : (if dH = true then (if ad < (aA.length : Int) then ((some (aA.set (ad : Int).toNat (aG.length : Int) : List Int)).bind fun bh => ((qxa.f ((rd_T61 aa ad).f0) ((rd_T61 aa ad).f1) ((rd_T61 aa ad).f2) ((rd_T61 aa ad).f3) bh).bind fun bb => (if aG.length < 4398046511104 then (qda.l3 k3 aj (aG ++ [(⟨bb.1, bb.2.1, bb.2.2.1, bb.2.2.2⟩ : S61)]) bh aa (aa.length : Int) (wrap64 (ad + 1)) an aa ah) else (none)))) else (none)) else (qda.l3 k3 aj aG aA aa (aa.length : Int) (wrap64 (ad + 1)) an aa ah)) = some (r1, r2, r3) := by rw [← hbq107] at H; exact H
        have Nbq107 := Aside0.mk hbq107;clear hbq107
        by_cases dp : dH = true
        rotate_left
        ·replace dp := Bool.eq_false_iff.mpr dp
         subst dp;replace H := ifF H;have H' := Aside0.mk H;clear H;have cg : 0 ≤ (ad : Int) := od;have ch : ad < (aa.length : Int) := od;obtain ⟨dI, dV, aH, aI, aJ, aK⟩ := at_T61 aE.out ad cg ch;cases dV;replace aH := (HB.out.cell (qqW w _ aH)).trans aH;replace aI := (HB.out.cell (qqW w _ aI)).trans aI;replace aJ := (HB.out.cell (qqW w _ aJ)).trans aJ;replace aK := (HB.out.cell (qqW w _ aK)).trans aK;replace cg := eq_true cg; replace ch := eq_true ch;go_wp2_with (first | ((with_reducible refine qfa (N := 12) rfl ?_); refine qha ?hg (N := 12) ?hd (cs := #[.int .i64 0, .int .i64 0, .int .i64 0, .int .u64 0]) (t := 61) ?hr ?_; (case hd | hg => rfl); (case hr => go_simp; try rfl); intro ai hg iy hbox hb; replace ag := kR ag hb; replace aD := Aside0.mk (Kd.R_below (Kd.R_elderB (krR aD) ai (Nat.le_of_eq hg.symm)) hb); replace al := kR al hb; have ar := am hbox; have fc := kG HB hg; have fd := kG HB hg; replace HB := kH HB hb; have bc := kP ae hg; have bd := kQ ae hg; replace ae := kU ae hb; have bf := kP af hg; have bg := kQ af hg; replace af := kU af hb; clear hb hbox hg; have fX := bd.out; have fY := bc.out; have fZ := bg.out; have ga := bf.out; have iz := kz4 ar; obtain ⟨gT, gU, ff⟩ := Kd.R_slice ag.out; subst ff; have ci : 0 ≤ (ad : Int) := od; have cj : ad < (aj.length : Int) := od; obtain ⟨bW, dW, av⟩ := Kd.at_bool (Kd.R_reads' ag.out).2.2 ad ci cj; (try rw [← Nbq107.out] at av); cases dW; have hn566_0 : bW.block ≠ ai := Kd.own_blk (Kd.R_ne ag.out ar.out (by decide)); have hn566_1 : bW.block ≠ ai := Kd.own_blk (Kd.R_ne ag.out ar.out (by decide)); have hn566_2 : bW.block ≠ ai := Kd.own_blk (Kd.R_ne ag.out ar.out (by decide)); have hn566_3 : bW.block ≠ ai := Kd.own_blk (Kd.R_ne ag.out ar.out (by decide)); replace av := (cell_far (p := ⟨ai, 0, none⟩) (by first | (rw [add_block]; exact hn566_0) | (show (Addr.add _ _).block ≠ _; rw [add_block]; exact hn566_0) | exact hn566_0) (.int .i64 ((rd_T61 aa ad).f0))).trans av; replace av := (cell_far (p := ⟨ai, 1, none⟩) (by first | (rw [add_block]; exact hn566_1) | (show (Addr.add _ _).block ≠ _; rw [add_block]; exact hn566_1) | exact hn566_1) (.int .i64 ((rd_T61 aa ad).f1))).trans av; replace av := (cell_far (p := ⟨ai, 2, none⟩) (by first | (rw [add_block]; exact hn566_2) | (show (Addr.add _ _).block ≠ _; rw [add_block]; exact hn566_2) | exact hn566_2) (.int .i64 ((rd_T61 aa ad).f2))).trans av; replace av := (cell_far (p := ⟨ai, 3, none⟩) (by first | (rw [add_block]; exact hn566_3) | (show (Addr.add _ _).block ≠ _; rw [add_block]; exact hn566_3) | exact hn566_3) (.int .u64 ((rd_T61 aa ad).f3))).trans av; clear hn566_0; clear hn566_1; clear hn566_2; clear hn566_3; replace ci := eq_true ci; replace cj := eq_true cj));go_roundg k3
         case measure => have := HK1.out; have := HK2.out; have := HK3.out; omega
         case rel => exact ⟨(aG), (aA), (wrap64 (ad + 1)), et, H', ⟨by have := HK1.out; have := HK2.out; have := HK3.out; omega⟩, ⟨by (with_reducible repeat first | apply Kd.R_alloc | apply Kd.R_drewN | apply Kd.R_drew); exact Kd.R_mono (Kd.R_far (p := ⟨ai, 3, none⟩) (Kd.R_far (p := ⟨ai, 2, none⟩) (Kd.R_far (p := ⟨ai, 1, none⟩) (Kd.R_far (p := ⟨ai, 0, none⟩) (Kd.R_types ag.out ar.out (by decide)) (fun _ hk => hk.2) (.int .i64 ((rd_T61 aa ad).f0))) (fun _ hk => hk.2) (.int .i64 ((rd_T61 aa ad).f1))) (fun _ hk => hk.2) (.int .i64 ((rd_T61 aa ad).f2))) (fun _ hk => hk.2) (.int .u64 ((rd_T61 aa ad).f3))) (fun _ hk => trivial)⟩, ⟨by (with_reducible repeat first | apply Kd.R_alloc | apply Kd.R_drewN | apply Kd.R_drew); exact Kd.R_mono (Kd.R_far (p := ⟨ai, 3, none⟩) (Kd.R_far (p := ⟨ai, 2, none⟩) (Kd.R_far (p := ⟨ai, 1, none⟩) (Kd.R_far (p := ⟨ai, 0, none⟩) (Kd.R_mono aD.out (fun k_ hk => (⟨hk, hk.2⟩ : _ ∧ k_ ≠ ai))) (fun _ hk => hk.2) (.int .i64 ((rd_T61 aa ad).f0))) (fun _ hk => hk.2) (.int .i64 ((rd_T61 aa ad).f1))) (fun _ hk => hk.2) (.int .i64 ((rd_T61 aa ad).f2))) (fun _ hk => hk.2) (.int .u64 ((rd_T61 aa ad).f3))) (fun _ hk => trivial)⟩, ⟨by (with_reducible repeat first | apply Kd.R_alloc | apply Kd.R_drewN | apply Kd.R_drew); exact Kd.R_mono (Kd.R_far (p := ⟨ai, 3, none⟩) (Kd.R_far (p := ⟨ai, 2, none⟩) (Kd.R_far (p := ⟨ai, 1, none⟩) (Kd.R_far (p := ⟨ai, 0, none⟩) (Kd.R_types al.out ar.out (by decide)) (fun _ hk => hk.2) (.int .i64 ((rd_T61 aa ad).f0))) (fun _ hk => hk.2) (.int .i64 ((rd_T61 aa ad).f1))) (fun _ hk => hk.2) (.int .i64 ((rd_T61 aa ad).f2))) (fun _ hk => hk.2) (.int .u64 ((rd_T61 aa ad).f3))) (fun _ hk => trivial)⟩, ⟨kg ae⟩, ⟨kg af⟩, ⟨kh HB⟩⟩
        subst dp;replace H := ifT H
        by_cases dq : ad < (aA.length : Int)
        rotate_left
        ·rw [if_neg dq] at H
         exact absurd H (by simp)
        rw [if_pos dq] at H;have gb := qqT dq;clear dq;obtain ⟨bh, bX⟩ : ∃ y_ : List Int, y_ = (aA.set (ad : Int).toNat (aG.length : Int)) := ⟨_, rfl⟩
        replace H : ((qxa.f ((rd_T61 aa ad).f0) ((rd_T61 aa ad).f1) ((rd_T61 aa ad).f2) ((rd_T61 aa ad).f3) bh).bind fun bb => (if aG.length < 4398046511104 then (qda.l3 k3 aj (aG ++ [(⟨bb.1, bb.2.1, bb.2.2.1, bb.2.2.2⟩ : S61)]) bh aa (aa.length : Int) (wrap64 (ad + 1)) an aa ah) else (none))) = some (r1, r2, r3) := by first | (rw [bX]; with_reducible exact H) | (have H2_ := (Option.bind_some _ _).symm.trans H; rw [bX]; with_reducible exact H2_) | (have H2_ := (Option.bind_some _ _).symm.trans H; with_reducible exact H2_) | with_reducible exact H | (rw [bX]; exact H) | exact H
        have fg := Aside0.mk bX;clear bX;replace H := qqB H;obtain ⟨⟨cW, cX, cY, cZ⟩, dJ, H⟩ := H;(try dsimp only at H);have gc := Aside0.mk dJ;clear dJ
        by_cases dr : aG.length < 4398046511104
        rotate_left
        ·rw [if_neg dr] at H
         exact absurd H (by simp)
        rw [if_pos dr] at H;have dX := Aside0.mk dr;clear dr;obtain ⟨fh, bY⟩ : ∃ y_ : List (S61), y_ = (aG ++ [(⟨cW, cX, cY, cZ⟩ : S61)]) := ⟨_, rfl⟩
        replace H : (qda.l3 k3 aj fh bh aa (aa.length : Int) (wrap64 (ad + 1)) an aa ah) = some (r1, r2, r3) := by first | (rw [bY]; with_reducible exact H) | (have H2_ := (Option.bind_some _ _).symm.trans H; rw [bY]; with_reducible exact H2_) | (have H2_ := (Option.bind_some _ _).symm.trans H; with_reducible exact H2_) | with_reducible exact H | (rw [bY]; exact H) | exact H
        have fi := Aside0.mk bY;clear bY;have H' := Aside0.mk H;clear H;have cg : 0 ≤ (ad : Int) := od;have ch : ad < (aa.length : Int) := od;obtain ⟨dI, dV, aH, aI, aJ, aK⟩ := at_T61 aE.out ad cg ch;cases dV;replace aH := (HB.out.cell (qqW w _ aH)).trans aH;replace aI := (HB.out.cell (qqW w _ aI)).trans aI;replace aJ := (HB.out.cell (qqW w _ aJ)).trans aJ;replace aK := (HB.out.cell (qqW w _ aK)).trans aK;replace cg := eq_true cg; replace ch := eq_true ch;go_wp2_with (first | ((with_reducible refine qfa (N := 12) rfl ?_); refine qha ?hg (N := 12) ?hd (cs := #[.int .i64 0, .int .i64 0, .int .i64 0, .int .u64 0]) (t := 61) ?hr ?_; (case hd | hg => rfl); (case hr => go_simp; try rfl); intro ai hg gd hbox hb; replace ag := kR ag hb; replace aD := Aside0.mk (Kd.R_below (Kd.R_elderB (krR aD) ai (Nat.le_of_eq hg.symm)) hb); replace al := kR al hb; have ar := am hbox; have fc := kG HB hg; have fd := kG HB hg; replace HB := kH HB hb; have bc := kP ae hg; have bd := kQ ae hg; replace ae := kU ae hb; have bf := kP af hg; have bg := kQ af hg; replace af := kU af hb; clear hb hbox hg; have ge := bd.out; have gf := bc.out; have gg := bg.out; have gh := bf.out; have iA := kz4 ar) | ((with_reducible refine gate_store (t := 61) (p := 12) rfl ?_); refine store_event (t := 61) (p := 12) (v := ?vo_w117) (w1 := ((((gd.setCell ⟨ai, 0, none⟩ (.int .i64 ((rd_T61 aa ad).f0))).setCell ⟨ai, 1, none⟩ (.int .i64 ((rd_T61 aa ad).f1))).setCell ⟨ai, 2, none⟩ (.int .i64 ((rd_T61 aa ad).f2))).setCell ⟨ai, 3, none⟩ (.int .u64 ((rd_T61 aa ad).f3)))) ?hg ?ho ?hn ?hr ?_; (case ho => rfl); (case hg => rfl); (case hn => rfl); (case hr => go_simp; try rfl); intro bE hw; replace ag : Aside0 (Kd.R Kd.bool 4 bE w.heap.size (fun _ => True) cC aj) := ⟨(by rw [hw]; exact (by (with_reducible repeat first | apply Kd.R_alloc | apply Kd.R_drewN | apply Kd.R_drew); exact Kd.R_mono (Kd.R_far (p := ⟨ai, 3, none⟩) (Kd.R_far (p := ⟨ai, 2, none⟩) (Kd.R_far (p := ⟨ai, 1, none⟩) (Kd.R_far (p := ⟨ai, 0, none⟩) (Kd.R_types ag.out ar.out (by decide)) (fun _ hk => hk.2) (.int .i64 ((rd_T61 aa ad).f0))) (fun _ hk => hk.2) (.int .i64 ((rd_T61 aa ad).f1))) (fun _ hk => hk.2) (.int .i64 ((rd_T61 aa ad).f2))) (fun _ hk => hk.2) (.int .u64 ((rd_T61 aa ad).f3))) (fun _ hk => trivial)))⟩; replace aD : Aside0 (Kd.R k61 61 bE w.heap.size (fun k_ => k_ ≠ ai) u9 aG) := ⟨(by rw [hw]; exact (by (with_reducible repeat first | apply Kd.R_alloc | apply Kd.R_drewN | apply Kd.R_drew); exact Kd.R_mono (Kd.R_far (p := ⟨ai, 3, none⟩) (Kd.R_far (p := ⟨ai, 2, none⟩) (Kd.R_far (p := ⟨ai, 1, none⟩) (Kd.R_far (p := ⟨ai, 0, none⟩) (Kd.R_mono aD.out (fun k_ hk => (⟨hk, hk.2⟩ : _ ∧ k_ ≠ ai))) (fun _ hk => hk.2) (.int .i64 ((rd_T61 aa ad).f0))) (fun _ hk => hk.2) (.int .i64 ((rd_T61 aa ad).f1))) (fun _ hk => hk.2) (.int .i64 ((rd_T61 aa ad).f2))) (fun _ hk => hk.2) (.int .u64 ((rd_T61 aa ad).f3))) (fun _ hk => hk.1.2)))⟩; replace al : Aside0 (Kd.R (Kd.int .i64) 3 bE w.heap.size (fun _ => True) eR aA) := ⟨(by rw [hw]; exact (by (with_reducible repeat first | apply Kd.R_alloc | apply Kd.R_drewN | apply Kd.R_drew); exact Kd.R_mono (Kd.R_far (p := ⟨ai, 3, none⟩) (Kd.R_far (p := ⟨ai, 2, none⟩) (Kd.R_far (p := ⟨ai, 1, none⟩) (Kd.R_far (p := ⟨ai, 0, none⟩) (Kd.R_types al.out ar.out (by decide)) (fun _ hk => hk.2) (.int .i64 ((rd_T61 aa ad).f0))) (fun _ hk => hk.2) (.int .i64 ((rd_T61 aa ad).f1))) (fun _ hk => hk.2) (.int .i64 ((rd_T61 aa ad).f2))) (fun _ hk => hk.2) (.int .u64 ((rd_T61 aa ad).f3))) (fun _ hk => trivial)))⟩; replace ae : Aside0 (bE.heap[bx]? = some (.cells #[.slice bt an.length bu, .slice (some dI) aa.length bv, .slice bC ah.length bw] 26 (0, 0))) := ⟨(by rw [hw]; exact (kg ae))⟩; replace af : Aside0 (bE.heap[aC]? = some (.cells #[.slice none 0 0, .slice none 0 0, .slice none 0 0] 26 (0, 0))) := ⟨(by rw [hw]; exact (kg af))⟩; replace ar : Aside0 (bE.heap[ai]? = some (.cells #[.int .i64 ((rd_T61 aa ad).f0), .int .i64 ((rd_T61 aa ad).f1), .int .i64 ((rd_T61 aa ad).f2), .int .u64 ((rd_T61 aa ad).f3)] 61 (0, 0))) := ⟨(by rw [hw]; exact (kg ar))⟩; replace HB : Aside0 (Below w.heap.size w bE) := ⟨(by rw [hw]; exact (kh HB))⟩; clear hw; obtain ⟨gV, gW, fj⟩ := Kd.R_slice ag.out; subst fj; have ci : 0 ≤ (ad : Int) := od; have cj : ad < (aj.length : Int) := od; obtain ⟨bW, dW, av⟩ := Kd.at_bool (Kd.R_reads' ag.out).2.2 ad ci cj; (try rw [← Nbq107.out] at av); cases dW; replace ci := eq_true ci; replace cj := eq_true cj; obtain ⟨fk, fl, fm⟩ := Kd.R_slice aD.out; subst fm; have dY : 0 ≤ (ad : Int) := od; have dZ : (ad : Int) < ((aA.length : Int) : Int) := od; obtain ⟨bz, cz, dK, dL, gl110, cl110, HG110⟩ := Kd.R_form al.out (by omega); (first | cases dK | (injection dK with ea_ en_ ec_; (first | subst ea_ | (injection ea_ with ea_; subst ea_)); subst ec_; clear en_)); have fn := Aside0.mk dL; have gX := Aside0.mk HG110; clear dL gl110 HG110; obtain ⟨fE, fF⟩ := Kd.R_celln 0 al.out (ad : Int) dY dZ; replace dY := eq_true dY; replace dZ := eq_true dZ; obtain ⟨gi, gj⟩ := Kd.R_celln 0 al.out (ad : Int) od od; have da := Kd.R_putg al.out (ad : Int) (aG.length : Int)) | ((with_reducible refine gate_store (t := 3) (p := 104) rfl ?_); refine store_event (t := 3) (p := 104) (v := ?vo_w121) (w1 := (bE.setCell ⟨bz, (ad : Int).toNat, none⟩ (.int .i64 (aG.length : Int)))) ?hg ?ho ?hn ?hr ?_; (case ho => rfl); (case hg => rfl); (case hn => rfl); (case hr => go_simp; try rfl); intro ea hw; have hg : bE.grownBy ea (some bz) := (by rw [hw]; exact da.2); have hp_ : Kd.R (Kd.int .i64) 3 ea w.heap.size (fun _ => True) (.slice (some ⟨bz, 0, none⟩) aA.length cz) bh := (by rw [hw, fg.out]; exact da.1); clear da; replace ag := Aside0.mk (Kd.R_over' (v := (.slice (some ⟨bz, 0, none⟩) aA.length cz)) (krR ag) (Kd.R_typed al.out) (by decide) hg); replace aD := Aside0.mk (Kd.R_over' (v := (.slice (some ⟨bz, 0, none⟩) aA.length cz)) (krR aD) (Kd.R_typed al.out) (by decide) hg); replace ae := kXR ae al hg; replace af := kXR af al hg; replace ar := kXR ar al hg; replace al := Aside0.mk (hp_); replace HB := Aside0.mk ((by rw [hw]; exact below_set (HB.out) fn.out : Below w.heap.size w ea)); clear hg hw hp_; have iB := kz4 ar) | ((with_reducible refine gate_callee (f := 48) rfl ?_); refine goesL_ (some 108) rfl rfl Try.func48 (by kernel_rfl) rfl #[.agg #[.int .i64 ((rd_T61 aa ad).f0), .int .i64 ((rd_T61 aa ad).f1), .int .i64 ((rd_T61 aa ad).f2), .int .u64 ((rd_T61 aa ad).f3)], .slice (some ⟨bz, 0, none⟩) bh.length cz] rfl (by (try simp only [qM1, qM2, qM3]); first | done | (rw [show bh.length = aA.length from (Kd.R_reads' al.out).1.symm] <;> rfl) | rfl | (simp only [List.length_drop, List.length_take]; rfl)) ?_; (with_reducible refine (qxa.calls ((rd_T61 aa ad).f0) ((rd_T61 aa ad).f1) ((rd_T61 aa ad).f2) ((rd_T61 aa ad).f3) _ _ bh cW cX cY cZ _ ?side1 ?side2 gc.out).mono ?_); (case side1 => repeat (first | exact (Kd.R_reads' al.out).2.2 | (with_reducible first | refine Kd.C_alloc ?_ _ | refine Kd.C_drewN ?_ _ | refine Kd.C_drew ?_))); (case side2 => rw [show bh.length = aA.length from (Kd.R_reads' al.out).1.symm]; exact (Kd.R_reads' al.out).2.1); rintro e iC ⟨rfl, hb⟩; refine ⟨_, rfl, ?_⟩; replace ag := kR ag hb; replace aD := kR aD hb; replace al := kR al hb; replace ae := kU ae hb; replace af := kU af hb; replace ar := kU ar hb; replace HB := kH HB hb; (try clear hb); (try clear hb2); (try clear hk); (try clear hi)) | ((with_reducible refine gate_builtin (b := .append) (xs := #[.tmp 105, .tmp 109]) rfl ?_); at_builtin; refine Kd.R_append k61 (w0 := w) w.heap.size rfl (.tmp 105) (.tmp 109) 23 61 (.agg #[(.int .i64 0), (.int .i64 0), (.int .i64 0), (.int .u64 0)]) 32 rfl Try.underlying23 info61 rfl (by decide) (by omega) (.slice fk aG.length fl) aG (⟨cW, cX, cY, cZ⟩ : S61) [.int .i64 cW, .int .i64 cX, .int .i64 cY, .int .u64 cZ] (fun k_ => k_ ≠ ai) (fun _ => False) rfl rfl ?aP (fun _ hk => hk.elim) ?aF ?aO ?aB ?aS ?aL ?_; (case aP => exact k61_mkM _ _ _ (⟨cW, cX, cY, cZ⟩ : S61)); (case aB => exact (kh HB)); (case aF => exact (fun k_ hk => Kd.freshB (g := ai) (o := .cells #[.int .i64 ((rd_T61 aa ad).f0), .int .i64 ((rd_T61 aa ad).f1), .int .i64 ((rd_T61 aa ad).f2), .int .u64 ((rd_T61 aa ad).f3)] 61 (0, 0)) (kb ar) k_ hk)); (case aO => exact (krR aD)); (case aS => exact (below_size (kh HB))); (case aL => have := dX.out; omega); intro iD iE ho hb hg hat; rw [← fi.out] at ho; replace ag := Aside0.mk (Kd.R_over' (krR ag) (Kd.R_typed (krR aD)) (by decide) hg); replace al := Aside0.mk (Kd.R_over' (krR al) (Kd.R_typed (krR aD)) (by decide) hg); replace ae := kXR ae aD hg; replace af := kXR af aD hg; replace ar := Aside0.mk (blk_grown (g := ai) (o := .cells #[.int .i64 ((rd_T61 aa ad).f0), .int .i64 ((rd_T61 aa ad).f1), .int .i64 ((rd_T61 aa ad).f2), .int .u64 ((rd_T61 aa ad).f3)] 61 (0, 0)) (kb ar) hg (Kd.R_away aD.out (fun _ hk => hk))); replace HB := Aside0.mk (hb); have fo := Aside0.mk (ho); clear aD; clear ho hb hg hat));go_roundg k3
        case measure => have := HK1.out; have := HK2.out; have := HK3.out; omega
        case rel => exact ⟨(fh), (bh), (wrap64 (ad + 1)), et, H', ⟨by have := HK1.out; have := HK2.out; have := HK3.out; omega⟩, ⟨krR ag⟩, ⟨by (with_reducible repeat first | apply Kd.R_alloc | apply Kd.R_drewN | apply Kd.R_drew); exact Kd.R_mono fo.out (fun _ hk => trivial)⟩, ⟨krR al⟩, ⟨kg ae⟩, ⟨kg af⟩, ⟨kh HB⟩⟩
     rw [if_pos c28] at H;have cS := qqT c28;clear c28;have eb := Aside0.mk H;clear H;go_upto_region 14 with (fail);go_cut [55] (fun v55 wc => ∃ (kq : Nat) (bF : Bool), v55 = .bool bF ∧ Aside0 (qda.j3 kq aj ab bF an aa ah = some (r1, r2, r3)) ∧ Aside0 (kq ≤ k2) ∧ Aside0 (Kd.R Kd.bool 4 wc w.heap.size (fun _ => True) cC aj) ∧ Aside0 (wc.heap[bx]? = some (.cells #[(.slice bt an.length bu), (.slice bB aa.length bv), (.slice bC ah.length bw)] 26 (0, 0))) ∧ Aside0 (wc.heap[aC]? = some (.cells #[(.slice none 0 0), (.slice none 0 0), (.slice none 0 0)] 26 (0, 0))) ∧ Aside0 (Below w.heap.size w wc))
     case first =>
      have H := eb.out;clear eb
      by_cases c30 : 0 ≤ ab
      rotate_left
      ·rw [if_neg c30] at H
       exact absurd H (by simp)
      rw [if_pos c30] at H;have dM := qqT c30;clear c30;(first | rw [dM] | (simp only [i64_w, i32_w]; rw [dM]) | skip)
      by_cases c31 : ab < (aj.length : Int)
      rotate_left
      ·rw [if_neg c31] at H
       exact absurd H (by simp)
      rw [if_pos c31] at H;have gY := qqT c31;clear c31;obtain ⟨bq32, hbq32⟩ : ∃ b_ : Bool, b_ = (rdOf false aj ab) := ⟨_, rfl⟩
      replace H : (if bq32 = true then (if ab < (aa.length : Int) then ((qza.f ((rd_T61 aa ab).f0) ((rd_T61 aa ab).f1) ((rd_T61 aa ab).f2) ((rd_T61 aa ab).f3)).bind fun dt => (qda.j3 k2 aj ab dt an aa ah)) else (none)) else (qda.j3 k2 aj ab false an aa ah)) = some (r1, r2, r3) := by rw [← hbq32] at H; exact H
      have Nbq32 := Aside0.mk hbq32;clear hbq32
      by_cases c33 : bq32 = true
      rotate_left
      ·replace c33 := Bool.eq_false_iff.mpr c33
       subst c33;replace H := ifF H;have H' := Aside0.mk H;clear H;obtain ⟨iF, iG, gl⟩ := Kd.R_slice ag.out;subst gl;have ck : 0 ≤ (ab : Int) := od;have cl : ab < (aj.length : Int) := od;obtain ⟨fp, ec, bG⟩ := Kd.at_bool (Kd.R_reads' ag.out).2.2 ab ck cl;(try rw [← Nbq32.out] at bG);cases ec;replace ck := eq_true ck; replace cl := eq_true cl;go_wp2;go_meet
       case rel => exact ⟨_, (false), et, H', ⟨by have := HK1.out; have := HK2.out; first | omega | exact Nat.le_refl _⟩, ⟨krR ag⟩, ⟨kg ae⟩, ⟨kg af⟩, ⟨kh HB⟩⟩
      subst c33;replace H := ifT H
      by_cases c34 : ab < (aa.length : Int)
      rotate_left
      ·rw [if_neg c34] at H
       exact absurd H (by simp)
      rw [if_pos c34] at H;have gZ := qqT c34;clear c34;replace H := qqB H;obtain ⟨dt, fq, H⟩ := H;(try dsimp only at H);have A35 := Aside0.mk fq;clear fq;have H' := Aside0.mk H;clear H;obtain ⟨iH, iI, gm⟩ := Kd.R_slice ag.out;subst gm;have ck : 0 ≤ (ab : Int) := od;have cl : ab < (aj.length : Int) := od;obtain ⟨fp, ec, bG⟩ := Kd.at_bool (Kd.R_reads' ag.out).2.2 ab ck cl;(try rw [← Nbq32.out] at bG);cases ec;replace ck := eq_true ck; replace cl := eq_true cl;have hz := ao.out;have hC := ap.out;have Z38 := kz3 ae;have ed : 0 ≤ (ab : Int) := od;have ee : ab < (aa.length : Int) := od;obtain ⟨hE, gn, bH, bI, bJ, bK⟩ := at_T61 aE.out ab ed ee;cases gn;replace bH := (HB.out.cell (qqW w _ bH)).trans bH;replace bI := (HB.out.cell (qqW w _ bI)).trans bI;replace bJ := (HB.out.cell (qqW w _ bJ)).trans bJ;replace bK := (HB.out.cell (qqW w _ bK)).trans bK;replace ed := eq_true ed; replace ee := eq_true ee;go_wp2_with (first | (go_at_call 35; (with_reducible refine (qza.calls ((rd_T61 aa ab).f0) ((rd_T61 aa ab).f1) ((rd_T61 aa ab).f2) ((rd_T61 aa ab).f3) dt _ A35.out).mono ?_); rintro e w39 ⟨rfl, hb⟩; replace ag := kR ag hb; replace ae := kU ae hb; replace af := kU af hb; replace HB := kH HB hb; (try clear hb); (try clear hb2); (try clear hk); (try clear hi)));go_meet
      case rel => exact ⟨_, (dt), et, H', ⟨by have := HK1.out; have := HK2.out; first | omega | exact Nat.le_refl _⟩, ⟨krR ag⟩, ⟨kg ae⟩, ⟨kg af⟩, ⟨kh HB⟩⟩
     clear eb; (try clear cS);obtain ⟨kq, bF, rfl, HA, bi, ag, ae, af, HB⟩ := hcut
     cases kq with
     | zero => exact absurd HA.out (by simp [qda.j3])
     | succ aX =>
      have H := HA.out;clear HA;simp only [qda.j3] at H
      by_cases c41 : bF = true
      rotate_left
      ·replace c41 := Bool.eq_false_iff.mpr c41
       subst c41;replace H := ifF H
       by_cases c74 : 0 ≤ ab
       rotate_left
       ·rw [if_neg c74] at H
        exact absurd H (by simp)
       rw [if_pos c74] at H;have hF := qqT c74;clear c74
       by_cases c75 : ab < (aj.length : Int)
       rotate_left
       ·rw [if_neg c75] at H
        exact absurd H (by simp)
       rw [if_pos c75] at H;have hG := qqT c75;clear c75;obtain ⟨bq76, hbq76⟩ : ∃ b_ : Bool, b_ = (rdOf false aj ab) := ⟨_, rfl⟩
       replace H : (if bq76 = true then (if ab < (aa.length : Int) then ((qqa.f ((rd_T61 aa ab).f0) ((rd_T61 aa ab).f1) ((rd_T61 aa ab).f2) ((rd_T61 aa ab).f3)).bind fun ef => (if ef = true then (if 0 ≤ ((rd_T61 aa ab).f2) then (if ((rd_T61 aa ab).f2) < (aj.length : Int) then (qda.l2 aX (aj.set (((rd_T61 aa ab).f2) : Int).toNat true) (wrap64 (ab - 1)) an aa ah) else (none)) else (none)) else (qda.l2 aX aj (wrap64 (ab - 1)) an aa ah))) else (none)) else (qda.l2 aX aj (wrap64 (ab - 1)) an aa ah)) = some (r1, r2, r3) := by rw [← hbq76] at H; exact H
       have Nbq76 := Aside0.mk hbq76;clear hbq76
       by_cases c77 : bq76 = true
       rotate_left
       ·replace c77 := Bool.eq_false_iff.mpr c77
        subst c77;replace H := ifF H;have H' := Aside0.mk H;clear H;obtain ⟨iJ, iK, go⟩ := Kd.R_slice ag.out;subst go;have bm : 0 ≤ (ab : Int) := od;have bn : ab < (aj.length : Int) := od;obtain ⟨dN, db, ba⟩ := Kd.at_bool (Kd.R_reads' ag.out).2.2 ab bm bn;(try rw [← Nbq76.out] at ba);cases db;replace bm := eq_true bm; replace bn := eq_true bn;go_wp2;go_roundg aX
        case measure => have := HK1.out; have := HK2.out; have := bi.out; omega
        case rel => exact ⟨(aj), (wrap64 (ab - 1)), et, H', ⟨by have := HK1.out; have := HK2.out; have := bi.out; omega⟩, ⟨krR ag⟩, ⟨kg ae⟩, ⟨kg af⟩, ⟨kh HB⟩⟩
       subst c77;replace H := ifT H
       by_cases c78 : ab < (aa.length : Int)
       rotate_left
       ·rw [if_neg c78] at H
        exact absurd H (by simp)
       rw [if_pos c78] at H;have hH := qqT c78;clear c78;replace H := qqB H;obtain ⟨ef, fr, H⟩ := H;(try dsimp only at H);have A79 := Aside0.mk fr;clear fr
       by_cases c80 : ef = true
       rotate_left
       ·replace c80 := Bool.eq_false_iff.mpr c80
        subst c80;replace H := ifF H;have H' := Aside0.mk H;clear H;obtain ⟨iL, iM, gp⟩ := Kd.R_slice ag.out;subst gp;have bm : 0 ≤ (ab : Int) := od;have bn : ab < (aj.length : Int) := od;obtain ⟨dN, db, ba⟩ := Kd.at_bool (Kd.R_reads' ag.out).2.2 ab bm bn;(try rw [← Nbq76.out] at ba);cases db;replace bm := eq_true bm; replace bn := eq_true bn;have hI := ao.out;have hJ := ap.out;have Z93 := kz3 ae;have cm : 0 ≤ (ab : Int) := od;have cn : ab < (aa.length : Int) := od;obtain ⟨dO, eg, aM, aN, aQ, aR⟩ := at_T61 aE.out ab cm cn;cases eg;replace aM := (HB.out.cell (qqW w _ aM)).trans aM;replace aN := (HB.out.cell (qqW w _ aN)).trans aN;replace aQ := (HB.out.cell (qqW w _ aQ)).trans aQ;replace aR := (HB.out.cell (qqW w _ aR)).trans aR;replace cm := eq_true cm; replace cn := eq_true cn;go_wp2_with (first | (go_at_call 36; (with_reducible refine (qqa.calls ((rd_T61 aa ab).f0) ((rd_T61 aa ab).f1) ((rd_T61 aa ab).f2) ((rd_T61 aa ab).f3) false _ A79.out).mono ?_); rintro e w94 ⟨rfl, hb⟩; replace ag := kR ag hb; replace ae := kU ae hb; replace af := kU af hb; replace HB := kH HB hb; (try clear hb); (try clear hb2); (try clear hk); (try clear hi)));go_roundg aX
        case measure => have := HK1.out; have := HK2.out; have := bi.out; omega
        case rel => exact ⟨(aj), (wrap64 (ab - 1)), et, H', ⟨by have := HK1.out; have := HK2.out; have := bi.out; omega⟩, ⟨krR ag⟩, ⟨kg ae⟩, ⟨kg af⟩, ⟨kh HB⟩⟩
       subst c80;replace H := ifT H
       by_cases c81 : 0 ≤ ((rd_T61 aa ab).f2)
       rotate_left
       ·rw [if_neg c81] at H
        exact absurd H (by simp)
       rw [if_pos c81] at H;have hM := qqT c81;clear c81
       by_cases c82 : ((rd_T61 aa ab).f2) < (aj.length : Int)
       rotate_left
       ·rw [if_neg c82] at H
        exact absurd H (by simp)
       rw [if_pos c82] at H;have hO := qqT c82;clear c82;obtain ⟨eh, bZ⟩ : ∃ y_ : List Bool, y_ = (aj.set (((rd_T61 aa ab).f2) : Int).toNat true) := ⟨_, rfl⟩
       replace H : (qda.l2 aX eh (wrap64 (ab - 1)) an aa ah) = some (r1, r2, r3) := by first | (rw [bZ]; with_reducible exact H) | (have H2_ := (Option.bind_some _ _).symm.trans H; rw [bZ]; with_reducible exact H2_) | (have H2_ := (Option.bind_some _ _).symm.trans H; with_reducible exact H2_) | with_reducible exact H | (rw [bZ]; exact H) | exact H
       have ft := Aside0.mk bZ;clear bZ;have H' := Aside0.mk H;clear H;obtain ⟨iO, gq, gr⟩ := Kd.R_slice ag.out;subst gr;have bm : 0 ≤ (ab : Int) := od;have bn : ab < (aj.length : Int) := od;obtain ⟨dN, db, ba⟩ := Kd.at_bool (Kd.R_reads' ag.out).2.2 ab bm bn;(try rw [← Nbq76.out] at ba);cases db;replace bm := eq_true bm; replace bn := eq_true bn;have hP := ao.out;have hQ := ap.out;have Z86 := kz3 ae;have cm : 0 ≤ (ab : Int) := od;have cn : ab < (aa.length : Int) := od;obtain ⟨dO, eg, aM, aN, aQ, aR⟩ := at_T61 aE.out ab cm cn;cases eg;replace aM := (HB.out.cell (qqW w _ aM)).trans aM;replace aN := (HB.out.cell (qqW w _ aN)).trans aN;replace aQ := (HB.out.cell (qqW w _ aQ)).trans aQ;replace aR := (HB.out.cell (qqW w _ aR)).trans aR;replace cm := eq_true cm; replace cn := eq_true cn;go_wp2_with (first | (go_at_call 36; (with_reducible refine (qqa.calls ((rd_T61 aa ab).f0) ((rd_T61 aa ab).f1) ((rd_T61 aa ab).f2) ((rd_T61 aa ab).f3) true _ A79.out).mono ?_); rintro e w87 ⟨rfl, hb⟩; replace ag := kR ag hb; replace ae := kU ae hb; replace af := kU af hb; replace HB := kH HB hb; (try clear hb); (try clear hb2); (try clear hk); (try clear hi); have Z88 := kz3 ae; have ei : 0 ≤ (ab : Int) := od; have ej : ab < (aa.length : Int) := od; obtain ⟨fu, gt, bL, bM, bN, bO⟩ := at_T61 aE.out ab ei ej; obtain rfl : dO = fu := (by injection gt); replace bL := (HB.out.cell (qqW w _ bL)).trans bL; replace bM := (HB.out.cell (qqW w _ bM)).trans bM; replace bN := (HB.out.cell (qqW w _ bN)).trans bN; replace bO := (HB.out.cell (qqW w _ bO)).trans bO; replace ei := eq_true ei; replace ej := eq_true ej; have p83 : 0 ≤ (((rd_T61 aa ab).f2) : Int) := od; have q83 : (((rd_T61 aa ab).f2) : Int) < ((aj.length : Int) : Int) := od; obtain ⟨ek, iP, fv, fw, gl83, cl83, HG83⟩ := Kd.R_form ag.out (by omega); (first | cases fv | (injection fv with ea_ en_ ec_; (first | subst ea_ | (injection ea_ with ea_; subst ea_)); subst ec_; clear en_)); have gu := Aside0.mk fw; have iQ := Aside0.mk HG83; clear fw gl83 HG83; (first | simp only [add_plain] at ba | skip); obtain ⟨gv, gw⟩ := Kd.R_celln false ag.out (((rd_T61 aa ab).f2) : Int) p83 q83; replace p83 := eq_true p83; replace q83 := eq_true q83; obtain ⟨hR, hS⟩ := Kd.R_celln false ag.out (((rd_T61 aa ab).f2) : Int) od od; have el := Kd.R_putg ag.out (((rd_T61 aa ab).f2) : Int) true) | ((with_reducible refine gate_store (t := 4) (p := 83) rfl ?_); refine store_event (t := 4) (p := 83) (v := ?vo_w90) (w1 := (w87.setCell ⟨ek, (((rd_T61 aa ab).f2) : Int).toNat, none⟩ (.bool true))) ?hg ?ho ?hn ?hr ?_; (case ho => rfl); (case hg => rfl); (case hn => rfl); (case hr => go_simp; try rfl); intro w90 hw; have hg : w87.grownBy w90 (some ek) := (by rw [hw]; exact el.2); have hp_ : Kd.R Kd.bool 4 w90 w.heap.size (fun _ => True) (.slice (some ⟨ek, 0, none⟩) aj.length gq) eh := (by rw [hw, ft.out]; exact el.1); clear el; replace ae := kXR ae ag hg; replace af := kXR af ag hg; replace ag := Aside0.mk (hp_); replace HB := Aside0.mk ((by rw [hw]; exact below_set (HB.out) gu.out : Below w.heap.size w w90)); clear hg hw hp_));go_roundg aX
       case measure => have := HK1.out; have := HK2.out; have := bi.out; omega
       case rel => exact ⟨(eh), (wrap64 (ab - 1)), et, H', ⟨by have := HK1.out; have := HK2.out; have := bi.out; omega⟩, ⟨krR ag⟩, ⟨kg ae⟩, ⟨kg af⟩, ⟨kh HB⟩⟩
      subst c41;replace H := ifT H
      by_cases c42 : 0 ≤ ab
      rotate_left
      ·rw [if_neg c42] at H
       exact absurd H (by simp)
      rw [if_pos c42] at H;have hT := qqT c42;clear c42
      by_cases c43 : ab < (aa.length : Int)
      rotate_left
      ·rw [if_neg c43] at H
       exact absurd H (by simp)
      rw [if_pos c43] at H;have hU := qqT c43;clear c43
      by_cases c44 : 0 ≤ ((rd_T61 aa ab).f1)
      rotate_left
      ·rw [if_neg c44] at H
       exact absurd H (by simp)
      rw [if_pos c44] at H;have hV := qqT c44;clear c44
      by_cases c45 : ((rd_T61 aa ab).f1) < (aj.length : Int)
      rotate_left
      ·rw [if_neg c45] at H
       exact absurd H (by simp)
      rw [if_pos c45] at H;have hW := qqT c45;clear c45;obtain ⟨aY, ca⟩ : ∃ y_ : List Bool, y_ = (aj.set (((rd_T61 aa ab).f1) : Int).toNat true) := ⟨_, rfl⟩
      replace H : (if ab < (aj.length : Int) then (if rdOf false aY ab = true then ((qqa.f ((rd_T61 aa ab).f0) ((rd_T61 aa ab).f1) ((rd_T61 aa ab).f2) ((rd_T61 aa ab).f3)).bind fun dc => (if dc = true then (if 0 ≤ ((rd_T61 aa ab).f2) then (if ((rd_T61 aa ab).f2) < (aj.length : Int) then (qda.l2 aX (aY.set (((rd_T61 aa ab).f2) : Int).toNat true) (wrap64 (ab - 1)) an aa ah) else (none)) else (none)) else (qda.l2 aX aY (wrap64 (ab - 1)) an aa ah))) else (qda.l2 aX aY (wrap64 (ab - 1)) an aa ah)) else (none)) = some (r1, r2, r3) := by first | (rw [ca]; with_reducible exact H) | (have H2_ := (Option.bind_some _ _).symm.trans H; rw [ca]; with_reducible exact H2_) | (have H2_ := (Option.bind_some _ _).symm.trans H; with_reducible exact H2_) | with_reducible exact H | (rw [ca]; exact H) | exact H
      have bA := Aside0.mk ca;clear ca
      by_cases c47 : ab < (aj.length : Int)
      rotate_left
      ·rw [if_neg c47] at H
       exact absurd H (by simp)
      rw [if_pos c47] at H;have hX := qqT c47;clear c47;obtain ⟨bq48, hbq48⟩ : ∃ b_ : Bool, b_ = (rdOf false aY ab) := ⟨_, rfl⟩
      replace H : (if bq48 = true then ((qqa.f ((rd_T61 aa ab).f0) ((rd_T61 aa ab).f1) ((rd_T61 aa ab).f2) ((rd_T61 aa ab).f3)).bind fun dc => (if dc = true then (if 0 ≤ ((rd_T61 aa ab).f2) then (if ((rd_T61 aa ab).f2) < (aj.length : Int) then (qda.l2 aX (aY.set (((rd_T61 aa ab).f2) : Int).toNat true) (wrap64 (ab - 1)) an aa ah) else (none)) else (none)) else (qda.l2 aX aY (wrap64 (ab - 1)) an aa ah))) else (qda.l2 aX aY (wrap64 (ab - 1)) an aa ah)) = some (r1, r2, r3) := by rw [← hbq48] at H; exact H
      have Nbq48 := Aside0.mk hbq48;clear hbq48
      by_cases c49 : bq48 = true
      rotate_left
      ·replace c49 := Bool.eq_false_iff.mpr c49
       subst c49;replace H := ifF H;have H' := Aside0.mk H;clear H;have hY := ao.out;have hZ := ap.out;have Z71 := kz3 ae;have bo : 0 ≤ (ab : Int) := od;have bp : ab < (aa.length : Int) := od;obtain ⟨cb, dd, aw, ax, ay, az⟩ := at_T61 aE.out ab bo bp;cases dd;replace aw := (HB.out.cell (qqW w _ aw)).trans aw;replace ax := (HB.out.cell (qqW w _ ax)).trans ax;replace ay := (HB.out.cell (qqW w _ ay)).trans ay;replace az := (HB.out.cell (qqW w _ az)).trans az;replace bo := eq_true bo; replace bp := eq_true bp;have p46 : 0 ≤ (((rd_T61 aa ab).f1) : Int) := od;have q46 : (((rd_T61 aa ab).f1) : Int) < ((aj.length : Int) : Int) := od;obtain ⟨aZ, cJ, cc, cd, gl46, cl46, HG46⟩ := Kd.R_form ag.out (by omega);(first | cases cc | (injection cc with ea_ en_ ec_; (first | subst ea_ | (injection ea_ with ea_; subst ea_)); subst ec_; clear en_));have cK := Aside0.mk cd;have fx := Aside0.mk HG46;clear cd gl46 HG46;obtain ⟨de, df⟩ := Kd.R_celln false ag.out (((rd_T61 aa ab).f1) : Int) p46 q46;replace p46 := eq_true p46; replace q46 := eq_true q46;have em := Kd.R_putg ag.out (((rd_T61 aa ab).f1) : Int) true;go_wp2_with (first | ((with_reducible refine gate_store (t := 4) (p := 63) rfl ?_); refine store_event (t := 4) (p := 63) (v := ?vo_w73) (w1 := (wc.setCell ⟨aZ, (((rd_T61 aa ab).f1) : Int).toNat, none⟩ (.bool true))) ?hg ?ho ?hn ?hr ?_; (case ho => rfl); (case hg => rfl); (case hn => rfl); (case hr => go_simp; try rfl); intro w73 hw; have hg : wc.grownBy w73 (some aZ) := (by rw [hw]; exact em.2); have hp_ : Kd.R Kd.bool 4 w73 w.heap.size (fun _ => True) (.slice (some ⟨aZ, 0, none⟩) aj.length cJ) aY := (by rw [hw, bA.out]; exact em.1); clear em; replace ae := kXR ae ag hg; replace af := kXR af ag hg; replace ag := Aside0.mk (hp_); replace HB := Aside0.mk ((by rw [hw]; exact below_set (HB.out) cK.out : Below w.heap.size w w73)); clear hg hw hp_; have bq : 0 ≤ (ab : Int) := od; have br : ab < (aY.length : Int) := (by have h_ : (ab : Int) < ((aj.length : Int) : Int) := od; first | (have e_ := (Kd.R_reads' ag.out).1; omega) | simpa only [bA.out, List.length_set] using h_); have ql551 : ((ab : Int) < ((aj.length : Int) : Int)) = True := eq_true od; obtain ⟨ce, dg, aq⟩ := Kd.at_bool (Kd.R_reads' ag.out).2.2 ab bq br; (try rw [← Nbq48.out] at aq); obtain rfl : (⟨aZ, 0, none⟩ : Addr) = ce := (by injection dg); (first | simp only [add_plain] at aq | simp only [add_at] at aq | simp only [Addr.add, Nat.zero_add] at aq | skip); replace bq := eq_true bq; replace br := eq_true br));go_roundg aX
       case measure => have := HK1.out; have := HK2.out; have := bi.out; omega
       case rel => exact ⟨(aY), (wrap64 (ab - 1)), et, H', ⟨by have := HK1.out; have := HK2.out; have := bi.out; omega⟩, ⟨krR ag⟩, ⟨kg ae⟩, ⟨kg af⟩, ⟨kh HB⟩⟩
      subst c49;replace H := ifT H;replace H := qqB H;obtain ⟨dc, fy, H⟩ := H;(try dsimp only at H);have A50 := Aside0.mk fy;clear fy
      by_cases c51 : dc = true
      rotate_left
      ·replace c51 := Bool.eq_false_iff.mpr c51
       subst c51;replace H := ifF H;have H' := Aside0.mk H;clear H;have ia := ao.out;have ib := ap.out;have Z65 := kz3 ae;have bo : 0 ≤ (ab : Int) := od;have bp : ab < (aa.length : Int) := od;obtain ⟨cb, dd, aw, ax, ay, az⟩ := at_T61 aE.out ab bo bp;cases dd;replace aw := (HB.out.cell (qqW w _ aw)).trans aw;replace ax := (HB.out.cell (qqW w _ ax)).trans ax;replace ay := (HB.out.cell (qqW w _ ay)).trans ay;replace az := (HB.out.cell (qqW w _ az)).trans az;replace bo := eq_true bo; replace bp := eq_true bp;have p46 : 0 ≤ (((rd_T61 aa ab).f1) : Int) := od;have q46 : (((rd_T61 aa ab).f1) : Int) < ((aj.length : Int) : Int) := od;obtain ⟨aZ, cJ, cc, cd, gl46, cl46, HG46⟩ := Kd.R_form ag.out (by omega);(first | cases cc | (injection cc with ea_ en_ ec_; (first | subst ea_ | (injection ea_ with ea_; subst ea_)); subst ec_; clear en_));have cK := Aside0.mk cd;have fx := Aside0.mk HG46;clear cd gl46 HG46;obtain ⟨de, df⟩ := Kd.R_celln false ag.out (((rd_T61 aa ab).f1) : Int) p46 q46;replace p46 := eq_true p46; replace q46 := eq_true q46;have en := Kd.R_putg ag.out (((rd_T61 aa ab).f1) : Int) true;go_wp2_with (first | ((with_reducible refine gate_store (t := 4) (p := 63) rfl ?_); refine store_event (t := 4) (p := 63) (v := ?vo_w67) (w1 := (wc.setCell ⟨aZ, (((rd_T61 aa ab).f1) : Int).toNat, none⟩ (.bool true))) ?hg ?ho ?hn ?hr ?_; (case ho => rfl); (case hg => rfl); (case hn => rfl); (case hr => go_simp; try rfl); intro w67 hw; have hg : wc.grownBy w67 (some aZ) := (by rw [hw]; exact en.2); have hp_ : Kd.R Kd.bool 4 w67 w.heap.size (fun _ => True) (.slice (some ⟨aZ, 0, none⟩) aj.length cJ) aY := (by rw [hw, bA.out]; exact en.1); clear en; replace ae := kXR ae ag hg; replace af := kXR af ag hg; replace ag := Aside0.mk (hp_); replace HB := Aside0.mk ((by rw [hw]; exact below_set (HB.out) cK.out : Below w.heap.size w w67)); clear hg hw hp_; have bq : 0 ≤ (ab : Int) := od; have br : ab < (aY.length : Int) := (by have h_ : (ab : Int) < ((aj.length : Int) : Int) := od; first | (have e_ := (Kd.R_reads' ag.out).1; omega) | simpa only [bA.out, List.length_set] using h_); have ql551 : ((ab : Int) < ((aj.length : Int) : Int)) = True := eq_true od; obtain ⟨ce, dg, aq⟩ := Kd.at_bool (Kd.R_reads' ag.out).2.2 ab bq br; (try rw [← Nbq48.out] at aq); obtain rfl : (⟨aZ, 0, none⟩ : Addr) = ce := (by injection dg); (first | simp only [add_plain] at aq | simp only [add_at] at aq | simp only [Addr.add, Nat.zero_add] at aq | skip); replace bq := eq_true bq; replace br := eq_true br; have Z68 := kz3 ae; have co : 0 ≤ (ab : Int) := od; have cp : ab < (aa.length : Int) := od; obtain ⟨dh, eo, aT, aU, aV, aW⟩ := at_T61 aE.out ab co cp; obtain rfl : cb = dh := (by injection eo); replace aT := (HB.out.cell (qqW w _ aT)).trans aT; replace aU := (HB.out.cell (qqW w _ aU)).trans aU; replace aV := (HB.out.cell (qqW w _ aV)).trans aV; replace aW := (HB.out.cell (qqW w _ aW)).trans aW; replace co := eq_true co; replace cp := eq_true cp) | (go_at_call 36; (with_reducible refine (qqa.calls ((rd_T61 aa ab).f0) ((rd_T61 aa ab).f1) ((rd_T61 aa ab).f2) ((rd_T61 aa ab).f3) false _ A50.out).mono ?_); rintro e w69 ⟨rfl, hb⟩; replace ag := kR ag hb; replace ae := kU ae hb; replace af := kU af hb; replace HB := kH HB hb; (try clear hb); (try clear hb2); (try clear hk); (try clear hi)));go_roundg aX
       case measure => have := HK1.out; have := HK2.out; have := bi.out; omega
       case rel => exact ⟨(aY), (wrap64 (ab - 1)), et, H', ⟨by have := HK1.out; have := HK2.out; have := bi.out; omega⟩, ⟨krR ag⟩, ⟨kg ae⟩, ⟨kg af⟩, ⟨kh HB⟩⟩
      subst c51;replace H := ifT H
      by_cases c52 : 0 ≤ ((rd_T61 aa ab).f2)
      rotate_left
      ·rw [if_neg c52] at H
       exact absurd H (by simp)
      rw [if_pos c52] at H;have ic := qqT c52;clear c52
      by_cases c53 : ((rd_T61 aa ab).f2) < (aj.length : Int)
      rotate_left
      ·rw [if_neg c53] at H
       exact absurd H (by simp)
      rw [if_pos c53] at H;have ie := qqT c53;clear c53;obtain ⟨ep, cf⟩ : ∃ y_ : List Bool, y_ = (aY.set (((rd_T61 aa ab).f2) : Int).toNat true) := ⟨_, rfl⟩
      replace H : (qda.l2 aX ep (wrap64 (ab - 1)) an aa ah) = some (r1, r2, r3) := by first | (rw [cf]; with_reducible exact H) | (have H2_ := (Option.bind_some _ _).symm.trans H; rw [cf]; with_reducible exact H2_) | (have H2_ := (Option.bind_some _ _).symm.trans H; with_reducible exact H2_) | with_reducible exact H | (rw [cf]; exact H) | exact H
      have fz := Aside0.mk cf;clear cf;have H' := Aside0.mk H;clear H;have ig := ao.out;have ii := ap.out;have Z56 := kz3 ae;have bo : 0 ≤ (ab : Int) := od;have bp : ab < (aa.length : Int) := od;obtain ⟨cb, dd, aw, ax, ay, az⟩ := at_T61 aE.out ab bo bp;cases dd;replace aw := (HB.out.cell (qqW w _ aw)).trans aw;replace ax := (HB.out.cell (qqW w _ ax)).trans ax;replace ay := (HB.out.cell (qqW w _ ay)).trans ay;replace az := (HB.out.cell (qqW w _ az)).trans az;replace bo := eq_true bo; replace bp := eq_true bp;have p46 : 0 ≤ (((rd_T61 aa ab).f1) : Int) := od;have q46 : (((rd_T61 aa ab).f1) : Int) < ((aj.length : Int) : Int) := od;obtain ⟨aZ, cJ, cc, cd, gl46, cl46, HG46⟩ := Kd.R_form ag.out (by omega);(first | cases cc | (injection cc with ea_ en_ ec_; (first | subst ea_ | (injection ea_ with ea_; subst ea_)); subst ec_; clear en_));have cK := Aside0.mk cd;have fx := Aside0.mk HG46;clear cd gl46 HG46;obtain ⟨de, df⟩ := Kd.R_celln false ag.out (((rd_T61 aa ab).f1) : Int) p46 q46;replace p46 := eq_true p46; replace q46 := eq_true q46;have eq := Kd.R_putg ag.out (((rd_T61 aa ab).f1) : Int) true;go_wp2_with (first | ((with_reducible refine gate_store (t := 4) (p := 63) rfl ?_); refine store_event (t := 4) (p := 63) (v := ?vo_w58) (w1 := (wc.setCell ⟨aZ, (((rd_T61 aa ab).f1) : Int).toNat, none⟩ (.bool true))) ?hg ?ho ?hn ?hr ?_; (case ho => rfl); (case hg => rfl); (case hn => rfl); (case hr => go_simp; try rfl); intro w58 hw; have hg : wc.grownBy w58 (some aZ) := (by rw [hw]; exact eq.2); have hp_ : Kd.R Kd.bool 4 w58 w.heap.size (fun _ => True) (.slice (some ⟨aZ, 0, none⟩) aj.length cJ) aY := (by rw [hw, bA.out]; exact eq.1); clear eq; replace ae := kXR ae ag hg; replace af := kXR af ag hg; replace ag := Aside0.mk (hp_); replace HB := Aside0.mk ((by rw [hw]; exact below_set (HB.out) cK.out : Below w.heap.size w w58)); clear hg hw hp_; have bq : 0 ≤ (ab : Int) := od; have br : ab < (aY.length : Int) := (by have h_ : (ab : Int) < ((aj.length : Int) : Int) := od; first | (have e_ := (Kd.R_reads' ag.out).1; omega) | simpa only [bA.out, List.length_set] using h_); have ql551 : ((ab : Int) < ((aj.length : Int) : Int)) = True := eq_true od; obtain ⟨ce, dg, aq⟩ := Kd.at_bool (Kd.R_reads' ag.out).2.2 ab bq br; (try rw [← Nbq48.out] at aq); obtain rfl : (⟨aZ, 0, none⟩ : Addr) = ce := (by injection dg); (first | simp only [add_plain] at aq | simp only [add_at] at aq | simp only [Addr.add, Nat.zero_add] at aq | skip); replace bq := eq_true bq; replace br := eq_true br; have Z59 := kz3 ae; have co : 0 ≤ (ab : Int) := od; have cp : ab < (aa.length : Int) := od; obtain ⟨dh, eo, aT, aU, aV, aW⟩ := at_T61 aE.out ab co cp; obtain rfl : cb = dh := (by injection eo); replace aT := (HB.out.cell (qqW w _ aT)).trans aT; replace aU := (HB.out.cell (qqW w _ aU)).trans aU; replace aV := (HB.out.cell (qqW w _ aV)).trans aV; replace aW := (HB.out.cell (qqW w _ aW)).trans aW; replace co := eq_true co; replace cp := eq_true cp) | (go_at_call 36; (with_reducible refine (qqa.calls ((rd_T61 aa ab).f0) ((rd_T61 aa ab).f1) ((rd_T61 aa ab).f2) ((rd_T61 aa ab).f3) true _ A50.out).mono ?_); rintro e w60 ⟨rfl, hb⟩; replace ag := kR ag hb; replace ae := kU ae hb; replace af := kU af hb; replace HB := kH HB hb; (try clear hb); (try clear hb2); (try clear hk); (try clear hi); have Z61 := kz3 ae; have eu : 0 ≤ (ab : Int) := od; have ev : ab < (aa.length : Int) := od; obtain ⟨fA, gx, bP, bQ, bR, bS⟩ := at_T61 aE.out ab eu ev; obtain rfl : cb = fA := (by injection gx); replace bP := (HB.out.cell (qqW w _ bP)).trans bP; replace bQ := (HB.out.cell (qqW w _ bQ)).trans bQ; replace bR := (HB.out.cell (qqW w _ bR)).trans bR; replace bS := (HB.out.cell (qqW w _ bS)).trans bS; replace eu := eq_true eu; replace ev := eq_true ev; have p54 : 0 ≤ (((rd_T61 aa ab).f2) : Int) := od; have q54 : (((rd_T61 aa ab).f2) : Int) < ((aj.length : Int) : Int) := od; obtain ⟨gy, gz⟩ := Kd.R_celln false ag.out (((rd_T61 aa ab).f2) : Int) p54 q54; replace p54 := eq_true p54; replace q54 := eq_true q54; obtain ⟨ik, il⟩ := Kd.R_celln false ag.out (((rd_T61 aa ab).f2) : Int) od od; have ew := Kd.R_putg ag.out (((rd_T61 aa ab).f2) : Int) true) | ((with_reducible refine gate_store (t := 4) (p := 83) rfl ?_); refine store_event (t := 4) (p := 83) (v := ?vo_w63) (w1 := (w60.setCell ⟨aZ, (((rd_T61 aa ab).f2) : Int).toNat, none⟩ (.bool true))) ?hg ?ho ?hn ?hr ?_; (case ho => rfl); (case hg => rfl); (case hn => rfl); (case hr => go_simp; try rfl); intro w63 hw; have hg : w60.grownBy w63 (some aZ) := (by rw [hw]; exact ew.2); have hp_ : Kd.R Kd.bool 4 w63 w.heap.size (fun _ => True) (.slice (some ⟨aZ, 0, none⟩) aj.length cJ) ep := (by rw [hw, fz.out]; exact ew.1); clear ew; replace ae := kXR ae ag hg; replace af := kXR af ag hg; replace ag := Aside0.mk (hp_); replace HB := Aside0.mk ((by rw [hw]; exact below_set (HB.out) cK.out : Below w.heap.size w w63)); clear hg hw hp_));go_roundg aX
      case measure => have := HK1.out; have := HK2.out; have := bi.out; omega
      case rel => exact ⟨(ep), (wrap64 (ab - 1)), et, H', ⟨by have := HK1.out; have := HK2.out; have := bi.out; omega⟩, ⟨krR ag⟩, ⟨kg ae⟩, ⟨kg af⟩, ⟨kh HB⟩⟩
def qhb.f (k : Nat) (a0 : Int) (ae : List (S64)) (af : List (S61)) (ag : List (S66)) : Option ((List (S64)) × (List (S61)) × (List (S66))) := (qla.f k a0 ae af ag).bind fun aa => ((qja.f k aa.1 aa.2.1 aa.2.2).bind fun ab => ((qda.f k ab.1 ab.2.1 ab.2.2).bind fun ad => (some (ad.1, ad.2.1, ad.2.2))))
theorem qhb.calls (k : Nat) (a0 : Int) (ay : Option Addr) (az : Nat) (ak : List (S64)) (aA : Option Addr) (aC : Nat) (al : List (S61)) (aD : Option Addr) (aE : Nat) (an : List (S66)) (r1 : List (S64)) (r2 : List (S61)) (r3 : List (S66)) (w : World) (aN : Kd.C k64 w ay ak.length ak) (aQ : ak.length ≤ az) (aR : Kd.C k61 w aA al.length al) (aT : al.length ≤ aC) (aU : Kd.C k66 w aD an.length an) (aV : an.length ≤ aE) (h : qhb.f k a0 ak al an = some (r1, r2, r3)) :
  Calls Try.prog 25 #[.int .u64 a0, .agg #[.slice ay ak.length az, .slice aA al.length aC, .slice aD an.length aE]] w fun e w' => ∃ v0_ v1_ v2_ : Value, e = .returned (.agg #[v0_, v1_, v2_]) ∧ Kd.R k64 64 w' w.heap.size (fun _ => True) v0_ r1 ∧ Kd.R k61 61 w' w.heap.size (fun _ => True) v1_ r2 ∧ Kd.S k66 66 w' w.heap.size (fun _ => True) v2_ r3 ∧ Below w.heap.size w w' := by
 have hu26 := Try.underlying26;have bg := Aside0.mk aN;have bh := Aside0.mk aQ;clear aN aQ;have bi := Aside0.mk aR;have bj := Aside0.mk aT;clear aR aT;have bk := Aside0.mk aU;have bl := Aside0.mk aV;clear aU aV;have HB := Aside0.mk (Below.refl w.heap.size w);have H : ((qla.f k a0 ak al an).bind fun aq => ((qja.f k aq.1 aq.2.1 aq.2.2).bind fun ar => ((qda.f k ar.1 ar.2.1 ar.2.2).bind fun au => (some (au.1, au.2.1, au.2.2))))) = some (r1, r2, r3) := h;clear h;replace H := qqB H;obtain ⟨⟨aZ, ba, bb⟩, A30, H⟩ := H;(try dsimp only at H);have A3 := Aside0.mk A30;clear A30;replace H := qqB H;obtain ⟨⟨bc, bd, bf⟩, A40, H⟩ := H;(try dsimp only at H);have A4 := Aside0.mk A40;clear A40;replace H := qqB H;obtain ⟨⟨av, aw, ax⟩, A50, H⟩ := H;(try dsimp only at H);have A5 := Aside0.mk A50;clear A50;simp only [Option.some.injEq, Prod.mk.injEq] at H;obtain ⟨rfl, rfl, rfl⟩ := H;go_enter Try.func25, Try.ntmps25;go_wp2_with (first | ((with_reducible refine qfa (N := 3) rfl ?_); refine qha ?hg (N := 3) ?hd (cs := #[.slice ay ak.length az, .slice aA al.length aC, .slice aD an.length aE]) (t := 26) ?hr ?_; (case hd | hg => rfl); (case hr => go_simp; try rfl); intro bJ hg w6 hbox hb; have aa := am hbox; have bK := kG HB hg; have bL := kG HB hg; replace HB := kH HB hb; clear hb hbox hg) | ((with_reducible refine qfa (N := 4) rfl ?_); refine qha ?hg (N := 4) ?hd (cs := #[.slice none 0 0, .slice none 0 0, .slice none 0 0]) (t := 26) ?hr ?_; (case hd | hg => rfl); (case hr => go_simp; try rfl); intro ad hg w7 hbox hb; have ab := am hbox; have bM := kG HB hg; have bN := kG HB hg; replace HB := kH HB hb; have ao := kP aa hg; have ap := kQ aa hg; replace aa := kU aa hb; clear hb hbox hg; have bO := ao.out; have bP := ap.out; have Z9 := kz3 aa) | ((with_reducible refine gate_callee (f := 19) rfl ?_); refine goesL_ (some 7) rfl rfl Try.func19 (by kernel_rfl) rfl #[.int .u64 a0, .agg #[.slice ay ak.length az, .slice aA al.length aC, .slice aD an.length aE]] rfl (by (try simp only [qM1, qM2, qM3]); first | done | rfl) ?_; (with_reducible refine (qla.calls k a0 _ _ ak _ _ al _ _ an aZ ba bb _ ?side1 ?side2 ?side3 ?side4 ?side5 ?side6 A3.out).mono ?_); (case side1 => repeat (first | exact (Kd.C_below bg.out HB.out) | (with_reducible first | refine Kd.C_alloc ?_ _ | refine Kd.C_drewN ?_ _ | refine Kd.C_drew ?_))); (case side2 => exact bh.out); (case side3 => repeat (first | exact (Kd.C_below bi.out HB.out) | (with_reducible first | refine Kd.C_alloc ?_ _ | refine Kd.C_drewN ?_ _ | refine Kd.C_drew ?_))); (case side4 => exact bj.out); (case side5 => repeat (first | exact (Kd.C_below bk.out HB.out) | (with_reducible first | refine Kd.C_alloc ?_ _ | refine Kd.C_drewN ?_ _ | refine Kd.C_drew ?_))); (case side6 => exact bl.out); rintro e w10 ⟨bQ, bR, bS, rfl, ho0, ho1, ho2, hb⟩; refine ⟨_, rfl, ?_⟩; have ae := kLR ho0 HB; have af := kLR ho1 HB; have ag := kLS ho2 HB; replace aa := kU aa hb; replace ab := kU ab hb; replace HB := kH HB hb; (try clear hb); (try clear hb2); (try clear hk); (try clear hi); (try clear ho0); (try clear ho1); (try clear ho2); obtain ⟨bm, bn, bo⟩ := Kd.R_slice ae.out; subst bo; obtain ⟨bp, bq, br⟩ := Kd.R_slice af.out; subst br; obtain ⟨bt, bu, bv⟩ := Kd.S_slice ag.out; subst bv) | ((with_reducible refine gate_callee (f := 21) rfl ?_); refine goesL_ (some 8) rfl rfl Try.func21 (by kernel_rfl) rfl #[.agg #[.slice bm aZ.length bn, .slice bp ba.length bq, .slice bt bb.length bu]] rfl (by (try simp only [qM1, qM2, qM3]); first | done | rfl) ?_; (with_reducible refine (qja.calls k _ _ aZ _ _ ba _ _ bb bc bd bf _ ?side1 ?side2 ?side3 ?side4 ?side5 ?side6 A4.out).mono ?_); (case side1 => repeat (first | exact (Kd.R_reads' ae.out).2.2 | (with_reducible first | refine Kd.C_alloc ?_ _ | refine Kd.C_drewN ?_ _ | refine Kd.C_drew ?_))); (case side2 => exact (Kd.R_reads' ae.out).2.1); (case side3 => repeat (first | exact (Kd.R_reads' af.out).2.2 | (with_reducible first | refine Kd.C_alloc ?_ _ | refine Kd.C_drewN ?_ _ | refine Kd.C_drew ?_))); (case side4 => exact (Kd.R_reads' af.out).2.1); (case side5 => repeat (first | exact (Kd.S_reads' ag.out).2.2 | (with_reducible first | refine Kd.C_alloc ?_ _ | refine Kd.C_drewN ?_ _ | refine Kd.C_drew ?_))); (case side6 => exact (Kd.S_reads' ag.out).2.1); rintro e w14 ⟨bT, bU, bV, rfl, ho0, ho1, ho2, hb⟩; refine ⟨_, rfl, ?_⟩; have ah := Aside0.mk (Kd.R_lower (Kd.R_new' ho0 (Kd.R_lt (krR ae))) (below_size (kh HB))); replace ae := Aside0.mk (Kd.R_elder' (krR ae) (Kd.R_base ho0) hb); have ai := Aside0.mk (Kd.R_lower (Kd.R_new' ho1 (Kd.R_lt (krR af))) (below_size (kh HB))); replace af := Aside0.mk (Kd.R_elder' (krR af) (Kd.R_base ho1) hb); have aj := Aside0.mk (Kd.S_lower (Kd.S_new' ho2 (Kd.S_lt (krS ag))) (below_size (kh HB))); replace ag := Aside0.mk (Kd.S_elder' (krS ag) (Kd.S_base ho2) hb); replace aa := kU aa hb; replace ab := kU ab hb; replace HB := kH HB hb; (try clear hb); (try clear hb2); (try clear hk); (try clear hi); (try clear ho0); (try clear ho1); (try clear ho2); obtain ⟨bw, bx, bz⟩ := Kd.R_slice ah.out; subst bz; obtain ⟨bA, bB, bC⟩ := Kd.R_slice ai.out; subst bC; obtain ⟨bD, bE, bF⟩ := Kd.S_slice aj.out; subst bF) | ((with_reducible refine gate_callee (f := 23) rfl ?_); refine goesL_ (some 9) rfl rfl Try.func23 (by kernel_rfl) rfl #[.agg #[.slice bw bc.length bx, .slice bA bd.length bB, .slice bD bf.length bE]] rfl (by (try simp only [qM1, qM2, qM3]); first | done | rfl) ?_; (with_reducible refine (qda.calls k _ _ bc _ _ bd _ _ bf av aw ax _ ?side1 ?side2 ?side3 ?side4 ?side5 ?side6 A5.out).mono ?_); (case side1 => repeat (first | exact (Kd.R_reads' ah.out).2.2 | (with_reducible first | refine Kd.C_alloc ?_ _ | refine Kd.C_drewN ?_ _ | refine Kd.C_drew ?_))); (case side2 => exact (Kd.R_reads' ah.out).2.1); (case side3 => repeat (first | exact (Kd.R_reads' ai.out).2.2 | (with_reducible first | refine Kd.C_alloc ?_ _ | refine Kd.C_drewN ?_ _ | refine Kd.C_drew ?_))); (case side4 => exact (Kd.R_reads' ai.out).2.1); (case side5 => repeat (first | exact (Kd.S_reads' aj.out).2.2 | (with_reducible first | refine Kd.C_alloc ?_ _ | refine Kd.C_drewN ?_ _ | refine Kd.C_drew ?_))); (case side6 => exact (Kd.S_reads' aj.out).2.1); rintro e w18 ⟨bW, bX, bY, rfl, ho0, ho1, ho2, hb⟩; refine ⟨_, rfl, ?_⟩; have aW := Aside0.mk (Kd.R_lower (Kd.R_new' (Kd.R_new' ho0 (Kd.R_lt (krR ae))) (Kd.R_lt (krR ah))) (below_size (kh HB))); replace ae := Aside0.mk (Kd.R_elder' (krR ae) (Kd.R_base ho0) hb); replace ah := Aside0.mk (Kd.R_elder' (krR ah) (Kd.R_base ho0) hb); have aX := Aside0.mk (Kd.R_lower (Kd.R_new' (Kd.R_new' ho1 (Kd.R_lt (krR af))) (Kd.R_lt (krR ai))) (below_size (kh HB))); replace af := Aside0.mk (Kd.R_elder' (krR af) (Kd.R_base ho1) hb); replace ai := Aside0.mk (Kd.R_elder' (krR ai) (Kd.R_base ho1) hb); have aY := Aside0.mk (Kd.S_lower (Kd.S_new' (Kd.S_new' ho2 (Kd.S_lt (krS ag))) (Kd.S_lt (krS aj))) (below_size (kh HB))); replace ag := Aside0.mk (Kd.S_elder' (krS ag) (Kd.S_base ho2) hb); replace aj := Aside0.mk (Kd.S_elder' (krS aj) (Kd.S_base ho2) hb); replace aa := kU aa hb; replace ab := kU ab hb; replace HB := kH HB hb; (try clear hb); (try clear hb2); (try clear hk); (try clear hi); (try clear ho0); (try clear ho1); (try clear ho2); obtain ⟨aG, aH, bG⟩ := Kd.R_slice aW.out; subst bG; have Z20 := kz3 ab; obtain ⟨aI, aJ, bH⟩ := Kd.R_slice aX.out; subst bH; obtain ⟨aK, aM, bI⟩ := Kd.S_slice aY.out; subst bI));refine bodyPost_ret (results_cell_row rfl _ _ ad 26 #[.slice aG av.length aH, .slice aI aw.length aJ, .slice aK ax.length aM] (0, 0) _ rfl (kg ab) Try.underlying26 rfl (by kernel_rfl)) rfl ?_;exact ⟨_, _, _, er, by (with_reducible repeat first | apply Kd.R_alloc | apply Kd.R_drewN | apply Kd.R_drew); exact Kd.R_mono (Kd.R_far (p := ⟨ad, 2, none⟩) (Kd.R_far (p := ⟨ad, 1, none⟩) (Kd.R_far (p := ⟨ad, 0, none⟩) (Kd.R_types aW.out ab.out (by decide)) (fun _ hk => hk.2) (.slice aG av.length aH)) (fun _ hk => hk.2) (.slice aI aw.length aJ)) (fun _ hk => hk.2) (.slice aK ax.length aM)) (fun _ hk => trivial), by (with_reducible repeat first | apply Kd.R_alloc | apply Kd.R_drewN | apply Kd.R_drew); exact Kd.R_mono (Kd.R_far (p := ⟨ad, 2, none⟩) (Kd.R_far (p := ⟨ad, 1, none⟩) (Kd.R_far (p := ⟨ad, 0, none⟩) (Kd.R_types aX.out ab.out (by decide)) (fun _ hk => hk.2) (.slice aG av.length aH)) (fun _ hk => hk.2) (.slice aI aw.length aJ)) (fun _ hk => hk.2) (.slice aK ax.length aM)) (fun _ hk => trivial), by (with_reducible repeat first | apply Kd.S_alloc | apply Kd.S_drewN | apply Kd.S_drew); exact Kd.S_mono (Kd.S_far (p := ⟨ad, 2, none⟩) (Kd.S_far (p := ⟨ad, 1, none⟩) (Kd.S_far (p := ⟨ad, 0, none⟩) (Kd.S_types aY.out ab.out (by decide)) (fun _ hk => hk.2) (.slice aG av.length aH)) (fun _ hk => hk.2) (.slice aI aw.length aJ)) (fun _ hk => hk.2) (.slice aK ax.length aM)) (fun _ hk => trivial), kh HB⟩
def qsa.f (k : Nat) (a0 : Int) (ad : List (S64)) (ae : List (S61)) (af : List (S66)) : Option (Bool) := (tune_Tune.f k a0 ad ae af).bind fun aa => ((qia.f k a0 ad ae af).bind fun ag => (if ag = 0 then ((qhb.f k a0 ad ae af).bind fun ab => ((qdb.f k aa.1 aa.2.1 aa.2.2.1 aa.2.2.2 ab.1 ab.2.1 ab.2.2 0).bind fun ah => (if ah = true then ((qbb.f k).bind fun ai => (some ai)) else (some false)))) else ((qdb.f k aa.1 aa.2.1 aa.2.2.1 aa.2.2.2 ([] : List (S64)) ([] : List (S61)) ([] : List (S66)) ag).bind fun aj => (if aj = true then ((qbb.f k).bind fun ak => (some ak)) else (some false)))))
def qsa.T5 : Bool × List (List Nat × List Nat) := (true, [([], []), ([], []), ([], []), ([], []), ([2, 3], [2, 3]), ([0, 1, 4, 4], [0, 1, 4]), ([5, 5], [5]), ([6, 6], [6]), ([6, 7], [6, 7]), ([8, 7, 0, 1, 2, 3, 4, 5, 6, 7, 8], [8])])
def qsa.B5 : List Nat := [0, 0, 0, 0, 12, 31, 63, 127, 255, 511]
theorem qsa.tab5 : rtab .any (opsOf Try.f7 5) = qsa.T5 := by kernel_rfl
theorem qsa.bits5 : waitsOk qsa.T5.2 qsa.B5 = true := by kernel_rfl
theorem qsa.calls (k : Nat) (a0 : Int) (aq : Option Addr) (ar : Nat) (ag : List (S64)) (au : Option Addr) (av : Nat) (ah : List (S61)) (aw : Option Addr) (ax : Nat) (ai : List (S66)) (r : Bool) (w : World) (aR : Kd.C k64 w aq ag.length ag) (aT : ag.length ≤ ar) (aU : Kd.C k61 w au ah.length ah) (aV : ah.length ≤ av) (aW : Kd.C k66 w aw ai.length ai) (aX : ai.length ≤ ax) (h : qsa.f k a0 ag ah ai = some r) (hrt : r = true := by rfl) :
  Calls Try.prog 7 #[.int .u64 a0, .agg #[.slice aq ag.length ar, .slice au ah.length av, .slice aw ai.length ax]] w fun e w' => e = .returned (.bool r) ∧ Below w.heap.size w w' := by
 have HRT := Aside0.mk hrt;clear hrt;have hu26 := Try.underlying26;have aC := Aside0.mk aR;have aD := Aside0.mk aT;clear aR aT;have aE := Aside0.mk aU;have aG := Aside0.mk aV;clear aU aV;have aH := Aside0.mk aW;have aI := Aside0.mk aX;clear aW aX;have HB := Aside0.mk (Below.refl w.heap.size w);have H : ((tune_Tune.f k a0 ag ah ai).bind fun al => ((qia.f k a0 ag ah ai).bind fun aJ => (if aJ = 0 then ((qhb.f k a0 ag ah ai).bind fun aQ => ((qdb.f k al.1 al.2.1 al.2.2.1 al.2.2.2 aQ.1 aQ.2.1 aQ.2.2 0).bind fun aY => (if aY = true then ((qbb.f k).bind fun aZ => (some aZ)) else (some false)))) else ((qdb.f k al.1 al.2.1 al.2.2.1 al.2.2.2 ([] : List (S64)) ([] : List (S61)) ([] : List (S66)) aJ).bind fun ba => (if ba = true then ((qbb.f k).bind fun bb => (some bb)) else (some false)))))) = some r := h;clear h;replace H := qqB H;obtain ⟨⟨ay, az, aA, aN⟩, A30, H⟩ := H;(try dsimp only at H);have A3 := Aside0.mk A30;clear A30;replace H := qqB H;obtain ⟨aJ, A40, H⟩ := H;(try dsimp only at H);have A4 := Aside0.mk A40;clear A40
 by_cases c5 : aJ = 0
 rotate_left
 ·rw [if_neg c5] at H
  have bD := beq_eq_false_iff_ne.mpr c5;have bE := bne_iff_ne.mpr c5;replace H := qqB H;obtain ⟨ba, bm, H⟩ := H;(try dsimp only at H);have A28 := Aside0.mk bm;clear bm
  by_cases c29 : ba = true
  rotate_left
  ·replace c29 := Bool.eq_false_iff.mpr c29
   subst c29;replace H := ifF H;exact absurd ((qqI H).trans HRT.out) (by decide)
  subst c29;replace H := ifT H;replace H := qqB H;obtain ⟨bb, bn, H⟩ := H;(try dsimp only at H);have A30 := Aside0.mk bn;clear bn;obtain rfl := qqI H;go_enter Try.func7, Try.ntmps7;go_wp2_with (first | ((with_reducible refine qfa (N := 3) rfl ?_); refine qha ?hg (N := 3) ?hd (cs := #[.slice aq ag.length ar, .slice au ah.length av, .slice aw ai.length ax]) (t := 26) ?hr ?_; (case hd | hg => rfl); (case hr => go_simp; try rfl); intro aK hg w31 hbox hb; have aa := am hbox; have bo := kG HB hg; have bp := kG HB hg; replace HB := kH HB hb; clear hb hbox hg; have Z32 := kz3 aa) | ((with_reducible refine gate_callee (f := 24) rfl ?_); refine goesL_ (some 11) rfl rfl Try.func24 (by kernel_rfl) rfl #[.int .u64 a0, .agg #[.slice aq ag.length ar, .slice au ah.length av, .slice aw ai.length ax]] rfl (by (try simp only [qM1, qM2, qM3]); first | done | rfl) ?_; (with_reducible refine (tune_Tune.calls k a0 _ _ ag _ _ ah _ _ ai ay az aA aN _ ?side1 ?side2 ?side3 ?side4 ?side5 ?side6 A3.out).mono ?_); (case side1 => repeat (first | exact (Kd.C_below aC.out HB.out) | (with_reducible first | refine Kd.C_alloc ?_ _ | refine Kd.C_drewN ?_ _ | refine Kd.C_drew ?_))); (case side2 => exact aD.out); (case side3 => repeat (first | exact (Kd.C_below aE.out HB.out) | (with_reducible first | refine Kd.C_alloc ?_ _ | refine Kd.C_drewN ?_ _ | refine Kd.C_drew ?_))); (case side4 => exact aG.out); (case side5 => repeat (first | exact (Kd.C_below aH.out HB.out) | (with_reducible first | refine Kd.C_alloc ?_ _ | refine Kd.C_drewN ?_ _ | refine Kd.C_drew ?_))); (case side6 => exact aI.out); rintro e w33 ⟨bF, bG, bH, rfl, ho0, ho1, ho2, hb⟩; refine ⟨_, rfl, ?_⟩; have ad := kLR ho0 HB; have ae := kLR ho1 HB; have af := kLS ho2 HB; replace aa := kU aa hb; replace HB := kH HB hb; (try clear hb); (try clear hb2); (try clear hk); (try clear hi); (try clear ho0); (try clear ho1); (try clear ho2)) | ((with_reducible refine qfa (N := 5) rfl ?_); refine qha ?hg (N := 5) ?hd (cs := #[.slice none 0 0, .slice none 0 0, .slice none 0 0]) (t := 26) ?hr ?_; (case hd | hg => rfl); (case hr => go_simp; try rfl); intro aM hg w34 hbox hb; replace ad := kR ad hb; replace ae := kR ae hb; replace af := kS af hb; have ab := am hbox; have bq := kG HB hg; have br := kG HB hg; replace HB := kH HB hb; have aj := kP aa hg; have ak := kQ aa hg; replace aa := kU aa hb; clear hb hbox hg; obtain ⟨bt, bu, bI⟩ := Kd.R_slice ad.out; subst bI; have bU := ak.out; have bV := aj.out; have Z37 := kz3 ab; obtain ⟨bv, bw, bJ⟩ := Kd.R_slice ae.out; subst bJ; obtain ⟨bx, bz, bK⟩ := Kd.S_slice af.out; subst bK; have Z40 := kz3 aa) | ((with_reducible refine gate_callee (f := 17) rfl ?_); refine goesL_ (some 16) rfl rfl Try.func17 (by kernel_rfl) rfl #[.int .u64 a0, .agg #[.slice aq ag.length ar, .slice au ah.length av, .slice aw ai.length ax]] rfl (by (try simp only [qM1, qM2, qM3]); first | done | rfl) ?_; (with_reducible refine (qia.calls k a0 _ _ ag _ _ ah _ _ ai aJ _ ?side1 ?side2 ?side3 ?side4 ?side5 ?side6 A4.out).mono ?_); (case side1 => exact Kd.C_below aC.out (kh HB)); (case side2 => exact aD.out); (case side3 => exact Kd.C_below aE.out (kh HB)); (case side4 => exact aG.out); (case side5 => exact Kd.C_below aH.out (kh HB)); (case side6 => exact aI.out); rintro e w41 ⟨rfl, hb⟩; refine ⟨_, rfl, ?_⟩; replace ad := Aside0.mk (Kd.R_below (kt ad ab) hb); replace ae := Aside0.mk (Kd.R_below (kt ae ab) hb); replace af := Aside0.mk (Kd.S_below (ks af ab) hb); replace aa := kU aa hb; replace ab := kO (o' := .cells #[.slice bt ay.length bu, .slice bv az.length bw, .slice bx aA.length bz] 26 (0, 0)) ab hb; replace HB := kH HB hb; (try clear hb); (try clear hb2); (try clear hk); (try clear hi); have Z42 := kz3 ab) | ((with_reducible refine gate_callee (f := 18) rfl ?_); refine goesL_ (some 23) rfl rfl Try.func18 (by kernel_rfl) rfl #[.agg #[.slice bt ay.length bu, .slice bv az.length bw, .slice bx aA.length bz], .int .i64 aN, .agg #[.slice none 0 0, .slice none 0 0, .slice none 0 0], .int .i64 aJ] rfl (by (try simp only [qM1, qM2, qM3]); first | done | rfl) ?_; (refine (qdb.calls k _ _ ay _ _ az _ _ aA aN _ _ ([] : List (S64)) _ _ ([] : List (S61)) _ _ ([] : List (S66)) aJ true _ ?side1 ?side2 ?side3 ?side4 ?side5 ?side6 ?side7 ?side8 ?side9 ?side10 ?side11 ?side12 A28.out).mono ?_); (case side1 => repeat (first | exact (Kd.R_reads' ad.out).2.2 | (with_reducible first | refine Kd.C_alloc ?_ _ | refine Kd.C_drewN ?_ _ | refine Kd.C_drew ?_))); (case side2 => exact (Kd.R_reads' ad.out).2.1); (case side3 => repeat (first | exact (Kd.R_reads' ae.out).2.2 | (with_reducible first | refine Kd.C_alloc ?_ _ | refine Kd.C_drewN ?_ _ | refine Kd.C_drew ?_))); (case side4 => exact (Kd.R_reads' ae.out).2.1); (case side5 => repeat (first | exact (Kd.S_reads' af.out).2.2 | (with_reducible first | refine Kd.C_alloc ?_ _ | refine Kd.C_drewN ?_ _ | refine Kd.C_drew ?_))); (case side6 => exact (Kd.S_reads' af.out).2.1); (case side7 => exact Kd.C_nil _ _); (case side8 => exact Nat.le_refl _); (case side9 => exact Kd.C_nil _ _); (case side10 => exact Nat.le_refl _); (case side11 => exact Kd.C_nil _ _); (case side12 => exact Nat.le_refl _); rintro e w43 ⟨rfl, hb⟩; refine ⟨_, rfl, ?_⟩; replace ad := kR ad hb; replace ae := kR ae hb; replace af := kS af hb; replace aa := kU aa hb; replace ab := kU ab hb; replace HB := kH HB hb; (try clear hb); (try clear hb2); (try clear hk); (try clear hi)) | (go_at_call 15; (with_reducible refine (qbb.calls k  bb _ A30.out (by first | rfl | exact HRT.out)).mono ?_); rintro e w44 ⟨rfl, hb⟩; replace ad := kR ad hb; replace ae := kR ae hb; replace af := kS af hb; replace aa := kU aa hb; replace ab := kU ab hb; replace HB := kH HB hb; (try clear hb); (try clear hb2); (try clear hk); (try clear hi)));go_ret;exact ⟨er, kh HB⟩
 rw [if_pos c5] at H;have bD := beq_iff_eq.mpr c5;have bE := bne_eq_false_iff_eq.mpr c5;clear c5;replace H := qqB H;obtain ⟨⟨bc, bd, bf⟩, A60, H⟩ := H;(try dsimp only at H);have A6 := Aside0.mk A60;clear A60;replace H := qqB H;obtain ⟨aY, A70, H⟩ := H;(try dsimp only at H);have A7 := Aside0.mk A70;clear A70
 by_cases c8 : aY = true
 rotate_left
 ·replace c8 := Bool.eq_false_iff.mpr c8
  subst c8;replace H := ifF H;exact absurd ((qqI H).trans HRT.out) (by decide)
 subst c8;replace H := ifT H;replace H := qqB H;obtain ⟨aZ, A90, H⟩ := H;(try dsimp only at H);have A9 := Aside0.mk A90;clear A90;obtain rfl := qqI H;go_enter Try.func7, Try.ntmps7;(try go_wp2_with (first | ((with_reducible refine qfa (N := 3) rfl ?_); refine qha ?hg (N := 3) ?hd (cs := #[.slice aq ag.length ar, .slice au ah.length av, .slice aw ai.length ax]) (t := 26) ?hr ?_; (case hd | hg => rfl); (case hr => go_simp; try rfl); intro aK hg w10 hbox hb; have aa := am hbox; have bo := kG HB hg; have bp := kG HB hg; replace HB := kH HB hb; clear hb hbox hg; have Z11 := kz3 aa) | ((with_reducible refine gate_callee (f := 24) rfl ?_); refine goesL_ (some 11) rfl rfl Try.func24 (by kernel_rfl) rfl #[.int .u64 a0, .agg #[.slice aq ag.length ar, .slice au ah.length av, .slice aw ai.length ax]] rfl (by (try simp only [qM1, qM2, qM3]); first | done | rfl) ?_; (with_reducible refine (tune_Tune.calls k a0 _ _ ag _ _ ah _ _ ai ay az aA aN _ ?side1 ?side2 ?side3 ?side4 ?side5 ?side6 A3.out).mono ?_); (case side1 => repeat (first | exact (Kd.C_below aC.out HB.out) | (with_reducible first | refine Kd.C_alloc ?_ _ | refine Kd.C_drewN ?_ _ | refine Kd.C_drew ?_))); (case side2 => exact aD.out); (case side3 => repeat (first | exact (Kd.C_below aE.out HB.out) | (with_reducible first | refine Kd.C_alloc ?_ _ | refine Kd.C_drewN ?_ _ | refine Kd.C_drew ?_))); (case side4 => exact aG.out); (case side5 => repeat (first | exact (Kd.C_below aH.out HB.out) | (with_reducible first | refine Kd.C_alloc ?_ _ | refine Kd.C_drewN ?_ _ | refine Kd.C_drew ?_))); (case side6 => exact aI.out); rintro e w12 ⟨bF, bG, bH, rfl, ho0, ho1, ho2, hb⟩; refine ⟨_, rfl, ?_⟩; have ad := kLR ho0 HB; have ae := kLR ho1 HB; have af := kLS ho2 HB; replace aa := kU aa hb; replace HB := kH HB hb; (try clear hb); (try clear hb2); (try clear hk); (try clear hi); (try clear ho0); (try clear ho1); (try clear ho2)) | ((with_reducible refine qfa (N := 5) rfl ?_); refine qha ?hg (N := 5) ?hd (cs := #[.slice none 0 0, .slice none 0 0, .slice none 0 0]) (t := 26) ?hr ?_; (case hd | hg => rfl); (case hr => go_simp; try rfl); intro aM hg w13 hbox hb; replace ad := kR ad hb; replace ae := kR ae hb; replace af := kS af hb; have ab := am hbox; have bq := kG HB hg; have br := kG HB hg; replace HB := kH HB hb; have aj := kP aa hg; have ak := kQ aa hg; replace aa := kU aa hb; clear hb hbox hg; obtain ⟨bg, bh, bL⟩ := Kd.R_slice ad.out; subst bL; have bW := ak.out; have bX := aj.out; have Z16 := kz3 ab; obtain ⟨bi, bj, bM⟩ := Kd.R_slice ae.out; subst bM; obtain ⟨bk, bl, bN⟩ := Kd.S_slice af.out; subst bN; have Z19 := kz3 aa) | ((with_reducible refine gate_callee (f := 17) rfl ?_); refine goesL_ (some 16) rfl rfl Try.func17 (by kernel_rfl) rfl #[.int .u64 a0, .agg #[.slice aq ag.length ar, .slice au ah.length av, .slice aw ai.length ax]] rfl (by (try simp only [qM1, qM2, qM3]); first | done | rfl) ?_; (with_reducible refine (qia.calls k a0 _ _ ag _ _ ah _ _ ai aJ _ ?side1 ?side2 ?side3 ?side4 ?side5 ?side6 A4.out).mono ?_); (case side1 => exact Kd.C_below aC.out (kh HB)); (case side2 => exact aD.out); (case side3 => exact Kd.C_below aE.out (kh HB)); (case side4 => exact aG.out); (case side5 => exact Kd.C_below aH.out (kh HB)); (case side6 => exact aI.out); rintro e w20 ⟨rfl, hb⟩; refine ⟨_, rfl, ?_⟩; replace ad := Aside0.mk (Kd.R_below (kt ad ab) hb); replace ae := Aside0.mk (Kd.R_below (kt ae ab) hb); replace af := Aside0.mk (Kd.S_below (ks af ab) hb); replace aa := kU aa hb; replace ab := kO (o' := .cells #[.slice bg ay.length bh, .slice bi az.length bj, .slice bk aA.length bl] 26 (0, 0)) ab hb; replace HB := kH HB hb; (try clear hb); (try clear hb2); (try clear hk); (try clear hi))));replace ad := kFR ad; replace ae := kFR ae; replace af := kFS af; replace aa := kD aa; replace ab := kD ab; replace HB := kE HB;refine start_ (n := 10) (S := fun w' => w'.cell? ⟨aM, 0, none⟩ = some (.slice bg ay.length bh) ∧ w'.cell? ⟨aM, 1, none⟩ = some (.slice bi az.length bj) ∧ w'.cell? ⟨aM, 2, none⟩ = some (.slice bk aA.length bl) ∧ w'.cell? ⟨aK, 0, none⟩ = some (.slice aq ag.length ar) ∧ w'.cell? ⟨aK, 1, none⟩ = some (.slice au ah.length av) ∧ w'.cell? ⟨aK, 2, none⟩ = some (.slice aw ai.length ax)) (ds := []) (bs 10 0) (by kernel_rfl) rfl rfl ⟨kk ab 0, kk ab 1, kk ab 2, kk aa 0, kk aa 1, kk aa 2⟩ (fun hHeld => ?_); refine with_tabW qsa.tab5 qsa.bits5 (fun HT_ HW_ => ?_);generalize w20.drew = w21 at ad ae af aa ab HB hHeld ⊢;refine pu 1 (some 28) (bs 10 2) HT_ ?_;refine pu 2 (some 29) (bs 10 6) HT_ ?_;refine ta 0 (some 27) (bs 10 7) HT_ HW_ hHeld ?_;refine ta 3 (some 30) (bs 10 15) HT_ HW_ hHeld ?_;refine one_ (i := 4) (N := some 31) (bs 10 31) rfl rfl (one_of HT_.out (by kernel_rfl)) (by decide) (fun K hK => ?_);refine goes_ Try.func25 (by kernel_rfl) rfl #[.int .u64 a0, .agg #[.slice aq ag.length ar, .slice au ah.length av, .slice aw ai.length ax]] (by rfl) rfl rfl (by (try simp only [qM1, qM2, qM3]); first | done | rfl) ?_;(with_reducible refine (qhb.calls k a0 _ _ ag _ _ ah _ _ ai bc bd bf _ ?side1 ?side2 ?side3 ?side4 ?side5 ?side6 A6.out).mono ?_);(case side1 => repeat (first | exact (Kd.C_below aC.out HB.out) | (with_reducible first | refine Kd.C_alloc ?_ _ | refine Kd.C_drewN ?_ _ | refine Kd.C_drew ?_)));(case side2 => exact aD.out);(case side3 => repeat (first | exact (Kd.C_below aE.out HB.out) | (with_reducible first | refine Kd.C_alloc ?_ _ | refine Kd.C_drewN ?_ _ | refine Kd.C_drew ?_)));(case side4 => exact aG.out);(case side5 => repeat (first | exact (Kd.C_below aH.out HB.out) | (with_reducible first | refine Kd.C_alloc ?_ _ | refine Kd.C_drewN ?_ _ | refine Kd.C_drew ?_)));(case side6 => exact aI.out);rintro e w22 ⟨bY, bZ, ca, rfl, ho0, ho1, ho2, hb⟩;refine ⟨_, rfl, ?_⟩;have an := Aside0.mk (Kd.R_lower (Kd.R_new' ho0 (Kd.R_lt (krR ad))) (below_size (kh HB))); replace ad := Aside0.mk (Kd.R_elder' (krR ad) (Kd.R_base ho0) hb); have ao := Aside0.mk (Kd.R_lower (Kd.R_new' ho1 (Kd.R_lt (krR ae))) (below_size (kh HB))); replace ae := Aside0.mk (Kd.R_elder' (krR ae) (Kd.R_base ho1) hb); have ap := Aside0.mk (Kd.S_lower (Kd.S_new' ho2 (Kd.S_lt (krS af))) (below_size (kh HB))); replace af := Aside0.mk (Kd.S_elder' (krS af) (Kd.S_base ho2) hb); replace aa := kU aa hb; replace ab := kU ab hb; replace HB := kH HB hb;(try clear hb ho0 ho1 ho2);obtain ⟨bO, bP, bA⟩ := Kd.R_slice an.out;(first | subst bA | (injection bA with f1_ f2_ f3_; have f4_ := f1_.symm; have f5_ := f3_.symm; clear f1_ f2_ f3_; subst f4_; subst f5_));obtain ⟨bQ, bR, bB⟩ := Kd.R_slice ao.out;(first | subst bB | (injection bB with f1_ f2_ f3_; have f4_ := f1_.symm; have f5_ := f3_.symm; clear f1_ f2_ f3_; subst f4_; subst f5_));obtain ⟨bS, bT, bC⟩ := Kd.S_slice ap.out;(first | subst bC | (injection bC with f1_ f2_ f3_; have f4_ := f1_.symm; have f5_ := f3_.symm; clear f1_ f2_ f3_; subst f4_; subst f5_));refine hK.out _ _ ⟨kk ab 0, kk ab 1, kk ab 2, kk aa 0, kk aa 1, kk aa 2⟩ (fun hHeld => ?_);clear hK K;refine no (some 31) ?_;refine one_ (i := 5) (N := some 32) (bs 10 63) rfl rfl (one_of HT_.out (by kernel_rfl)) (by decide) (fun K hK => ?_);refine goes_ Try.func18 (by kernel_rfl) rfl #[.agg #[.slice bg ay.length bh, .slice bi az.length bj, .slice bk aA.length bl], .int .i64 aN, .agg #[.slice bO bc.length bP, .slice bQ bd.length bR, .slice bS bf.length bT], .int .i64 0] (by rfl) rfl rfl (by (try simp only [qM1, qM2, qM3]); first | done | rfl) ?_;(with_reducible refine (qdb.calls k _ _ ay _ _ az _ _ aA aN _ _ bc _ _ bd _ _ bf 0 true _ ?side1 ?side2 ?side3 ?side4 ?side5 ?side6 ?side7 ?side8 ?side9 ?side10 ?side11 ?side12 A7.out).mono ?_);(case side1 => repeat (first | exact (Kd.R_reads' ad.out).2.2 | (with_reducible first | refine Kd.C_alloc ?_ _ | refine Kd.C_drewN ?_ _ | refine Kd.C_drew ?_)));(case side2 => exact (Kd.R_reads' ad.out).2.1);(case side3 => repeat (first | exact (Kd.R_reads' ae.out).2.2 | (with_reducible first | refine Kd.C_alloc ?_ _ | refine Kd.C_drewN ?_ _ | refine Kd.C_drew ?_)));(case side4 => exact (Kd.R_reads' ae.out).2.1);(case side5 => repeat (first | exact (Kd.S_reads' af.out).2.2 | (with_reducible first | refine Kd.C_alloc ?_ _ | refine Kd.C_drewN ?_ _ | refine Kd.C_drew ?_)));(case side6 => exact (Kd.S_reads' af.out).2.1);(case side7 => repeat (first | exact (Kd.R_reads' an.out).2.2 | (with_reducible first | refine Kd.C_alloc ?_ _ | refine Kd.C_drewN ?_ _ | refine Kd.C_drew ?_)));(case side8 => exact (Kd.R_reads' an.out).2.1);(case side9 => repeat (first | exact (Kd.R_reads' ao.out).2.2 | (with_reducible first | refine Kd.C_alloc ?_ _ | refine Kd.C_drewN ?_ _ | refine Kd.C_drew ?_)));(case side10 => exact (Kd.R_reads' ao.out).2.1);(case side11 => repeat (first | exact (Kd.S_reads' ap.out).2.2 | (with_reducible first | refine Kd.C_alloc ?_ _ | refine Kd.C_drewN ?_ _ | refine Kd.C_drew ?_)));(case side12 => exact (Kd.S_reads' ap.out).2.1);rintro e w26 ⟨rfl, hb⟩;refine ⟨_, rfl, ?_⟩;replace ad := kR ad hb; replace ae := kR ae hb; replace af := kS af hb; replace an := kR an hb; replace ao := kR ao hb; replace ap := kS ap hb; replace aa := kU aa hb; replace ab := kU ab hb; replace HB := kH HB hb;(try clear hb);refine hK.out _ _ ⟨kk ab 0, kk ab 1, kk ab 2, kk aa 0, kk aa 1, kk aa 2⟩ (fun hHeld => ?_);clear hK K;refine no (some 32) ?_;refine pu 6 (some 33) (bs 10 127) HT_ ?_;refine one_ (i := 7) (N := some 34) (bs 10 255) rfl rfl (one_of HT_.out (by kernel_rfl)) (by decide) (fun K hK => ?_);refine goes_ Try.func15 (by kernel_rfl) rfl #[] (by rfl) rfl rfl (by (try simp only [qM1, qM2, qM3]); first | done | rfl) ?_;(with_reducible refine (qbb.calls k  aZ _ A9.out (by first | rfl | exact HRT.out)).mono ?_);rintro e w27 ⟨rfl, hb⟩;refine ⟨_, rfl, ?_⟩;replace ad := kR ad hb; replace ae := kR ae hb; replace af := kS af hb; replace an := kR an hb; replace ao := kR ao hb; replace ap := kS ap hb; replace aa := kU aa hb; replace ab := kU ab hb; replace HB := kH HB hb;(try clear hb);refine hK.out _ _ ⟨kk ab 0, kk ab 1, kk ab 2, kk aa 0, kk aa 1, kk aa 2⟩ (fun hHeld => ?_);clear hK K;refine no (some 34) ?_;refine pu 8 (some 35) (bs 10 511) HT_ ?_;refine pu 9 (some 4) (bs 10 1023) HT_ ?_;refine done_ (done_of HT_.out (by kernel_rfl)) ?_;(try go_wp2);go_ret;exact ⟨er, kh HB⟩
end Go.Proofs.Ytmlbliggbkfjnaa.J
/- What comes in laid out as a type says is a value of a kind, within the bounds that its weights leave: once for every type. -/
namespace Go.Proofs.Ytmlbliggbkfjnaa.Op
open Go.RowKit Go.Proofs.YtmlbliggbkfjnaaW.PrintWords Go.Proofs.YtmlbliggbkfjnaaW.PrintLast Go.Proofs.YtmlbliggbkfjnaaW.PrintMore
def Opens {α : Type} (P : Program) (d : Kd α) (t : TypeId) (wf : α → Prop) : Prop :=
  ∀ (H : Type) (enc : TypeId × Value → H) (w : World) (base fuel : Nat) (spare : Nat → Bool) (held : Bool) (cs : List Value) (x : DataW H × List MemPlace), cs.length = d.sz →
    DataW.trod enc P w base spare held fuel t cs = some x → (x.1.weights P t).all (· ≤ reachBytes) = true → ∃ a, d.K w a cs ∧ wf a
theorem op_int {P : Program} {t : TypeId} {k : IntKind} (ht : P.underlying t = some (.int k)) : Opens P (Kd.int k) t (fun n => (Lit.int k n).wf = true) := by
  intro H enc w base fuel spare held cs x _ h _;obtain ⟨n, rfl, _, hw⟩ := DataW.trod_int ht h;exact ⟨n, rfl, hw⟩
theorem op_bool {P : Program} {t : TypeId} (ht : P.underlying t = some .bool) : Opens P Kd.bool t (fun _ => True) := by
  intro H enc w base fuel spare held cs x _ h _;obtain ⟨n, rfl, _⟩ := DataW.trod_bool ht h;exact ⟨n, rfl, trivial⟩
theorem all_weights {H : Type} {P : Program} {e : TypeId} {p : Nat → Bool} : ∀ (ds : List (DataW H)), (DataW.weightsAll P e ds).all p = true → ∀ d ∈ ds, (d.weights P e).all p = true
  | [], _, d, hd => by simp at hd
  | a :: r, h, d, hd => by
    unfold DataW.weightsAll at h;rw [List.all_append, Bool.and_eq_true] at h
    rcases List.mem_cons.1 hd with rfl | hd
    · exact h.1
    · exact all_weights r h.2 d hd
theorem add_add_ (a : Addr) (i j : Nat) : a.add (i + j) = (a.add i).add j := by
  cases a
  unfold Addr.add
  rcases Nat.eq_zero_or_pos i with hi | hi <;> rcases Nat.eq_zero_or_pos j with hj | hj
  · simp [hi, hj]
  · simp [hi, show j ≠ 0 by omega]
  · simp [hj, show i ≠ 0 by omega]
  · simp [show i ≠ 0 by omega, show j ≠ 0 by omega, Nat.add_assoc]
theorem pick {β : Type} {p : Nat → β → Prop} : ∀ n, (∀ i : Nat, i < n → ∃ q, p i q) → ∃ l : List β, l.length = n ∧ ∀ (i : Nat) (q : β), l[i]? = some q → p i q
  | 0, _ => ⟨[], rfl, fun i q h => by simp at h⟩
  | n + 1, h => by
    obtain ⟨l, hl, hp⟩ := pick n (fun i hi => h i (by omega));obtain ⟨q, hq⟩ := h n (by omega);refine ⟨l ++ [q], by simp [hl], fun i r hr => ?_⟩
    rcases Nat.lt_or_ge i l.length with hi | hi
    · rw [List.getElem?_append_left hi] at hr
      exact hp i r hr
    · rw [List.getElem?_append_right hi] at hr
      have h0 : i - l.length = 0 := by
        rcases Nat.eq_zero_or_pos (i - l.length) with h' | h'
        · exact h'
        · rw [List.getElem?_eq_none (by simp; omega)] at hr; cases hr
      rw [h0] at hr
      obtain rfl : q = r := by simpa using hr
      have : i = n := by omega
      rw [this]; exact hq
theorem weights_at {H : Type} {P : Program} {p : Nat → Bool} : ∀ (ts : List TypeId) (ds : List (DataW H)) (j : Nat) {t : TypeId} {d : DataW H}, (DataW.weightsEach P ts ds).all p = true → ts[j]? = some t → ds[j]? = some d → (d.weights P t).all p = true
  | [], _, _, _, _, _, ht, _ => by simp at ht
  | _ :: _, [], _, _, _, _, _, hd => by simp at hd
  | t :: ts, d :: ds, j, t', d', h, ht, hd => by
    unfold DataW.weightsEach at h;rw [List.all_append, Bool.and_eq_true] at h
    match j, ht, hd with
    | 0, ht, hd =>
      obtain rfl : t = t' := by simpa using ht
      obtain rfl : d = d' := by simpa using hd
      exact h.1
    | j + 1, ht, hd => exact weights_at ts ds j h.2 (by simpa using ht) (by simpa using hd)
theorem op_slice {α : Type} {P : Program} {d : Kd α} {t e : TypeId} {B : Nat} {wf : α → Prop} (ht : P.underlying t = some (.slice e)) (hB : P.bytesOf e = B) (hsz : P.cellsOf e = d.sz) (he : Opens P d e wf) :
    Opens P (Kd.slice e d) t (fun l => l.length ≤ maxLen ∧ l.length * B ≤ 140737488351232 ∧ ∀ a ∈ l, wf a) := by
  intro H enc w base fuel spare held cs x _ h hw
  rcases Go.Deep.open_slice ht h with ⟨rfl, _⟩ | ⟨a, len, cap, m, n, D, Pl, rfl, hb, hl, hm, hmm, rfl, hx⟩
  · exact ⟨[], ⟨none, 0, rfl, Nat.le_refl _, rfl, Nat.zero_le _, fun h0 => absurd h0 (by simp)⟩, by simp, by simp, fun a ha => by simp at ha⟩
  · have hlm : len ≤ m := by rw [hmm]; split <;> omega
    simp only [DataW.weights, ht, List.all_cons, List.all_append, Bool.and_eq_true, List.length_map, List.length_range] at hw;obtain ⟨hw0, hw1, _⟩ := hw
    have each : ∀ i : Nat, i < len → ∃ q : α, wf q ∧ ∃ c : List Value, c.length = d.sz ∧ d.K w q c ∧ ∀ j u, c[j]? = some u → w.cell? (a.add (i * d.sz + j)) = some u := by
      intro i hi;obtain ⟨cs', h1, h2⟩ := hx i (by omega);rw [hsz] at h1;obtain ⟨_, hlen, hcell⟩ := World.cells?_some h1;obtain ⟨y, hK, hwf⟩ := he H enc w base n spare held cs' _ hlen h2 (all_weights _ hw1 _ (List.mem_map.2 ⟨i, List.mem_range.2 hi, rfl⟩));refine ⟨y, hwf, cs', hlen, hK, fun j u hu => ?_⟩
      have hj : j < d.sz := by
        rw [← hlen]
        rcases Nat.lt_or_ge j cs'.length with h' | h'
        · exact h'
        · rw [List.getElem?_eq_none h'] at hu; cases hu
      have := hcell j hj;rw [hu] at this;rw [show a.add (i * d.sz + j) = (a.add (i * d.sz)).add j from add_add_ _ _ _];exact this
    obtain ⟨l, rfl, hl2⟩ := pick len each;refine ⟨l, ⟨some a, cap, rfl, hl, rfl, Nat.le_trans hl hm, fun _ => ⟨a, rfl, fun j p hj => (hl2 j p hj).2⟩⟩, Nat.le_trans hl hm, ?_, ?_⟩
    · have hw2 := of_decide_eq_true hw0
      rw [hB] at hw2;exact Nat.le_trans (Nat.mul_le_mul_right _ (by omega)) hw2
    · intro y hy
      obtain ⟨j, hj⟩ := List.mem_iff_getElem?.1 hy;exact (hl2 j y hj).1
def OpL {β : Type} (P : Program) (d : Kd β) (fs : List Field) (o : Nat) (wf : β → Prop) : Prop :=
  ∀ (H : Type) (enc : TypeId × Value → H) (w : World) (base n : Nat) (spare : Nat → Bool) (held : Bool) (cs : List Value) (xs : List (DataW H × List MemPlace)), cs.length = d.sz → xs.length = fs.length →
    (∀ (i : Nat) (f : Field), fs[i]? = some f → DataW.trod enc P w base spare held n f.type ((cs.drop (f.offset - o)).take (P.cellsOf f.type)) = xs[i]?) →
    (DataW.weightsEach P (fs.map (·.type)) (xs.map (·.1))).all (· ≤ reachBytes) = true → ∃ a, d.K w a cs ∧ wf a
theorem opL_one {β : Type} {P : Program} {d : Kd β} {f : Field} {o : Nat} {wf : β → Prop} (ho : f.offset = o) (hc : P.cellsOf f.type = d.sz) (h : Opens P d f.type wf) : OpL P d [f] o wf := by
  intro H enc w base n spare held cs xs hl hx hf hw
  match xs, hx with
  | [y], _ =>
    have h0 := hf 0 f rfl;rw [ho, Nat.sub_self, List.drop_zero, hc, ← hl, List.take_length] at h0;simp only [List.map_cons, List.map_nil, DataW.weightsEach, List.append_nil] at hw;exact h H enc w base n spare held cs y hl h0 hw
theorem opL_cons {α β : Type} {P : Program} {d1 : Kd α} {d : Kd β} {f : Field} {fs : List Field} {o : Nat} {wf1 : α → Prop} {wf : β → Prop} (ho : f.offset = o) (hc : P.cellsOf f.type = d1.sz) (h1 : Opens P d1 f.type wf1)
    (aa : (fs.all fun g => decide (o + d1.sz ≤ g.offset)) = true) (h : OpL P d fs (o + d1.sz) wf) : OpL P (Kd.pair d1 d) (f :: fs) o (fun x => wf1 x.1 ∧ wf x.2) := by
  have hfs : ∀ g ∈ fs, o + d1.sz ≤ g.offset := fun g hg => of_decide_eq_true (List.all_eq_true.1 aa g hg)
  intro H enc w base n spare held cs xs hl hx hf hw;have hl' : cs.length = d1.sz + d.sz := hl
  match xs, hx with
  | y :: ys, hx =>
    have h0 := hf 0 f rfl;rw [ho, Nat.sub_self, List.drop_zero, hc] at h0;simp only [List.map_cons, DataW.weightsEach, List.all_append, Bool.and_eq_true] at hw;obtain ⟨a, ka, wa⟩ := h1 H enc w base n spare held (cs.take d1.sz) y (by rw [List.length_take]; omega) h0 hw.1
    obtain ⟨b, kb, wb⟩ := h H enc w base n spare held (cs.drop d1.sz) ys (by rw [List.length_drop]; omega) (by simpa using hx) (fun i g hg => by
      have := hf (i + 1) g (by simpa using hg);rw [List.drop_drop];have hg2 := hfs g (List.mem_of_getElem? hg);rw [show d1.sz + (g.offset - (o + d1.sz)) = g.offset - o by omega, this]
      simp) hw.2
    exact ⟨(a, b), ⟨cs.take d1.sz, cs.drop d1.sz, (List.take_append_drop _ _).symm, ka, kb⟩, wa, wb⟩
theorem op_struct {α β : Type} {P : Program} {d : Kd α} {t : TypeId} {fs : Array Field} {wf : α → Prop} {p : β → α} (g : α → β) (hg : ∀ a, p (g a) = a) (ht : P.underlying t = some (.struct fs)) (h : OpL P d fs.toList 0 wf) :
    Opens P (Kd.iso d p) t (fun b => wf (p b)) := by
  intro H enc w base fuel spare held cs x hl hx hw;obtain ⟨xs, n, rfl, rfl, _, hxl, hf⟩ := DataW.trod_struct ht hx;simp only [DataW.weights, ht] at hw
  obtain ⟨a, ka, wa⟩ := h H enc w base n spare held cs xs hl (by simpa using hxl) (fun i f hi => by
    rw [Nat.sub_zero]
    exact hf i f (by simpa using hi)) hw
  refine ⟨g a, ?_, ?_⟩
  · show d.K w (p (g a)) cs
    rw [hg]; exact ka
  · show wf (p (g a))
    rw [hg]; exact wa
theorem op_agg {α : Type} {P : Program} {d : Kd α} {t : TypeId} {fs : Array Field} {wf : α → Prop} (ht : P.underlying t = some (.struct fs)) (h : OpL P d fs.toList 0 wf) : Opens P d t wf :=
  op_struct (d := d) (p := fun a => a) (fun a => a) (fun _ => rfl) ht h
theorem op_array2 {α : Type} {P : Program} {d : Kd α} {t e : TypeId} {wf : α → Prop} (ht : P.underlying t = some (.array 2 e)) (hc : P.cellsOf e = d.sz) (h : Opens P d e wf) : Opens P (Kd.pair d d) t (fun x => wf x.1 ∧ wf x.2) := by
  intro H enc w base fuel spare held cs x hl hx hw;obtain ⟨xs, m, rfl, rfl, _, hxl, hf⟩ := DataW.trod_array ht hx;simp only [DataW.weights, ht] at hw;have hl' : cs.length = d.sz + d.sz := hl
  match xs, hxl with
  | [y, z], _ =>
    have h0 := hf 0 (by omega);have h1 := hf 1 (by omega);rw [Nat.zero_mul, List.drop_zero, hc] at h0;rw [Nat.one_mul, hc, List.take_of_length_le (by rw [List.length_drop]; omega)] at h1;simp only [List.map_cons, List.map_nil, DataW.weightsAll, List.all_append, Bool.and_eq_true] at hw;obtain ⟨a, ka, wa⟩ := h H enc w base m spare held (cs.take d.sz) y (by rw [List.length_take]; omega) h0 hw.1;obtain ⟨b, kb, wb⟩ := h H enc w base m spare held (cs.drop d.sz) z (by rw [List.length_drop]; omega) h1 hw.2.1;exact ⟨(a, b), ⟨cs.take d.sz, cs.drop d.sz, (List.take_append_drop _ _).symm, ka, kb⟩, wa, wb⟩
theorem okWide_arr {P : Program} {W : World} {r : Reach} {b0 : Nat} {t e : TypeId} {n : Nat} {v : Value} (ht : P.underlying t = some (.array n e)) (h : Value.okWide P W r b0 t v) : ∃ cs, v = .agg cs ∧ cs.size = P.cellsOf t := by
  simp only [Value.okWide, ht] at h;obtain ⟨cs, h1, h2, _⟩ := h;exact ⟨cs, h1, h2⟩
theorem okWide_agg {P : Program} {W : World} {r : Reach} {b0 : Nat} {t : TypeId} {fs : Array Field} {v : Value} (ht : P.underlying t = some (.struct fs)) (h : Value.okWide P W r b0 t v) : ∃ cs, v = .agg cs ∧ cs.size = P.cellsOf t := by
  simp only [Value.okWide, ht] at h;obtain ⟨cs, h1, h2, _⟩ := h;exact ⟨cs, h1, h2⟩
theorem arg {α H : Type} {enc : TypeId × Value → H} {P : Program} {d : Kd α} {t : TypeId} {wf : α → Prop} (h : Opens P d t wf) {w : World} {base : Nat} {spare : Nat → Bool} {held : Bool} {v : Value} {x : DataW H} {ps : List MemPlace}
    (hl : v.cells.toList.length = d.sz) (hv : DataW.Trod enc P w base spare held t v x ps) {ts : List TypeId} {ds : List (DataW H)} {j : Nat} (hsz : (DataW.weightsEach P ts ds).all (· ≤ reachBytes) = true) (ht : ts[j]? = some t) (hd : ds[j]? = some x) :
    ∃ a, d.K w a v.cells.toList ∧ wf a := by
  obtain ⟨fuel, hf⟩ := hv;exact h H enc w base fuel spare held _ _ hl hf (weights_at ts ds j hsz ht hd)
end Go.Proofs.Ytmlbliggbkfjnaa.Op
/- Three closed facts over the whole program, with its header's words as numbers. -/
namespace Go.Proofs.Ytmlbliggbkfjnaa.Facts
theorem toList_of (s : String) (l : List Char) (h : s = String.ofList l) : s.toList = l := by rw [h, String.toList_ofList]
def glue : List (List Char) → List Char
  | [] => []
  | [w] => w
  | w :: v :: r => w ++ Char.ofNat 32 :: glue (v :: r)
theorem signs_space (r : List Char) : wordsSigns (Char.ofNat 32 :: r) = [] :: wordsSigns r := rfl
theorem signs_cons (c : Char) (r : List Char) (h : c ≠ Char.ofNat 32) (w : List Char) (ws : List (List Char)) (e : wordsSigns r = w :: ws) : wordsSigns (c :: r) = (c :: w) :: ws := by
  rw [wordsSigns]
  · rw [e]
  · exact h
theorem signs_one : ∀ (w : List Char), (∀ c ∈ w, c ≠ Char.ofNat 32) → wordsSigns w = [w]
  | [], _ => rfl
  | c :: w, h => signs_cons c w (h c (List.mem_cons_self ..)) _ _ (signs_one w (fun d hd => h d (List.mem_cons_of_mem _ hd)))
theorem signs_more (r : List Char) : ∀ (w : List Char), (∀ c ∈ w, c ≠ Char.ofNat 32) → wordsSigns (w ++ Char.ofNat 32 :: r) = w :: wordsSigns r
  | [], _ => signs_space r
  | c :: w, h => signs_cons c _ (h c (List.mem_cons_self ..)) _ _ (signs_more r w (fun d hd => h d (List.mem_cons_of_mem _ hd)))
theorem signs_glue : ∀ (ws : List (List Char)), ws ≠ [] → (∀ w ∈ ws, ∀ c ∈ w, c ≠ Char.ofNat 32) → wordsSigns (glue ws) = ws
  | [], h, _ => absurd rfl h
  | [w], _, h => signs_one w (h w (List.mem_cons_self ..))
  | w :: v :: r, _, h => by
    rw [glue, signs_more _ w (h w (List.mem_cons_self ..)), signs_glue (v :: r) (by simp) (fun u hu => h u (List.mem_cons_of_mem _ hu))]
def W : List (List Char) := (List.map (List.map Char.ofNat) [[104, 97, 114, 110, 101, 115, 115],
  [57, 102, 101, 51, 102, 100, 99, 53, 49, 100, 57, 100, 102, 56, 54, 48, 56, 53, 55, 52, 52, 48, 57, 101, 56, 99, 100, 99, 99, 53, 54, 99, 49, 98, 57, 102, 57, 51, 54, 97, 99, 99, 57, 99, 48, 98, 56, 53, 101, 98, 53, 56, 55, 54, 48, 97, 49, 50, 51, 51, 54, 99, 50, 99],
  [99, 117, 116],
  [97, 116],
  [106, 117, 110, 116, 111, 47, 106, 117, 110, 116, 111, 108, 97, 119, 49, 54, 46, 84, 117, 110, 101, 76, 101, 118, 101, 108, 115],
  [106, 117, 110, 116, 111, 47, 106, 117, 110, 116, 111, 108, 97, 119, 49, 54, 46, 84, 117, 110, 101, 70, 111, 108, 100, 115],
  [106, 117, 110, 116, 111, 47, 106, 117, 110, 116, 111, 108, 97, 119, 49, 54, 46, 84, 117, 110, 101, 83, 104, 97, 114, 101, 115],
  [106, 117, 110, 116, 111, 47, 106, 117, 110, 116, 111, 108, 97, 119, 49, 54, 46, 84, 117, 110, 101, 80, 114, 117, 110, 101, 115],
  [106, 117, 110, 116, 111, 47, 106, 117, 110, 116, 111, 108, 97, 119, 49, 54, 46, 84, 117, 110, 101, 84, 117, 110, 101, 115],
  [106, 117, 110, 116, 111, 47, 106, 117, 110, 116, 111, 108, 97, 119, 49, 54, 46, 84, 117, 110, 101, 83, 97, 109, 101],
  [106, 117, 110, 116, 111, 47, 106, 117, 110, 116, 111, 108, 97, 119, 49, 54, 46, 84, 117, 110, 101, 76, 101, 115, 115],
  [106, 117, 110, 116, 111, 47, 106, 117, 110, 116, 111, 108, 97, 119, 49, 54, 46, 84, 117, 110, 101, 68, 111, 110, 101],
  [106, 117, 110, 116, 111, 47, 106, 117, 110, 116, 111, 108, 97, 119, 49, 54, 46, 84, 117, 110, 101, 82, 111, 117, 110, 100, 115]])
theorem head : Try.pinned.checked.prog.initOrder.toList = glue W := toList_of _ _ (by kernel_rfl)
theorem plain : (W.all fun w => w.all fun c => c.toNat != 32) = true := by kernel_rfl
theorem signs : wordsSigns Try.pinned.checked.prog.initOrder.toList = W := by
  rw [head]
  refine signs_glue W (by simp [W]) fun w hw c hc e => ?_
  have h := List.all_eq_true.1 (List.all_eq_true.1 plain w hw) c hc;rw [e] at h;cases h
theorem words : behindMainWord (wordsSigns Try.pinned.checked.prog.initOrder.toList) = W.drop 2 := by
  rw [signs]
  kernel_rfl
theorem lifts : Try.pinned.checked.prog.headLifts = [] := by
  unfold Program.headLifts;rw [words]
  kernel_rfl
theorem final : Try.pinned.checked.prog.liftsFinal = false := by
  unfold Program.liftsFinal;rw [words, lifts]
  kernel_rfl
theorem made_of (P : Program) (rest : List (List Char)) (h : behindMainWord (wordsSigns P.initOrder.toList) = [Char.ofNat 99, Char.ofNat 117, Char.ofNat 116] :: rest) : P.make = some .cut := by
  unfold Program.make;rw [h]
  kernel_rfl
theorem enters_of (P : Program) (rest : List (List Char)) (h : behindMainWord (wordsSigns P.initOrder.toList) = [Char.ofNat 99, Char.ofNat 117, Char.ofNat 116] :: rest) (hl : P.laysLater = false) (hb : P.bearsReflect = false) (hd : P.doorFits [] = true)
    (hs : stripLifts liftWords ([Char.ofNat 99, Char.ofNat 117, Char.ofNat 116] :: rest) = ([], [Char.ofNat 99, Char.ofNat 117, Char.ofNat 116] :: rest)) : P.mayEnter = true := by
  unfold Program.mayEnter;rw [h];simp only [hs, hl, hb, hd]
  kernel_rfl
theorem made : Try.pinned.checked.prog.make = some .cut := made_of _ (W.drop 3) (words.trans (by kernel_rfl))
theorem enters : Try.pinned.checked.prog.mayEnter = true := enters_of _ (W.drop 3) (words.trans (by kernel_rfl)) (by kernel_rfl) (by kernel_rfl) (by kernel_rfl) (by kernel_rfl)
end Go.Proofs.Ytmlbliggbkfjnaa.Facts
/- Gates: what they may be, what they mean, and their folding. -/
namespace Go.Proofs.Ytmlbliggbkfjnaa.L
open Go.RowKit Go.Proofs.YtmlbliggbkfjnaaW.PrintWords Go.Proofs.Ytmlbliggbkfjnaa.J
def atI (l : List Int) (i : Int) : Int := l.getD i.toNat 0
def atG (l : List S61) (i : Int) : S61 := l.getD i.toNat ⟨0, 0, 0, 0⟩
def okG (p s i : Int) (g : S61) : Prop :=
  (g.f0 = 1 ∧ 0 ≤ g.f1 ∧ g.f1 < s ∧ g.f2 = 0 ∧ g.f3 = 0) ∨
  (g.f0 = 2 ∧ g.f1 = 0 ∧ g.f2 = 0 ∧ 0 ≤ g.f3 ∧ g.f3 < p) ∨
  ((g.f0 = 3 ∨ g.f0 = 4 ∨ g.f0 = 5) ∧ 0 ≤ g.f1 ∧ g.f1 < i ∧ 0 ≤ g.f2 ∧ g.f2 < i ∧ g.f3 = 0) ∨
  (g.f0 = 6 ∧ 0 ≤ g.f1 ∧ g.f1 < i ∧ g.f2 = 0 ∧ 0 ≤ g.f3 ∧ g.f3 < p)
def okL (p s : Int) (l : List S61) : Prop := ∀ (i : Nat) (g : S61), l[i]? = some g → okG p s i g
theorem okL_nil (p s : Int) : okL p s [] := fun i g h => by simp at h
theorem okL_snoc {p s : Int} {l : List S61} {g : S61} (h : okL p s l) (hg : okG p s l.length g) : okL p s (l ++ [g]) := by
  intro i x hx;rw [List.getElem?_append] at hx
  split at hx
  · exact h i x hx
  · rename_i hi
    rw [List.getElem?_singleton] at hx
    split at hx
    · rename_i h0
      obtain rfl := qqI hx;rw [show i = l.length by omega]; exact hg
    · cases hx
theorem okL_cut {p s : Int} {l : List S61} {g : S61} (h : okL p s (l ++ [g])) : okL p s l ∧ okG p s l.length g := by
  constructor
  · intro i x hx
    refine h i x ?_;rw [List.getElem?_append_left (List.getElem?_eq_some_iff.1 hx).1]; exact hx
  · exact h l.length g (by simp)
theorem okL_app {p s : Int} {l m : List S61} (h : okL p s (l ++ m)) : okL p s l := by
  intro i x hx;refine h i x ?_;rw [List.getElem?_append_left (List.getElem?_eq_some_iff.1 hx).1]; exact hx
theorem okL_at {p s : Int} {l : List S61} (h : okL p s l) {i : Int} (h0 : 0 ≤ i) (h1 : i < l.length) : okG p s i (atG l i) := by
  have hi : i.toNat < l.length := by omega
  have := h i.toNat l[i.toNat] (List.getElem?_eq_getElem hi);unfold atG;rw [List.getD_eq_getElem?_getD, List.getElem?_eq_getElem hi]
  simpa [Int.toNat_of_nonneg h0] using this
theorem atG_left {l m : List S61} {i : Int} (h1 : i < l.length) (h0 : 0 ≤ i) : atG (l ++ m) i = atG l i := by
  unfold atG;rw [List.getD_eq_getElem?_getD, List.getD_eq_getElem?_getD, List.getElem?_append_left (by omega)]
theorem atI_left {l m : List Int} {i : Int} (h1 : i < l.length) (h0 : 0 ≤ i) : atI (l ++ m) i = atI l i := by
  unfold atI;rw [List.getD_eq_getElem?_getD, List.getD_eq_getElem?_getD, List.getElem?_append_left (by omega)]
theorem atI_last (l : List Int) (x : Int) : atI (l ++ [x]) l.length = x := by
  simp [atI, List.getD_eq_getElem?_getD]
theorem atG_last (l : List S61) (x : S61) : atG (l ++ [x]) l.length = x := by
  simp [atG, List.getD_eq_getElem?_getD]
structure Alg where
  inp : Int → Int
  con : Int → Int
  scl : Int → Int → Int
  two : Int → Int → Int → Int
def app (A : Alg) (v : List Int) (g : S61) : Int :=
  if g.f0 = 1 then A.inp g.f1 else if g.f0 = 2 then A.con g.f3 else if g.f0 = 6 then A.scl g.f3 (atI v g.f1) else A.two g.f0 (atI v g.f1) (atI v g.f2)
def snocs {α β : Type} (f : List α → β → α) : List α → List β → List α
  | d, [] => d
  | d, b :: bs => snocs f (d ++ [f d b]) bs
theorem snocs_snoc {α β : Type} (f : List α → β → α) (b : β) : ∀ (bs : List β) (d : List α), snocs f d (bs ++ [b]) = snocs f d bs ++ [f (snocs f d bs) b]
  | [], d => rfl
  | c :: bs, d => by simp only [List.cons_append, snocs]; exact snocs_snoc f b bs _
theorem snocs_len {α β : Type} (f : List α → β → α) : ∀ (bs : List β) (d : List α), (snocs f d bs).length = d.length + bs.length
  | [], d => rfl
  | c :: bs, d => by simp only [snocs, snocs_len f bs, List.length_append, List.length_cons, List.length_nil]; omega
def vals (A : Alg) (l : List S61) : List Int := snocs (app A) [] l
theorem vals_snoc (A : Alg) (l : List S61) (g : S61) : vals A (l ++ [g]) = vals A l ++ [app A (vals A l) g] := snocs_snoc _ _ _ _
theorem vals_len (A : Alg) (l : List S61) : (vals A l).length = l.length := by simp [vals, snocs_len]
theorem app_congr {A : Alg} {p s i : Int} {g : S61} {v v' : List Int} (h : okG p s i g) (e : ∀ x, 0 ≤ x → x < i → atI v x = atI v' x) : app A v g = app A v' g := by
  unfold app;unfold okG at h
  split
  · rfl
  split
  · rfl
  split
  · rw [e g.f1 (by omega) (by omega)]
  · rw [e g.f1 (by omega) (by omega), e g.f2 (by omega) (by omega)]
theorem snoc_ind {α : Type} {P : List α → Prop} (h0 : P []) (h1 : ∀ l x, P l → P (l ++ [x])) (l : List α) : P l := by
  rw [← List.reverse_reverse l]
  induction l.reverse with
  | nil => exact h0
  | cons x r ih => rw [List.reverse_cons]; exact h1 _ _ ih
theorem vals_at (A : Alg) {p s : Int} (l : List S61) : okL p s l → ∀ i : Int, 0 ≤ i → i < l.length → atI (vals A l) i = app A (vals A l) (atG l i) := by
  refine snoc_ind (P := fun l => okL p s l → ∀ i : Int, 0 ≤ i → i < l.length → atI (vals A l) i = app A (vals A l) (atG l i)) ?_ ?_ l
  · intro _ i h0 h1; simp at h1; omega
  · intro l g ih hok i h0 h1
    obtain ⟨hl, hg⟩ := okL_cut hok;have hlen := vals_len A l;rw [vals_snoc]
    by_cases h : i < l.length
    · rw [atI_left (by omega) h0, atG_left h h0, ih hl i h0 h]
      exact app_congr (okL_at hl h0 h) (fun x x0 x1 => (atI_left (by omega) x0).symm)
    · have hi : i = l.length := by simp at h1; omega
      rw [hi, atG_last];rw [show (l.length : Int) = ((vals A l).length : Nat) by rw [hlen], atI_last];exact app_congr hg (fun x x0 x1 => (atI_left (by omega) x0).symm)
def opV (p k a b : Int) : Int := if k = 3 then (a + b) % p else if k = 4 then (a + p - b) % p else a * b % p
def foldStep (p : Int) (l : List S61) (g : S61) : Option S61 :=
  if (g.f0 = 3 ∨ g.f0 = 4 ∨ g.f0 = 5) ∧ (atG l g.f1).f0 = 2 ∧ (atG l g.f2).f0 = 2 then some ⟨2, 0, 0, opV p g.f0 (atG l g.f1).f3 (atG l g.f2).f3⟩
  else if g.f0 = 6 ∧ (atG l g.f1).f0 = 2 then some ⟨2, 0, 0, (atG l g.f1).f3 * g.f3 % p⟩
  else if g.f0 = 5 ∧ (atG l g.f1).f0 = 2 then some ⟨6, g.f2, 0, (atG l g.f1).f3⟩
  else if g.f0 = 5 ∧ (atG l g.f2).f0 = 2 then some ⟨6, g.f1, 0, (atG l g.f2).f3⟩
  else if g.f0 = 6 ∧ g.f3 = 0 then some ⟨2, 0, 0, 0⟩
  else if g.f0 = 6 ∧ (atG l g.f1).f0 = 6 then some ⟨6, (atG l g.f1).f1, 0, (atG l g.f1).f3 * g.f3 % p⟩
  else if g.f0 = 4 ∧ g.f1 = g.f2 then some ⟨2, 0, 0, 0⟩
  else none
def meas (n : Nat) (g : S61) : Nat := if g.f0 = 5 then n + 1 else if g.f0 = 6 then g.f1.toNat + 1 else if g.f0 = 3 ∨ g.f0 = 4 then 1 else 0
theorem opV_range {p : Int} (hp : 0 < p) (k a b : Int) : 0 ≤ opV p k a b ∧ opV p k a b < p := by
  unfold opV
  split
  · exact ⟨Int.emod_nonneg _ (by omega), Int.emod_lt_of_pos _ hp⟩
  split
  · exact ⟨Int.emod_nonneg _ (by omega), Int.emod_lt_of_pos _ hp⟩
  · exact ⟨Int.emod_nonneg _ (by omega), Int.emod_lt_of_pos _ hp⟩
theorem fold_ok {p s : Int} (hp : 0 < p) {l : List S61} {g g' : S61} (hl : okL p s l) (hg : okG p s l.length g) (h : foldStep p l g = some g') : okG p s l.length g' ∧ meas l.length g' < meas l.length g := by
  have m1 := fun (a b : Int) => (⟨Int.emod_nonneg (a * b) (show p ≠ 0 by omega), Int.emod_lt_of_pos _ hp⟩ : 0 ≤ a * b % p ∧ a * b % p < p)
  unfold foldStep at h
  split at h
  · rename_i c
    obtain rfl := qqI h;refine ⟨.inr (.inl ⟨rfl, rfl, rfl, (opV_range hp _ _ _).1, (opV_range hp _ _ _).2⟩), ?_⟩;simp only [meas]; simp; split
    · omega
    · split
      · omega
      · rw [if_pos (by omega)]; omega
  split at h
  · rename_i c
    obtain rfl := qqI h;refine ⟨.inr (.inl ⟨rfl, rfl, rfl, (m1 _ _).1, (m1 _ _).2⟩), ?_⟩;simp [meas, c.1]
  split at h
  · rename_i c
    obtain rfl := qqI h
    have hg' : 0 ≤ g.f1 ∧ g.f1 < l.length ∧ 0 ≤ g.f2 ∧ g.f2 < l.length := by unfold okG at hg; omega
    have ha := okL_at hl hg'.1 hg'.2.1;generalize atG l g.f1 = a at *;refine ⟨.inr (.inr (.inr ⟨rfl, hg'.2.2.1, hg'.2.2.2, rfl, ?_⟩)), ?_⟩
    · unfold okG at ha; show 0 ≤ a.f3 ∧ a.f3 < p; omega
    · simp [meas, c.1]; omega
  split at h
  · rename_i c
    obtain rfl := qqI h
    have hg' : 0 ≤ g.f1 ∧ g.f1 < l.length ∧ 0 ≤ g.f2 ∧ g.f2 < l.length := by unfold okG at hg; omega
    have ha := okL_at hl hg'.2.2.1 hg'.2.2.2;generalize atG l g.f2 = a at *;refine ⟨.inr (.inr (.inr ⟨rfl, hg'.1, hg'.2.1, rfl, ?_⟩)), ?_⟩
    · unfold okG at ha; show 0 ≤ a.f3 ∧ a.f3 < p; omega
    · simp [meas, c.1]; omega
  split at h
  · rename_i c
    obtain rfl := qqI h;refine ⟨.inr (.inl ⟨rfl, rfl, rfl, Int.le_refl _, hp⟩), ?_⟩;simp [meas, c.1]
  split at h
  · rename_i c
    obtain rfl := qqI h
    have hg' : 0 ≤ g.f1 ∧ g.f1 < l.length := by unfold okG at hg; omega
    have ha := okL_at hl hg'.1 hg'.2;generalize atG l g.f1 = a at *
    have ha' : 0 ≤ a.f1 ∧ a.f1 < g.f1 := by unfold okG at ha; omega
    refine ⟨.inr (.inr (.inr ⟨rfl, ha'.1, by show a.f1 < _; omega, rfl, (m1 _ _).1, (m1 _ _).2⟩)), ?_⟩;simp [meas, c.1]; omega
  split at h
  · rename_i c
    obtain rfl := qqI h;refine ⟨.inr (.inl ⟨rfl, rfl, rfl, Int.le_refl _, hp⟩), ?_⟩;simp [meas, c.1]
  · cases h
def foldN (p : Int) (l : List S61) : Nat → S61 → S61
  | 0, g => g
  | n + 1, g => match foldStep p l g with
    | none => g
    | some g' => foldN p l n g'
def foldG (p : Int) (l : List S61) (g : S61) : S61 := foldN p l (l.length + 2) g
theorem foldN_ok {p s : Int} (hp : 0 < p) {l : List S61} (hl : okL p s l) : ∀ (n : Nat) (g : S61), meas l.length g < n → okG p s l.length g → okG p s l.length (foldN p l n g) ∧ foldStep p l (foldN p l n g) = none
  | 0, g, h, _ => by omega
  | n + 1, g, h, hg => by
    unfold foldN
    cases e : foldStep p l g with
    | none => exact ⟨hg, e⟩
    | some g' =>
      obtain ⟨h1, h2⟩ := fold_ok hp hl hg e;exact foldN_ok hp hl n g' (by omega) h1
theorem meas_lt {p s : Int} {n : Nat} {g : S61} (h : okG p s n g) : meas n g < n + 2 := by
  unfold meas; unfold okG at h
  split
  · omega
  split
  · omega
  split <;> omega
theorem foldG_ok {p s : Int} (hp : 0 < p) {l : List S61} (hl : okL p s l) {g : S61} (hg : okG p s l.length g) : okG p s l.length (foldG p l g) ∧ foldStep p l (foldG p l g) = none :=
  foldN_ok hp hl _ g (meas_lt hg) hg
def folds (p : Int) (d : List S61) (l : List S61) : List S61 := snocs (foldG p) d l
theorem folds_ok {p s : Int} (hp : 0 < p) (l : List S61) : okL p s l → okL p s (folds p [] l) := by
  refine snoc_ind (P := fun l => okL p s l → okL p s (folds p [] l)) (fun _ => okL_nil p s) ?_ l;intro l g ih h;obtain ⟨h1, h2⟩ := okL_cut h
  have hlen : (folds p [] l).length = l.length := by simp [folds, snocs_len]
  unfold folds;rw [snocs_snoc];refine okL_snoc (ih h1) ?_;exact (foldG_ok hp (ih h1) (by rw [hlen]; exact h2)).1
end Go.Proofs.Ytmlbliggbkfjnaa.L
/- Gates left out and others named in their place; gates that are alike. -/
namespace Go.Proofs.Ytmlbliggbkfjnaa.L
open Go.RowKit Go.Proofs.YtmlbliggbkfjnaaW.PrintWords Go.Proofs.Ytmlbliggbkfjnaa.J
def rnf (t : Int → Int) (g : S61) : S61 :=
  if g.f0 = 1 ∨ g.f0 = 2 then g else if g.f0 = 6 then ⟨g.f0, t g.f1, g.f2, g.f3⟩ else ⟨g.f0, t g.f1, t g.f2, g.f3⟩
theorem rnf_kind (t : Int → Int) (g : S61) : (rnf t g).f0 = g.f0 := by unfold rnf; split; rfl; split <;> rfl
theorem rnf_congr {p s i : Int} {g : S61} {t t' : Int → Int} (h : okG p s i g) (e : ∀ x, 0 ≤ x → x < i → t x = t' x) : rnf t g = rnf t' g := by
  unfold rnf; unfold okG at h
  split
  · rfl
  split
  · rw [e g.f1 (by omega) (by omega)]
  · rw [e g.f1 (by omega) (by omega), e g.f2 (by omega) (by omega)]
theorem rnf_ok {p s i j : Int} {g : S61} {t : Int → Int} (h : okG p s i g)
    (e : g.f0 ≠ 1 → g.f0 ≠ 2 → 0 ≤ t g.f1 ∧ t g.f1 < j ∧ (g.f0 ≠ 6 → 0 ≤ t g.f2 ∧ t g.f2 < j)) : okG p s j (rnf t g) := by
  unfold rnf
  rcases h with h | h | h | h
  · rw [if_pos (.inl h.1)]; exact .inl h
  · rw [if_pos (.inr h.1)]; exact .inr (.inl h)
  · have h12 : ¬ (g.f0 = 1 ∨ g.f0 = 2) := by omega
    have h6 : ¬ g.f0 = 6 := by omega
    obtain ⟨a, b, c⟩ := e (by omega) (by omega);obtain ⟨c, d⟩ := c h6;rw [if_neg h12, if_neg h6];exact .inr (.inr (.inl ⟨h.1, a, b, c, d, h.2.2.2.2.2⟩))
  · obtain ⟨a, b, c⟩ := e (by omega) (by omega)
    rw [if_neg (by omega), if_pos h.1];exact .inr (.inr (.inr ⟨h.1, a, b, h.2.2.2.1, h.2.2.2.2⟩))
theorem okG_ops {p s i : Int} {g : S61} (h : okG p s i g) (h1 : g.f0 ≠ 1) (h2 : g.f0 ≠ 2) : 0 ≤ g.f1 ∧ g.f1 < i ∧ (g.f0 ≠ 6 → 0 ≤ g.f2 ∧ g.f2 < i) := by
  rcases h with h | h | h | h
  · exact absurd h.1 h1
  · exact absurd h.1 h2
  · exact ⟨h.2.1, h.2.2.1, fun _ => ⟨h.2.2.2.1, h.2.2.2.2.1⟩⟩
  · exact ⟨h.2.1, h.2.2.1, fun h6 => absurd h.1 h6⟩
def Comm (A : Alg) : Prop := ∀ a b, A.two 3 a b = A.two 3 b a ∧ A.two 5 a b = A.two 5 b a
def sameG (x y : S61) : Prop := x = y ∨ ((⟨x.f0, x.f2, x.f1, x.f3⟩ : S61) = y ∧ (x.f0 = 3 ∨ x.f0 = 5))
theorem S61.ext_iff' (x y : S61) : x = y ↔ x.f0 = y.f0 ∧ x.f1 = y.f1 ∧ x.f2 = y.f2 ∧ x.f3 = y.f3 := by
  cases x; cases y; simp
instance (x y : S61) : Decidable (x = y) := decidable_of_iff _ (S61.ext_iff' x y).symm
instance (x y : S61) : Decidable (sameG x y) := by unfold sameG; infer_instance
theorem app_same {A : Alg} (hA : Comm A) {x y : S61} (v : List Int) (h : sameG x y) : app A v x = app A v y := by
  rcases h with rfl | ⟨rfl, h⟩
  · rfl
  · unfold app
    rcases h with h | h
    · simp [h, (hA (atI v x.f1) (atI v x.f2)).1]
    · simp [h, (hA (atI v x.f1) (atI v x.f2)).2]
theorem app_rnf {A : Alg} {p s i : Int} {g : S61} {t : Int → Int} {v v' : List Int} (h : okG p s i g) (e : ∀ x, 0 ≤ x → x < i → x = g.f1 ∨ (g.f0 ≠ 6 ∧ x = g.f2) → g.f0 ≠ 1 → g.f0 ≠ 2 → atI v' (t x) = atI v x) : app A v' (rnf t g) = app A v g := by
  unfold rnf; unfold okG at h
  split
  · rename_i h1
    unfold app
    rcases h1 with h1 | h1 <;> simp [h1]
  split
  · rename_i h1 h6
    unfold app;simp only [h6, if_neg (show ¬ (6 : Int) = 1 by decide), if_neg (show ¬ (6 : Int) = 2 by decide), if_true];rw [e g.f1 (by omega) (by omega) (.inl rfl) (by omega) (by omega)]
  · rename_i h1 h6
    unfold app;simp only [if_neg (show ¬ g.f0 = 1 by omega), if_neg (show ¬ g.f0 = 2 by omega), if_neg h6];rw [e g.f1 (by omega) (by omega) (.inl rfl) (by omega) (by omega), e g.f2 (by omega) (by omega) (.inr ⟨h6, rfl⟩) (by omega) (by omega)]
structure Shr (p s : Int) (gs l : List S61) (t : Int → Int) (N : Int → Prop) : Prop where
  rng : ∀ i : Int, 0 ≤ i → i < gs.length → N i → 0 ≤ t i ∧ t i < l.length
  onto : ∀ j : Int, 0 ≤ j → j < l.length → ∃ i : Int, 0 ≤ i ∧ i < gs.length ∧ N i ∧ t i = j
  vals : ∀ A, Comm A → ∀ i : Int, 0 ≤ i → i < gs.length → N i → atI (L.vals A l) (t i) = atI (L.vals A gs) i
  ok : okL p s l
  cnt : ∀ f : S61 → Bool, (∀ g t, f (rnf t g) = f g) → (l.filter f).length ≤ (gs.filter f).length
theorem Shr.nil (p s : Int) (t : Int → Int) (N : Int → Prop) : Shr p s [] [] t N :=
  ⟨fun i h0 h1 => by simp at h1; omega, fun i h0 h1 => by simp at h1; omega, fun _ _ i h0 h1 => by simp at h1; omega, okL_nil p s, fun _ _ => Nat.le_refl _⟩
theorem vals_left (A : Alg) {l : List S61} {g : S61} {i : Int} (h0 : 0 ≤ i) (h1 : i < l.length) : atI (vals A (l ++ [g])) i = atI (vals A l) i := by
  rw [vals_snoc]; exact atI_left (by rw [vals_len]; exact h1) h0
theorem vals_last (A : Alg) (l : List S61) (g : S61) : atI (vals A (l ++ [g])) l.length = app A (vals A l) g := by
  rw [vals_snoc, show (l.length : Int) = ((vals A l).length : Nat) by rw [vals_len], atI_last]
def uses (g : S61) (x : Int) : Prop := g.f0 ≠ 1 ∧ g.f0 ≠ 2 ∧ (x = g.f1 ∨ (g.f0 ≠ 6 ∧ x = g.f2))
theorem uses_lt {p s i : Int} {g : S61} (h : okG p s i g) {x : Int} (hx : uses g x) : 0 ≤ x ∧ x < i := by
  obtain ⟨h1, h2, h3⟩ := hx;obtain ⟨a, b, c⟩ := okG_ops h h1 h2
  rcases h3 with rfl | ⟨h6, rfl⟩
  · exact ⟨a, b⟩
  · exact c h6
theorem Shr.new_ok {p s : Int} {gs l : List S61} {t : Int → Int} {N : Int → Prop} (h : Shr p s gs l t N) {g : S61} (hg : okG p s gs.length g)
    (hN : ∀ x, uses g x → N x) : okG p s l.length (rnf t g) := by
  refine rnf_ok hg fun h1 h2 => ?_
  have u1 : uses g g.f1 := ⟨h1, h2, .inl rfl⟩;obtain ⟨a, b⟩ := uses_lt hg u1;obtain ⟨c, d⟩ := h.rng _ a b (hN _ u1);refine ⟨c, d, fun h6 => ?_⟩;have u2 : uses g g.f2 := ⟨h1, h2, .inr ⟨h6, rfl⟩⟩;obtain ⟨a, b⟩ := uses_lt hg u2;exact h.rng _ a b (hN _ u2)
theorem Shr.new_val {p s : Int} {gs l : List S61} {t : Int → Int} {N : Int → Prop} (h : Shr p s gs l t N) {g : S61} (hg : okG p s gs.length g)
    (hN : ∀ x, uses g x → N x) {A : Alg} (hA : Comm A) : app A (L.vals A l) (rnf t g) = app A (L.vals A gs) g :=
  app_rnf hg fun x x0 x1 xe h1 h2 => h.vals A hA x x0 x1 (hN x ⟨h1, h2, xe⟩)
theorem Shr.stay {p s : Int} {gs l : List S61} {t t' : Int → Int} {N : Int → Prop} (h : Shr p s gs l t N) {g : S61} (hg : okG p s gs.length g)
    (ht : ∀ x : Int, 0 ≤ x → x < gs.length → t' x = t x) (hl : t' gs.length = l.length)
    (hN : ∀ x, uses g x → N x) (hN' : N gs.length) : Shr p s (gs ++ [g]) (l ++ [rnf t g]) t' N := by
  refine ⟨?_, ?_, ?_, okL_snoc h.ok (h.new_ok hg hN), ?_⟩
  · intro i i0 i1 iN
    simp only [List.length_append, List.length_cons, List.length_nil] at i1 ⊢
    by_cases e : i < gs.length
    · rw [ht i i0 e]; have := h.rng i i0 e iN; omega
    · rw [show i = gs.length by omega, hl]; omega
  · intro j j0 j1
    simp only [List.length_append, List.length_cons, List.length_nil] at j1 ⊢
    by_cases e : j < l.length
    · obtain ⟨i, i0, i1, iN, ij⟩ := h.onto j j0 e
      exact ⟨i, i0, by omega, iN, by rw [ht i i0 i1]; exact ij⟩
    · exact ⟨gs.length, by omega, by omega, hN', by rw [hl]; omega⟩
  · intro A hA i i0 i1 iN
    simp only [List.length_append, List.length_cons, List.length_nil] at i1
    by_cases e : i < gs.length
    · have r := h.rng i i0 e iN
      rw [ht i i0 e, vals_left A r.1 r.2, vals_left A i0 e];exact h.vals A hA i i0 e iN
    · rw [show i = gs.length by omega, hl, vals_last, vals_last]
      exact h.new_val hg hN hA
  · intro f hf
    have := h.cnt f hf;rw [List.filter_append, List.filter_append, List.length_append, List.length_append]
    have e : ([rnf t g].filter f).length = ([g].filter f).length := by
      simp only [List.filter_cons, hf, List.filter_nil]
      split <;> rfl
    omega
theorem Shr.other {p s : Int} {gs l : List S61} {t t' : Int → Int} {N : Int → Prop} (h : Shr p s gs l t N) {g : S61} (hg : okG p s gs.length g)
    (ht : ∀ x : Int, 0 ≤ x → x < gs.length → t' x = t x) (hN : N gs.length → (∀ x, uses g x → N x) ∧ 0 ≤ t' gs.length ∧ t' gs.length < l.length ∧ sameG (atG l (t' gs.length)) (rnf t g)) : Shr p s (gs ++ [g]) l t' N := by
  refine ⟨?_, ?_, ?_, h.ok, ?_⟩
  · intro i i0 i1 iN
    simp only [List.length_append, List.length_cons, List.length_nil] at i1 ⊢
    by_cases e : i < gs.length
    · rw [ht i i0 e]; exact h.rng i i0 e iN
    · have hi : i = gs.length := by omega
      subst hi;exact ⟨(hN iN).2.1, (hN iN).2.2.1⟩
  · intro j j0 j1
    obtain ⟨i, i0, i1, iN, ij⟩ := h.onto j j0 j1;exact ⟨i, i0, by simp; omega, iN, by rw [ht i i0 i1]; exact ij⟩
  · intro A hA i i0 i1 iN
    simp only [List.length_append, List.length_cons, List.length_nil] at i1
    by_cases e : i < gs.length
    · rw [ht i i0 e, vals_left A i0 e]
      exact h.vals A hA i i0 e iN
    · have hi : i = gs.length := by omega
      subst hi;obtain ⟨n1, n2, n3, n4⟩ := hN iN;rw [vals_last, vals_at A l h.ok _ n2 n3, app_same hA _ n4];exact h.new_val hg n1 hA
  · intro f hf
    have := h.cnt f hf;rw [List.filter_append, List.length_append]
    omega
def findS (l : List S61) (g : S61) : Nat := l.findIdx fun x => decide (sameG x g)
def shStep (st : List S61 × List Int) (g : S61) : List S61 × List Int :=
  let g' := rnf (atI st.2) g
  let k := findS st.1 g'
  (if k = st.1.length then st.1 ++ [g'] else st.1, st.2 ++ [(k : Int)])
def shL (gs : List S61) : List S61 × List Int := gs.foldl shStep ([], [])
theorem shL_snoc (gs : List S61) (g : S61) : shL (gs ++ [g]) = shStep (shL gs) g := by simp [shL, List.foldl_append]
theorem shL_len (gs : List S61) : (shL gs).2.length = gs.length := by
  refine snoc_ind (P := fun gs => (shL gs).2.length = gs.length) rfl (fun gs g ih => ?_) gs;rw [shL_snoc]; simp [shStep, ih]
theorem findS_le (l : List S61) (g : S61) : findS l g ≤ l.length := List.findIdx_le_length
theorem findS_same {l : List S61} {g : S61} (h : findS l g < l.length) : sameG (atG l (findS l g)) g := by
  have := List.findIdx_getElem (w := h);unfold atG;rw [List.getD_eq_getElem?_getD, Int.toNat_natCast, List.getElem?_eq_getElem h];exact of_decide_eq_true this
theorem shL_shr {p s : Int} (gs : List S61) : okL p s gs → Shr p s gs (shL gs).1 (atI (shL gs).2) (fun _ => True) := by
  refine snoc_ind (P := fun gs => okL p s gs → Shr p s gs (shL gs).1 (atI (shL gs).2) (fun _ => True)) (fun _ => Shr.nil p s _ _) (fun gs g ih h => ?_) gs;obtain ⟨h1, h2⟩ := okL_cut h;have hlen := shL_len gs
  have ht : ∀ (k x : Int), 0 ≤ x → x < gs.length → atI ((shL gs).2 ++ [k]) x = atI (shL gs).2 x := fun k x x0 x1 => atI_left (by omega) x0
  have hk : ∀ k : Int, atI ((shL gs).2 ++ [k]) gs.length = k := fun k => by rw [← hlen]; exact atI_last _ _
  rw [shL_snoc];unfold shStep;simp only;have hle := findS_le (shL gs).1 (rnf (atI (shL gs).2) g)
  split
  · rename_i e
    exact (ih h1).stay h2 (ht _) (by rw [hk, e]) (fun _ _ => trivial) trivial
  · rename_i e
    refine (ih h1).other h2 (ht _) fun _ => ⟨fun _ _ => trivial, by rw [hk]; omega, by rw [hk]; omega, ?_⟩
    rw [hk];exact findS_same (by omega)
def apart (l : List S61) : Prop := l.Pairwise fun x y => ¬ sameG x y
end Go.Proofs.Ytmlbliggbkfjnaa.L
/- Gates that nobody asks for; levels. -/
namespace Go.Proofs.Ytmlbliggbkfjnaa.L
open Go.RowKit Go.Proofs.YtmlbliggbkfjnaaW.PrintWords Go.Proofs.Ytmlbliggbkfjnaa.J
def atB (l : List Bool) (i : Int) : Bool := l.getD i.toNat false
theorem atB_set {l : List Bool} {x : Int} (x0 : 0 ≤ x) (x1 : x < l.length) {i : Int} (i0 : 0 ≤ i) : atB (l.set x.toNat true) i = true ↔ atB l i = true ∨ i = x := by
  unfold atB;rw [List.getD_eq_getElem?_getD, List.getD_eq_getElem?_getD, List.getElem?_set]
  by_cases e : i = x
  · subst e
    rw [if_pos rfl, if_pos (by omega)];simp
  · rw [if_neg (by omega)]
    simp [e]
def mkStep (gs : List S61) (a : List Bool) (i : Nat) : List Bool :=
  if atB a i = true ∧ (atG gs i).f0 ≠ 1 ∧ (atG gs i).f0 ≠ 2 then
    (if (atG gs i).f0 = 6 then a.set (atG gs i).f1.toNat true else (a.set (atG gs i).f1.toNat true).set (atG gs i).f2.toNat true)
  else a
def mkM (gs : List S61) : Nat → List Bool → List Bool
  | 0, a => a
  | m + 1, a => mkM gs m (mkStep gs a m)
theorem mkStep_len (gs : List S61) (a : List Bool) (i : Nat) : (mkStep gs a i).length = a.length := by
  unfold mkStep
  split
  · split <;> simp
  · rfl
theorem mkM_len (gs : List S61) : ∀ (m : Nat) (a : List Bool), (mkM gs m a).length = a.length
  | 0, a => rfl
  | m + 1, a => by unfold mkM; rw [mkM_len gs m, mkStep_len]
inductive Live (gs : List S61) (N0 : Int → Prop) : Int → Prop
  | base (x : Int) : N0 x → Live gs N0 x
  | use (i x : Int) : Live gs N0 i → 0 ≤ i → i < gs.length → uses (atG gs i) x → Live gs N0 x
theorem mkStep_iff {p s : Int} {gs : List S61} (hok : okL p s gs) {a : List Bool} (ha : a.length = gs.length) {m : Nat} (hm : m < gs.length) {x : Int} (x0 : 0 ≤ x) :
    atB (mkStep gs a m) x = true ↔ atB a x = true ∨ (atB a m = true ∧ uses (atG gs m) x) := by
  have hg := okL_at hok (i := m) (by omega) (by omega);unfold mkStep
  split
  · rename_i c
    obtain ⟨c1, c2, c3⟩ := c;obtain ⟨o1, o2, o3⟩ := okG_ops hg c2 c3
    split
    · rename_i c6
      rw [atB_set o1 (by omega) x0]
      constructor
      · rintro (h | rfl)
        · exact .inl h
        · exact .inr ⟨c1, c2, c3, .inl rfl⟩
      · rintro (h | ⟨_, _, _, h | ⟨h6, _⟩⟩)
        · exact .inl h
        · exact .inr h
        · exact absurd c6 h6
    · rename_i c6
      obtain ⟨o3, o4⟩ := o3 c6;rw [atB_set o3 (by simp; omega) x0, atB_set o1 (by omega) x0]
      constructor
      · rintro ((h | rfl) | rfl)
        · exact .inl h
        · exact .inr ⟨c1, c2, c3, .inl rfl⟩
        · exact .inr ⟨c1, c2, c3, .inr ⟨c6, rfl⟩⟩
      · rintro (h | ⟨_, _, _, h | ⟨_, h⟩⟩)
        · exact .inl (.inl h)
        · exact .inl (.inr h)
        · exact .inr h
  · rename_i c
    constructor
    · exact .inl
    · rintro (h | ⟨h1, h2, h3, _⟩)
      · exact h
      · exact absurd ⟨h1, h2, h3⟩ c
theorem mkM_live {p s : Int} {gs : List S61} (hok : okL p s gs) {N0 : Int → Prop} (h0 : ∀ x, N0 x → 0 ≤ x ∧ x < gs.length) : ∀ (m : Nat) (a : List Bool), m ≤ gs.length → a.length = gs.length →
    (∀ x, 0 ≤ x → atB a x = true → Live gs N0 x) → (∀ x, N0 x → atB a x = true) → (∀ i : Int, m ≤ i → i < gs.length → atB a i = true → ∀ x, uses (atG gs i) x → atB a x = true) →
    ∀ x, 0 ≤ x → (atB (mkM gs m a) x = true ↔ Live gs N0 x)
  | 0, a, _, ha, h1, h2, h3 => by
    intro x x0
    constructor
    · exact h1 x x0
    · intro hl
      clear x0
      have : 0 ≤ x ∧ atB a x = true := by
        induction hl with
        | base x hx => exact ⟨(h0 x hx).1, h2 x hx⟩
        | use i x _ i0 i1 hu ih => exact ⟨(uses_lt (okL_at hok i0 i1) hu).1, h3 i (by omega) i1 ih.2 x hu⟩
      exact this.2
  | m + 1, a, hm, ha, h1, h2, h3 => by
    unfold mkM
    have hs := fun {x : Int} x0 => mkStep_iff hok ha (m := m) (by omega) (x := x) x0
    refine mkM_live hok h0 m _ (by omega) (by rw [mkStep_len]; exact ha) ?_ ?_ ?_
    · intro x x0 hx
      rcases (hs x0).1 hx with h | ⟨h, hu⟩
      · exact h1 x x0 h
      · exact .use m x (h1 m (by omega) h) (by omega) (by omega) hu
    · intro x hx
      exact (hs (h0 x hx).1).2 (.inl (h2 x hx))
    · intro i i0 i1 hi x hu
      have hux := uses_lt (okL_at hok (by omega) i1) hu
      by_cases e : i = m
      · subst e
        have : atB a m = true := by
          rcases (hs (by omega)).1 hi with h | ⟨h, _⟩
          · exact h
          · exact h
        exact (hs hux.1).2 (.inr ⟨this, hu⟩)
      · have : atB a i = true := by
          rcases (hs (by omega)).1 hi with h | ⟨h, hu'⟩
          · exact h
          · have := uses_lt (okL_at hok (by omega) (by omega)) hu'
            omega
        exact (hs hux.1).2 (.inl (h3 i (by omega) i1 this x hu))
def prStep (a : List Bool) (st : List S61 × List Int) (g : S61) : List S61 × List Int :=
  if atB a st.2.length = true then (st.1 ++ [rnf (atI st.2) g], st.2 ++ [(st.1.length : Int)]) else (st.1, st.2 ++ [0])
def prL (a : List Bool) (gs : List S61) : List S61 × List Int := gs.foldl (prStep a) ([], [])
theorem prL_snoc (a : List Bool) (gs : List S61) (g : S61) : prL a (gs ++ [g]) = prStep a (prL a gs) g := by simp [prL, List.foldl_append]
theorem prL_len (a : List Bool) (gs : List S61) : (prL a gs).2.length = gs.length := by
  refine snoc_ind (P := fun gs => (prL a gs).2.length = gs.length) rfl (fun gs g ih => ?_) gs;rw [prL_snoc]; unfold prStep; split <;> simp [ih]
theorem prL_shr {p s : Int} {a : List Bool} (gs : List S61) : okL p s gs → (∀ i : Int, 0 ≤ i → i < gs.length → atB a i = true → ∀ x, uses (atG gs i) x → atB a x = true) →
    Shr p s gs (prL a gs).1 (atI (prL a gs).2) (fun i => atB a i = true) := by
  refine snoc_ind (P := fun gs => okL p s gs → (∀ i : Int, 0 ≤ i → i < gs.length → atB a i = true → ∀ x, uses (atG gs i) x → atB a x = true) → Shr p s gs (prL a gs).1 (atI (prL a gs).2) (fun i => atB a i = true)) (fun _ _ => Shr.nil p s _ _) (fun gs g ih h hc => ?_) gs;obtain ⟨h1, h2⟩ := okL_cut h;have hlen := prL_len a gs
  have ht : ∀ (k x : Int), 0 ≤ x → x < gs.length → atI ((prL a gs).2 ++ [k]) x = atI (prL a gs).2 x := fun k x x0 x1 => atI_left (by omega) x0
  have hk : ∀ k : Int, atI ((prL a gs).2 ++ [k]) gs.length = k := fun k => by rw [← hlen]; exact atI_last _ _
  have hc1 : ∀ i : Int, 0 ≤ i → i < gs.length → atB a i = true → ∀ x, uses (atG gs i) x → atB a x = true := fun i i0 i1 hi x hu => hc i i0 (by simp; omega) hi x (by rw [atG_left i1 i0]; exact hu)
  rw [prL_snoc];unfold prStep;rw [hlen]
  split
  · rename_i e
    refine (ih h1 hc1).stay h2 (ht _) (hk _) (fun x hu => hc gs.length (by omega) (by simp; omega) e x ?_) e;rw [atG_last]; exact hu
  · rename_i e
    exact (ih h1 hc1).other h2 (ht _) fun he => absurd he e
end Go.Proofs.Ytmlbliggbkfjnaa.L
/- The program's way to leave out gates that are alike comes to the reference's. -/
namespace Go.Proofs.Ytmlbliggbkfjnaa.L
open Go.RowKit Go.Proofs.YtmlbliggbkfjnaaW.PrintWords Go.Proofs.Ytmlbliggbkfjnaa.J
def canon (g : S61) : S61 := if (g.f0 = 3 ∨ g.f0 = 5) ∧ g.f1 > g.f2 then ⟨g.f0, g.f2, g.f1, g.f3⟩ else g
def findM (g : S61) : List (S61 × Int) → Option Int
  | [] => none
  | x :: M => if g = x.1 then some x.2 else findM g M
def atM (M : List (S61 × Int)) (i : Int) : S61 × Int := M.getD i.toNat (⟨0, 0, 0, 0⟩, 0)
def spStep (st : List Int × List (S61 × Int)) (g : S61) : List Int × List (S61 × Int) :=
  match findM (canon (rnf (atI st.1) g)) st.2 with
  | some k => (st.1 ++ [k], st.2)
  | none => (st.1 ++ [(st.1.length : Int)], st.2 ++ [(canon (rnf (atI st.1) g), (st.1.length : Int))])
def spL (gs : List S61) : List Int × List (S61 × Int) := gs.foldl spStep ([], [])
theorem spL_snoc (gs : List S61) (g : S61) : spL (gs ++ [g]) = spStep (spL gs) g := by simp [spL, List.foldl_append]
theorem spL_len (gs : List S61) : (spL gs).1.length = gs.length := by
  refine snoc_ind (P := fun gs => (spL gs).1.length = gs.length) rfl (fun gs g ih => ?_) gs;rw [spL_snoc]; unfold spStep; split <;> simp [ih]
def mvStep (st : Int → Bool) (t : Int → Int) (z : List S61 × List Int) (g : S61) : List S61 × List Int :=
  if st z.2.length = true then (z.1 ++ [rnf (fun x => atI z.2 (t x)) g], z.2 ++ [(z.1.length : Int)]) else (z.1, z.2 ++ [0])
def mvL (st : Int → Bool) (t : Int → Int) (gs : List S61) : List S61 × List Int := gs.foldl (mvStep st t) ([], [])
theorem mvL_snoc (st : Int → Bool) (t : Int → Int) (gs : List S61) (g : S61) : mvL st t (gs ++ [g]) = mvStep st t (mvL st t gs) g := by simp [mvL, List.foldl_append]
theorem mvL_len (st : Int → Bool) (t : Int → Int) (gs : List S61) : (mvL st t gs).2.length = gs.length := by
  refine snoc_ind (P := fun gs => (mvL st t gs).2.length = gs.length) rfl (fun gs g ih => ?_) gs;rw [mvL_snoc]; unfold mvStep; split <;> simp [ih]
theorem mvL_congr {p s : Int} {st st' : Int → Bool} {t t' : Int → Int} (gs : List S61) : okL p s gs → (∀ x : Int, 0 ≤ x → x < gs.length → st x = st' x ∧ t x = t' x) → mvL st t gs = mvL st' t' gs := by
  refine snoc_ind (P := fun gs => okL p s gs → (∀ x : Int, 0 ≤ x → x < gs.length → st x = st' x ∧ t x = t' x) → mvL st t gs = mvL st' t' gs) (fun _ _ => rfl) (fun gs g ih h e => ?_) gs;obtain ⟨h1, h2⟩ := okL_cut h;rw [mvL_snoc, mvL_snoc, ih h1 fun x x0 x1 => e x x0 (by simp; omega)];unfold mvStep;rw [mvL_len, (e gs.length (by omega) (by simp; omega)).1];rw [rnf_congr (t := fun x => atI (mvL st' t' gs).2 (t x)) (t' := fun x => atI (mvL st' t' gs).2 (t' x)) h2 fun x x0 x1 => by rw [(e x x0 (by simp; omega)).2]]
theorem rnf_rnf (f t : Int → Int) (g : S61) : rnf f (rnf t g) = rnf (fun x => f (t x)) g := by
  by_cases h : g.f0 = 1 ∨ g.f0 = 2
  · unfold rnf; simp only [if_pos h]
  · by_cases h6 : g.f0 = 6
    · unfold rnf; simp [h6]
    · unfold rnf; simp only [if_neg h, if_neg h6]
theorem canon_kind (g : S61) : (canon g).f0 = g.f0 := by unfold canon; split <;> rfl
theorem canon_same {p s i j L : Int} {f : Int → Int} (hf : ∀ x y, 0 ≤ x → x < L → 0 ≤ y → y < L → f x = f y → x = y) {x y : S61} (hx : okG p s i x) (hy : okG p s j y) (hi : i ≤ L) (hj : j ≤ L) :
    canon (rnf f y) = canon (rnf f x) ↔ sameG x y := by
  by_cases hk : x.f0 = y.f0
  · have fe : ∀ a b, 0 ≤ a → a < L → 0 ≤ b → b < L → (f a = f b ↔ a = b) := fun a b a0 a1 b0 b1 => ⟨hf a b a0 a1 b0 b1, fun e => by rw [e]⟩
    have sm : sameG x y ↔ (x.f1 = y.f1 ∧ x.f2 = y.f2 ∧ x.f3 = y.f3) ∨ ((x.f0 = 3 ∨ x.f0 = 5) ∧ x.f2 = y.f1 ∧ x.f1 = y.f2 ∧ x.f3 = y.f3) := by
      unfold sameG;rw [S61.ext_iff', S61.ext_iff'];simp only [hk, true_and]
      constructor
      · rintro (h | ⟨h, h'⟩)
        · exact .inl h
        · exact .inr ⟨h', h⟩
      · rintro (h | ⟨h', h⟩)
        · exact .inl h
        · exact .inr ⟨h, h'⟩
    rw [sm];clear sm
    rcases hx with hx | hx | hx | hx
    · have e1 : rnf f x = x := by unfold rnf; rw [if_pos (.inl hx.1)]
      have e2 : rnf f y = y := by unfold rnf; rw [if_pos (.inl (by omega))]
      have c1 : canon x = x := by unfold canon; rw [if_neg (by omega)]
      have c2 : canon y = y := by unfold canon; rw [if_neg (by omega)]
      rw [e1, e2, c1, c2, S61.ext_iff']
      omega
    · have e1 : rnf f x = x := by unfold rnf; rw [if_pos (.inr hx.1)]
      have e2 : rnf f y = y := by unfold rnf; rw [if_pos (.inr (by omega))]
      have c1 : canon x = x := by unfold canon; rw [if_neg (by omega)]
      have c2 : canon y = y := by unfold canon; rw [if_neg (by omega)]
      rw [e1, e2, c1, c2, S61.ext_iff']
      omega
    · have n12 : ¬ (x.f0 = 1 ∨ x.f0 = 2) := by omega
      have n6 : ¬ x.f0 = 6 := by omega
      obtain ⟨y1, y2, y3⟩ := okG_ops hy (by omega) (by omega);obtain ⟨y3, y4⟩ := y3 (by omega);have f11 := fe x.f1 y.f1 (by omega) (by omega) (by omega) (by omega);have f12 := fe x.f1 y.f2 (by omega) (by omega) (by omega) (by omega);have f21 := fe x.f2 y.f1 (by omega) (by omega) (by omega) (by omega);have f22 := fe x.f2 y.f2 (by omega) (by omega) (by omega) (by omega)
      have e1 : rnf f x = ⟨x.f0, f x.f1, f x.f2, x.f3⟩ := by unfold rnf; rw [if_neg n12, if_neg n6]
      have e2 : rnf f y = ⟨y.f0, f y.f1, f y.f2, y.f3⟩ := by unfold rnf; rw [if_neg (by omega), if_neg (by omega)]
      rw [e1, e2, ← hk];rw [← f11, ← f12, ← f21, ← f22];generalize f x.f1 = A;generalize f x.f2 = B;generalize f y.f1 = C;generalize f y.f2 = D;generalize x.f3 = X;generalize y.f3 = Y;have h0 := hx.1;generalize x.f0 = K at *;clear hx hy f11 f12 f21 f22 e1 e2 fe hf hk n12 n6;unfold canon;simp only
      by_cases c : K = 3 ∨ K = 5
      · by_cases c1 : A > B <;> by_cases c2 : C > D <;> simp [c, c1, c2] <;> omega
      · simp [c, eq_comm]
    · have n12 : ¬ (x.f0 = 1 ∨ x.f0 = 2) := by omega
      obtain ⟨y1, y2, y3⟩ := okG_ops hy (by omega) (by omega);have f11 := fe x.f1 y.f1 (by omega) (by omega) (by omega) (by omega)
      have e1 : rnf f x = ⟨x.f0, f x.f1, x.f2, x.f3⟩ := by unfold rnf; rw [if_neg n12, if_pos hx.1]
      have e2 : rnf f y = ⟨y.f0, f y.f1, y.f2, y.f3⟩ := by unfold rnf; rw [if_neg (by omega), if_pos (by omega)]
      have c1 : canon ⟨x.f0, f x.f1, x.f2, x.f3⟩ = ⟨x.f0, f x.f1, x.f2, x.f3⟩ := by unfold canon; rw [if_neg (by show ¬ ((x.f0 = 3 ∨ x.f0 = 5) ∧ _); omega)]
      have c2 : canon ⟨y.f0, f y.f1, y.f2, y.f3⟩ = ⟨y.f0, f y.f1, y.f2, y.f3⟩ := by unfold canon; rw [if_neg (by show ¬ ((y.f0 = 3 ∨ y.f0 = 5) ∧ _); omega)]
      rw [e1, e2, c1, c2, S61.ext_iff'];simp only
      omega
  · constructor
    · intro h
      have := congrArg S61.f0 h;rw [canon_kind, canon_kind, rnf_kind, rnf_kind] at this;exact absurd this.symm hk
    · intro h
      exfalso
      rcases h with rfl | ⟨rfl, _⟩
      · exact hk rfl
      · exact hk rfl
theorem find_par (key g : S61) : ∀ (M : List (S61 × Int)) (l : List S61), M.length = l.length → (∀ j : Int, 0 ≤ j → j < l.length → (key = (atM M j).1 ↔ sameG (atG l j) g)) →
    findM key M = if findS l g < l.length then some (atM M (findS l g)).2 else none
  | [], [], _, _ => by simp [findM]
  | [], _ :: _, h, _ => by simp at h
  | _ :: _, [], h, _ => by simp at h
  | m :: M, x :: l, h, hj => by
    have h0 := hj 0 (by omega) (by simp);have e0 : (key = m.1 ↔ sameG x g) := h0;unfold findM findS;rw [List.findIdx_cons]
    by_cases e : sameG x g
    · rw [if_pos (e0.2 e)]
      simp [e, atM]
    · rw [if_neg (fun h' => e (e0.1 h'))]
      have ih := find_par key g M l (by simpa using h) fun j j0 j1 => by
        have := hj (j + 1) (by omega) (by simp; omega)
        have t1 : atM (m :: M) (j + 1) = atM M j := by
          unfold atM; rw [show (j + 1).toNat = j.toNat + 1 by omega]; rfl
        have t2 : atG (x :: l) (j + 1) = atG l j := by
          unfold atG; rw [show (j + 1).toNat = j.toNat + 1 by omega]; rfl
        rw [t1, t2] at this;exact this
      rw [ih];simp only [e, decide_false, Bool.cond_false, List.length_cons, Nat.add_lt_add_iff_right];unfold findS
      split
      · congr 1
      · rfl
structure SInv (gs : List S61) (pl : List Int) : Prop where
  len : (spL gs).2.length = (shL gs).1.length
  pls : pl.length = gs.length
  a : ∀ i : Int, 0 ≤ i → i < gs.length → 0 ≤ atI (shL gs).2 i ∧ atI (shL gs).2 i < (shL gs).1.length ∧ atI (spL gs).1 i = (atM (spL gs).2 (atI (shL gs).2 i)).2
  b : ∀ j : Int, 0 ≤ j → j < (shL gs).1.length → 0 ≤ (atM (spL gs).2 j).2 ∧ (atM (spL gs).2 j).2 < gs.length ∧ atI (shL gs).2 (atM (spL gs).2 j).2 = j ∧ atI (spL gs).1 (atM (spL gs).2 j).2 = (atM (spL gs).2 j).2
  c : ∀ j : Int, 0 ≤ j → j < (shL gs).1.length → (atM (spL gs).2 j).1 = canon (rnf (fun x => (atM (spL gs).2 x).2) (atG (shL gs).1 j))
  d : mvL (fun i => atI (spL gs).1 i == i) (atI (spL gs).1) gs = ((shL gs).1, pl)
  e : ∀ j : Int, 0 ≤ j → j < (shL gs).1.length → atI pl (atM (spL gs).2 j).2 = j
theorem atM_left {l m : List (S61 × Int)} {i : Int} (h1 : i < l.length) (h0 : 0 ≤ i) : atM (l ++ m) i = atM l i := by
  unfold atM;rw [List.getD_eq_getElem?_getD, List.getD_eq_getElem?_getD, List.getElem?_append_left (by omega)]
theorem atM_last (l : List (S61 × Int)) (x : S61 × Int) : atM (l ++ [x]) l.length = x := by
  simp [atM, List.getD_eq_getElem?_getD]
theorem share_inv {p s : Int} (gs : List S61) : okL p s gs → ∃ pl, SInv gs pl := by
  refine snoc_ind (P := fun gs => okL p s gs → ∃ pl, SInv gs pl) (fun _ => ⟨[], ⟨rfl, rfl, fun i i0 i1 => ?_, fun i i0 i1 => ?_, fun i i0 i1 => ?_, rfl, fun i i0 i1 => ?_⟩⟩) (fun gs g ih h => ?_) gs
  · exact absurd i1 (by simp; omega)
  · exact absurd i1 (by simp [shL]; omega)
  · exact absurd i1 (by simp [shL]; omega)
  · exact absurd i1 (by simp [shL]; omega)
  obtain ⟨h1, h2⟩ := okL_cut h;obtain ⟨pl, I⟩ := ih h1;have lt := shL_len gs;have ls := spL_len gs;have hsh := shL_shr gs h1
  have hg' : okG p s (shL gs).1.length (rnf (atI (shL gs).2) g) := hsh.new_ok h2 fun _ _ => trivial
  have key : canon (rnf (atI (spL gs).1) g) = canon (rnf (fun x => (atM (spL gs).2 x).2) (rnf (atI (shL gs).2) g)) := by
    rw [rnf_rnf]
    congr 1
    exact rnf_congr h2 fun x x0 x1 => (I.a x x0 x1).2.2
  have inj : ∀ x y, 0 ≤ x → x < ((shL gs).1.length : Int) → 0 ≤ y → y < ((shL gs).1.length : Int) → (atM (spL gs).2 x).2 = (atM (spL gs).2 y).2 → x = y := fun x y x0 x1 y0 y1 e => by
    have e1 := (I.b x x0 x1).2.2.1;have e2 := (I.b y y0 y1).2.2.1;rw [e, e2] at e1;exact e1.symm
  have fnd := find_par (canon (rnf (atI (spL gs).1) g)) (rnf (atI (shL gs).2) g) (spL gs).2 (shL gs).1 I.len fun j j0 j1 => by
    rw [I.c j j0 j1, key];exact canon_same inj (okL_at hsh.ok j0 j1) hg' (by omega) (Int.le_refl _)
  have hle := findS_le (shL gs).1 (rnf (atI (shL gs).2) g)
  have mono : ∀ k : Int, mvL (fun i => atI ((spL gs).1 ++ [k]) i == i) (atI ((spL gs).1 ++ [k])) gs = ((shL gs).1, pl) := fun k => by
    rw [← I.d]
    refine mvL_congr gs h1 fun x x0 x1 => ?_
    rw [atI_left (by omega) x0];exact ⟨rfl, rfl⟩
  by_cases hk : findS (shL gs).1 (rnf (atI (shL gs).2) g) < (shL gs).1.length
  · rw [if_pos hk] at fnd
    generalize hkk : findS (shL gs).1 (rnf (atI (shL gs).2) g) = k at *
    have es : spL (gs ++ [g]) = ((spL gs).1 ++ [(atM (spL gs).2 (k : Int)).2], (spL gs).2) := by
      rw [spL_snoc]; unfold spStep; rw [fnd]
    have et : shL (gs ++ [g]) = ((shL gs).1, (shL gs).2 ++ [(k : Int)]) := by
      rw [shL_snoc]; unfold shStep; simp only; rw [hkk, if_neg (by omega)]
    obtain ⟨bk0, bk1, bk2, bk3⟩ := I.b k (by omega) (by omega);refine ⟨pl ++ [0], ?_, ?_, ?_, ?_, ?_, ?_, ?_⟩
    · rw [es, et]; exact I.len
    · simp [I.pls]
    · rw [es, et]
      intro i i0 i1;simp only [List.length_append, List.length_cons, List.length_nil] at i1
      by_cases e : i < gs.length
      · rw [atI_left (by omega) i0, atI_left (by omega) i0]; exact I.a i i0 e
      · have hi : i = gs.length := by omega
        have p1 : atI ((spL gs).1 ++ [(atM (spL gs).2 (k : Int)).2]) i = (atM (spL gs).2 (k : Int)).2 := by rw [hi, ← ls, atI_last]
        have p2 : atI ((shL gs).2 ++ [(k : Int)]) i = k := by rw [hi, ← lt, atI_last]
        simp only;rw [p1, p2];exact ⟨by omega, by omega, rfl⟩
    · rw [es, et]
      intro j j0 j1;obtain ⟨b0, b1, b2, b3⟩ := I.b j j0 j1;simp only;refine ⟨b0, by simp; omega, ?_, ?_⟩
      · rw [atI_left (by omega) b0]; exact b2
      · rw [atI_left (by omega) b0]; exact b3
    · rw [es, et]
      exact I.c
    · rw [es, et]
      simp only;rw [mvL_snoc, mono];unfold mvStep;simp only [I.pls];rw [← ls, atI_last, if_neg];simp only [beq_iff_eq]
      omega
    · rw [es, et]
      intro j j0 j1;obtain ⟨b0, b1, b2, b3⟩ := I.b j j0 j1;simp only;rw [atI_left (by rw [I.pls]; exact b1) b0];exact I.e j j0 j1
  · rw [if_neg hk] at fnd
    have hk' : findS (shL gs).1 (rnf (atI (shL gs).2) g) = (shL gs).1.length := by omega
    have es : spL (gs ++ [g]) = ((spL gs).1 ++ [(gs.length : Int)], (spL gs).2 ++ [(canon (rnf (atI (spL gs).1) g), (gs.length : Int))]) := by
      rw [spL_snoc]; unfold spStep; rw [fnd]; simp only [ls]
    have et : shL (gs ++ [g]) = ((shL gs).1 ++ [rnf (atI (shL gs).2) g], (shL gs).2 ++ [((shL gs).1.length : Int)]) := by
      rw [shL_snoc]; unfold shStep; simp only; rw [hk', if_pos rfl]
    have mle : ∀ j : Int, 0 ≤ j → j < (shL gs).1.length → atM ((spL gs).2 ++ [(canon (rnf (atI (spL gs).1) g), (gs.length : Int))]) j = atM (spL gs).2 j := fun j j0 j1 => atM_left (by rw [I.len]; exact j1) j0
    have mla : atM ((spL gs).2 ++ [(canon (rnf (atI (spL gs).1) g), (gs.length : Int))]) (shL gs).1.length = (canon (rnf (atI (spL gs).1) g), (gs.length : Int)) := by
      rw [← I.len]; exact atM_last _ _
    refine ⟨pl ++ [((shL gs).1.length : Int)], ?_, ?_, ?_, ?_, ?_, ?_, ?_⟩
    · rw [es, et]; simp [I.len]
    · simp [I.pls]
    · rw [es, et]
      intro i i0 i1;simp only [List.length_append, List.length_cons, List.length_nil] at i1 ⊢
      by_cases e : i < gs.length
      · obtain ⟨a0, a1, a2⟩ := I.a i i0 e
        rw [atI_left (by omega) i0, atI_left (by omega) i0, mle _ a0 a1];exact ⟨a0, by omega, a2⟩
      · have hi : i = gs.length := by omega
        have p1 : atI ((spL gs).1 ++ [(gs.length : Int)]) i = gs.length := by rw [hi, ← ls, atI_last]
        have p2 : atI ((shL gs).2 ++ [((shL gs).1.length : Int)]) i = (shL gs).1.length := by rw [hi, ← lt, atI_last]
        rw [p1, p2, mla];exact ⟨by omega, by omega, rfl⟩
    · rw [es, et]
      intro j j0 j1;simp only [List.length_append, List.length_cons, List.length_nil] at j1 ⊢
      by_cases e : j < (shL gs).1.length
      · obtain ⟨b0, b1, b2, b3⟩ := I.b j j0 e
        rw [mle j j0 e, atI_left (by omega) b0, atI_left (by omega) b0];exact ⟨b0, by omega, b2, b3⟩
      · have hj : j = (shL gs).1.length := by omega
        have p1 : atI ((spL gs).1 ++ [(gs.length : Int)]) (gs.length : Int) = gs.length := by
          have := atI_last (spL gs).1 (gs.length : Int); rw [ls] at this; exact this
        have p2 : atI ((shL gs).2 ++ [((shL gs).1.length : Int)]) (gs.length : Int) = (shL gs).1.length := by
          have := atI_last (shL gs).2 ((shL gs).1.length : Int); rw [lt] at this; exact this
        rw [hj, mla];exact ⟨by show (0 : Int) ≤ (gs.length : Int); omega, by show (gs.length : Int) < _; omega, p2, p1⟩
    · rw [es, et]
      intro j j0 j1;simp only [List.length_append, List.length_cons, List.length_nil] at j1 ⊢
      by_cases e : j < (shL gs).1.length
      · rw [mle j j0 e, atG_left e j0, I.c j j0 e]
        congr 1
        exact rnf_congr (okL_at hsh.ok j0 e) fun x x0 x1 => by rw [mle x x0 (by omega)]
      · have hj : j = (shL gs).1.length := by omega
        rw [hj, mla, atG_last]
        show canon (rnf (atI (spL gs).1) g) = _
        refine key.trans ?_
        congr 1
        exact rnf_congr hg' fun x x0 x1 => by rw [mle x x0 x1]
    · rw [es, et]
      simp only;rw [mvL_snoc, mono];unfold mvStep;simp only [I.pls]
      have p1 : atI ((spL gs).1 ++ [(gs.length : Int)]) (gs.length : Int) = gs.length := by
        have := atI_last (spL gs).1 (gs.length : Int); rw [ls] at this; exact this
      rw [p1, if_pos (by simp)]
      congr 3
      refine rnf_congr h2 fun x x0 x1 => ?_
      obtain ⟨a0, a1, a2⟩ := I.a x x0 x1;rw [atI_left (by omega) x0, a2];exact I.e _ a0 a1
    · rw [es, et]
      intro j j0 j1;simp only [List.length_append, List.length_cons, List.length_nil] at j1
      by_cases e : j < (shL gs).1.length
      · obtain ⟨b0, b1, b2, b3⟩ := I.b j j0 e
        simp only;rw [mle j j0 e, atI_left (by rw [I.pls]; exact b1) b0];exact I.e j j0 e
      · have hj : j = (shL gs).1.length := by omega
        simp only;rw [hj, mla];have := atI_last pl ((shL gs).1.length : Int); rw [I.pls] at this; exact this
theorem share_moved {p s : Int} {gs : List S61} (h : okL p s gs) : ∃ pl, mvL (fun i => atI (spL gs).1 i == i) (atI (spL gs).1) gs = ((shL gs).1, pl) ∧ pl.length = gs.length ∧ ∀ i : Int, 0 ≤ i → i < gs.length → 0 ≤ atI (spL gs).1 i ∧ atI (spL gs).1 i < gs.length ∧ atI pl (atI (spL gs).1 i) = atI (shL gs).2 i := by
  obtain ⟨pl, I⟩ := share_inv gs h;refine ⟨pl, I.d, I.pls, fun i i0 i1 => ?_⟩;obtain ⟨a0, a1, a2⟩ := I.a i i0 i1;obtain ⟨b0, b1, _⟩ := I.b _ a0 a1;rw [a2];exact ⟨b0, b1, I.e _ a0 a1⟩
end Go.Proofs.Ytmlbliggbkfjnaa.L
/- Both tests of a prime answer alike, and what they answer; loops. -/
namespace Go.Proofs.Ytmlbliggbkfjnaa.L
open Go.RowKit Go.Proofs.YtmlbliggbkfjnaaW.PrintWords Go.Proofs.Ytmlbliggbkfjnaa.J
theorem u64_small {n : Int} (h0 : 0 ≤ n) (h1 : n < 18446744073709551616) : IntKind.u64.wrap n = n := by
  simp [IntKind.wrap, IntKind.signed, IntKind.bits]
  omega
theorem w64_small {n : Int} (h0 : -9223372036854775808 ≤ n) (h1 : n < 9223372036854775808) : wrap64 n = n := by
  unfold wrap64
  omega
def free (a : Int) : Prop := ∀ y : Fin 257, 2 ≤ y.val → ((y.val : Int) * (y.val : Int)) ≤ a → a % (y.val : Int) ≠ 0
def isP (a : Int) : Bool := decide (3 ≤ a ∧ a ≤ 65537 ∧ ∀ y : Fin 257, 2 ≤ y.val → ((y.val : Int) * (y.val : Int)) ≤ a → a % (y.val : Int) ≠ 0)
theorem free_of {a : Int} (h : a ≤ 65537) (hf : ∀ y : Fin 257, 2 ≤ y.val → ((y.val : Int) * (y.val : Int)) ≤ a → a % (y.val : Int) ≠ 0) (y : Int) (h2 : 2 ≤ y) (hy : y * y ≤ a) : a % y ≠ 0 := by
  have hb : y < 257 := by
    rcases Int.lt_or_le y 257 with h' | h'
    · exact h'
    · have : 257 * 257 ≤ y * y := Int.mul_le_mul h' h' (by omega) (by omega)
      omega
  have := hf ⟨y.toNat, by omega⟩ (show 2 ≤ y.toNat by omega);simp only at this;rw [show ((y.toNat : Nat) : Int) = y by omega] at this;exact this hy
theorem isP_iff (a : Int) : isP a = true ↔ 3 ≤ a ∧ a ≤ 65537 ∧ ∀ y : Int, 2 ≤ y → y * y ≤ a → a % y ≠ 0 := by
  unfold isP;rw [decide_eq_true_iff]
  constructor
  · rintro ⟨h1, h2, h3⟩
    exact ⟨h1, h2, fun y hy => free_of h2 h3 y hy⟩
  · rintro ⟨h1, h2, h3⟩
    exact ⟨h1, h2, fun y hy hq => h3 y.val (by omega) hq⟩
theorem sq_small {x : Int} (h0 : 0 ≤ x) (h1 : x ≤ 300) : 0 ≤ x * x ∧ x * x ≤ 90000 :=
  ⟨Int.mul_nonneg h0 h0, Int.mul_le_mul h1 h1 h0 (by omega)⟩
theorem ref_loop (a : Int) (h3 : 3 ≤ a) (ha : a ≤ 65537) : ∀ (m : Nat) (x : Int), 2 ≤ x → x + m = 258 → (∀ y : Int, 2 ≤ y → y < x → y * y ≤ a → a % y ≠ 0) → Ev (fun k => qpa.l0 k a x) (isP a)
  | 0, x, h2, hx, hy => by
    have hb : isP a = true := (isP_iff a).2 ⟨h3, ha, fun y y2 yq => hy y y2 (by
      rcases Int.lt_or_le y x with h' | h'
      · exact h'
      · have : 257 * 257 ≤ y * y := Int.mul_le_mul (by omega) (by omega) (by omega) (by omega)
        omega) yq⟩
    rw [hb];refine Ev.step (f := fun k => some true) (fun k => ?_) (Ev.now _);have hq := sq_small (x := x) (by omega) (by omega)
    have : ¬ (x * x ≤ a) := by
      have : 257 * 257 ≤ x * x := Int.mul_le_mul (by omega) (by omega) (by omega) (by omega)
      omega
    simp only [qpa.l0];rw [u64_small hq.1 (by omega), if_neg this]
  | m + 1, x, h2, hx, hy => by
    have hq := sq_small (x := x) (by omega) (by omega)
    by_cases hle : x * x ≤ a
    · by_cases hd : a % x = 0
      · have hb : isP a = false := by
          rw [Bool.eq_false_iff];intro h';exact ((isP_iff a).1 h').2.2 x h2 hle hd
        rw [hb];refine Ev.step (f := fun k => some false) (fun k => ?_) (Ev.now _);simp only [qpa.l0];rw [u64_small hq.1 (by omega), if_pos hle, if_neg (show ¬ x = 0 by omega), if_pos (by rw [Int.tmod_eq_emod_of_nonneg (by omega)]; exact hd)]
      · refine Ev.step (f := fun k => qpa.l0 k a (x + 1)) (fun k => ?_) (ref_loop a h3 ha m (x + 1) (by omega) (by omega) fun y y2 yx yq => ?_)
        · conv => lhs; simp only [qpa.l0]
          rw [u64_small hq.1 (by omega), if_pos hle, if_neg (show ¬ x = 0 by omega), if_neg (by rw [Int.tmod_eq_emod_of_nonneg (by omega)]; exact hd), u64_small (show 0 ≤ x + 1 by omega) (by omega)]
        · rcases Int.lt_or_le y x with h' | h'
          · exact hy y y2 h' yq
          · obtain rfl : y = x := by omega
            exact hd
    · have hb : isP a = true := (isP_iff a).2 ⟨h3, ha, fun y y2 yq => hy y y2 (by
        rcases Int.lt_or_le y x with h' | h'
        · exact h'
        · have : x * x ≤ y * y := Int.mul_le_mul h' h' (by omega) (by omega)
          omega) yq⟩
      rw [hb];refine Ev.step (f := fun k => some true) (fun k => ?_) (Ev.now _);simp only [qpa.l0];rw [u64_small hq.1 (by omega), if_neg hle]
theorem odd_loop (a : Int) (h3 : 3 ≤ a) (ha : a ≤ 65537) (hodd : a % 2 = 1) : ∀ (m : Nat) (x : Int), 3 ≤ x → x % 2 = 1 → x + 2 * m = 259 → (∀ y : Int, 2 ≤ y → y < x → y * y ≤ a → a % y ≠ 0) → Ev (fun k => qya.l0 k a x) (isP a)
  | 0, x, h2, hxo, hx, hy => by
    have hb : isP a = true := (isP_iff a).2 ⟨h3, ha, fun y y2 yq => hy y y2 (by
      rcases Int.lt_or_le y x with h' | h'
      · exact h'
      · have : 257 * 257 ≤ y * y := Int.mul_le_mul (by omega) (by omega) (by omega) (by omega)
        omega) yq⟩
    rw [hb];refine Ev.step (f := fun k => some true) (fun k => ?_) (Ev.now _);have hq := sq_small (x := x) (by omega) (by omega)
    have : ¬ (x * x ≤ a) := by
      have : 257 * 257 ≤ x * x := Int.mul_le_mul (by omega) (by omega) (by omega) (by omega)
      omega
    simp only [qya.l0];rw [u64_small hq.1 (by omega), if_neg this]
  | m + 1, x, h2, hxo, hx, hy => by
    have hq := sq_small (x := x) (by omega) (by omega)
    by_cases hle : x * x ≤ a
    · by_cases hd : a % x = 0
      · have hb : isP a = false := by
          rw [Bool.eq_false_iff];intro h';exact ((isP_iff a).1 h').2.2 x (by omega) hle hd
        rw [hb];refine Ev.step (f := fun k => some false) (fun k => ?_) (Ev.now _);simp only [qya.l0];rw [u64_small hq.1 (by omega), if_pos hle, if_neg (show ¬ x = 0 by omega), if_pos (by rw [Int.tmod_eq_emod_of_nonneg (by omega)]; exact hd)]
      · refine Ev.step (f := fun k => qya.l0 k a (x + 2)) (fun k => ?_) (odd_loop a h3 ha hodd m (x + 2) (by omega) (by omega) (by omega) fun y y2 yx yq => ?_)
        · conv => lhs; simp only [qya.l0]
          rw [u64_small hq.1 (by omega), if_pos hle, if_neg (show ¬ x = 0 by omega), if_neg (by rw [Int.tmod_eq_emod_of_nonneg (by omega)]; exact hd), u64_small (show 0 ≤ x + 2 by omega) (by omega)]
        · rcases Int.lt_or_le y x with h' | h'
          · exact hy y y2 h' yq
          · rcases Int.lt_or_le x y with h'' | h''
            · obtain rfl : y = x + 1 := by omega
              intro h0;have h1 : (2 : Int) ∣ a := Int.dvd_trans (Int.dvd_of_emod_eq_zero (by omega)) (Int.dvd_of_emod_eq_zero h0);have := Int.emod_eq_zero_of_dvd h1
              omega
            · obtain rfl : y = x := by omega
              exact hd
    · have hb : isP a = true := (isP_iff a).2 ⟨h3, ha, fun y y2 yq => hy y y2 (by
        rcases Int.lt_or_le y x with h' | h'
        · exact h'
        · have : x * x ≤ y * y := Int.mul_le_mul h' h' (by omega) (by omega)
          omega) yq⟩
      rw [hb];refine Ev.step (f := fun k => some true) (fun k => ?_) (Ev.now _);simp only [qya.l0];rw [u64_small hq.1 (by omega), if_neg hle]
theorem not_isP {a : Int} (h : ¬ (3 ≤ a ∧ a ≤ 65537)) : isP a = false := by
  rw [Bool.eq_false_iff];intro h';have := (isP_iff a).1 h';exact h ⟨this.1, this.2.1⟩
theorem ref_is (a : Int) : Ev (fun k => qpa.f k a) (isP a) := by
  by_cases h3 : a < 3
  · rw [not_isP (by omega)]
    refine Ev.step (f := fun k => some false) (fun k => ?_) (Ev.now _);simp [qpa.f, qpa.j0, h3]
  · by_cases hb : a > 65537
    · rw [not_isP (by omega)]
      refine Ev.step (f := fun k => some false) (fun k => ?_) (Ev.now _);simp [qpa.f, qpa.j0, h3, hb]
    · refine Ev.step (f := fun k => qpa.l0 k a 2) (fun k => ?_) (ref_loop a (by omega) (by omega) 256 2 (by omega) (by omega) fun y y2 yx => by omega)
      simp [qpa.f, qpa.j0, h3, hb]
theorem field_is (a : Int) : Ev (fun k => qya.f k a) (isP a) := by
  by_cases h3 : a < 3
  · rw [not_isP (by omega)]
    refine Ev.step (f := fun k => some false) (fun k => ?_) (Ev.now _);simp [qya.f, qya.j0, h3]
  · by_cases hb : a > 65537
    · rw [not_isP (by omega)]
      refine Ev.step (f := fun k => some false) (fun k => ?_) (Ev.now _);simp [qya.f, qya.j0, h3, hb]
    · by_cases ho : a % 2 = 0
      · have hp : isP a = false := by
          rw [Bool.eq_false_iff];intro h';exact ((isP_iff a).1 h').2.2 2 (by omega) (by omega) ho
        rw [hp];refine Ev.step (f := fun k => some false) (fun k => ?_) (Ev.now _)
        have ht : Int.tmod a 2 = 0 := by rw [Int.tmod_eq_emod_of_nonneg (by omega)]; exact ho
        simp [qya.f, qya.j0, h3, hb, ht]
      · refine Ev.step (f := fun k => qya.l0 k a 3) (fun k => ?_) (odd_loop a (by omega) (by omega) (by omega) 128 3 (by omega) (by omega) (by omega) fun y y2 yx yq => ?_)
        · have ht : ¬ Int.tmod a 2 = 0 := by rw [Int.tmod_eq_emod_of_nonneg (by omega)]; exact ho
          simp [qya.f, qya.j0, h3, hb, ht]
        · obtain rfl : y = 2 := by omega
          exact ho
theorem Ev.fuel {α : Type} {g : Nat → Option α} {r : α} (n : Nat) (h : ∀ k, g (k + n) = some r) : Ev g r :=
  ⟨n, fun k hk => by obtain ⟨m, rfl⟩ := Nat.exists_eq_add_of_le hk; rw [Nat.add_comm]; exact h m⟩
theorem Ev.steps {α : Type} {g f : Nat → Option α} {r : α} (n : Nat) (h : ∀ k, g (k + n) = f k) (hf : Ev f r) : Ev g r := by
  obtain ⟨K, hK⟩ := hf;exact ⟨K + n, fun k hk => by obtain ⟨m, rfl⟩ := Nat.exists_eq_add_of_le hk; rw [show K + n + m = (K + m) + n by omega, h]; exact hK _ (by omega)⟩
theorem up {α : Type} {g : Nat → Nat → Option α} {R : Nat → α} {n : Nat} (last : Ev (fun k => g k n) (R n)) (step : ∀ i, i < n → Ev (fun k => g k (i + 1)) (R (i + 1)) → Ev (fun k => g k i) (R i)) : ∀ m i : Nat, i + m = n → Ev (fun k => g k i) (R i)
  | 0, i, h => by obtain rfl : i = n := by omega
                  exact last
  | m + 1, i, h => step i (by omega) (up last step m (i + 1) (by omega))
theorem up0 {α : Type} {g : Nat → Nat → Option α} {R : Nat → α} {n : Nat} (last : Ev (fun k => g k n) (R n)) (step : ∀ i, i < n → Ev (fun k => g k (i + 1)) (R (i + 1)) → Ev (fun k => g k i) (R i)) : Ev (fun k => g k 0) (R 0) := up last step n 0 (by omega)
theorem wadd {i : Nat} (h : i < 9223372036854775807) : wrap64 ((i : Int) + 1) = ((i + 1 : Nat) : Int) := by rw [w64_small (by omega) (by omega)]; omega
theorem u64_wf {n : Int} (h : (Lit.int .u64 n).wf = true) : 0 ≤ n ∧ n < 18446744073709551616 := by
  simp [Lit.wf, IntKind.min, IntKind.max, IntKind.signed, IntKind.bits] at h
  omega
end Go.Proofs.Ytmlbliggbkfjnaa.L
/- Both checks of a circuit answer alike, and what they answer. -/
namespace Go.Proofs.Ytmlbliggbkfjnaa.L
open Go.RowKit Go.Proofs.YtmlbliggbkfjnaaW.PrintWords Go.Proofs.Ytmlbliggbkfjnaa.J
def gateV (p s i : Int) (g : S61) : Int :=
  if g.f0 = 1 then (if g.f2 ≠ 0 ∨ g.f3 ≠ 0 then 4 else if g.f1 < 0 ∨ g.f1 ≥ s then 13 else 0)
  else if g.f0 = 2 then (if g.f1 ≠ 0 ∨ g.f2 ≠ 0 then 4 else if g.f3 ≥ p then 2 else 0)
  else if g.f0 = 3 ∨ g.f0 = 4 ∨ g.f0 = 5 then (if g.f3 ≠ 0 then 4 else if g.f1 < 0 ∨ g.f1 ≥ i ∨ g.f2 < 0 ∨ g.f2 ≥ i then 13 else 0)
  else if g.f0 = 6 then (if g.f2 ≠ 0 then 4 else if g.f1 < 0 ∨ g.f1 ≥ i then 13 else if g.f3 ≥ p then 2 else 0)
  else 4
theorem gateV_ok {p s i : Int} {g : S61} (h3 : 0 ≤ g.f3) : gateV p s i g = 0 ↔ okG p s i g := by
  unfold gateV okG
  split
  · split
    · simp; omega
    · split
      · simp; omega
      · simp; omega
  split
  · split
    · simp; omega
    · split
      · simp; omega
      · simp; omega
  split
  · split
    · simp; omega
    · split
      · simp; omega
      · simp; omega
  split
  · split
    · simp; omega
    · split
      · simp; omega
      · split
        · simp; omega
        · simp; omega
  · simp; omega
theorem within_is (b s : Int) : circ_Gate_1.f b s = some (!decide (b < 0 ∨ b ≥ s)) := by
  unfold circ_Gate_1.f
  by_cases h : b < 0
  · rw [if_neg (by omega)]; simp [h]
  · rw [if_pos (by omega)]
    by_cases h' : b < s
    · have : ¬ (b < 0 ∨ b ≥ s) := by omega
      simp [this, h']
    · have : (b < 0 ∨ b ≥ s) := by omega
      simp [this, h']
theorem circ_gate (p s i : Int) (g : S61) (hp : 0 < p) : Ev (fun k => circ_Gate.f k p s i g.f0 g.f1 g.f2 g.f3) (gateV p s i g) := by
  refine Ev.fuel 10 fun k => ?_
  unfold gateV;obtain ⟨a, b, c, d⟩ := g;simp only
  have hp' : ¬ p ≤ 0 := by omega
  by_cases h1 : a = 1
  · subst h1
    have e := within_is b s
    by_cases hb : b < 0 ∨ b ≥ s
    · rw [qqT hb] at e
      by_cases hc : c = 0 <;> by_cases hd : d = 0 <;> simp only [circ_Gate.f, circ_named.f, circ_Gate.j0, circ_Gate.j1, e, if_pos hb] <;> simp [hc, hd, hp']
    · rw [qqF hb] at e
      by_cases hc : c = 0 <;> by_cases hd : d = 0 <;> simp only [circ_Gate.f, circ_named.f, circ_Gate.j0, circ_Gate.j1, e, if_neg hb] <;> simp [hc, hd, hp']
  by_cases h2 : a = 2
  · subst h2
    by_cases hb : b = 0 <;> by_cases hc : c = 0 <;> by_cases hd : d ≥ p <;> simp [circ_Gate.f, circ_named.f, circ_Gate.j0, circ_Gate.j1, hb, hc, hd]
  by_cases h3 : a = 3 ∨ a = 4 ∨ a = 5
  · have e : circ_named.f (k + 10) a = some (false, true, true, false, true) := by
      rcases h3 with rfl | rfl | rfl <;> simp [circ_named.f, circ_named.j0]
    rw [if_neg h1, if_neg h2, if_pos h3];unfold circ_Gate.f;rw [e];have e1 := within_is b i;have e2 := within_is c i
    by_cases hb : b < 0 ∨ b ≥ i
    · rw [qqT hb] at e1
      have hh : b < 0 ∨ b ≥ i ∨ c < 0 ∨ c ≥ i := by omega
      by_cases hd : d = 0 <;> simp only [circ_Gate.j0, circ_Gate.j1, e1, e2, if_pos hh] <;> simp [hd, hp']
    · rw [qqF hb] at e1
      by_cases hc : c < 0 ∨ c ≥ i
      · rw [qqT hc] at e2
        have hh : b < 0 ∨ b ≥ i ∨ c < 0 ∨ c ≥ i := by omega
        by_cases hd : d = 0 <;> simp only [circ_Gate.j0, circ_Gate.j1, e1, e2, if_pos hh] <;> simp [hd, hp']
      · rw [qqF hc] at e2
        have hh : ¬ (b < 0 ∨ b ≥ i ∨ c < 0 ∨ c ≥ i) := by omega
        by_cases hd : d = 0 <;> simp only [circ_Gate.j0, circ_Gate.j1, e1, e2, if_neg hh] <;> simp [hd, hp']
  by_cases h6 : a = 6
  · subst h6
    have e := within_is b i
    by_cases hb : b < 0 ∨ b ≥ i
    · rw [qqT hb] at e
      by_cases hc : c = 0 <;> by_cases hd : d ≥ p <;> simp only [circ_Gate.f, circ_named.f, circ_named.j0, circ_Gate.j0, circ_Gate.j1, e, if_pos hb] <;> simp [hc, hd]
    · rw [qqF hb] at e
      by_cases hc : c = 0 <;> by_cases hd : d ≥ p <;> simp only [circ_Gate.f, circ_named.f, circ_named.j0, circ_Gate.j0, circ_Gate.j1, e, if_neg hb] <;> simp [hc, hd]
  · have e : circ_named.f (k + 10) a = some (false, false, false, false, false) := by
      have h5 : a ≠ 3 ∧ a ≠ 4 ∧ a ≠ 5 := by omega
      simp [circ_named.f, circ_named.j0, h1, h2, h5, h6]
    rw [if_neg h1, if_neg h2, if_neg h3, if_neg h6];unfold circ_Gate.f;rw [e]
    rfl
theorem ref_gate (p s i : Int) (g : S61) : Ev (fun k => qea.f k p s i g.f0 g.f1 g.f2 g.f3) (gateV p s i g) := by
  refine Ev.fuel 10 fun k => ?_
  unfold gateV;obtain ⟨a, b, c, d⟩ := g;simp only
  by_cases h1 : a = 1
  · subst h1
    by_cases hc : c = 0 <;> by_cases hd : d = 0 <;> by_cases hb : b < 0 <;> by_cases hb' : b ≥ s <;> simp [qea.f, qea.j0, qea.j1, qea.j2, qea.j3, qea.j4, hb, hb', hc, hd]
  by_cases h2 : a = 2
  · subst h2
    by_cases hb : b = 0 <;> by_cases hc : c = 0 <;> by_cases hd : d ≥ p <;> simp [qea.f, qea.j0, qea.j1, qea.j2, qea.j3, qea.j4, hb, hc, hd]
  by_cases h3 : a = 3 ∨ a = 4 ∨ a = 5
  · have e : qea.f (k + 10) p s i a b c d = qea.j1 (k + 9) p s i true true false a b c d := by
      rcases h3 with rfl | rfl | rfl <;> simp [qea.f, qea.j0]
    have h1' : ¬ a = 1 := h1;rw [if_neg h1, if_neg h2, if_pos h3, e]
    by_cases hd : d = 0 <;> by_cases hb : b < 0 <;> by_cases hb' : b ≥ i <;> by_cases hc : c < 0 <;> by_cases hc' : c ≥ i <;> simp [qea.j1, qea.j2, qea.j3, qea.j4, h1', hd, hb, hb', hc, hc']
  by_cases h6 : a = 6
  · subst h6
    by_cases hc : c = 0 <;> by_cases hb : b < 0 <;> by_cases hb' : b ≥ i <;> by_cases hd : d ≥ p <;> simp [qea.f, qea.j0, qea.j1, qea.j2, qea.j3, qea.j4, hd, hb, hb', hc]
  · have h5 : a ≠ 3 ∧ a ≠ 4 ∧ a ≠ 5 := by omega
    rw [if_neg h1, if_neg h2, if_neg h3, if_neg h6];simp [qea.f, qea.j0, h1, h2, h5, h6]
def firstE {β : Type} (f : Int → β → Int) : Nat → List β → Int
  | _, [] => 0
  | i, b :: bs => if f i b = 0 then firstE f (i + 1) bs else f i b
theorem firstE_step {β : Type} (f : Int → β → Int) (l : List β) (i : Nat) (h : i < l.length) : firstE f i (l.drop i) = if f i l[i] = 0 then firstE f (i + 1) (l.drop (i + 1)) else f i l[i] := by
  rw [List.drop_eq_getElem_cons h]; rfl
theorem firstE_end {β : Type} (f : Int → β → Int) (l : List β) : firstE f l.length (l.drop l.length) = 0 := by
  rw [List.drop_of_length_le (Nat.le_refl _)]; rfl
theorem firstE_zero {β : Type} (f : Int → β → Int) : ∀ (l : List β) (i : Nat), firstE f i l = 0 ↔ ∀ (j : Nat) b, l[j]? = some b → f ((i + j : Nat) : Int) b = 0
  | [], i => by simp [firstE]
  | b :: l, i => by
    unfold firstE
    constructor
    · intro h j c hc
      split at h
      · rename_i h0
        match j, hc with
        | 0, hc => obtain rfl : b = c := by simpa using hc
                   exact h0
        | j + 1, hc =>
          have := (firstE_zero f l (i + 1)).1 h j c (by simpa using hc);rw [show i + (j + 1) = i + 1 + j by omega]; exact this
      · rename_i h0; exact absurd h h0
    · intro h
      rw [if_pos (show f (i : Int) b = 0 from h 0 b rfl)]
      refine (firstE_zero f l (i + 1)).2 fun j c hc => ?_
      have := h (j + 1) c (by simpa using hc);rw [show i + (j + 1) = i + 1 + j by omega] at this; exact this
def rise (m : Int) : List Int → Bool
  | [] => true
  | x :: xs => decide (m < x ∧ x ≤ 13) && rise x xs
theorem rise_len : ∀ (l : List Int) (m : Int), m ≤ 13 → rise m l = true → (l.length : Int) ≤ 13 - m
  | [], m, h, _ => by simp only [List.length_nil]; omega
  | x :: xs, m, _, h => by
    simp only [rise, Bool.and_eq_true, decide_eq_true_eq] at h;have := rise_len xs x h.1.2 h.2;simp only [List.length_cons]; omega
def badX (n : Int) (l : List Int) : Bool := l.any fun x => decide (x < 0) || decide (x ≥ n)
def exitV (n : Int) (x : S66) : Int := if rise 0 x.f0 = true then (if (x.f1.length : Int) > 1024 then 3 else if badX n x.f1 = true then 13 else 0) else 2
theorem circ_exit (n : Int) (x : S66) (hl : x.f0.length ≤ maxLen) : Ev (fun k => circ_Exit.f k n x.f0 x.f1) (exitV n x) := by
  have hm : x.f0.length ≤ 9223372036854775807 := by simp only [maxLen] at hl; omega
  unfold circ_Exit.f
  have key : ∀ (m i : Nat) (last : Int), i + m = x.f0.length → Ev (fun k => circ_Exit.l0 k last x.f0 (x.f0.length : Int) (i : Int) n x.f0 x.f1) (if rise last (x.f0.drop i) = true then (if (x.f1.length : Int) > 1024 then 3 else if badX n x.f1 = true then 13 else 0) else 2) := by
    intro m
    induction m with
    | zero =>
      intro i last hi;rw [List.drop_of_length_le (by omega)]
      refine Ev.fuel 1 fun k => ?_
      simp only [circ_Exit.l0, rise, if_true];rw [if_neg (by omega)];unfold badX qwa.f
      split
      · rfl
      · simp only [Option.bind_some]
        split <;> rfl
    | succ m ih =>
      intro i last hi
      have hlt : i < x.f0.length := by omega
      have hr : rd x.f0 (i : Int) = x.f0[i] := by simp [rd, List.getD_eq_getElem?_getD, hlt]
      rw [List.drop_eq_getElem_cons hlt]
      by_cases h1 : x.f0[i] ≤ last
      · refine Ev.step (f := fun k => some 2) (fun k => ?_) ?_
        · simp only [circ_Exit.l0]
          rw [if_pos (by omega), if_pos (by omega), if_pos (by omega), hr, if_pos h1]
        · have hf : rise last (x.f0[i] :: x.f0.drop (i + 1)) = false := by
            simp only [rise];rw [show decide (last < x.f0[i] ∧ x.f0[i] ≤ 13) = false by rw [decide_eq_false_iff_not]; omega, Bool.false_and]
          rw [if_neg (by rw [hf]; decide)]; exact Ev.now _
      by_cases h2 : x.f0[i] > 13
      · refine Ev.step (f := fun k => some 2) (fun k => ?_) ?_
        · simp only [circ_Exit.l0]
          rw [if_pos (by omega), if_pos (by omega), if_pos (by omega), hr, if_neg h1, if_pos h2]
        · have hf : rise last (x.f0[i] :: x.f0.drop (i + 1)) = false := by
            simp only [rise];rw [show decide (last < x.f0[i] ∧ x.f0[i] ≤ 13) = false by rw [decide_eq_false_iff_not]; omega, Bool.false_and]
          rw [if_neg (by rw [hf]; decide)]; exact Ev.now _
      · have hd : decide (last < x.f0[i] ∧ x.f0[i] ≤ 13) = true := by simp; omega
        have he : rise last (x.f0[i] :: x.f0.drop (i + 1)) = rise x.f0[i] (x.f0.drop (i + 1)) := by
          simp only [rise];rw [hd, Bool.true_and]
        rw [he];refine Ev.step (f := fun k => circ_Exit.l0 k x.f0[i] x.f0 (x.f0.length : Int) ((i + 1 : Nat) : Int) n x.f0 x.f1) (fun k => ?_) (ih (i + 1) x.f0[i] (by omega));simp only [circ_Exit.l0];rw [if_pos (by omega), if_pos (by omega), if_pos (by omega), hr, if_neg h1, if_neg h2, wadd (by omega)]
  exact key x.f0.length 0 0 (by omega)
theorem ref_rising (l : List Int) (hl : l.length ≤ maxLen) : Ev (fun k => qoa.f k 13 l) (rise 0 l) := by
  have hm : l.length ≤ 9223372036854775807 := by simp only [maxLen] at hl; omega
  unfold qoa.f
  have key : ∀ (m i : Nat), i + m = l.length → (0 < i → 1 ≤ atI l ((i : Int) - 1)) → Ev (fun k => qoa.l0 k 13 l l (l.length : Int) (i : Int)) (rise (if i = 0 then 0 else atI l ((i : Int) - 1)) (l.drop i)) := by
    intro m
    induction m with
    | zero =>
      intro i hi _;rw [List.drop_of_length_le (by omega)]
      refine Ev.fuel 1 fun k => ?_
      simp only [qoa.l0, rise];rw [if_neg (by omega)]
    | succ m ih =>
      intro i hi h0
      have hlt : i < l.length := by omega
      have hr : rd l (i : Int) = l[i] := by simp [rd, List.getD_eq_getElem?_getD, hlt]
      have ha : atI l ((i + 1 : Nat) - 1 : Int) = l[i] := by rw [show ((i + 1 : Nat) - 1 : Int) = (i : Int) by omega]; exact hr
      rw [List.drop_eq_getElem_cons hlt];simp only [rise]
      have stop : (l[i] < 1 ∨ l[i] > 13 ∨ (0 < i ∧ atI l ((i : Int) - 1) ≥ l[i])) → Ev (fun k => qoa.l0 k 13 l l (l.length : Int) (i : Int)) false := by
        intro hs
        refine Ev.fuel 1 fun k => ?_
        simp only [qoa.l0];rw [if_pos (by omega), if_pos (by omega), if_pos (by omega), hr]
        by_cases a1 : l[i] < 1
        · rw [if_pos a1]
        rw [if_neg a1]
        by_cases a2 : l[i] > 13
        · rw [if_pos a2]
        rw [if_neg a2]
        have a3 : 0 < i ∧ atI l ((i : Int) - 1) ≥ l[i] := by omega
        rw [if_pos (by omega), w64_small (by omega) (by omega), if_pos (by omega), if_pos (by omega), if_pos (by exact a3.2)]
      by_cases c : l[i] < 1 ∨ l[i] > 13 ∨ (0 < i ∧ atI l ((i : Int) - 1) ≥ l[i])
      · have e : decide ((if i = 0 then 0 else atI l ((i : Int) - 1)) < l[i] ∧ l[i] ≤ 13) = false := by
          rw [decide_eq_false_iff_not]
          split
          · omega
          · rename_i hne
            have := h0 (by omega)
            omega
        rw [e, Bool.false_and];exact stop c
      · have e : decide ((if i = 0 then 0 else atI l ((i : Int) - 1)) < l[i] ∧ l[i] ≤ 13) = true := by
          rw [decide_eq_true_iff]
          split <;> omega
        rw [e, Bool.true_and];have := ih (i + 1) (by omega) (fun _ => by rw [ha]; omega);rw [if_neg (by omega), ha] at this;refine Ev.step (f := fun k => qoa.l0 k 13 l l (l.length : Int) ((i + 1 : Nat) : Int)) (fun k => ?_) this;simp only [qoa.l0];rw [if_pos (by omega), if_pos (by omega), if_pos (by omega), hr, if_neg (by omega), if_neg (by omega), wadd (by omega)]
        by_cases hi0 : (i : Int) > 0
        · rw [if_pos hi0, w64_small (by omega) (by omega), if_pos (by omega), if_pos (by omega), if_neg (by show ¬ (atI l ((i : Int) - 1) ≥ l[i]); omega)]
        · rw [if_neg hi0]
  have := key l.length 0 (by omega) (by omega)
  simpa using this
theorem ref_exit (n : Int) (x : S66) (hl : x.f0.length ≤ maxLen) : Ev (fun k => qua.f k n x.f0 x.f1) (exitV n x) := by
  unfold qua.f exitV;refine Ev.bind (ref_rising x.f0 hl) ?_
  by_cases hr : rise 0 x.f0 = true
  · simp only [if_pos hr]
    by_cases h1 : (x.f1.length : Int) > 1024
    · simp only [if_pos h1]; exact Ev.now _
    simp only [if_neg h1]
    refine up0 (g := fun k i => qua.l0 k n x.f1 (x.f1.length : Int) (i : Int)) (R := fun i => if badX n (x.f1.drop i) = true then 13 else 0) (n := x.f1.length) ?_ fun i hi h => ?_
    · rw [List.drop_of_length_le (Nat.le_refl _)]
      refine Ev.fuel 1 fun k => ?_
      simp only [qua.l0];rw [if_neg (by omega)]
      rfl
    · have hr : rd x.f1 (i : Int) = x.f1[i] := by simp [rd, List.getD_eq_getElem?_getD, hi]
      rw [List.drop_eq_getElem_cons hi];unfold badX at h ⊢;rw [List.any_cons]
      by_cases a1 : x.f1[i] < 0
      · refine Ev.fuel 1 fun k => ?_
        simp only [qua.l0];rw [if_pos (by omega), if_pos (by omega), if_pos (by omega), hr, if_pos a1];simp [a1]
      by_cases a2 : x.f1[i] ≥ n
      · refine Ev.fuel 1 fun k => ?_
        simp only [qua.l0];rw [if_pos (by omega), if_pos (by omega), if_pos (by omega), hr, if_neg a1, if_pos a2];simp [a2]
      · rw [show (decide (x.f1[i] < 0) || decide (x.f1[i] ≥ n)) = false by simp; omega, Bool.false_or]
        refine Ev.step (f := fun k => qua.l0 k n x.f1 (x.f1.length : Int) ((i + 1 : Nat) : Int)) (fun k => ?_) h;simp only [qua.l0];rw [if_pos (by omega), if_pos (by omega), if_pos (by omega), hr, if_neg a1, if_neg a2, wadd (by omega)]
  · simp only [if_neg hr]; exact Ev.now _
def badS (s : List S64) : Bool := s.any fun x => decide (x.f0 < 1) || decide (x.f0 > 13)
def checkV (p : Int) (s : List S64) (g : List S61) (x : List S66) : Int :=
  if isP p = true then (if (s.length : Int) > 256 ∨ (g.length : Int) > 65536 ∨ (x.length : Int) > 4096 then 3 else if badS s = true then 2 else
    if firstE (gateV p s.length) 0 g = 0 then firstE (fun _ => exitV g.length) 0 x else firstE (gateV p s.length) 0 g) else 2
theorem rdX_at {x : List S66} {i : Nat} (h : i < x.length) : rd_T66 x (i : Int) = x[i] := by simp [rd_T66, List.getD_eq_getElem?_getD, h]
theorem rdG_get {x : List S61} {i : Nat} (h : i < x.length) : rd_T61 x (i : Int) = x[i] := by simp [rd_T61, List.getD_eq_getElem?_getD, h]
theorem rdS_at {x : List S64} {i : Nat} (h : i < x.length) : rd_T64 x (i : Int) = x[i] := by simp [rd_T64, List.getD_eq_getElem?_getD, h]
theorem circ_check_exits (s : List S64) (g : List S61) (x : List S66) (hx : (x.length : Int) ≤ 4096) (hl : ∀ e ∈ x, e.f0.length ≤ maxLen) : Ev (fun k => circ_Check.l1 k x (x.length : Int) 0 s g x) (firstE (fun _ => exitV g.length) 0 x) := by
  refine up0 (g := fun k i => circ_Check.l1 k x (x.length : Int) (i : Int) s g x) (R := fun i => firstE (fun _ => exitV g.length) i (x.drop i)) (n := x.length) ?_ fun i hi h => ?_
  · rw [firstE_end]
    refine Ev.fuel 1 fun k => ?_
    simp only [circ_Check.l1];rw [if_neg (by omega)]
  · rw [firstE_step _ _ _ hi]
    refine Ev.step (f := fun k => (circ_Exit.f k (g.length : Int) x[i].f0 x[i].f1).bind fun aa => (if aa = 0 then (circ_Check.l1 k x (x.length : Int) ((i + 1 : Nat) : Int) s g x) else (some aa))) (fun k => ?_) (Ev.bind (circ_exit _ x[i] (hl _ (List.getElem_mem hi))) ?_)
    · simp only [circ_Check.l1]
      rw [if_pos (by omega), if_pos (by omega), if_pos (by omega), rdX_at hi, wadd (by omega)]
    · by_cases e : exitV g.length x[i] = 0
      · simp only [if_pos e]; exact h
      · simp only [if_neg e]; exact Ev.now _
theorem circ_check (p : Int) (s : List S64) (g : List S61) (x : List S66) (hl : ∀ e ∈ x, e.f0.length ≤ maxLen) : Ev (fun k => circ_Check.f k p s g x) (checkV p s g x) := by
  unfold circ_Check.f checkV;refine Ev.bind (field_is p) ?_
  by_cases hp : isP p = true
  · simp only [if_pos hp]
    have hp3 := ((isP_iff p).1 hp).1
    have j0t : Ev (fun k => circ_Check.j0 k p true s g x) 3 := Ev.fuel 1 fun k => by simp [circ_Check.j0]
    by_cases h1 : (s.length : Int) > 256
    · simp only [if_pos h1, if_pos (show (s.length : Int) > 256 ∨ (g.length : Int) > 65536 ∨ (x.length : Int) > 4096 from .inl h1)]; exact j0t
    by_cases h2 : (g.length : Int) > 65536
    · simp only [if_neg h1, if_pos h2, if_pos (show (s.length : Int) > 256 ∨ (g.length : Int) > 65536 ∨ (x.length : Int) > 4096 from .inr (.inl h2))]; exact j0t
    by_cases h3 : (x.length : Int) > 4096
    · simp only [if_neg h1, if_neg h2, qqT h3, if_pos (show (s.length : Int) > 256 ∨ (g.length : Int) > 65536 ∨ (x.length : Int) > 4096 from .inr (.inr h3))]; exact j0t
    simp only [if_neg h1, if_neg h2, qqF h3, if_neg (show ¬ ((s.length : Int) > 256 ∨ (g.length : Int) > 65536 ∨ (x.length : Int) > 4096) by omega)]
    have hs : api_Slot_60.f s = some (badS s) := by
      unfold api_Slot_60.f badS
      congr 2
      funext y
      unfold circ_Check_1.f
      by_cases hy : y.f0 < 1
      · simp [hy]
      · simp [hy]
    refine Ev.step (f := fun k => (api_Slot_60.f s).bind fun ab => (if ab = true then (some 2) else (circ_Check.l0 k p g (g.length : Int) 0 s g x))) (fun k => by simp [circ_Check.j0]) ?_;rw [hs]
    by_cases hb : badS s = true
    · simp only [Option.bind_some, if_pos hb]; exact Ev.now _
    simp only [Option.bind_some, if_neg hb];have hx := circ_check_exits s g x (by omega) hl
    refine up0 (g := fun k i => circ_Check.l0 k p g (g.length : Int) (i : Int) s g x) (R := fun i => if firstE (gateV p s.length) i (g.drop i) = 0 then firstE (fun _ => exitV g.length) 0 x else firstE (gateV p s.length) i (g.drop i)) (n := g.length) ?_ fun i hi h => ?_
    · rw [firstE_end, if_pos rfl]
      refine Ev.step (f := fun k => circ_Check.l1 k x (x.length : Int) 0 s g x) (fun k => ?_) hx;simp only [circ_Check.l0];rw [if_neg (by omega)]
    · rw [firstE_step _ _ _ hi]
      refine Ev.step (f := fun k => (circ_Gate.f k p (s.length : Int) (i : Int) g[i].f0 g[i].f1 g[i].f2 g[i].f3).bind fun aa => (if aa = 0 then (circ_Check.l0 k p g (g.length : Int) ((i + 1 : Nat) : Int) s g x) else (some aa))) (fun k => ?_) (Ev.bind (circ_gate p _ _ g[i] (by omega)) ?_)
      · simp only [circ_Check.l0]
        rw [if_pos (by omega), if_pos (by omega), if_pos (by omega), rdG_get hi, wadd (by omega)]
      · by_cases e : gateV p s.length i g[i] = 0
        · simp only [if_pos e]; exact h
        · simp only [if_neg e]; exact Ev.now _
  · simp only [if_neg hp]; exact Ev.now _
theorem ref_check_exits (s : List S64) (g : List S61) (x : List S66) (hx : (x.length : Int) ≤ 4096) (hl : ∀ e ∈ x, e.f0.length ≤ maxLen) : Ev (fun k => qia.l2 k x (x.length : Int) 0 s g x) (firstE (fun _ => exitV g.length) 0 x) := by
  refine up0 (g := fun k i => qia.l2 k x (x.length : Int) (i : Int) s g x) (R := fun i => firstE (fun _ => exitV g.length) i (x.drop i)) (n := x.length) ?_ fun i hi h => ?_
  · rw [firstE_end]
    refine Ev.fuel 1 fun k => ?_
    simp only [qia.l2];rw [if_neg (by omega)]
  · rw [firstE_step _ _ _ hi]
    refine Ev.step (f := fun k => (qua.f k (g.length : Int) x[i].f0 x[i].f1).bind fun aa => (if aa = 0 then (qia.l2 k x (x.length : Int) ((i + 1 : Nat) : Int) s g x) else (some aa))) (fun k => ?_) (Ev.bind (ref_exit _ x[i] (hl _ (List.getElem_mem hi))) ?_)
    · simp only [qia.l2]
      rw [if_pos (by omega), if_pos (by omega), if_pos (by omega), rdX_at hi, wadd (by omega)]
    · by_cases e : exitV g.length x[i] = 0
      · simp only [if_pos e]; exact h
      · simp only [if_neg e]; exact Ev.now _
theorem ref_check (p : Int) (s : List S64) (g : List S61) (x : List S66) (hl : ∀ e ∈ x, e.f0.length ≤ maxLen) : Ev (fun k => qia.f k p s g x) (checkV p s g x) := by
  unfold qia.f checkV;refine Ev.bind (ref_is p) ?_
  by_cases hp : isP p = true
  · simp only [if_pos hp]
    have hp3 := ((isP_iff p).1 hp).1
    have j0t : Ev (fun k => qia.j0 k p true s g x) 3 := Ev.fuel 1 fun k => by simp [qia.j0]
    by_cases h1 : (s.length : Int) > 256
    · simp only [if_pos h1, if_pos (show (s.length : Int) > 256 ∨ (g.length : Int) > 65536 ∨ (x.length : Int) > 4096 from .inl h1)]; exact j0t
    by_cases h2 : (g.length : Int) > 65536
    · simp only [if_neg h1, if_pos h2, if_pos (show (s.length : Int) > 256 ∨ (g.length : Int) > 65536 ∨ (x.length : Int) > 4096 from .inr (.inl h2))]; exact j0t
    by_cases h3 : (x.length : Int) > 4096
    · simp only [if_neg h1, if_neg h2, qqT h3, if_pos (show (s.length : Int) > 256 ∨ (g.length : Int) > 65536 ∨ (x.length : Int) > 4096 from .inr (.inr h3))]; exact j0t
    simp only [if_neg h1, if_neg h2, qqF h3, if_neg (show ¬ ((s.length : Int) > 256 ∨ (g.length : Int) > 65536 ∨ (x.length : Int) > 4096) by omega)];refine Ev.step (f := fun k => qia.l0 k p s (s.length : Int) 0 s g x) (fun k => by simp [qia.j0]) ?_;have hx := ref_check_exits s g x (by omega) hl
    have hg : Ev (fun k => qia.l1 k p g (g.length : Int) 0 s g x) (if firstE (gateV p s.length) 0 g = 0 then firstE (fun _ => exitV g.length) 0 x else firstE (gateV p s.length) 0 g) := by
      refine up0 (g := fun k i => qia.l1 k p g (g.length : Int) (i : Int) s g x) (R := fun i => if firstE (gateV p s.length) i (g.drop i) = 0 then firstE (fun _ => exitV g.length) 0 x else firstE (gateV p s.length) i (g.drop i)) (n := g.length) ?_ fun i hi h => ?_
      · rw [firstE_end, if_pos rfl]
        refine Ev.step (f := fun k => qia.l2 k x (x.length : Int) 0 s g x) (fun k => ?_) hx;simp only [qia.l1];rw [if_neg (by omega)]
      · rw [firstE_step _ _ _ hi]
        refine Ev.step (f := fun k => (qea.f k p (s.length : Int) (i : Int) g[i].f0 g[i].f1 g[i].f2 g[i].f3).bind fun aa => (if aa = 0 then (qia.l1 k p g (g.length : Int) ((i + 1 : Nat) : Int) s g x) else (some aa))) (fun k => ?_) (Ev.bind (ref_gate p _ _ g[i]) ?_)
        · simp only [qia.l1]
          rw [if_pos (by omega), if_pos (by omega), if_pos (by omega), rdG_get hi, wadd (by omega)]
        · by_cases e : gateV p s.length i g[i] = 0
          · simp only [if_pos e]; exact h
          · simp only [if_neg e]; exact Ev.now _
    refine up0 (g := fun k i => qia.l0 k p s (s.length : Int) (i : Int) s g x) (R := fun i => if badS (s.drop i) = true then 2 else (if firstE (gateV p s.length) 0 g = 0 then firstE (fun _ => exitV g.length) 0 x else firstE (gateV p s.length) 0 g)) (n := s.length) ?_ fun i hi h => ?_
    · rw [List.drop_of_length_le (Nat.le_refl _)]
      refine Ev.step (f := fun k => qia.l1 k p g (g.length : Int) 0 s g x) (fun k => ?_) hg;simp only [qia.l0];rw [if_neg (by omega)]
    · rw [List.drop_eq_getElem_cons hi]
      unfold badS at h ⊢;rw [List.any_cons]
      by_cases a1 : s[i].f0 < 1
      · refine Ev.fuel 1 fun k => ?_
        simp only [qia.l0];rw [if_pos (by omega), if_pos (by omega), if_pos (by omega), rdS_at hi, if_pos a1];simp [a1]
      by_cases a2 : s[i].f0 > 13
      · refine Ev.fuel 1 fun k => ?_
        simp only [qia.l0];rw [if_pos (by omega), if_pos (by omega), if_pos (by omega), rdS_at hi, if_neg a1, if_pos a2];simp [a2]
      · rw [show (decide (s[i].f0 < 1) || decide (s[i].f0 > 13)) = false by simp; omega, Bool.false_or]
        refine Ev.step (f := fun k => qia.l0 k p s (s.length : Int) ((i + 1 : Nat) : Int) s g x) (fun k => ?_) h;simp only [qia.l0];rw [if_pos (by omega), if_pos (by omega), if_pos (by omega), rdS_at hi, if_neg a1, if_neg a2, wadd (by omega)]
  · simp only [if_neg hp]; exact Ev.now _
structure Good (p : Int) (s : List S64) (g : List S61) (x : List S66) : Prop where
  prime : isP p = true
  ls : s.length ≤ 256
  lg : g.length ≤ 65536
  lx : x.length ≤ 4096
  slots : badS s = false
  gates : okL p s.length g
  exits : ∀ e ∈ x, exitV g.length e = 0
theorem good_of {p : Int} {s : List S64} {g : List S61} {x : List S66} (h : checkV p s g x = 0) (h3 : ∀ e ∈ g, 0 ≤ e.f3) : Good p s g x := by
  unfold checkV at h
  split at h
  · rename_i hp
    split at h
    · cases h
    rename_i hl
    split at h
    · cases h
    rename_i hb
    split at h
    · rename_i hg
      refine ⟨hp, by omega, by omega, by omega, by simpa using hb, ?_, ?_⟩
      · intro i y hy
        have := (firstE_zero _ g 0).1 hg i y hy;rw [Nat.zero_add] at this;exact (gateV_ok (h3 y (List.mem_of_getElem? hy))).1 this
      · intro e he
        obtain ⟨j, hj⟩ := List.getElem?_of_mem he;exact (firstE_zero _ x 0).1 h j e hj
    · rename_i hg; exact absurd h hg
  · cases h
theorem Good.check {p : Int} {s : List S64} {g : List S61} {x : List S66} (h : Good p s g x) : checkV p s g x = 0 := by
  have hg : firstE (gateV p s.length) 0 g = 0 := (firstE_zero _ g 0).2 fun j b hb => by
    have := h.gates j b hb;rw [Nat.zero_add];exact (gateV_ok (by unfold okG at this; omega)).2 this
  have hx : firstE (fun _ => exitV g.length) 0 x = 0 := (firstE_zero _ x 0).2 fun j b hb => h.exits b (List.mem_of_getElem? hb)
  unfold checkV;have := h.ls;have := h.lg;have := h.lx;rw [if_pos h.prime, if_neg (by omega), h.slots, hg, hx]
  rfl
theorem Good.pos {p : Int} {s : List S64} {g : List S61} {x : List S66} (h : Good p s g x) : 0 < p := by
  have := (isP_iff p).1 h.prime; omega
theorem Good.small {p : Int} {s : List S64} {g : List S61} {x : List S66} (h : Good p s g x) : p ≤ 65537 := by
  have := (isP_iff p).1 h.prime; omega
theorem exitV_zero {n : Int} {e : S66} (h : exitV n e = 0) : e.f0.length ≤ 13 ∧ e.f1.length ≤ 1024 ∧ ∀ x ∈ e.f1, 0 ≤ x ∧ x < n := by
  unfold exitV at h
  split at h
  · rename_i hr
    split at h
    · cases h
    rename_i hl
    split at h
    · cases h
    rename_i hb;have := rise_len _ _ (by omega) hr;refine ⟨by omega, by omega, fun x hx => ?_⟩;rw [Bool.not_eq_true] at hb;unfold badX at hb;have := List.any_eq_false.1 hb x hx;simp at this
    omega
  · cases h
theorem exitV_map {n n' : Int} {e : S66} {f : Int → Int} (h : exitV n e = 0) (hf : ∀ x, 0 ≤ x → x < n → x ∈ e.f1 → 0 ≤ f x ∧ f x < n') : exitV n' ⟨e.f0, e.f1.map f⟩ = 0 := by
  obtain ⟨h1, h2, h3⟩ := exitV_zero h
  have hr : rise 0 e.f0 = true := by
    unfold exitV at h
    split at h
    · assumption
    · cases h
  unfold exitV;simp only;rw [if_pos hr, List.length_map, if_neg (by omega), if_neg];unfold badX;rw [Bool.not_eq_true, List.any_eq_false];intro y hy;obtain ⟨x, hx, rfl⟩ := List.mem_map.1 hy;have := h3 x hx;have := hf x this.1 this.2 hx;simp; omega
theorem Good.other {p : Int} {s : List S64} {g g' : List S61} {x : List S66} {f : Int → Int} (h : Good p s g x) (hg : okL p s.length g') (hl : g'.length ≤ g.length)
    (hf : ∀ e ∈ x, ∀ y ∈ e.f1, 0 ≤ f y ∧ f y < g'.length) : Good p s g' (x.map fun e => ⟨e.f0, e.f1.map f⟩) :=
  ⟨h.prime, h.ls, by have := h.lg; omega, by rw [List.length_map]; exact h.lx, h.slots, hg, fun e he => by
    obtain ⟨e', he', rfl⟩ := List.mem_map.1 he
    exact exitV_map (h.exits e' he') fun y _ _ hy => hf e' he' y hy⟩
end Go.Proofs.Ytmlbliggbkfjnaa.L
/- Both ways to fold a circuit answer alike, and what they answer; copies of a circuit. -/
namespace Go.Proofs.Ytmlbliggbkfjnaa.L
open Go.RowKit Go.Proofs.YtmlbliggbkfjnaaW.PrintWords Go.Proofs.Ytmlbliggbkfjnaa.J
theorem two_is (a b c d : Int) : qqa.f a b c d = some (decide (a = 3 ∨ a = 4 ∨ a = 5)) := by
  unfold qqa.f
  by_cases h3 : a = 3
  · simp [h3]
  by_cases h4 : a = 4
  · simp [h4]
  by_cases h5 : a = 5
  · simp [h5]
  · simp [h3, h4, h5]
theorem one_is (a b c d : Int) : qza.f a b c d = some (decide (a = 3 ∨ a = 4 ∨ a = 5 ∨ a = 6)) := by
  unfold qza.f;rw [two_is, Option.bind_some]
  by_cases h : a = 3 ∨ a = 4 ∨ a = 5
  · have h' : a = 3 ∨ a = 4 ∨ a = 5 ∨ a = 6 := by omega
    simp [h, h']
  · by_cases h6 : a = 6
    · simp [h6]
    · have h' : ¬ (a = 3 ∨ a = 4 ∨ a = 5 ∨ a = 6) := by omega
      simp [h, h', h6]
theorem mul_small {p a b : Int} (hp : p ≤ 65537) (ha : 0 ≤ a) (ha' : a < p) (hb : 0 ≤ b) (hb' : b < p) : 0 ≤ a * b ∧ a * b < 18446744073709551616 := by
  have h1 : a * b ≤ 65537 * 65537 := Int.mul_le_mul (by omega) (by omega) hb (by omega);exact ⟨Int.mul_nonneg ha hb, by omega⟩
theorem times_at {p a b : Int} (h0 : 0 < p) (hp : p ≤ 65537) (ha : 0 ≤ a) (ha' : a < p) (hb : 0 ≤ b) (hb' : b < p) : qab.f p a b = some (a * b % p) := by
  obtain ⟨h1, h2⟩ := mul_small hp ha ha' hb hb';unfold qab.f field_mul.f;simp only [u64_small h1 h2, if_neg (show ¬ p = 0 by omega), Option.bind_some, Int.tmod_eq_emod_of_nonneg h1]
theorem ref_mul {p a b : Int} (h0 : 0 < p) (hp : p ≤ 65537) (ha : 0 ≤ a) (ha' : a < p) (hb : 0 ≤ b) (hb' : b < p) : qcb.f p a b = some (a * b % p) := by
  obtain ⟨h1, h2⟩ := mul_small hp ha ha' hb hb';unfold qcb.f;rw [u64_small h1 h2, if_neg (show ¬ p = 0 by omega), Int.tmod_eq_emod_of_nonneg h1]
theorem ref_add {p a b : Int} (h0 : 0 < p) (hp : p ≤ 65537) (ha : 0 ≤ a) (ha' : a < p) (hb : 0 ≤ b) (hb' : b < p) : qjb.f p a b = some ((a + b) % p) := by
  unfold qjb.f;rw [u64_small (by omega) (by omega), if_neg (show ¬ p = 0 by omega), Int.tmod_eq_emod_of_nonneg (by omega)]
theorem ref_sub {p a b : Int} (h0 : 0 < p) (hp : p ≤ 65537) (ha : 0 ≤ a) (ha' : a < p) (hb : 0 ≤ b) (hb' : b < p) : qeb.f p a b = some ((a + p - b) % p) := by
  unfold qeb.f;rw [u64_small (n := a + p) (by omega) (by omega), u64_small (n := a + p - b) (by omega) (by omega), if_neg (show ¬ p = 0 by omega), Int.tmod_eq_emod_of_nonneg (by omega)]
theorem plus_at {p a b : Int} (h0 : 0 < p) (hp : p ≤ 65537) (ha : 0 ≤ a) (ha' : a < p) (hb : 0 ≤ b) (hb' : b < p) : qkb.f p a b = some ((a + b) % p) := by
  unfold qkb.f;rw [u64_small (n := a + b) (by omega) (by omega)]
  by_cases h : a + b ≥ p
  · rw [if_pos h, u64_small (by omega) (by omega)]
    rw [show (a + b) % p = a + b - p by rw [← Int.sub_emod_right, Int.emod_eq_of_lt (by omega) (by omega)]]
  · rw [if_neg h, Int.emod_eq_of_lt (by omega) (by omega)]
theorem minus_at {p a b : Int} (h0 : 0 < p) (hp : p ≤ 65537) (ha : 0 ≤ a) (ha' : a < p) (hb : 0 ≤ b) (hb' : b < p) : qib.f p a b = some ((a + p - b) % p) := by
  unfold qib.f;rw [if_neg (show ¬ p = 0 by omega), u64_small (n := p - b) (by omega) (by omega), Int.tmod_eq_emod_of_nonneg (by omega)];rw [plus_at h0 hp ha ha' (Int.emod_nonneg _ (by omega)) (Int.emod_lt_of_pos _ h0), Option.bind_some]
  congr 1
  rw [Int.add_emod_emod]
  congr 1
  omega
theorem of_at {p a b : Int} (k : Int) (h0 : 0 < p) (hp : p ≤ 65537) (ha : 0 ≤ a) (ha' : a < p) (hb : 0 ≤ b) (hb' : b < p) (hk : k = 3 ∨ k = 4 ∨ k = 5) : circ_Of.f p k 0 1 0 [] [a, b] = some (opV p k a b) := by
  have e0 : rd [a, b] 0 = a := rfl;have e1 : rd [a, b] 1 = b := rfl
  rcases hk with rfl | rfl | rfl
  · simp [circ_Of.f, opV, e0, e1, plus_at h0 hp ha ha' hb hb']
  · simp [circ_Of.f, opV, e0, e1, minus_at h0 hp ha ha' hb hb']
  · simp [circ_Of.f, opV, e0, e1, times_at h0 hp ha ha' hb hb']
theorem k_range {p s i : Int} {g : S61} (h : okG p s i g) (hk : g.f0 = 2 ∨ g.f0 = 6) : 0 ≤ g.f3 ∧ g.f3 < p := by
  unfold okG at h; omega
def stepR (o : Option S61) (g : S61) : Int × Int × Int × Int × Bool := match o with
  | some g' => (g'.f0, g'.f1, g'.f2, g'.f3, true)
  | none => (g.f0, g.f1, g.f2, g.f3, false)
theorem folded_at {p s : Int} (h0 : 0 < p) (hp : p ≤ 65537) {D R : List S61} {g : S61} (hD : okL p s D) (hg : okG p s D.length g) : Ev (fun k => tune_folded.f k p (D ++ R) g.f0 g.f1 g.f2 g.f3) (stepR (foldStep p D g) g) := by
  refine Ev.fuel 12 fun k => ?_
  obtain ⟨a, b, c, d⟩ := g
  rcases hg with h | h | h | h
  · obtain rfl : a = 1 := h.1
    simp [tune_folded.f, tune_folded.j0, foldStep, stepR]
  · obtain rfl : a = 2 := h.1
    simp [tune_folded.f, tune_folded.j0, foldStep, stepR]
  · obtain ⟨hk, b0, b1, c0, c1, hd⟩ := h
    simp only at hk b0 b1 c0 c1 hd;subst hd;have hA := okL_at hD b0 b1;have hB := okL_at hD c0 c1;have eA : rd_T61 (D ++ R) b = atG D b := atG_left b1 b0;have eB : rd_T61 (D ++ R) c = atG D c := atG_left c1 c0
    have b2 : b < ((D ++ R).length : Int) := by simp; omega
    have c2 : c < ((D ++ R).length : Int) := by simp; omega
    have kA := k_range hA;have kB := k_range hB
    have hop : (atG D b).f0 = 2 → (atG D c).f0 = 2 → circ_Of.f p a 0 1 0 [] [(atG D b).f3, (atG D c).f3] = some (opV p a (atG D b).f3 (atG D c).f3) := fun h1 h2 =>
      of_at a h0 hp (kA (.inl h1)).1 (kA (.inl h1)).2 (kB (.inl h2)).1 (kB (.inl h2)).2 hk
    unfold foldStep;simp only;generalize atG D b = A at *;generalize atG D c = B at *;generalize D ++ R = E at *
    rcases hk with rfl | rfl | rfl
    · by_cases hA2 : A.f0 = 2 <;> by_cases hB2 : B.f0 = 2 <;> simp [tune_folded.f, tune_folded.j0, tune_folded.j1, tune_folded.j2, tune_folded.j3, tune_folded.j4, tune_folded.j5, tune_folded.j6, tune_folded_1.f, tune_folded_2.f, b0, b2, c0, c2, eA, eB, stepR, hA2, hB2, hop] <;> simp_all [tune_folded_1.f, tune_folded_2.f]
    · by_cases hA2 : A.f0 = 2 <;> by_cases hB2 : B.f0 = 2 <;> by_cases hbc : b = c <;> simp [tune_folded.f, tune_folded.j0, tune_folded.j1, tune_folded.j2, tune_folded.j3, tune_folded.j4, tune_folded.j5, tune_folded.j6, tune_folded_1.f, tune_folded_2.f, b0, b2, c0, c2, eA, eB, stepR, hA2, hB2, hop, hbc] <;> simp_all [tune_folded_1.f, tune_folded_2.f]
    · by_cases hA2 : A.f0 = 2 <;> by_cases hB2 : B.f0 = 2 <;> simp [tune_folded.f, tune_folded.j0, tune_folded.j1, tune_folded.j2, tune_folded.j3, tune_folded.j4, tune_folded.j5, tune_folded.j6, tune_folded_1.f, tune_folded_2.f, b0, b2, c0, c2, eA, eB, stepR, hA2, hB2, hop] <;> simp_all [tune_folded_1.f, tune_folded_2.f]
  · obtain ⟨hk, b0, b1, c0, d0, d1⟩ := h
    simp only at hk b0 b1 c0 d0 d1;subst hk; subst c0;have hA := okL_at hD b0 b1;have eA : rd_T61 (D ++ R) b = atG D b := atG_left b1 b0
    have b2 : b < ((D ++ R).length : Int) := by simp; omega
    have c2 : (0 : Int) < ((D ++ R).length : Int) := by omega
    have kA := k_range hA
    have hop : (atG D b).f0 = 2 ∨ (atG D b).f0 = 6 → qab.f p (atG D b).f3 d = some ((atG D b).f3 * d % p) := fun h1 =>
      times_at h0 hp (kA h1).1 (kA h1).2 d0 d1
    unfold foldStep;simp only;generalize atG D b = A at *;generalize D ++ R = E at *;generalize rd_T61 E 0 = B at *
    have cE : E ≠ [] := by rintro rfl; simp at c2
    by_cases hA2 : A.f0 = 2
    · simp [tune_folded.f, tune_folded.j0, tune_folded.j1, tune_folded.j2, tune_folded_1.f, b0, b2, c2, cE, eA, stepR, hA2, hop (.inl hA2)]
    · by_cases hd : d = 0
      · simp [tune_folded.f, tune_folded.j0, tune_folded.j1, tune_folded.j2, tune_folded.j3, tune_folded.j4, tune_folded.j5, tune_folded_1.f, b0, b2, c2, cE, eA, stepR, hA2, hd]
      · by_cases hA6 : A.f0 = 6
        · simp [tune_folded.f, tune_folded.j0, tune_folded.j1, tune_folded.j2, tune_folded.j3, tune_folded.j4, tune_folded.j5, tune_folded.j6, tune_folded_2.f, b0, b2, c2, cE, eA, stepR, hA2, hd, hA6, hop (.inr hA6)]
        · simp [tune_folded.f, tune_folded.j0, tune_folded.j1, tune_folded.j2, tune_folded.j3, tune_folded.j4, tune_folded.j5, tune_folded.j6, b0, b2, c2, cE, eA, stepR, hA2, hd, hA6]
theorem ref_folded {p s : Int} (h0 : 0 < p) (hp : p ≤ 65537) {D : List S61} {g : S61} (hD : okL p s D) (hg : okG p s D.length g) : Ev (fun k => qba.f k p D g.f0 g.f1 g.f2 g.f3) (stepR (foldStep p D g) g) := by
  refine Ev.fuel 12 fun k => ?_
  obtain ⟨a, b, c, d⟩ := g
  rcases hg with h | h | h | h
  · obtain rfl : a = 1 := h.1
    simp [qba.f, two_is, qba.j0, qba.j1, qba.j2, qba.j3, qba.j4, qba.j5, foldStep, stepR]
  · obtain rfl : a = 2 := h.1
    simp [qba.f, two_is, qba.j0, qba.j1, qba.j2, qba.j3, qba.j4, qba.j5, foldStep, stepR]
  · obtain ⟨hk, b0, b1, c0, c1, hd⟩ := h
    simp only at hk b0 b1 c0 c1 hd;subst hd;have hA := okL_at hD b0 b1;have hB := okL_at hD c0 c1;have eA : rd_T61 D b = atG D b := rfl;have eB : rd_T61 D c = atG D c := rfl
    have cA : qna.f D b = some ((atG D b).f0 == 2) := by unfold qna.f; rw [if_pos b0, if_pos b1, eA]
    have cB : qna.f D c = some ((atG D c).f0 == 2) := by unfold qna.f; rw [if_pos c0, if_pos c1, eB]
    have kA := k_range hA;have kB := k_range hB
    have hAB : b = c → (atG D b).f0 = (atG D c).f0 := fun e => by rw [e]
    have ho3 : (atG D b).f0 = 2 → (atG D c).f0 = 2 → qjb.f p (atG D b).f3 (atG D c).f3 = some (((atG D b).f3 + (atG D c).f3) % p) := fun h1 h2 => ref_add h0 hp (kA (.inl h1)).1 (kA (.inl h1)).2 (kB (.inl h2)).1 (kB (.inl h2)).2
    have ho4 : (atG D b).f0 = 2 → (atG D c).f0 = 2 → qeb.f p (atG D b).f3 (atG D c).f3 = some (((atG D b).f3 + p - (atG D c).f3) % p) := fun h1 h2 => ref_sub h0 hp (kA (.inl h1)).1 (kA (.inl h1)).2 (kB (.inl h2)).1 (kB (.inl h2)).2
    have ho5 : (atG D b).f0 = 2 → (atG D c).f0 = 2 → qcb.f p (atG D b).f3 (atG D c).f3 = some ((atG D b).f3 * (atG D c).f3 % p) := fun h1 h2 => ref_mul h0 hp (kA (.inl h1)).1 (kA (.inl h1)).2 (kB (.inl h2)).1 (kB (.inl h2)).2
    unfold foldStep;simp only;generalize atG D b = A at *;generalize atG D c = B at *;clear hA hB kA kB hD
    by_cases hA2 : A.f0 = 2 <;> by_cases hB2 : B.f0 = 2
    · rcases hk with rfl | rfl | rfl <;> simp [qba.f, two_is, qba.j0, qma.f, b0, b1, c0, c1, cA, cB, eA, eB, stepR, hA2, hB2, ho3 hA2 hB2, ho4 hA2 hB2, ho5 hA2 hB2, opV]
    · rcases hk with rfl | rfl | rfl
      · simp [qba.f, two_is, qba.j0, qba.j1, qba.j2, qba.j3, qba.j4, qba.j5, qma.f, b0, b1, c0, c1, cA, cB, eA, eB, stepR, hA2, hB2]
      · by_cases hbc : b = c
        · exact absurd ((hAB hbc).symm.trans hA2) hB2
        · simp [qba.f, two_is, qba.j0, qba.j1, qba.j2, qba.j3, qba.j4, qba.j5, qma.f, b0, b1, c0, c1, cA, cB, eA, eB, stepR, hA2, hB2, hbc]
      · simp [qba.f, two_is, qba.j0, qba.j1, qba.j2, qba.j3, qba.j4, qba.j5, qma.f, b0, b1, c0, c1, cA, cB, eA, eB, stepR, hA2, hB2]
    · rcases hk with rfl | rfl | rfl
      · simp [qba.f, two_is, qba.j0, qba.j1, qba.j2, qba.j3, qba.j4, qba.j5, qma.f, b0, b1, c0, c1, cA, cB, eA, eB, stepR, hA2, hB2]
      · by_cases hbc : b = c
        · exact absurd ((hAB hbc).trans hB2) hA2
        · simp [qba.f, two_is, qba.j0, qba.j1, qba.j2, qba.j3, qba.j4, qba.j5, qma.f, b0, b1, c0, c1, cA, cB, eA, eB, stepR, hA2, hB2, hbc]
      · simp [qba.f, two_is, qba.j0, qba.j1, qba.j2, qba.j3, qba.j4, qba.j5, qma.f, b0, b1, c0, c1, cA, cB, eA, eB, stepR, hA2, hB2]
    · rcases hk with rfl | rfl | rfl
      · simp [qba.f, two_is, qba.j0, qba.j1, qba.j2, qba.j3, qba.j4, qba.j5, qma.f, b0, b1, c0, c1, cA, cB, eA, eB, stepR, hA2, hB2]
      · by_cases hbc : b = c
        · simp [hbc, qba.f, two_is, qba.j0, qba.j1, qba.j2, qba.j3, qba.j4, qba.j5, qma.f, b0, b1, c0, c1, cA, cB, eA, eB, stepR, hA2, hB2]
        · simp [qba.f, two_is, qba.j0, qba.j1, qba.j2, qba.j3, qba.j4, qba.j5, qma.f, b0, b1, c0, c1, cA, cB, eA, eB, stepR, hA2, hB2, hbc]
      · simp [qba.f, two_is, qba.j0, qba.j1, qba.j2, qba.j3, qba.j4, qba.j5, qma.f, b0, b1, c0, c1, cA, cB, eA, eB, stepR, hA2, hB2]
  · obtain ⟨hk, b0, b1, c0, d0, d1⟩ := h
    simp only at hk b0 b1 c0 d0 d1;subst hk; subst c0;have hA := okL_at hD b0 b1;have eA : rd_T61 D b = atG D b := rfl
    have cA : qna.f D b = some ((atG D b).f0 == 2) := by unfold qna.f; rw [if_pos b0, if_pos b1, eA]
    have kA := k_range hA
    have hop : (atG D b).f0 = 2 ∨ (atG D b).f0 = 6 → qcb.f p (atG D b).f3 d = some ((atG D b).f3 * d % p) := fun h1 => ref_mul h0 hp (kA h1).1 (kA h1).2 d0 d1
    unfold foldStep;simp only;generalize atG D b = A at *
    by_cases hA2 : A.f0 = 2
    · simp [qba.f, two_is, qba.j0, qba.j1, qma.f, b0, b1, cA, eA, stepR, hA2, hop (.inl hA2)]
    · by_cases hd : d = 0
      · simp [qba.f, two_is, qba.j0, qba.j1, qba.j2, qba.j3, qba.j4, qma.f, b0, b1, cA, eA, stepR, hA2, hd]
      · by_cases hA6 : A.f0 = 6
        · simp [qba.f, two_is, qba.j0, qba.j1, qba.j2, qba.j3, qba.j4, qba.j5, b0, b1, cA, eA, stepR, hA2, hd, hA6, hop (.inr hA6)]
        · simp [qba.f, two_is, qba.j0, qba.j1, qba.j2, qba.j3, qba.j4, qba.j5, b0, b1, cA, eA, stepR, hA2, hd, hA6]
theorem take_more {α : Type} (l : List α) {i : Nat} (h : i < l.length) : l.take i ++ [l[i]] = l.take (i + 1) := by
  rw [List.take_add_one, List.getElem?_eq_getElem h]; rfl
theorem Good.exit {p : Int} {s : List S64} {g : List S61} {x : List S66} (h : Good p s g x) : ∀ e ∈ x, e.f0.length ≤ 13 ∧ e.f1.length ≤ 1024 := fun e he => by
  have := exitV_zero (h.exits e he); exact ⟨this.1, this.2.1⟩
theorem own_at (s : List S64) (g : List S61) (x : List S66) (hs : s.length ≤ 256) (hg : g.length ≤ 65536) (hx : x.length ≤ 4096) (he : ∀ e ∈ x, e.f0.length ≤ 13 ∧ e.f1.length ≤ 1024) : Ev (fun k => tune_Own.f k s g x) (s, g, x) := by
  unfold tune_Own.f api_Slot_64.f api_Gate_65.f;rw [if_pos (by omega), if_pos (by omega)];simp only [Option.bind_some]
  refine up0 (g := fun k i => tune_Own.l0 k x (x.length : Int) (i : Int) s g (x.take i)) (R := fun _ => (s, g, x)) (n := x.length) ?_ fun i hi h => ?_
  · rw [List.take_length]
    refine Ev.fuel 1 fun k => ?_
    simp only [tune_Own.l0];rw [if_neg (by omega)]
  · refine Ev.step (f := fun k => tune_Own.l0 k x (x.length : Int) ((i + 1 : Nat) : Int) s g (x.take (i + 1))) (fun k => ?_) h
    have := he _ (List.getElem_mem hi);simp only [tune_Own.l0];rw [if_pos (by omega), if_pos (by omega), if_pos (by omega), rdX_at hi];unfold qva.f;rw [if_pos (by omega), if_pos (by omega)];simp only [Option.bind_some];rw [if_pos (by rw [List.length_take]; omega), wadd (by omega), take_more x hi]
theorem copied_at (s : List S64) (g g' : List S61) (x : List S66) (hs : s.length ≤ 256) (hx : x.length ≤ 4096) (he : ∀ e ∈ x, e.f0.length ≤ 13 ∧ e.f1.length ≤ 1024) : Ev (fun k => qga.f k s g x g') (s, g', x) := by
  unfold qga.f;refine Ev.bind (a := (s, ([] : List S61), x)) ?_ (Ev.now _);unfold qga.g;simp only [Option.bind_some, List.nil_append]
  have : ([] : List S64).length + s.length < 8796093022208 := by simp; omega
  simp only [if_pos this]
  refine up0 (g := fun k i => qga.l0 k x (x.length : Int) (i : Int) s (x.take i)) (R := fun _ => (s, ([] : List S61), x)) (n := x.length) ?_ fun i hi h => ?_
  · rw [List.take_length]
    refine Ev.fuel 1 fun k => ?_
    simp only [qga.l0];rw [if_neg (by omega)]
  · refine Ev.step (f := fun k => qga.l0 k x (x.length : Int) ((i + 1 : Nat) : Int) s (x.take (i + 1))) (fun k => ?_) h
    have := he _ (List.getElem_mem hi);simp only [qga.l0];rw [if_pos (by omega), if_pos (by omega), if_pos (by omega), rdX_at hi];unfold qva.f;rw [if_pos (by omega), if_pos (by omega)];simp only [Option.bind_some];rw [if_pos (by rw [List.length_take]; omega), wadd (by omega), take_more x hi]
theorem folds_len (p : Int) (l : List S61) : (folds p [] l).length = l.length := by simp [folds, snocs_len]
theorem folds_more (p : Int) (l : List S61) {i : Nat} (h : i < l.length) : folds p [] (l.take (i + 1)) = folds p [] (l.take i) ++ [foldG p (folds p [] (l.take i)) l[i]] := by
  rw [← take_more l h]; exact snocs_snoc _ _ _ _
theorem okL_take {p s : Int} {l : List S61} (h : okL p s l) (n : Nat) : okL p s (l.take n) := by
  have : l = l.take n ++ l.drop n := (List.take_append_drop n l).symm;rw [this] at h; exact okL_app h
theorem okG_nth {p s : Int} {l : List S61} (h : okL p s l) {i : Nat} (hi : i < l.length) : okG p s i l[i] := h i _ (List.getElem?_eq_getElem hi)
theorem set_mid {α : Type} (D : List α) (y z : α) (R : List α) : (D ++ y :: R).set D.length z = D ++ z :: R := by
  rw [List.set_append_right _ _ (Nat.le_refl _), Nat.sub_self]; rfl
theorem fold_inner {p s : Int} (h0 : 0 < p) (hp : p ≤ 65537) (sl : List S64) (x : List S66) (n : Int) {D R : List S61} (hD : okL p s D) {r : (List S64) × (List S61) × (List S66) × Int} : ∀ (m : Nat) (y : S61), meas D.length y < m → okG p s D.length y →
    Ev (fun k => tune_Fold.l1 k p (D.length : Int) false n (D.length : Int) sl (D ++ foldN p D m y :: R) x) r → Ev (fun k => tune_Fold.l1 k p (D.length : Int) true n (D.length : Int) sl (D ++ y :: R) x) r
  | 0, y, hm, _, _ => by omega
  | m + 1, y, hm, hy, h => by
    have hr : rd_T61 (D ++ y :: R) (D.length : Int) = y := by simp [rd_T61, List.getD_eq_getElem?_getD]
    have hl : (D.length : Int) < ((D ++ y :: R).length : Int) := by simp; omega
    have hf := folded_at (R := y :: R) h0 hp hD hy;refine Ev.step (f := fun k => (tune_folded.f k p (D ++ y :: R) y.f0 y.f1 y.f2 y.f3).bind fun aa => (tune_Fold.l1 k p (D.length : Int) aa.2.2.2.2 n (D.length : Int) sl ((D ++ y :: R).set D.length (⟨aa.1, aa.2.1, aa.2.2.1, aa.2.2.2.1⟩ : S61)) x)) (fun k => ?_) (Ev.bind hf ?_)
    · simp only [tune_Fold.l1]
      rw [if_pos trivial, if_pos (by omega), if_pos hl, hr]
      rfl
    · unfold foldN at h
      cases e : foldStep p D y with
      | none =>
        rw [e] at h;simp only [stepR, set_mid];exact h
      | some y' =>
        rw [e] at h;simp only [stepR, set_mid];obtain ⟨o1, o2⟩ := fold_ok h0 hD hy e;exact fold_inner h0 hp sl x n hD m y' (by omega) o1 h
theorem tune_fold {p : Int} {s : List S64} {g : List S61} {x : List S66} (G : Good p s g x) : Ev (fun k => tune_Fold.f k p s g x) (s, folds p [] g, x, 0) := by
  unfold tune_Fold.f;have hlx := G.exit;refine Ev.bind (circ_check p s g x fun e he => by have := (hlx e he).1; simp only [maxLen]; omega) ?_;rw [G.check];simp only [if_true];refine Ev.bind (own_at s g x G.ls G.lg G.lx hlx) ?_;simp only
  refine up0 (g := fun k i => tune_Fold.l0 k p (g.length : Int) (i : Int) s (folds p [] (g.take i) ++ g.drop i) x) (R := fun _ => (s, folds p [] g, x, 0)) (n := g.length) ?_ fun i hi h => ?_
  · rw [List.take_length, List.drop_of_length_le (Nat.le_refl _), List.append_nil]
    refine Ev.fuel 1 fun k => ?_
    simp only [tune_Fold.l0];rw [if_neg (by omega)]
  · have hD : okL p s.length (folds p [] (g.take i)) := folds_ok G.pos _ (okL_take G.gates i)
    have hl : (folds p [] (g.take i)).length = i := by rw [folds_len, List.length_take]; omega
    have hg := okG_nth G.gates hi;rw [folds_more p g hi] at h;rw [List.drop_eq_getElem_cons hi];have hlg := G.lg;refine Ev.step (f := fun k => tune_Fold.l1 k p (i : Int) true (g.length : Int) (i : Int) s (folds p [] (g.take i) ++ g[i] :: g.drop (i + 1)) x) (fun k => ?_) ?_
    · simp only [tune_Fold.l0]
      rw [if_pos (by omega)]
    · have := fold_inner (r := (s, folds p [] g, x, 0)) G.pos G.small s x (g.length : Int) (R := g.drop (i + 1)) hD (i + 2) g[i] (by rw [hl]; exact meas_lt hg) (by rw [hl]; exact hg)
      rw [hl] at this;refine this ?_;refine Ev.step (f := fun k => tune_Fold.l0 k p (g.length : Int) ((i + 1 : Nat) : Int) s (folds p [] (g.take i) ++ foldN p (folds p [] (g.take i)) (i + 2) g[i] :: g.drop (i + 1)) x) (fun k => ?_) ?_
      · simp only [tune_Fold.l1]
        rw [if_neg (by decide), wadd (by omega)]
      · have e : foldG p (folds p [] (g.take i)) g[i] = foldN p (folds p [] (g.take i)) (i + 2) g[i] := by unfold foldG; rw [hl]
        rw [e, List.append_assoc] at h;exact h
theorem ref_inner {p s : Int} (h0 : 0 < p) (hp : p ≤ 65537) (sl : List S64) (gs : List S61) (x : List S66) (n i : Int) {D : List S61} (hD : okL p s D) {r : (List S64) × (List S61) × (List S66)} : ∀ (m : Nat) (y : S61), meas D.length y < m → okG p s D.length y →
    Ev (fun k => qla.l1 k p D false gs n i sl gs x (foldN p D m y).f0 (foldN p D m y).f1 (foldN p D m y).f2 (foldN p D m y).f3) r → Ev (fun k => qla.l1 k p D true gs n i sl gs x y.f0 y.f1 y.f2 y.f3) r
  | 0, y, hm, _, _ => by omega
  | m + 1, y, hm, hy, h => by
    have hf := ref_folded h0 hp hD hy;refine Ev.step (f := fun k => (qba.f k p D y.f0 y.f1 y.f2 y.f3).bind fun aa => (qla.l1 k p D aa.2.2.2.2 gs n i sl gs x aa.1 aa.2.1 aa.2.2.1 aa.2.2.2.1)) (fun k => ?_) (Ev.bind hf ?_)
    · simp only [qla.l1]
      rw [if_pos trivial]
    · unfold foldN at h
      cases e : foldStep p D y with
      | none => rw [e] at h; simp only [stepR]; exact h
      | some y' =>
        rw [e] at h;simp only [stepR];obtain ⟨o1, o2⟩ := fold_ok h0 hD hy e;exact ref_inner h0 hp sl gs x n i hD m y' (by omega) o1 h
theorem ref_fold {p : Int} {s : List S64} {g : List S61} {x : List S66} (G : Good p s g x) : Ev (fun k => qla.f k p s g x) (s, folds p [] g, x) := by
  unfold qla.f;have hlg := G.lg
  refine up0 (g := fun k i => qla.l0 k p (folds p [] (g.take i)) g (g.length : Int) (i : Int) s g x) (R := fun _ => (s, folds p [] g, x)) (n := g.length) ?_ fun i hi h => ?_
  · rw [List.take_length]
    refine Ev.step (f := fun k => (qga.f k s g x (folds p [] g)).bind fun aa => (some (aa.1, aa.2.1, aa.2.2))) (fun k => ?_) (Ev.bind (copied_at s g _ x G.ls G.lx G.exit) (Ev.now _));simp only [qla.l0];rw [if_neg (by omega)]
  · have hD : okL p s.length (folds p [] (g.take i)) := folds_ok G.pos _ (okL_take G.gates i)
    have hl : (folds p [] (g.take i)).length = i := by rw [folds_len, List.length_take]; omega
    have hg := okG_nth G.gates hi;rw [folds_more p g hi] at h;refine Ev.step (f := fun k => qla.l1 k p (folds p [] (g.take i)) true g (g.length : Int) (i : Int) s g x g[i].f0 g[i].f1 g[i].f2 g[i].f3) (fun k => ?_) ?_
    · simp only [qla.l0]
      rw [if_pos (by omega), if_pos (by omega), if_pos (by omega), rdG_get hi]
    · refine ref_inner G.pos G.small s g x (g.length : Int) (i : Int) hD (i + 2) g[i] (by rw [hl]; exact meas_lt hg) (by rw [hl]; exact hg) ?_
      have e : foldG p (folds p [] (g.take i)) g[i] = foldN p (folds p [] (g.take i)) (i + 2) g[i] := by unfold foldG; rw [hl]
      rw [e] at h;refine Ev.step (f := fun k => qla.l0 k p (folds p [] (g.take i) ++ [foldN p (folds p [] (g.take i)) (i + 2) g[i]]) g (g.length : Int) ((i + 1 : Nat) : Int) s g x) (fun k => ?_) h;simp only [qla.l1];rw [if_neg (by decide), if_pos (by omega), wadd (by omega)]
end Go.Proofs.Ytmlbliggbkfjnaa.L
/- Gates named by new numbers in the exits: both ways answer alike, and what they answer; gates that stay. -/
namespace Go.Proofs.Ytmlbliggbkfjnaa.L
open Go.RowKit Go.Proofs.YtmlbliggbkfjnaaW.PrintWords Go.Proofs.Ytmlbliggbkfjnaa.J
def mapX (f : Int → Int) (x : List S66) : List S66 := x.map fun e => ⟨e.f0, e.f1.map f⟩
def half {α : Type} (f : α → α) (l : List α) (j : Nat) : List α := (l.take j).map f ++ l.drop j
theorem half_len {α : Type} (f : α → α) (l : List α) (j : Nat) : (half f l j).length = l.length := by
  unfold half; rw [List.length_append, List.length_map, List.length_take, List.length_drop]; omega
theorem half_zero {α : Type} (f : α → α) (l : List α) : half f l 0 = l := by simp [half]
theorem half_end {α : Type} (f : α → α) (l : List α) : half f l l.length = l.map f := by simp [half]
theorem half_at {α : Type} (f : α → α) (l : List α) {j : Nat} (h : j < l.length) : (half f l j)[j]? = some l[j] := by
  unfold half
  have hl : ((l.take j).map f).length = j := by rw [List.length_map, List.length_take]; omega
  rw [List.getElem?_append_right (by omega), hl, Nat.sub_self, List.getElem?_drop];simp [h]
theorem half_set {α : Type} (f : α → α) (l : List α) {j : Nat} (h : j < l.length) : (half f l j).set j (f l[j]) = half f l (j + 1) := by
  unfold half
  have hl : ((l.take j).map f).length = j := by rw [List.length_map, List.length_take]; omega
  rw [List.drop_eq_getElem_cons h, List.set_append_right _ _ (by omega), hl, Nat.sub_self, List.set_cons_zero, ← take_more l h, List.map_append, List.append_assoc]
  rfl
theorem half_same {α : Type} (f : α → α) (l : List α) {j : Nat} (h : j < l.length) : (half f l j).set j l[j] = half f l j := by
  have := half_at f l h
  apply List.ext_getElem?
  intro i;rw [List.getElem?_set]
  split
  · rename_i e
    subst e;rw [if_pos (by rw [half_len]; exact h), this]
  · rfl
def midX (f : Int → Int) (x : List S66) (i : Nat) (h : i < x.length) (j : Nat) : List S66 := (half (fun e : S66 => ⟨e.f0, e.f1.map f⟩) x i).set i ⟨x[i].f0, half f x[i].f1 j⟩
theorem midX_zero (f : Int → Int) (x : List S66) (i : Nat) (h : i < x.length) : midX f x i h 0 = half (fun e : S66 => ⟨e.f0, e.f1.map f⟩) x i := by
  unfold midX; rw [half_zero]; exact half_same _ x h
theorem midX_end (f : Int → Int) (x : List S66) (i : Nat) (h : i < x.length) : midX f x i h x[i].f1.length = half (fun e : S66 => ⟨e.f0, e.f1.map f⟩) x (i + 1) := by
  unfold midX; rw [half_end]; exact half_set (fun e : S66 => (⟨e.f0, e.f1.map f⟩ : S66)) x h
theorem midX_at (f : Int → Int) (x : List S66) (i : Nat) (h : i < x.length) (j : Nat) : rd_T66 (midX f x i h j) (i : Int) = ⟨x[i].f0, half f x[i].f1 j⟩ := by
  unfold midX rd_T66;rw [List.getD_eq_getElem?_getD, Int.toNat_natCast, List.getElem?_set_self (by rw [half_len]; exact h)]
  rfl
theorem midX_len (f : Int → Int) (x : List S66) (i : Nat) (h : i < x.length) (j : Nat) : (midX f x i h j).length = x.length := by
  unfold midX; rw [List.length_set, half_len]
theorem midX_set (f : Int → Int) (x : List S66) (i : Nat) (h : i < x.length) (j : Nat) (hj : j < x[i].f1.length) : (midX f x i h j).set i ⟨x[i].f0, (half f x[i].f1 j).set j (f x[i].f1[j])⟩ = midX f x i h (j + 1) := by
  unfold midX;rw [List.set_set, half_set f x[i].f1 hj]
theorem rd_half (f : Int → Int) (l : List Int) {j : Nat} (h : j < l.length) : rd (half f l j) (j : Int) = l[j] := by
  unfold rd;rw [List.getD_eq_getElem?_getD, Int.toNat_natCast, half_at f l h]
  rfl
theorem ref_moved {p : Int} {s : List S64} {g : List S61} {x : List S66} (G : Good p s g x) (l : List S61) (ts : List Int) (hto : ∀ e ∈ x, ∀ y ∈ e.f1, 0 ≤ y ∧ y < ts.length) : Ev (fun k => qka.f k s g x l ts) (s, l, mapX (atI ts) x) := by
  unfold qka.f;have hx := G.lx;refine Ev.bind (copied_at s g l x G.ls hx G.exit) ?_;simp only;have h0 := half_zero (fun e : S66 => (⟨e.f0, e.f1.map (atI ts)⟩ : S66)) x
  have key := up0 (g := fun k i => qka.l0 k ts (x.length : Int) (i : Int) s l (half (fun e : S66 => ⟨e.f0, e.f1.map (atI ts)⟩) x i)) (R := fun _ => (s, l, mapX (atI ts) x)) (n := x.length) ?_ fun i hi h => ?_
  · rw [h0] at key; exact key
  · rw [half_end]
    refine Ev.fuel 1 fun k => ?_
    simp only [qka.l0];rw [if_neg (by omega)]
    rfl
  · have hlen : ((half (fun e : S66 => (⟨e.f0, e.f1.map (atI ts)⟩ : S66)) x i).length : Int) = x.length := by rw [half_len]
    have he := (G.exit _ (List.getElem_mem hi)).2;have hy := hto _ (List.getElem_mem hi);refine Ev.step (f := fun k => qka.l1 k ts (x.length : Int) (i : Int) (x[i].f1.length : Int) 0 s l (midX (atI ts) x i hi 0)) (fun k => ?_) ?_
    · simp only [qka.l0]
      rw [← midX_zero (atI ts) x i hi, midX_at, midX_len, if_pos (by omega), if_pos (by omega), if_pos (by omega), half_zero]
    · refine up0 (g := fun k j => qka.l1 k ts (x.length : Int) (i : Int) (x[i].f1.length : Int) (j : Int) s l (midX (atI ts) x i hi j)) (R := fun _ => (s, l, mapX (atI ts) x)) (n := x[i].f1.length) ?_ fun j hj h' => ?_
      · rw [midX_end]
        refine Ev.step (f := fun k => qka.l0 k ts (x.length : Int) ((i + 1 : Nat) : Int) s l (half (fun e : S66 => ⟨e.f0, e.f1.map (atI ts)⟩) x (i + 1))) (fun k => ?_) h;simp only [qka.l1];rw [if_neg (by omega), wadd (by omega)]
      · refine Ev.step (f := fun k => qka.l1 k ts (x.length : Int) (i : Int) (x[i].f1.length : Int) ((j + 1 : Nat) : Int) s l (midX (atI ts) x i hi (j + 1))) (fun k => ?_) h'
        have hyj := hy _ (List.getElem_mem hj);simp only [qka.l1];simp only [midX_at];rw [half_len, rd_half _ _ hj, if_pos (by omega), if_pos (by omega), if_pos (by omega), if_pos hyj.1, if_pos hyj.2, wadd (by omega), Int.toNat_natCast, Int.toNat_natCast];rw [show rd ts x[i].f1[j] = atI ts x[i].f1[j] from rfl, midX_set _ _ _ _ _ hj]
theorem rd_pad (D : List Int) (n : Nat) (i : Int) : rd (D ++ List.replicate n 0) i = atI D i := by
  unfold rd atI;rw [List.getD_eq_getElem?_getD, List.getD_eq_getElem?_getD, List.getElem?_append]
  split
  · rfl
  · rename_i h
    rw [List.getElem?_eq_none (l := D) (by omega), List.getElem?_replicate]
    split <;> rfl
theorem pad_set (D : List Int) {n : Nat} (v : Int) : (D ++ List.replicate (n + 1) 0).set D.length v = (D ++ [v]) ++ List.replicate n 0 := by
  rw [List.replicate_succ, set_mid, List.append_assoc]; rfl
theorem mv_more (st : Int → Bool) (t : Int → Int) (g : List S61) {i : Nat} (h : i < g.length) : mvL st t (g.take (i + 1)) = mvStep st t (mvL st t (g.take i)) g[i] := by
  rw [← take_more g h, mvL_snoc]
theorem mvL_few (st : Int → Bool) (t : Int → Int) (gs : List S61) : (mvL st t gs).1.length ≤ gs.length := by
  refine snoc_ind (P := fun gs => (mvL st t gs).1.length ≤ gs.length) (Nat.le_refl _) (fun gs g ih => ?_) gs;rw [mvL_snoc];unfold mvStep
  split <;> simp <;> omega
theorem tune_exits {p : Int} {s : List S64} {g : List S61} {x : List S66} (G : Good p s g x) (l : List S61) (P : List Int) (tto : Int → Option Int) (t : Int → Int) (ht : ∀ e ∈ x, ∀ y ∈ e.f1, tto y = some (t y) ∧ 0 ≤ t y ∧ t y < P.length) :
    Ev (fun k => tune_moved.l1 tto k P (x.length : Int) 0 s l x) (s, l, mapX (fun y => atI P (t y)) x) := by
  have hx := G.lx;have h0 := half_zero (fun e : S66 => (⟨e.f0, e.f1.map (fun y => atI P (t y))⟩ : S66)) x
  have key := up0 (g := fun k i => tune_moved.l1 tto k P (x.length : Int) (i : Int) s l (half (fun e : S66 => ⟨e.f0, e.f1.map (fun y => atI P (t y))⟩) x i)) (R := fun _ => (s, l, mapX (fun y => atI P (t y)) x)) (n := x.length) ?_ fun i hi h => ?_
  · rw [h0] at key; exact key
  · rw [half_end]
    refine Ev.fuel 1 fun k => ?_
    simp only [tune_moved.l1];rw [if_neg (by omega)]
    rfl
  · have he := (G.exit _ (List.getElem_mem hi)).2
    have hy := ht _ (List.getElem_mem hi);refine Ev.step (f := fun k => tune_moved.l2 tto k P (x.length : Int) (i : Int) (x[i].f1.length : Int) 0 s l (midX (fun y => atI P (t y)) x i hi 0)) (fun k => ?_) ?_
    · simp only [tune_moved.l1]
      rw [← midX_zero (fun y => atI P (t y)) x i hi, midX_at, midX_len, if_pos (by omega), if_pos (by omega), if_pos (by omega), half_zero]
    · refine up0 (g := fun k j => tune_moved.l2 tto k P (x.length : Int) (i : Int) (x[i].f1.length : Int) (j : Int) s l (midX (fun y => atI P (t y)) x i hi j)) (R := fun _ => (s, l, mapX (fun y => atI P (t y)) x)) (n := x[i].f1.length) ?_ fun j hj h' => ?_
      · rw [midX_end]
        refine Ev.step (f := fun k => tune_moved.l1 tto k P (x.length : Int) ((i + 1 : Nat) : Int) s l (half (fun e : S66 => ⟨e.f0, e.f1.map (fun y => atI P (t y))⟩) x (i + 1))) (fun k => ?_) h;simp only [tune_moved.l2];rw [if_neg (by omega), wadd (by omega)]
      · refine Ev.step (f := fun k => tune_moved.l2 tto k P (x.length : Int) (i : Int) (x[i].f1.length : Int) ((j + 1 : Nat) : Int) s l (midX (fun y => atI P (t y)) x i hi (j + 1))) (fun k => ?_) h'
        obtain ⟨y1, y2, y3⟩ := hy _ (List.getElem_mem hj);simp only [tune_moved.l2];simp only [midX_at];rw [half_len, rd_half _ _ hj, if_pos (by omega), if_pos (by omega), if_pos (by omega), y1, Option.bind_some, if_pos y2, if_pos y3, wadd (by omega), Int.toNat_natCast, Int.toNat_natCast];rw [show rd P (t x[i].f1[j]) = atI P (t x[i].f1[j]) from rfl, midX_set (fun y => atI P (t y)) _ _ _ _ hj]
theorem tune_moved_at {p : Int} {s : List S64} {g : List S61} {x : List S66} (G : Good p s g x) (st : Int → Int → Int → Int → Int → Option Bool) (tto : Int → Option Int) (sb : Int → Bool) (t : Int → Int)
    (hs : ∀ (i : Int) a b c d, 0 ≤ i → i < g.length → st i a b c d = some (sb i)) (ht : ∀ y : Int, 0 ≤ y → y < g.length → tto y = some (t y) ∧ 0 ≤ t y ∧ t y < g.length) :
    Ev (fun k => tune_moved.f st tto k s g x) (s, (mvL sb t g).1, mapX (fun y => atI (mvL sb t g).2 (t y)) x) := by
  unfold tune_moved.f;have hlg := G.lg;refine Ev.bind (own_at s g x G.ls G.lg G.lx G.exit) ?_;simp only [if_pos (show 0 ≤ (g.length : Int) by omega), Int.toNat_natCast, if_pos (show g.length ≤ 35184372088832 by omega)]
  refine up0 (g := fun k i => tune_moved.l0 st tto k ((mvL sb t (g.take i)).2 ++ List.replicate (g.length - i) 0) g (g.length : Int) (i : Int) s (mvL sb t (g.take i)).1 x) (R := fun _ => (s, (mvL sb t g).1, mapX (fun y => atI (mvL sb t g).2 (t y)) x)) (n := g.length) ?_ fun i hi h => ?_
  · rw [List.take_length, Nat.sub_self, List.replicate_zero, List.append_nil]
    refine Ev.step (f := fun k => tune_moved.l1 tto k (mvL sb t g).2 (x.length : Int) 0 s (mvL sb t g).1 x) (fun k => ?_) (tune_exits G _ _ tto t fun e he y hy => ?_)
    · simp only [tune_moved.l0]
      rw [if_neg (by omega)]
    · have hv := (exitV_zero (G.exits e he)).2.2 y hy
      have := ht y hv.1 hv.2;rw [mvL_len]; exact this
  · have hl : (mvL sb t (g.take i)).2.length = i := by rw [mvL_len, List.length_take]; omega
    have hf := mvL_few sb t (g.take i);rw [List.length_take] at hf;have hg := okG_nth G.gates hi;rw [mv_more sb t g hi] at h;unfold mvStep at h;rw [hl] at h;have hgi : rd_T61 g (i : Int) = g[i] := rdG_get hi;generalize g[i] = y at *;generalize (mvL sb t (g.take i)).1 = l at *;generalize (mvL sb t (g.take i)).2 = P at *
    have hL : ((P ++ List.replicate (g.length - i) 0).length : Int) = g.length := by rw [List.length_append, List.length_replicate]; omega
    have hset : ∀ v : Int, (P ++ List.replicate (g.length - i) 0).set i v = (P ++ [v]) ++ List.replicate (g.length - (i + 1)) 0 := fun v => by
      have := pad_set P (n := g.length - (i + 1)) v;rw [hl, show g.length - (i + 1) + 1 = g.length - i by omega] at this; exact this
    have hst := hs (i : Int) y.f0 y.f1 y.f2 y.f3 (by omega) (by omega)
    by_cases hb : sb (i : Int) = true
    · rw [if_pos hb] at h
      refine Ev.steps (f := fun k => tune_moved.l0 st tto k ((P ++ [(l.length : Int)]) ++ List.replicate (g.length - (i + 1)) 0) g (g.length : Int) ((i + 1 : Nat) : Int) s (l ++ [rnf (fun x => atI P (t x)) y]) x) 2 (fun k => ?_) h;simp only [tune_moved.l0];rw [if_pos (by omega), if_pos (by omega), if_pos (by omega), hgi, hst, Option.bind_some, if_pos hb];obtain ⟨a, b, c, d⟩ := y;simp only
      by_cases h12 : a = 1 ∨ a = 2
      · have e : (if a = 1 then tune_moved.j1 st tto (k + 1) (P ++ List.replicate (g.length - i) 0) (i : Int) g (g.length : Int) (i : Int) false s l x a b c d else tune_moved.j1 st tto (k + 1) (P ++ List.replicate (g.length - i) 0) (i : Int) g (g.length : Int) (i : Int) (a != 2) s l x a b c d) = tune_moved.j1 st tto (k + 1) (P ++ List.replicate (g.length - i) 0) (i : Int) g (g.length : Int) (i : Int) false s l x a b c d := by
          rcases h12 with rfl | rfl <;> rfl
        rw [e];simp only [tune_moved.j1];rw [if_neg (by decide), if_pos (by omega), if_pos (by omega), if_pos (by omega), Int.toNat_natCast, hset, wadd (by omega)];rw [show rnf (fun x => atI P (t x)) ⟨a, b, c, d⟩ = ⟨a, b, c, d⟩ by unfold rnf; rw [if_pos h12]]
      · have h1 : ¬ a = 1 := by omega
        have h2 : (a != 2) = true := by simp; omega
        obtain ⟨o1, o2, o3⟩ := okG_ops hg h1 (by show a ≠ 2; omega);simp only at o1 o2 o3;obtain ⟨t1, t2, t3⟩ := ht b o1 (by omega);rw [if_neg h1, h2];simp only [tune_moved.j1];rw [if_pos trivial, t1, Option.bind_some, if_pos t2, if_pos (by omega), rd_pad]
        by_cases h6 : a = 6
        · rw [if_pos h6, if_pos (by omega), if_pos (by omega), if_pos (by omega), Int.toNat_natCast, hset, wadd (by omega)]
          rw [show rnf (fun x => atI P (t x)) ⟨a, b, c, d⟩ = ⟨a, atI P (t b), c, d⟩ by unfold rnf; rw [if_neg h12, if_pos h6]]
        · obtain ⟨o3, o4⟩ := o3 h6
          obtain ⟨u1, u2, u3⟩ := ht c o3 (by omega);rw [if_neg h6, u1, Option.bind_some, if_pos u2, if_pos (by omega), if_pos (by omega), if_pos (by omega), if_pos (by omega), Int.toNat_natCast, hset, wadd (by omega), rd_pad];rw [show rnf (fun x => atI P (t x)) ⟨a, b, c, d⟩ = ⟨a, atI P (t b), atI P (t c), d⟩ by unfold rnf; rw [if_neg h12, if_neg h6]]
    · rw [if_neg hb] at h
      rw [List.append_assoc] at h
      have e : [(0 : Int)] ++ List.replicate (g.length - (i + 1)) 0 = List.replicate (g.length - i) 0 := by
        rw [show g.length - i = g.length - (i + 1) + 1 by omega, List.replicate_succ]; rfl
      rw [e] at h;refine Ev.step (f := fun k => tune_moved.l0 st tto k (P ++ List.replicate (g.length - i) 0) g (g.length : Int) ((i + 1 : Nat) : Int) s l x) (fun k => ?_) h;simp only [tune_moved.l0];rw [if_pos (by omega), if_pos (by omega), if_pos (by omega), hgi, hst, Option.bind_some, if_neg hb, wadd (by omega)]
theorem renamed_at {p s : Int} {ts : List Int} {i : Nat} {g : S61} (hg : okG p s i g) (hi : i ≤ ts.length) : qxa.f g.f0 g.f1 g.f2 g.f3 ts = some ((rnf (atI ts) g).f0, (rnf (atI ts) g).f1, (rnf (atI ts) g).f2, (rnf (atI ts) g).f3) := by
  obtain ⟨a, b, c, d⟩ := g;unfold qxa.f
  dsimp only
  rw [one_is, Option.bind_some, two_is, two_is, Option.bind_some, Option.bind_some]
  by_cases h12 : a = 1 ∨ a = 2
  · have h1 : ¬ (a = 3 ∨ a = 4 ∨ a = 5 ∨ a = 6) := by omega
    have h2 : ¬ (a = 3 ∨ a = 4 ∨ a = 5) := by omega
    rw [show rnf (atI ts) ⟨a, b, c, d⟩ = ⟨a, b, c, d⟩ by unfold rnf; rw [if_pos h12], qqF h1, qqF h2]
    rfl
  · obtain ⟨o1, o2, o3⟩ := okG_ops hg (by show a ≠ 1; omega) (by show a ≠ 2; omega)
    simp only at o1 o2 o3
    by_cases h6 : a = 6
    · have h1 : (a = 3 ∨ a = 4 ∨ a = 5 ∨ a = 6) := by omega
      have h2 : ¬ (a = 3 ∨ a = 4 ∨ a = 5) := by omega
      rw [show rnf (atI ts) ⟨a, b, c, d⟩ = ⟨a, atI ts b, c, d⟩ by unfold rnf; rw [if_neg h12, if_pos h6], qqT h1, qqF h2, if_pos rfl, if_pos o1, if_pos (by omega)]
      rfl
    · obtain ⟨o3, o4⟩ := o3 h6
      have h2 : (a = 3 ∨ a = 4 ∨ a = 5) := by unfold okG at hg; simp only at hg; omega
      have h1 : (a = 3 ∨ a = 4 ∨ a = 5 ∨ a = 6) := by omega
      rw [show rnf (atI ts) ⟨a, b, c, d⟩ = ⟨a, atI ts b, atI ts c, d⟩ by unfold rnf; rw [if_neg h12, if_neg h6], qqT h1, qqT h2, if_pos rfl, if_pos o1, if_pos (by omega), if_pos rfl, if_pos o3, if_pos (by omega)]
      rfl
end Go.Proofs.Ytmlbliggbkfjnaa.L
