/- Part 5 of the proof of TuneRounds: what the functions compute as plain Lean functions, that the machine comes to just these answers, and that the answer is true; no conditions. -/
import Derived.Test.YtmlbliggbkfjnaaTuneRoundsZ0
import Derived.Test.YtmlbliggbkfjnaaTuneRoundsZ1
import Derived.Test.YtmlbliggbkfjnaaTuneRoundsZ2
import Derived.Test.YtmlbliggbkfjnaaTuneRoundsZ3
import Derived.Test.YtmlbliggbkfjnaaTuneRoundsZ4
import Derived.Deep.Slices
import Derived.ChangeArms
import Derived.DataReads
import Derived.SizedLaws
import Derived.WideShapes
import Derived.OpenShut
import Derived.Test.YtmlbliggbkfjnaaRows
import Derived.JoinedOf
import Derived.KernelRfl
set_option linter.unusedSimpArgs false
set_option linter.unusedVariables false
set_option maxHeartbeats 8000000
set_option maxRecDepth 100000
namespace Go.Proofs.Ytmlbliggbkfjnaa.J
open Go.RowKit Go.Proofs.YtmlbliggbkfjnaaW.PrintWords Go.Proofs.YtmlbliggbkfjnaaW.PrintLast Go.Proofs.YtmlbliggbkfjnaaW.PrintMore
attribute [local go_sem] max2_int min2_int max_two min_two max_three min_three max_four min_four
theorem qfa.elder_lit {W w1 : World} {b : Nat} {ok : Nat → Prop} {X Y : Value} {xs : List Int} (hX : (Kd.int .i64).R 3 W b ok X xs) (hg : W.grownBy w1 none) (hnew : ∃ b, Y.ownBlock = some b ∧ W.heap.size ≤ b) : (Kd.int .i64).R 3 w1 b (fun k => some k ≠ Y.ownBlock) X xs :=
 Kd.R_mono (Kd.R_grown (Kd.R_bound hX) hg (fun _ _ => by simp)) (fun k hk he => by
  obtain ⟨b, hb, hle⟩ := hnew;rw [hb] at he
  injection he with he
  have := hk.2.2.1
  omega)
theorem qfa.other_app {W w1 : World} {b : Nat} {X X' Y : Value} {ys : List Int} (hY : (Kd.int .i64).R 3 W b (fun k => some k ≠ X.ownBlock) Y ys) (hg : W.grownBy w1 X.ownBlock) (hat : X'.ownBlock = X.ownBlock ∨ ∃ b, X'.ownBlock = some b ∧ W.heap.size ≤ b) : (Kd.int .i64).R 3 w1 b (fun k => some k ≠ X'.ownBlock) Y ys :=
 Kd.R_mono (Kd.R_grown (Kd.R_bound hY) hg (fun k hk => hk.1)) (fun k hk he => by
  rcases hat with h | ⟨b, hb, hle⟩
  ·exact hk.1 (he.trans h)
  ·rw [hb] at he
   injection he with he
   have := hk.2.2.1
   omega)
theorem qfa.elder2 {W w1 : World} {b : Nat} {ok : Nat → Prop} {v u u' : Value} {xs : List S66} (h : Kd.S k66t 66 W b ok v xs) (hb : Below W.heap.size W w1) (h1 : ∀ k, u.ownBlock = some k → W.heap.size ≤ k) (h2 : ∀ k, u'.ownBlock = some k → W.heap.size ≤ k) : Kd.S k66t 66 w1 b (fun k => (ok k ∧ some k ≠ u.ownBlock) ∧ some k ≠ u'.ownBlock) v xs :=
 Kd.S_mono (Kd.S_below (Kd.S_bound h) hb) (fun k hk => ⟨⟨hk.1, fun e => by have := h1 k e.symm; have := hk.2.2.1; omega⟩, fun e => by have := h2 k e.symm; have := hk.2.2.1; omega⟩)
theorem qfa.clone_eq {l r : List Int} (h : qpa.f l = some r) : l = r ∧ l.length < 17592186044416 := by
 unfold qpa.f at h
 by_cases hl : l.length < 17592186044416
 ·rw [if_pos hl] at h
  exact ⟨qqI h, hl⟩
 rw [if_neg hl] at h;cases h
theorem cellb_ {W w1 : World} {p : Addr} {x : Value} (hb : Below W.heap.size W w1) (h : W.cell? p = some x) : w1.cell? p = some x := (hb.cell (qqW _ _ h)).trans h
def qfa.l0 : Nat → List (S66) → Int → Int → List (S64) → List (S66) → Option ((List (S64)) × (List (S61)) × (List (S66)))
 | 0, _, _, _, _, _ => none
 | k + 1, x15, x16, x17, ab, aa => if x17 < x16 then (if 0 ≤ x17 then (if x17 < (x15.length : Int) then ((qpa.f ((rd_T66 x15 x17).f0)).bind fun ad => ((qpa.f ((rd_T66 x15 x17).f1)).bind fun ae => (if aa.length < 2932031007402 then (qfa.l0 k x15 x16 (wrap64 (x17 + 1)) ab (aa ++ [(⟨ad, ae⟩ : S66)])) else (none)))) else (none)) else (none)) else (some (ab, ([] : List (S61)), aa))
def qfa.g (k : Nat) (aa : List (S64)) (ae : List (S61)) (ab : List (S66)) : Option ((List (S64)) × (List (S61)) × (List (S66))) := (some (([] : List (S64)) : List (S64))).bind fun ad => (if ad.length + aa.length < 8796093022208 then (qfa.l0 k ab (ab.length : Int) 0 (ad ++ aa) ([] : List (S66))) else (none))
def qfa.T5 : Bool × List (List Nat × List Nat) := (true, [([], []), ([0], [0]), ([], []), ([], []), ([3], [3]), ([2, 4], [2, 4]), ([], []), ([], []), ([7], [7]), ([6, 8, 5], [6, 8]), ([5, 9], [5, 9]), ([10], [10]), ([1, 11, 9], [1, 11]), ([0, 1, 2, 3, 4, 5, 6, 7, 8, 9, 10, 11, 12], []), ([13, 12, 12, 0, 1, 2, 3, 4, 5, 6, 7, 8, 9, 10, 11, 12], [12, 13])])
def qfa.B5 : List Nat := [0, 1, 0, 0, 8, 28, 0, 0, 128, 508, 1020, 2044, 4095, 8191, 16383]
theorem qfa.tab5 : rtab .any (opsOf Try.f44 5) = qfa.T5 := by kernel_rfl
theorem qfa.bits5 : waitsOk qfa.T5.2 qfa.B5 = true := by kernel_rfl
theorem qfa.callsG (k : Nat) (bj : Option Addr) (bk : Nat) (au : List (S64)) (bl : Option Addr) (bm : Nat) (aN : List (S61)) (bp : Option Addr) (bn : Nat) (ad : List (S66)) (A1 : Option Addr) (c1 : Nat) (l1 : List (S61)) (r1 : List (S64)) (r2 : List (S61)) (r3 : List (S66)) (w : World) (br : Kd.C k64 w bj au.length au) (bt : au.length ≤ bk) (bu : Kd.C k61 w bl aN.length aN) (bv : aN.length ≤ bm) (bw : Kd.C k66 w bp ad.length ad) (bx : ad.length ≤ bn) (h : qfa.g k au aN ad = some (r1, r2, r3)) :
  Calls Try.prog 44 #[.agg #[.slice bj au.length bk, .slice bl aN.length bm, .slice bp ad.length bn], .slice A1 l1.length c1] w fun e w' => ∃ v0_ v2_ : Value, e = .returned (.agg #[v0_, .slice A1 l1.length c1, v2_]) ∧ Kd.R k64 64 w' w.heap.size (fun _ => True) v0_ r1 ∧ Kd.S k66t 66 w' w.heap.size (fun _ => True) v2_ r3 ∧ Below w.heap.size w w' := by
 have hu26 := Try.underlying26;have hu66 := Try.underlying66;have bI := Aside0.mk br;have cl := Aside0.mk bt;clear br bt;have cm := Aside0.mk bu;have cn := Aside0.mk bv;clear bu bv;have bJ := Aside0.mk bw;have co := Aside0.mk bx;clear bw bx;have HB := Aside0.mk (Below.refl w.heap.size w);have H : ((some (([] : List (S64)) : List (S64))).bind fun aQ => (if aQ.length + au.length < 8796093022208 then (qfa.l0 k ad (ad.length : Int) 0 (aQ ++ au) ([] : List (S66))) else (none))) = some (r1, r2, r3) := h;clear h;obtain ⟨aQ, aT⟩ : ∃ y_ : List (S64), y_ = (([] : List (S64))) := ⟨_, rfl⟩
 replace H : (if aQ.length + au.length < 8796093022208 then (qfa.l0 k ad (ad.length : Int) 0 (aQ ++ au) ([] : List (S66))) else (none)) = some (r1, r2, r3) := by first | (rw [aT]; with_reducible exact H) | (have H2_ := (Option.bind_some _ _).symm.trans H; rw [aT]; with_reducible exact H2_) | (have H2_ := (Option.bind_some _ _).symm.trans H; with_reducible exact H2_) | with_reducible exact H | (rw [aT]; exact H) | exact H
 have bz := Aside0.mk aT;clear aT
 by_cases c2 : aQ.length + au.length < 8796093022208
 rotate_left
 ·rw [if_neg c2] at H
  exact absurd H (by simp)
 rw [if_pos c2] at H;have cg := Aside0.mk c2;clear c2;obtain ⟨av, aU⟩ : ∃ y_ : List (S64), y_ = (aQ ++ au) := ⟨_, rfl⟩
 replace H : (qfa.l0 k ad (ad.length : Int) 0 av ([] : List (S66))) = some (r1, r2, r3) := by first | (rw [aU]; with_reducible exact H) | (have H2_ := (Option.bind_some _ _).symm.trans H; rw [aU]; with_reducible exact H2_) | (have H2_ := (Option.bind_some _ _).symm.trans H; with_reducible exact H2_) | with_reducible exact H | (rw [aU]; exact H) | exact H
 have bK := Aside0.mk aU;clear aU;have H' := Aside0.mk H;clear H;go_enter Try.func44, Try.ntmps44;go_wp2_with (first | ((with_reducible refine gate_dst (N := 2) rfl ?_); refine box_event ?hg (N := 2) ?hd (cs := #[.slice bj au.length bk, .slice bl aN.length bm, .slice bp ad.length bn]) (t := 26) ?hr ?_; (case hd | hg => rfl); (case hr => go_simp; try rfl); intro bA hg w3 hbox hb; have ah := am hbox; have cp := kG HB hg; have cq := kG HB hg; replace HB := kH HB hb; clear hb hbox hg) | ((with_reducible refine gate_dst (N := 4) rfl ?_); refine box_event ?hg (N := 4) ?hd (cs := #[.slice none 0 0, .slice none 0 0, .slice none 0 0]) (t := 26) ?hr ?_; (case hd | hg => rfl); (case hr => go_simp; try rfl); intro aw hg w4 hbox hb; have ai := am hbox; have cr := kG HB hg; have ct := kG HB hg; replace HB := kH HB hb; have aE := kP ah hg; have aG := kQ ah hg; replace ah := kU ah hb; clear hb hbox hg) | ((with_reducible refine gate_dst (N := 8) rfl ?_); refine Kd.R_lit k64 _ 64 ?hg (N := 8) ?hd (xs := ([] : List (S64))) (inner := []) (ok := fun _ => True) (okp := fun _ => True) ?hr ?hp (fun _ hk => hk) trivial (Below.refl _ _) (Nat.le_refl _) (by simp) ?_; (case hd | hg => rfl); (case hr => go_simp; try rfl); (case hp => exact (Reps.none _ _)); intro ch w5 ho6 hb hg_ hnew_; clear hg_ hnew_; (first | rw [← bz.out] at ho6 | (simp only [Int.reduceToNat] at ho6; rw [← bz.out] at ho6)); have aY := kLR ho6 HB; replace ah := kU ah hb; replace ai := kU ai hb; replace HB := kH HB hb; clear hb ho6; have cS := aE.out; have cT := aG.out; have Z8 := kz3 ah) | ((with_reducible refine gate_builtin (b := .append) (xs := #[.tmp 8, .tmp 10]) rfl ?_); at_builtin; refine Kd.R_append_rows k64 (w0 := w) w.heap.size rfl (.tmp 8) (.tmp 10) 22 64 (.agg #[(.int .i64 0), (.bool false)]) 16 rfl Try.underlying22 info64 rfl (by decide) (by omega) ch aQ au _ _ _ (fun _ => True) (fun _ => False) rfl rfl ?aO ?aR (fun _ _ h => h) (fun _ h => h.elim) ?aF ?aB ?aS ?aL ?_; (case aR => repeat (first | exact (Kd.C_below bI.out HB.out) | (with_reducible first | refine Kd.C_alloc ?_ _ | refine Kd.C_drewN ?_ _ | refine Kd.C_drew ?_))); (case aB => exact (kh HB)); (case aF => exact (fun _ _ => trivial)); (case aO => exact (krR aY)); (case aS => exact (below_size (kh HB))); (case aL => have := cg.out; omega); intro cU w9 ho hb hg hat; rw [← bK.out] at ho; replace ah := kXR ah aY hg; replace ai := kXR ai aY hg; replace HB := Aside0.mk (hb); have aZ := Aside0.mk (ho); clear aY; clear ho hb hg hat; obtain ⟨aC, aD, ci⟩ := Kd.R_slice aZ.out; subst ci) | ((with_reducible refine gate_dst (N := 5) rfl ?_); refine box_event ?hg (N := 5) ?hd (cs := #[.slice none 0 0, .slice none 0 0, .slice none 0 0]) (t := 26) ?hr ?_; (case hd | hg => rfl); (case hr => go_simp; try rfl); intro ar hg w11 hbox hb; replace aZ := kR aZ hb; have ae := am hbox; have cu := kG HB hg; have cv := kG HB hg; replace HB := kH HB hb; have ax := kP ah hg; have ay := kQ ah hg; replace ah := kU ah hb; have az := kP ai hg; have aA := kQ ai hg; replace ai := kU ai hb; clear hb hbox hg; have cw := ay.out; have cx := ax.out; have cy := aA.out; have cz := az.out; have Z14 := kz3 ae; have Z15 := kz3 ah));go_loopg [17] k (fun kq v17 w' => ∃ (ab : Int) (ak : List (S66)) (al : Value), v17 = .int .i64 ab ∧ Aside0 (qfa.l0 kq ad (ad.length : Int) ab av ak = some (r1, r2, r3)) ∧ Aside0 (kq ≤ k) ∧ Aside0 (Kd.R k64 64 w' w.heap.size (fun _ => True) (.slice aC av.length aD) av) ∧ Aside0 (Kd.S k66t 66 w' w.heap.size (fun _ => True) al ak) ∧ Aside0 (w'.heap[bA]? = some (.cells #[(.slice bj au.length bk), (.slice bl aN.length bm), (.slice bp ad.length bn)] 26 (0, 0))) ∧ Aside0 (w'.heap[aw]? = some (.cells #[(.slice none 0 0), (.slice none 0 0), (.slice none 0 0)] 26 (0, 0))) ∧ Aside0 (w'.heap[ar]? = some (.cells #[(.slice aC av.length aD), (.slice A1 l1.length c1), al] 26 (0, 0))) ∧ Aside0 (Below w.heap.size w w'))
 case atStart => exact ⟨(0), (([] : List (S66))), (.slice none 0 0), et, H', ⟨Nat.le_refl _⟩, ⟨by (with_reducible repeat first | apply Kd.R_alloc | apply Kd.R_drewN | apply Kd.R_drew); exact Kd.R_mono (Kd.R_far (p := ⟨ar, 2, none⟩) (Kd.R_far (p := ⟨ar, 1, none⟩) (Kd.R_far (p := ⟨ar, 0, none⟩) (Kd.R_types aZ.out ae.out (by decide)) (fun _ hk => hk.2) (.slice aC av.length aD)) (fun _ hk => hk.2) (.slice A1 l1.length c1)) (fun _ hk => hk.2) (.slice none 0 0)) (fun _ hk => trivial)⟩, ⟨by first | exact Kd.S_nil _ _ _ _ _ | exact Kd.N_nil _ _ _ _ _ | exact Kd.V_nil _ _ _ _ _ | exact Kd.Q_nil _ _ _ _ _ | exact Kd.R_nil _ _ _ _ _⟩, ⟨kg ah⟩, ⟨kg ai⟩, ⟨kg ae⟩, ⟨kh HB⟩⟩
 case round =>
  clear H';(try clear Z14 Z15 Z8);obtain ⟨ab, ak, al, rfl, HA, HK1, ag, aa, ah, ai, ae, HB⟩ := hrel
  cases gk with
  | zero => exact absurd HA.out (by simp [qfa.l0])
  | succ k1 =>
   have H := HA.out;clear HA;simp only [qfa.l0] at H
   by_cases c16 : ab < (ad.length : Int)
   rotate_left
   ·rw [if_neg c16] at H
    have bL := qqF c16;clear c16;simp only [Option.some.injEq, Prod.mk.injEq] at H;obtain ⟨rfl, rfl, rfl⟩ := H;have cA := ay.out;have cB := ax.out;have cC := aA.out;have cD := az.out;have Z38 := kz3 ae;have cF := aG.out;have cG := aE.out;have Z40 := kz3 ai;obtain ⟨bC, bD, cj⟩ := Kd.S_slice aa.out;subst cj;go_wp2;refine bodyPost_ret (results_cell_row rfl _ _ aw 26 #[.slice aC av.length aD, .slice A1 l1.length c1, .slice bC ak.length bD] (0, 0) _ rfl (kg ai) Try.underlying26 rfl (by kernel_rfl)) rfl ?_;exact ⟨_, _, er, by (with_reducible repeat first | apply Kd.R_alloc | apply Kd.R_drewN | apply Kd.R_drew); exact Kd.R_mono (Kd.R_far (p := ⟨aw, 2, none⟩) (Kd.R_far (p := ⟨aw, 1, none⟩) (Kd.R_far (p := ⟨aw, 0, none⟩) (Kd.R_types ag.out ai.out (by decide)) (fun _ hk => hk.2) (.slice aC av.length aD)) (fun _ hk => hk.2) (.slice A1 l1.length c1)) (fun _ hk => hk.2) (.slice bC ak.length bD)) (fun _ hk => trivial), by (with_reducible repeat first | apply Kd.S_alloc | apply Kd.S_drewN | apply Kd.S_drew); exact Kd.S_mono (Kd.S_far (p := ⟨aw, 2, none⟩) (Kd.S_far (p := ⟨aw, 1, none⟩) (Kd.S_far (p := ⟨aw, 0, none⟩) (Kd.S_types aa.out ai.out (by decide)) (fun _ hk => hk.2) (.slice aC av.length aD)) (fun _ hk => hk.2) (.slice A1 l1.length c1)) (fun _ hk => hk.2) (.slice bC ak.length bD)) (fun _ hk => trivial), kh HB⟩
   rw [if_pos c16] at H;have bL := qqT c16;clear c16
   by_cases c17 : 0 ≤ ab
   rotate_left
   ·rw [if_neg c17] at H
    exact absurd H (by simp)
   rw [if_pos c17] at H;have cH := qqT c17;clear c17
   by_cases c18 : ab < (ad.length : Int)
   rotate_left
   ·rw [if_neg c18] at H
    exact absurd H (by simp)
   rw [if_pos c18] at H;have cI := qqT c18;clear c18;replace H := qqB H;obtain ⟨aX, bM, H⟩ := H;(try dsimp only at H);have A19 := Aside0.mk bM;clear bM;replace H := qqB H;obtain ⟨bd, bN, H⟩ := H;(try dsimp only at H);have A20 := Aside0.mk bN;clear bN
   by_cases c21 : ak.length < 2932031007402
   rotate_left
   ·rw [if_neg c21] at H
    exact absurd H (by simp)
   rw [if_pos c21] at H;have bO := Aside0.mk c21;clear c21;obtain ⟨bo, aV⟩ : ∃ y_ : List (S66), y_ = (ak ++ [(⟨aX, bd⟩ : S66)]) := ⟨_, rfl⟩
   replace H : (qfa.l0 k1 ad (ad.length : Int) (wrap64 (ab + 1)) av bo) = some (r1, r2, r3) := by first | (rw [aV]; with_reducible exact H) | (have H2_ := (Option.bind_some _ _).symm.trans H; rw [aV]; with_reducible exact H2_) | (have H2_ := (Option.bind_some _ _).symm.trans H; with_reducible exact H2_) | with_reducible exact H | (rw [aV]; exact H) | exact H
   have bP := Aside0.mk aV;clear aV;have H' := Aside0.mk H;clear H;have bE : 0 ≤ (ab : Int) := od;have bF : ab < (ad.length : Int) := od;obtain ⟨bQ, an, ao, ap, aq, ck, aJ, aK, ba, hi384_0, bb, hi384_1⟩ := at_T66 bJ.out ab bE bF;cases ck;replace aJ := (HB.out.cell (qqW w _ aJ)).trans aJ;replace aK := (HB.out.cell (qqW w _ aK)).trans aK;have aM := Aside0.mk hi384_0;have bY := Aside0.mk ba;clear hi384_0 ba;have bq := Aside0.mk hi384_1;have bZ := Aside0.mk bb;clear hi384_1 bb; replace bE := eq_true bE; replace bF := eq_true bF;(try go_wp2_with (first | ((with_reducible refine gate_dst (N := 7) rfl ?_); refine box_event ?hg (N := 7) ?hd (cs := #[.slice none 0 0, .slice none 0 0]) (t := 66) ?hr ?_; (case hd | hg => rfl); (case hr => go_simp; try rfl); intro af hg w22 hbox hb; replace ag := kR ag hb; replace aa := Aside0.mk (Kd.S_below (Kd.S_elderB (krS aa) af (Nat.le_of_eq hg.symm)) hb); have aj := am hbox; have cJ := kG HB hg; have cK := kG HB hg; replace HB := kH HB hb; have bf := kP ah hg; have bg := kQ ah hg; replace ah := kU ah hb; have bh := kP ai hg; have bi := kQ ai hg; replace ai := kU ai hb; have aH := kP ae hg; have aI := kQ ae hg; replace ae := kU ae hb; clear hb hbox hg; have cL := bg.out; have cM := bf.out; have cN := bi.out; have cO := bh.out; have cP := aI.out; have cQ := aH.out; have Z26 := kz2 aj)));have n0_ : Aside0 (Kd.R k64 64 ((w22.setCell ⟨af, 0, none⟩ (.slice an ((rd_T66 ad ab).f0).length ao)).setCell ⟨af, 1, none⟩ (.slice ap ((rd_T66 ad ab).f1).length aq)) w.heap.size (fun _ => True) (.slice aC av.length aD) av) := ⟨by (with_reducible repeat first | apply Kd.R_alloc | apply Kd.R_drewN | apply Kd.R_drew); exact Kd.R_mono (Kd.R_far (p := ⟨af, 1, none⟩) (Kd.R_far (p := ⟨af, 0, none⟩) (Kd.R_types ag.out aj.out (by decide)) (fun _ hk => hk.2) (.slice an ((rd_T66 ad ab).f0).length ao)) (fun _ hk => hk.2) (.slice ap ((rd_T66 ad ab).f1).length aq)) (fun _ hk => trivial)⟩;have n1_ : Aside0 (Kd.S k66t 66 ((w22.setCell ⟨af, 0, none⟩ (.slice an ((rd_T66 ad ab).f0).length ao)).setCell ⟨af, 1, none⟩ (.slice ap ((rd_T66 ad ab).f1).length aq)) w.heap.size (fun k_ => k_ ≠ af) al ak) := ⟨by (with_reducible repeat first | apply Kd.S_alloc | apply Kd.S_drewN | apply Kd.S_drew); exact Kd.S_mono (Kd.S_far (p := ⟨af, 1, none⟩) (Kd.S_far (p := ⟨af, 0, none⟩) (Kd.S_mono aa.out (fun k_ hk => (⟨hk, hk.2⟩ : _ ∧ k_ ≠ af))) (fun _ hk => hk.2) (.slice an ((rd_T66 ad ab).f0).length ao)) (fun _ hk => hk.2) (.slice ap ((rd_T66 ad ab).f1).length aq)) (fun _ hk => hk.1.2)⟩;have n2_ : Aside0 (((w22.setCell ⟨af, 0, none⟩ (.slice an ((rd_T66 ad ab).f0).length ao)).setCell ⟨af, 1, none⟩ (.slice ap ((rd_T66 ad ab).f1).length aq)).heap[bA]? = some (.cells #[.slice bj au.length bk, .slice bl aN.length bm, .slice (some bQ) ad.length bn] 26 (0, 0))) := ⟨kg ah⟩;have n3_ : Aside0 (((w22.setCell ⟨af, 0, none⟩ (.slice an ((rd_T66 ad ab).f0).length ao)).setCell ⟨af, 1, none⟩ (.slice ap ((rd_T66 ad ab).f1).length aq)).heap[aw]? = some (.cells #[.slice none 0 0, .slice none 0 0, .slice none 0 0] 26 (0, 0))) := ⟨kg ai⟩;have n4_ : Aside0 (((w22.setCell ⟨af, 0, none⟩ (.slice an ((rd_T66 ad ab).f0).length ao)).setCell ⟨af, 1, none⟩ (.slice ap ((rd_T66 ad ab).f1).length aq)).heap[ar]? = some (.cells #[.slice aC av.length aD, .slice A1 l1.length c1, al] 26 (0, 0))) := ⟨kg ae⟩;have n5_ : Aside0 (((w22.setCell ⟨af, 0, none⟩ (.slice an ((rd_T66 ad ab).f0).length ao)).setCell ⟨af, 1, none⟩ (.slice ap ((rd_T66 ad ab).f1).length aq)).heap[af]? = some (.cells #[.slice an ((rd_T66 ad ab).f0).length ao, .slice ap ((rd_T66 ad ab).f1).length aq] 66 (0, 0))) := ⟨kg aj⟩;have n6_ : Aside0 (Below w.heap.size w ((w22.setCell ⟨af, 0, none⟩ (.slice an ((rd_T66 ad ab).f0).length ao)).setCell ⟨af, 1, none⟩ (.slice ap ((rd_T66 ad ab).f1).length aq))) := ⟨kh HB⟩;(try clear ag aa ah ai ae aj HB);generalize ((w22.setCell ⟨af, 0, none⟩ (.slice an ((rd_T66 ad ab).f0).length ao)).setCell ⟨af, 1, none⟩ (.slice ap ((rd_T66 ad ab).f1).length aq)) = w27 at n0_ n1_ n2_ n3_ n4_ n5_ n6_ ⊢;have ag := n0_; have aa := n1_; have ah := n2_; have ai := n3_; have ae := n4_; have aj := n5_; have HB := n6_; clear n0_ n1_ n2_ n3_ n4_ n5_ n6_;replace ag := kFR ag; replace aa := kFS aa; replace ah := kD ah; replace ai := kD ai; replace ae := kD ae; replace aj := kD aj; replace HB := kE HB;refine start_ (n := 15) (S := fun w' => w'.cell? ⟨ar, 0, none⟩ = some (.slice aC av.length aD) ∧ w'.cell? ⟨ar, 1, none⟩ = some (.slice A1 l1.length c1) ∧ w'.cell? ⟨ar, 2, none⟩ = some (al) ∧ w'.cell? ⟨af, 0, none⟩ = some (.slice an ((rd_T66 ad ab).f0).length ao) ∧ w'.cell? ⟨af, 1, none⟩ = some (.slice ap ((rd_T66 ad ab).f1).length aq)) (ds := [14]) (bs 15 0) (by kernel_rfl) rfl rfl ⟨kk ae 0, kk ae 1, kk ae 2, kk aj 0, kk aj 1⟩ (fun hHeld => ?_); refine with_tabW qfa.tab5 qfa.bits5 (fun HT_ HW_ => ?_);generalize w27.drew = w28 at ag aa ah ai ae aj HB hHeld ⊢;refine pu 0 (some 21) (bs 15 1) HT_ ?_;refine pu 3 (some 24) (bs 15 9) HT_ ?_;refine pu 7 (some 28) (bs 15 137) HT_ ?_;refine ta 1 (some 22) (bs 15 139) HT_ HW_ hHeld ?_;refine ta 4 (some 25) (bs 15 155) HT_ HW_ hHeld ?_;refine ta 8 (some 29) (bs 15 411) HT_ HW_ hHeld ?_;have HS0 := Aside0.mk hHeld;have HBN := Aside0.mk (Below.refl w28.heap.size w28);have hcl_ := qfa.clone_eq A19.out;have E386 := Aside0.mk hcl_.1;have L386 := Aside0.mk hcl_.2;clear hcl_;have hcl_ := qfa.clone_eq A20.out;have E389 := Aside0.mk hcl_.1;have L389 := Aside0.mk hcl_.2;clear hcl_;refine join_ (σ := Value × Value × Value) 6 (bs 15 511) (fun s_ => [(23, s_.1), (26, s_.2.1), (27, s_.2.2)]) (fun s_ w' => (w'.cell? ⟨ar, 0, none⟩ = some (.slice aC av.length aD) ∧ w'.cell? ⟨ar, 1, none⟩ = some (.slice A1 l1.length c1) ∧ w'.cell? ⟨ar, 2, none⟩ = some (al) ∧ w'.cell? ⟨af, 0, none⟩ = some (.slice an ((rd_T66 ad ab).f0).length ao) ∧ w'.cell? ⟨af, 1, none⟩ = some (.slice ap ((rd_T66 ad ab).f1).length aq)) ∧ ((Kd.int .i64).R 3 w' w28.heap.size (fun k_ => some k_ ≠ s_.2.2.ownBlock) s_.2.1 aX) ∧ ((Kd.int .i64).R 3 w' w28.heap.size (fun k_ => some k_ ≠ s_.2.1.ownBlock) s_.2.2 []) ∧ (Below w28.heap.size w28 w')) ?_ ?_
   rotate_left
   ·intro hCont
    refine two_ (i := 2) (j := 6) (Ni := some 23) (Nj := some 27) (bs 15 415) (bs 15 475) rfl rfl rfl rfl (two_of HT_.out (by kernel_rfl)) (by decide) (by decide) (fun K hK => ?_) (fun K hK => ?_)
    ·skip
     refine Kd.R_lit_step (Kd.int .i64) (w0 := w28) w28.heap.size 3 (by rfl) (N := 23) rfl (xs := ([] : List Int)) (inner := []) (ok := fun k_ => True) (okp := fun _ => False) ?hr (Reps.none _ _) (fun _ h_ => h_.elim) trivial HBN.out (HBN.out.size) (by simp) ?_;(case hr => go_simp; try rfl);intro v23 we101 ho_ hb_ hg_ hnew_;have q_ := Aside0.mk ho_;clear HBN;have HBN := Aside0.mk hb_;have P23 := q_; clear q_;refine hK.out _ _ ⟨cellb_ hb_ HS0.out.1, cellb_ hb_ HS0.out.2.1, cellb_ hb_ HS0.out.2.2.1, cellb_ hb_ HS0.out.2.2.2.1, cellb_ hb_ HS0.out.2.2.2.2⟩ (fun hHeld => ?_);clear hK K ho_ hb_ hg_ hnew_;refine no (some 23) ?_;refine two_ (i := 5) (j := 6) (Ni := some 26) (Nj := some 27) (bs 15 447) (bs 15 479) rfl rfl rfl rfl (two_of HT_.out (by kernel_rfl)) (by decide) (by decide) (fun K hK => ?_) (fun K hK => ?_)
     ·skip
      refine Kd.R_append_rows_step (Kd.int .i64) (w0 := w28) w28.heap.size (by rfl) (.tmp 23) (.tmp 25) 27 3 (.int .i64 0) 8 rfl Try.underlying27 info3 rfl (by decide) (by omega) v23 ([] : List Int) ((rd_T66 ad ab).f0) _ _ _ (fun k_ => True) (fun _ => False) rfl rfl P23.out ?aR (fun _ _ h_ => h_) (fun _ h_ => h_.elim) (fun _ _ => trivial) HBN.out HBN.out.size ?aL ?_;(case aR => exact Kd.C_below aM.out (below_step HB.out HBN.out));(case aL => have := L386.out; simp only [List.length_nil]; omega);intro v26 we102 ho_ hb_ hg_ hat_;rw [List.nil_append, E386.out] at ho_;have q_ := Aside0.mk ho_;clear HBN P23;have HBN := Aside0.mk hb_;have P26 := q_; clear q_;refine hK.out _ _ ⟨cellb_ hb_ HS0.out.1, cellb_ hb_ HS0.out.2.1, cellb_ hb_ HS0.out.2.2.1, cellb_ hb_ HS0.out.2.2.2.1, cellb_ hb_ HS0.out.2.2.2.2⟩ (fun hHeld => ?_);clear hK K ho_ hb_ hg_ hat_;refine no (some 26) ?_;refine one_ (i := 6) (N := some 27) (bs 15 511) rfl rfl (one_of HT_.out (by kernel_rfl)) (by decide) (fun K hK => ?_);refine Kd.R_lit_step (Kd.int .i64) (w0 := w28) w28.heap.size 3 (by rfl) (N := 27) rfl (xs := ([] : List Int)) (inner := []) (ok := fun k_ => some k_ ≠ (v26 : Value).ownBlock) (okp := fun _ => False) ?hr (Reps.none _ _) (fun _ h_ => h_.elim) (fun e_ => by have := Kd.R_lt P26.out _ e_.symm; omega) HBN.out (HBN.out.size) (by simp) ?_;(case hr => go_simp; try rfl);intro v27 we103 ho_ hb_ hg_ hnew_;have q_ := Aside0.mk ho_;have q26_ := Aside0.mk (qfa.elder_lit P26.out hg_ hnew_);clear P26; have P26 := q26_; clear q26_ HBN;have HBN := Aside0.mk hb_;have P27 := q_; clear q_;refine hK.out _ _ ⟨cellb_ hb_ HS0.out.1, cellb_ hb_ HS0.out.2.1, cellb_ hb_ HS0.out.2.2.1, cellb_ hb_ HS0.out.2.2.2.1, cellb_ hb_ HS0.out.2.2.2.2⟩ (fun hHeld => ?_);clear hK K ho_ hb_ hg_ hnew_;refine no (some 27) ?_;exact norm_ (by simp only [putAll, Act.put, qS1, qS2, qS3]) (hCont (v23, v26, v27) _ ⟨hHeld, P26.out, P27.out, HBN.out⟩)
     ·skip
      refine Kd.R_lit_step (Kd.int .i64) (w0 := w28) w28.heap.size 3 (by rfl) (N := 27) rfl (xs := ([] : List Int)) (inner := []) (ok := fun k_ => some k_ ≠ (v23 : Value).ownBlock) (okp := fun _ => False) ?hr (Reps.none _ _) (fun _ h_ => h_.elim) (fun e_ => by have := Kd.R_lt P23.out _ e_.symm; omega) HBN.out (HBN.out.size) (by simp) ?_;(case hr => go_simp; try rfl);intro v27 we104 ho_ hb_ hg_ hnew_;have q_ := Aside0.mk ho_;have q23_ := Aside0.mk (qfa.elder_lit P23.out hg_ hnew_);clear P23; have P23 := q23_; clear q23_ HBN;have HBN := Aside0.mk hb_;have P27 := q_; clear q_;refine hK.out _ _ ⟨cellb_ hb_ HS0.out.1, cellb_ hb_ HS0.out.2.1, cellb_ hb_ HS0.out.2.2.1, cellb_ hb_ HS0.out.2.2.2.1, cellb_ hb_ HS0.out.2.2.2.2⟩ (fun hHeld => ?_);clear hK K ho_ hb_ hg_ hnew_;refine no (some 27) ?_;refine one_ (i := 5) (N := some 26) (bs 15 511) rfl rfl (one_of HT_.out (by kernel_rfl)) (by decide) (fun K hK => ?_);refine Kd.R_append_rows_step (Kd.int .i64) (w0 := w28) w28.heap.size (by rfl) (.tmp 23) (.tmp 25) 27 3 (.int .i64 0) 8 rfl Try.underlying27 info3 rfl (by decide) (by omega) v23 ([] : List Int) ((rd_T66 ad ab).f0) _ _ _ (fun k_ => some k_ ≠ (v27 : Value).ownBlock) (fun _ => False) rfl rfl P23.out ?aR (fun _ _ h_ => h_) (fun _ h_ => h_.elim) (fun k_ hk_ e_ => by have := Kd.R_lt P27.out _ e_.symm; omega) HBN.out HBN.out.size ?aL ?_;(case aR => exact Kd.C_below aM.out (below_step HB.out HBN.out));(case aL => have := L386.out; simp only [List.length_nil]; omega);intro v26 we105 ho_ hb_ hg_ hat_;rw [List.nil_append, E386.out] at ho_;have q_ := Aside0.mk ho_;have q27_ := Aside0.mk (qfa.other_app P27.out hg_ hat_);clear P27; have P27 := q27_; clear q27_ HBN P23;have HBN := Aside0.mk hb_;have P26 := q_; clear q_;refine hK.out _ _ ⟨cellb_ hb_ HS0.out.1, cellb_ hb_ HS0.out.2.1, cellb_ hb_ HS0.out.2.2.1, cellb_ hb_ HS0.out.2.2.2.1, cellb_ hb_ HS0.out.2.2.2.2⟩ (fun hHeld => ?_);clear hK K ho_ hb_ hg_ hat_;refine no (some 26) ?_;exact norm_ (by simp only [putAll, Act.put, qS1, qS2, qS3]) (hCont (v23, v26, v27) _ ⟨hHeld, P26.out, P27.out, HBN.out⟩)
    ·skip
     refine Kd.R_lit_step (Kd.int .i64) (w0 := w28) w28.heap.size 3 (by rfl) (N := 27) rfl (xs := ([] : List Int)) (inner := []) (ok := fun k_ => True) (okp := fun _ => False) ?hr (Reps.none _ _) (fun _ h_ => h_.elim) trivial HBN.out (HBN.out.size) (by simp) ?_;(case hr => go_simp; try rfl);intro v27 we106 ho_ hb_ hg_ hnew_;have q_ := Aside0.mk ho_;clear HBN;have HBN := Aside0.mk hb_;have P27 := q_; clear q_;refine hK.out _ _ ⟨cellb_ hb_ HS0.out.1, cellb_ hb_ HS0.out.2.1, cellb_ hb_ HS0.out.2.2.1, cellb_ hb_ HS0.out.2.2.2.1, cellb_ hb_ HS0.out.2.2.2.2⟩ (fun hHeld => ?_);clear hK K ho_ hb_ hg_ hnew_;refine no (some 27) ?_;refine one_ (i := 2) (N := some 23) (bs 15 479) rfl rfl (one_of HT_.out (by kernel_rfl)) (by decide) (fun K hK => ?_);refine Kd.R_lit_step (Kd.int .i64) (w0 := w28) w28.heap.size 3 (by rfl) (N := 23) rfl (xs := ([] : List Int)) (inner := []) (ok := fun k_ => some k_ ≠ (v27 : Value).ownBlock) (okp := fun _ => False) ?hr (Reps.none _ _) (fun _ h_ => h_.elim) (fun e_ => by have := Kd.R_lt P27.out _ e_.symm; omega) HBN.out (HBN.out.size) (by simp) ?_;(case hr => go_simp; try rfl);intro v23 we107 ho_ hb_ hg_ hnew_;have q_ := Aside0.mk ho_;have q27_ := Aside0.mk (qfa.elder_lit P27.out hg_ hnew_);clear P27; have P27 := q27_; clear q27_ HBN;have HBN := Aside0.mk hb_;have P23 := q_; clear q_;refine hK.out _ _ ⟨cellb_ hb_ HS0.out.1, cellb_ hb_ HS0.out.2.1, cellb_ hb_ HS0.out.2.2.1, cellb_ hb_ HS0.out.2.2.2.1, cellb_ hb_ HS0.out.2.2.2.2⟩ (fun hHeld => ?_);clear hK K ho_ hb_ hg_ hnew_;refine no (some 23) ?_;refine one_ (i := 5) (N := some 26) (bs 15 511) rfl rfl (one_of HT_.out (by kernel_rfl)) (by decide) (fun K hK => ?_);refine Kd.R_append_rows_step (Kd.int .i64) (w0 := w28) w28.heap.size (by rfl) (.tmp 23) (.tmp 25) 27 3 (.int .i64 0) 8 rfl Try.underlying27 info3 rfl (by decide) (by omega) v23 ([] : List Int) ((rd_T66 ad ab).f0) _ _ _ (fun k_ => some k_ ≠ (v27 : Value).ownBlock) (fun _ => False) rfl rfl P23.out ?aR (fun _ _ h_ => h_) (fun _ h_ => h_.elim) (fun k_ hk_ e_ => by have := Kd.R_lt P27.out _ e_.symm; omega) HBN.out HBN.out.size ?aL ?_;(case aR => exact Kd.C_below aM.out (below_step HB.out HBN.out));(case aL => have := L386.out; simp only [List.length_nil]; omega);intro v26 we108 ho_ hb_ hg_ hat_;rw [List.nil_append, E386.out] at ho_;have q_ := Aside0.mk ho_;have q27_ := Aside0.mk (qfa.other_app P27.out hg_ hat_);clear P27; have P27 := q27_; clear q27_ HBN P23;have HBN := Aside0.mk hb_;have P26 := q_; clear q_;refine hK.out _ _ ⟨cellb_ hb_ HS0.out.1, cellb_ hb_ HS0.out.2.1, cellb_ hb_ HS0.out.2.2.1, cellb_ hb_ HS0.out.2.2.2.1, cellb_ hb_ HS0.out.2.2.2.2⟩ (fun hHeld => ?_);clear hK K ho_ hb_ hg_ hat_;refine no (some 26) ?_;exact norm_ (by simp only [putAll, Act.put, qS1, qS2, qS3]) (hCont (v23, v26, v27) _ ⟨hHeld, P26.out, P27.out, HBN.out⟩)
   rintro ⟨v23, v26, v27⟩ we90 ⟨hHeld, h26_, h27_, hbn_⟩;have P26 := Aside0.mk h26_;have P27 := Aside0.mk h27_;clear HBN;have HBN := Aside0.mk hbn_;clear h26_ h27_ hbn_;refine norm_ (a' := ?_) ?_ ?_
   rotate_left
   ·simp only [putAll, Act.put, qS1, qS2, qS3]
    rfl
   refine one_ (i := 9) (N := some 30) (bs 15 1023) rfl rfl (one_of HT_.out (by kernel_rfl)) (by decide) (fun K hK => ?_);refine Kd.R_append_rows_step (Kd.int .i64) (w0 := w28) w28.heap.size (by rfl) (.tmp 27) (.tmp 29) 27 3 (.int .i64 0) 8 rfl Try.underlying27 info3 rfl (by decide) (by omega) v27 ([] : List Int) ((rd_T66 ad ab).f1) _ _ _ (fun k_ => some k_ ≠ v26.ownBlock) (fun _ => False) rfl rfl P27.out ?aR (fun _ _ h_ => h_) (fun _ h_ => h_.elim) (fun k_ hk_ e_ => by have := Kd.R_lt P26.out _ e_.symm; omega) HBN.out HBN.out.size ?aL ?_;(case aR => exact Kd.C_below bq.out (below_step HB.out HBN.out));(case aL => have := L389.out; simp only [List.length_nil]; omega);intro v30 we91 ho_ hb hg_ hat_;rw [List.nil_append, E389.out] at ho_;have q_ := Aside0.mk (qfa.other_app P26.out hg_ hat_);clear P26 P27 HBN; have P26 := q_;have P27 := Aside0.mk ho_;clear q_ ho_ hg_ hat_; have hb_ := hb;replace ag := kR ag hb; replace aa := Aside0.mk (qfa.elder2 aa.out hb (Kd.R_base P26.out) (Kd.R_base P27.out)); have aW : Aside0 (Kd.R (Kd.int .i64) 3 we91 w.heap.size (fun k_ => True ∧ some k_ ≠ v30.ownBlock) v26 aX) := ⟨Kd.R_mono (Kd.R_lower P26.out (below_size HB.out)) (fun _ hk => ⟨trivial, hk⟩)⟩; have bc : Aside0 (Kd.R (Kd.int .i64) 3 we91 w.heap.size (fun k_ => True ∧ some k_ ≠ v26.ownBlock) v30 bd) := ⟨Kd.R_mono (Kd.R_lower P27.out (below_size HB.out)) (fun _ hk => ⟨trivial, hk⟩)⟩; replace ah := kU ah hb; replace ai := kU ai hb; replace ae := kU ae hb; replace aj := kU aj hb; replace HB := kH HB hb;(try clear hb);obtain ⟨bR, bS, bT⟩ := Kd.R_slice bc.out;(first | subst bT | (injection bT with f1_ f2_ f3_; have f4_ := f1_.symm; have f5_ := f3_.symm; clear f1_ f2_ f3_; subst f4_; subst f5_));obtain ⟨bU, bV, bW⟩ := Kd.R_slice aW.out;(first | subst bW | (injection bW with f1_ f2_ f3_; have f4_ := f1_.symm; have f5_ := f3_.symm; clear f1_ f2_ f3_; subst f4_; subst f5_));refine hK.out _ _ ⟨kk ae 0, kk ae 1, kk ae 2, kk aj 0, kk aj 1⟩ (fun hHeld => ?_);clear hK K;refine no (some 30) ?_;refine pu 10 (some 31) (bs 15 2047) HT_ ?_;refine one_ (i := 11) (N := some 32) (bs 15 4095) rfl rfl (one_of HT_.out (by kernel_rfl)) (by decide) (fun K hK => ?_);refine value_ (w1 := ?_) (v := ?_) (by rfl) rfl ?_ ?_
   rotate_left 2
   ·go_simp
    constructor
    ·rfl
    ·rfl
   refine hK.out _ _ ⟨(blk_cell (blk_alloc ae.out _) 0).trans rfl, (blk_cell (blk_alloc ae.out _) 1).trans rfl, (blk_cell (blk_alloc ae.out _) 2).trans rfl, (blk_cell (blk_alloc aj.out _) 0).trans rfl, (blk_cell (blk_alloc aj.out _) 1).trans rfl⟩ (fun hHeld => ?_);clear hK K;refine no (some 32) ?_;refine one_ (i := 12) (N := some 33) (bs 15 8191) rfl rfl (one_of HT_.out (by kernel_rfl)) (by decide) (fun K hK => ?_);refine Kd.S_append_step k66t (w0 := w) w.heap.size (by rfl) (.tmp 22) (.tmp 32) 24 66 (.agg #[(.slice none 0 0), (.slice none 0 0)]) 48 rfl Try.underlying24 info66 rfl (by decide) (by omega) al ak (⟨aX, bd⟩ : S66) [.slice bU aX.length bV, .slice bR bd.length bS] (fun k_ => k_ ≠ af) (fun k_ => some k_ = (.slice bU aX.length bV : Value).ownBlock ∨ some k_ = (.slice bR bd.length bS : Value).ownBlock) rfl rfl ?aP (fun k_ hk_ => hk_.elim (fun h_ => ((Kd.R_mono (ok' := fun k_ => ((fun k_ => k_ ≠ af)) k_ ∧ some k_ ≠ (al : Value).ownBlock) (Kd.R_types (Kd.R_apart' (aW.out) (Kd.S_typed aa.out) (by decide)) aj.out (by decide)) (fun k_ hk => ⟨hk.2, hk.1.2⟩))).1 k_ h_.symm) (fun h_ => ((Kd.R_mono (ok' := fun k_ => ((fun k_ => k_ ≠ af)) k_ ∧ some k_ ≠ (al : Value).ownBlock) (Kd.R_types (Kd.R_apart' (bc.out) (Kd.S_typed aa.out) (by decide)) aj.out (by decide)) (fun k_ hk => ⟨hk.2, hk.1.2⟩))).1 k_ h_.symm)) ?aF ?aO ?aB ?aS ?aL ?_;(case aP => exact k66t_mkM _ _ _ (⟨aX, bd⟩ : S66) (fun k_ h_ h2_ => (aW.out.1 k_ h_).2 h2_.symm) (Kd.R_mono (Kd.R_tight rfl (Kd.R_mono (ok' := fun k_ => ((fun k_ => k_ ≠ af)) k_ ∧ some k_ ≠ (al : Value).ownBlock) (Kd.R_types (Kd.R_apart' (aW.out) (Kd.S_typed aa.out) (by decide)) aj.out (by decide)) (fun k_ hk => ⟨hk.2, hk.1.2⟩))) (fun _ h_ => Or.inl h_)) (Kd.R_mono (Kd.R_tight rfl (Kd.R_mono (ok' := fun k_ => ((fun k_ => k_ ≠ af)) k_ ∧ some k_ ≠ (al : Value).ownBlock) (Kd.R_types (Kd.R_apart' (bc.out) (Kd.S_typed aa.out) (by decide)) aj.out (by decide)) (fun k_ hk => ⟨hk.2, hk.1.2⟩))) (fun _ h_ => Or.inr (h_))));(case aB => exact (kh HB));(case aF => exact (fun k_ hk => Kd.freshB (g := af) (o := .cells #[.slice an ((rd_T66 ad ab).f0).length ao, .slice ap ((rd_T66 ad ab).f1).length aq] 66 (0, 0)) (kb aj) k_ hk));(case aO => exact (by (with_reducible repeat first | apply Kd.S_alloc | apply Kd.S_drewN | apply Kd.S_drew); exact Kd.S_mono aa.out (fun k_ hk => ⟨hk.1.1, fun e_ => e_.elim (fun h_ => hk.1.2 h_) (fun h_ => hk.2 h_)⟩)));(case aS => exact (below_size (kh HB)));(case aL => have := bO.out; omega);intro cV w33 ho hb hg hat;rw [← bP.out] at ho;replace ag := Aside0.mk (Kd.R_over' (krR ag) (Kd.S_typed (krS aa)) (by decide) hg); replace ah := kXS ah aa hg; replace ai := kXS ai aa hg; replace ae := kXS ae aa hg; replace aj := Aside0.mk (blk_grown (g := af) (o := .cells #[.slice an ((rd_T66 ad ab).f0).length ao, .slice ap ((rd_T66 ad ab).f1).length aq] 66 (0, 0)) (kb aj) hg (Kd.S_away aa.out (fun _ hk => hk.1.1))); replace HB := Aside0.mk (hb); have bB := Aside0.mk (ho); clear aW bc aa;clear ho hb hg hat;obtain ⟨bG, bH, bX⟩ := Kd.S_slice bB.out;(first | subst bX | (injection bX with f1_ f2_ f3_; have f4_ := f1_.symm; have f5_ := f3_.symm; clear f1_ f2_ f3_; subst f4_; subst f5_));refine hK.out _ _ ⟨kk ae 0, kk ae 1, kk ae 2, kk aj 0, kk aj 1⟩ (fun hHeld => ?_);clear hK K;refine no (some 33) ?_;refine pu 13 (some 34) (bs 15 16383) HT_ ?_;refine last_ (i := 14) (N := none) (bs 15 32767) rfl rfl (one_of HT_.out (by kernel_rfl)) (by decide) (fun K hK => ?_);have cW : w33.cell? ⟨ar, 2, none⟩ = some (al) := kk ae 2;have cR := blk_frozen ae.out 2;have ca := ax.out;have cb := az.out;have cc := aI.out;have cd := ay.out;have ce := aA.out;have cf := aH.out;refine skip_ (w1 := ?_) (by rfl) rfl ?_ ?_
   rotate_left
   ·go_simp
    rfl
   refine hK.out _ _ ?_;clear hK K;refine done_ (done_of HT_.out (by kernel_rfl)) ?_;(try go_wp2);go_roundg k1
   case measure => have := HK1.out; omega
   case rel => exact ⟨(wrap64 (ab + 1)), (bo), (.slice bG bo.length bH), et, H', ⟨by have := HK1.out; omega⟩, ⟨by (with_reducible repeat first | apply Kd.R_alloc | apply Kd.R_drewN | apply Kd.R_drew); exact Kd.R_mono (Kd.R_far (p := ⟨ar, 2, none⟩) (Kd.R_types ag.out ae.out (by decide)) (fun _ hk => hk.2) (.slice bG bo.length bH)) (fun _ hk => trivial)⟩, ⟨by (with_reducible repeat first | apply Kd.S_alloc | apply Kd.S_drewN | apply Kd.S_drew); exact Kd.S_mono (Kd.S_far (p := ⟨ar, 2, none⟩) (Kd.S_types bB.out ae.out (by decide)) (fun _ hk => hk.2) (.slice bG bo.length bH)) (fun _ hk => trivial)⟩, ⟨kg ah⟩, ⟨kg ai⟩, ⟨kg ae⟩, ⟨kh HB⟩⟩
def qfa.f (k : Nat) (aa : List (S64)) (ab : List (S61)) (ad : List (S66)) (l1 : List (S61)) : Option ((List (S64)) × (List (S61)) × (List (S66))) := (qfa.g k aa ab ad).bind fun r => some (r.1, l1, r.2.2)
theorem qfa.calls (k : Nat) (ae : Option Addr) (af : Nat) (aa : List (S64)) (ag : Option Addr) (ah : Nat) (ab : List (S61)) (ai : Option Addr) (aj : Nat) (ad : List (S66)) (A1 : Option Addr) (c1 : Nat) (l1 : List (S61)) (r1 : List (S64)) (r2 : List (S61)) (r3 : List (S66)) (w : World) (ak : Kd.C k64 w ae aa.length aa) (al : aa.length ≤ af) (an : Kd.C k61 w ag ab.length ab) (ao : ab.length ≤ ah) (ap : Kd.C k66 w ai ad.length ad) (aq : ad.length ≤ aj) {b0 : Nat} {ok0 : Nat → Prop} (hr1 : Kd.R k61 61 w b0 ok0 (.slice A1 l1.length c1) l1) (hb0 : b0 ≤ w.heap.size) (h : qfa.f k aa ab ad l1 = some (r1, r2, r3)) :
  Calls Try.prog 44 #[.agg #[.slice ae aa.length af, .slice ag ab.length ah, .slice ai ad.length aj], .slice A1 l1.length c1] w fun e w' => ∃ v0_ v2_ : Value, e = .returned (.agg #[v0_, .slice A1 r2.length c1, v2_]) ∧ Kd.R k64 64 w' b0 (fun k_ => w.heap.size ≤ k_) v0_ r1 ∧ Kd.R k61 61 w' b0 ok0 (.slice A1 r2.length c1) r2 ∧ Kd.S k66t 66 w' b0 (fun k_ => w.heap.size ≤ k_) v2_ r3 ∧ Below w.heap.size w w' := by
 obtain ⟨⟨g1, g2, g3⟩, hg, he⟩ := qqB h;simp only [Option.some.injEq, Prod.mk.injEq] at he;obtain ⟨rfl, rfl, rfl⟩ := he
 exact (qfa.callsG k ae af aa ag ah ab ai aj ad A1 c1 l1 g1 g2 g3 w ak al an ao ap aq hg).mono fun e w' ⟨v0, v2, h0, h1, h2, h3⟩ => ⟨v0, v2, h0, Kd.R_lower (Kd.R_mono (Kd.R_bound h1) (fun _ hk => hk.2.1)) hb0, Kd.R_below hr1 h3, (let ⟨f_, q_⟩ := h2; ⟨f_, Kd.R_lower (Kd.R_mono (Kd.R_bound q_) (fun _ hk => hk.2.1)) hb0⟩), h3⟩
theorem qfa.callsN (k : Nat) (ae : Option Addr) (af : Nat) (aa : List (S64)) (ag : Option Addr) (ah : Nat) (ab : List (S61)) (ai : Option Addr) (aj : Nat) (ad : List (S66)) (A1 : Option Addr) (c1 : Nat) (l1 : List (S61)) (r1 : List (S64)) (r2 : List (S61)) (r3 : List (S66)) (w : World) (ak : Kd.C k64 w ae aa.length aa) (al : aa.length ≤ af) (an : Kd.C k61 w ag ab.length ab) (ao : ab.length ≤ ah) (ap : Kd.C k66 w ai ad.length ad) (aq : ad.length ≤ aj) {b0 : Nat} (hr1 : Kd.R k61 61 w b0 (fun _ => True) (.slice A1 l1.length c1) l1) (hb0 : b0 ≤ w.heap.size) (h : qfa.f k aa ab ad l1 = some (r1, r2, r3)) :
  Calls Try.prog 44 #[.agg #[.slice ae aa.length af, .slice ag ab.length ah, .slice ai ad.length aj], .slice A1 l1.length c1] w fun e w' => ∃ v0_ v1_ v2_ : Value, e = .returned (.agg #[v0_, v1_, v2_]) ∧ Kd.R k64 64 w' b0 (fun _ => True) v0_ r1 ∧ Kd.R k61 61 w' b0 (fun _ => True) v1_ r2 ∧ Kd.S k66 66 w' b0 (fun _ => True) v2_ r3 ∧ Below w.heap.size w w' :=
 (qfa.calls k ae af aa ag ah ab ai aj ad A1 c1 l1 r1 r2 r3 w ak al an ao ap aq hr1 hb0 h).mono fun e w' ⟨v0, v2, he, h0, h1, h2, h3⟩ => ⟨v0, _, v2, he, Kd.R_mono h0 (fun _ _ => trivial), h1, k66t_S (Kd.S_mono h2 (fun _ _ => trivial)), h3⟩
def qqa.l0 : Nat → Int → List Int → Int → Int → Option (Int)
 | 0, _, _, _, _ => none
 | k + 1, x5, x13, x14, x15 => if x15 < x14 then (if 0 ≤ x15 then (if x15 < (x13.length : Int) then (qqa.l0 k (mx x5 (rd x13 x15)) x13 x14 (wrap64 (x15 + 1))) else (none)) else (none)) else (some x5)
def qqa.f (k : Nat) (ab : List (S64)) (ad : List (S61)) (ae : List (S66)) : Option (Int) := (qea.f k ab ad ae).bind fun aa => (qqa.l0 k 0 aa.1 (aa.1.length : Int) 0)
theorem qqa.calls (k : Nat) (aj : Option Addr) (ak : Nat) (ad : List (S64)) (al : Option Addr) (an : Nat) (ae : List (S61)) (ao : Option Addr) (ap : Nat) (af : List (S66)) (r : Int) (w : World) (aq : Kd.C k64 w aj ad.length ad) (ar : ad.length ≤ ak) (au : Kd.C k61 w al ae.length ae) (av : ae.length ≤ an) (aw : Kd.C k66 w ao af.length af) (ax : af.length ≤ ap) (h : qqa.f k ad ae af = some r) :
  Calls Try.prog 32 #[.agg #[.slice aj ad.length ak, .slice al ae.length an, .slice ao af.length ap]] w fun e w' => e = .returned (.int .i64 r) ∧ Below w.heap.size w w' := by
 have hu26 := Try.underlying26;have aG := Aside0.mk aq;have aH := Aside0.mk ar;clear aq ar;have aI := Aside0.mk au;have aJ := Aside0.mk av;clear au av;have aK := Aside0.mk aw;have aM := Aside0.mk ax;clear aw ax;have HB := Aside0.mk (Below.refl w.heap.size w);have H : ((qea.f k ad ae af).bind fun ay => (qqa.l0 k 0 ay.1 (ay.1.length : Int) 0)) = some r := h;clear h;replace H := qqB H;obtain ⟨⟨ab, aT⟩, A20, H⟩ := H;(try dsimp only at H);have A2 := Aside0.mk A20;clear A20;have H' := Aside0.mk H;clear H;go_enter Try.func32, Try.ntmps32;go_wp2_with (first | ((with_reducible refine gate_dst (N := 1) rfl ?_); refine box_event ?hg (N := 1) ?hd (cs := #[.slice aj ad.length ak, .slice al ae.length an, .slice ao af.length ap]) (t := 26) ?hr ?_; (case hd | hg => rfl); (case hr => go_simp; try rfl); intro aN hg w3 hbox hb; have ag := am hbox; have aW := kG HB hg; have aX := kG HB hg; replace HB := kH HB hb; clear hb hbox hg; have Z4 := kz3 ag) | ((with_reducible refine gate_callee (f := 12) rfl ?_); refine goesL_ (some 10) rfl rfl Try.func12 (by kernel_rfl) rfl #[.agg #[.slice aj ad.length ak, .slice al ae.length an, .slice ao af.length ap]] rfl (by (try simp only [qM1, qM2, qM3]); first | done | rfl) ?_; (with_reducible refine (qea.calls k _ _ ad _ _ ae _ _ af ab aT _ ?side1 ?side2 ?side3 ?side4 ?side5 ?side6 A2.out).mono ?_); (case side1 => repeat (first | exact (Kd.C_below aG.out HB.out) | (with_reducible first | refine Kd.C_alloc ?_ _ | refine Kd.C_drewN ?_ _ | refine Kd.C_drew ?_))); (case side2 => exact aH.out); (case side3 => repeat (first | exact (Kd.C_below aI.out HB.out) | (with_reducible first | refine Kd.C_alloc ?_ _ | refine Kd.C_drewN ?_ _ | refine Kd.C_drew ?_))); (case side4 => exact aJ.out); (case side5 => repeat (first | exact (Kd.C_below aK.out HB.out) | (with_reducible first | refine Kd.C_alloc ?_ _ | refine Kd.C_drewN ?_ _ | refine Kd.C_drew ?_))); (case side6 => exact aM.out); rintro e w5 ⟨aZ, rfl, ho0, hb⟩; refine ⟨_, rfl, ?_⟩; have az := kLR ho0 HB; replace ag := kU ag hb; replace HB := kH HB hb; (try clear hb); (try clear hb2); (try clear hk); (try clear hi); (try clear ho0); obtain ⟨Ao6, co6, eo6⟩ := Kd.R_slice az.out; subst eo6));go_loopg [5, 15] k (fun kq v5 v15 w' => ∃ (ai : Int) (aa : Int), v5 = .int .i64 ai ∧ v15 = .int .i64 aa ∧ Aside0 (qqa.l0 kq ai ab (ab.length : Int) aa = some r) ∧ Aside0 (kq ≤ k) ∧ Aside0 (Kd.R (Kd.int .i64) 3 w' w.heap.size (fun _ => True) (.slice Ao6 ab.length co6) ab) ∧ Aside0 (w'.heap[aN]? = some (.cells #[(.slice aj ad.length ak), (.slice al ae.length an), (.slice ao af.length ap)] 26 (0, 0))) ∧ Aside0 (Below w.heap.size w w'))
 case atStart => exact ⟨(0), (0), et, et, H', ⟨Nat.le_refl _⟩, ⟨krR az⟩, ⟨kg ag⟩, ⟨kh HB⟩⟩
 case round =>
  clear H'; (try clear Z4);obtain ⟨ai, aa, rfl, rfl, HA, HK1, aA, ag, HB⟩ := hrel
  cases gk with
  | zero => exact absurd HA.out (by simp [qqa.l0])
  | succ k1 =>
   have H := HA.out;clear HA;simp only [qqa.l0] at H
   by_cases c7 : aa < (ab.length : Int)
   rotate_left
   ·rw [if_neg c7] at H
    have aU := qqF c7;clear c7;obtain rfl := qqI H;go_wp2;go_ret;exact ⟨er, kh HB⟩
   rw [if_pos c7] at H;have aU := qqT c7;clear c7
   by_cases c8 : 0 ≤ aa
   rotate_left
   ·rw [if_neg c8] at H
    exact absurd H (by simp)
   rw [if_pos c8] at H;have ba := qqT c8;clear c8
   by_cases c9 : aa < (ab.length : Int)
   rotate_left
   ·rw [if_neg c9] at H
    exact absurd H (by simp)
   rw [if_pos c9] at H;have bb := qqT c9;clear c9;obtain ⟨aC, ah⟩ : ∃ j_ : Int, (mx ai (rd ab aa)) = j_ := ⟨_, rfl⟩
   replace H : (qqa.l0 k1 aC ab (ab.length : Int) (wrap64 (aa + 1))) = some r := by first | (rw [ah] at H; exact H) | (simp only [ah] at H ⊢; exact H)
   have hji10_ : (if ai < (rd ab aa) then (rd ab aa) else ai) = aC := ah;have H' := Aside0.mk H;clear H;have aD : 0 ≤ (aa : Int) := od;have aE : aa < (ab.length : Int) := od;obtain ⟨aY, aV, aQ⟩ := Kd.at_int (Kd.R_reads' aA.out).2.2 aa aD aE;cases aV;replace aD := eq_true aD; replace aE := eq_true aE;go_wp2;go_roundg k1
   case measure => have := HK1.out; omega
   case rel => exact ⟨(aC), (wrap64 (aa + 1)), (by first | rfl | (simp; done) | (simp only [← ah] <;> (first | rfl | simp)) | (simp [*]; done)), et, H', ⟨by have := HK1.out; omega⟩, ⟨krR aA⟩, ⟨kg ag⟩, ⟨kh HB⟩⟩
section
variable {P : Program} {ops : Array Oper} {Q : Exit → Act → World → Prop} {md : Region.Mode} {S : World → Prop} {ds : List Nat}
def qha.chainB (md : Region.Mode) (ops : Array Oper) : List Nat → Array Bool → Bool
 | [], l => Region.ready md ops l == []
 | i :: is, l => decide (i < ops.size) && Region.ready md ops l == [i] && qha.chainB md ops is (l.setIfInBounds i true)
theorem qha.chain : ∀ (is : List Nat) {l : Array Bool} {a : Act} {w : World}, qha.chainB md ops is l = true → (∀ i ∈ is, i ∈ ds) → wpList P ops Q (is.filterMap fun i => ops[i]?) a w → wpAnyLast P md ops Q S ds is.length l a w
 | [], l, a, w, hc, _, h => ⟨by simpa [qha.chainB] using hc, h⟩
 | i :: is, l, a, w, hc, hd, h => by
  simp only [qha.chainB, Bool.and_eq_true, decide_eq_true_eq, beq_iff_eq] at hc;obtain ⟨⟨h0, h1⟩, h2⟩ := hc;have ho : ops[i]? = some ops[i] := Array.getElem?_eq_getElem h0;refine ⟨fun he => (by rw [h1] at he; cases he), fun j hj => ?_⟩;rw [h1] at hj;obtain rfl := List.mem_singleton.1 hj;rw [List.filterMap_cons, ho] at h
  have hK : ∀ a' w', wpList P ops Q (is.filterMap fun i => ops[i]?) a' w' → ((j ∉ ds → S w → S w') ∧ wpAnyLast P md ops Q S ds is.length (l.setIfInBounds j true) a' w') := fun a' w' hh => ⟨fun hn => absurd (hd j (List.mem_cons_self ..)) hn, qha.chain is h2 (fun i hi => hd i (List.mem_cons_of_mem _ hi)) hh⟩
  unfold wpOp;rw [ho];simp only [wpList] at h ⊢
  split at h
  ·rename_i hw
   rw [if_pos hw];exact h.imp (Oper.wp_mono hK) id
  ·rename_i hw
   rw [if_neg hw];exact hK _ _ h
theorem qha.chainL (is : List Nat) (k : Nat) {l : Array Bool} {a : Act} {w : World} (hc : qha.chainB md ops is l = true) (hd : ∀ i ∈ is, i ∈ ds) (he : (is.filterMap fun i => ops[i]?) = ops.toList.drop k) (h : wpList P ops Q (ops.toList.drop k) a w) : wpAnyLast P md ops Q S ds is.length l a w :=
 qha.chain is hc hd (by rw [he]; exact h)
end
def qha.l0 : Nat → List Int → List (List Int) → List (S61) → Int → Int → Option ((List (List Int)))
 | 0, _, _, _, _, _ => none
 | k + 1, x3, x5, x17, x18, x19 => if x19 < x18 then (if 0 ≤ x19 then (if x19 < (x17.length : Int) then (if ((rd_T61 x17 x19).f0) = 5 then (if x19 < (x3.length : Int) then (if 0 ≤ (wrap64 ((rd x3 x19) - 1)) then (if (wrap64 ((rd x3 x19) - 1)) < (x5.length : Int) then (if (rd_L5 x5 (wrap64 ((rd x3 x19) - 1))).length < 17592186044416 then (qha.l0 k x3 (x5.set ((wrap64 ((rd x3 x19) - 1)) : Int).toNat ((rd_L5 x5 (wrap64 ((rd x3 x19) - 1))) ++ [x19])) x17 x18 (wrap64 (x19 + 1))) else (none)) else (none)) else (none)) else (none)) else (qha.l0 k x3 x5 x17 x18 (wrap64 (x19 + 1)))) else (none)) else (none)) else (some x5)
def qha.f (k : Nat) (ad : List (S64)) (aa : List (S61)) (ae : List (S66)) : Option ((List (List Int))) := (qea.f k ad aa ae).bind fun af => ((qqa.f k ad aa ae).bind fun ab => (if 0 ≤ ab then (if (ab : Int).toNat ≤ 11728124029610 then (qha.l0 k af.1 (List.replicate (ab : Int).toNat []) aa (aa.length : Int) 0) else (none)) else (none)))
theorem qha.calls (k : Nat) (aA : Option Addr) (aC : Nat) (aq : List (S64)) (ba : Option Addr) (aD : Nat) (ab : List (S61)) (aE : Option Addr) (aG : Nat) (ar : List (S66)) (r : List (List Int)) (w : World) (bm : Kd.C k64 w aA aq.length aq) (bn : aq.length ≤ aC) (bo : Kd.C k61 w ba ab.length ab) (bp : ab.length ≤ aD) (bq : Kd.C k66 w aE ar.length ar) (br : ar.length ≤ aG) (h : qha.f k aq ab ar = some r) :
  Calls Try.prog 34 #[.agg #[.slice aA aq.length aC, .slice ba ab.length aD, .slice aE ar.length aG]] w fun e w' => ∃ v0_ : Value, e = .returned (v0_) ∧ Kd.S (Kd.slice 3 (Kd.int .i64)) 27 w' w.heap.size (fun _ => True) v0_ r ∧ Below w.heap.size w w' := by
 have hu26 := Try.underlying26;have hu61 := Try.underlying61;have bt := Aside0.mk bm;have bu := Aside0.mk bn;clear bm bn;have aV := Aside0.mk bo;have bv := Aside0.mk bp;clear bo bp;have bw := Aside0.mk bq;have bx := Aside0.mk br;clear bq br;have HB := Aside0.mk (Below.refl w.heap.size w);have H : ((qea.f k aq ab ar).bind fun bJ => ((qqa.f k aq ab ar).bind fun ax => (if 0 ≤ ax then (if (ax : Int).toNat ≤ 11728124029610 then (qha.l0 k bJ.1 (List.replicate (ax : Int).toNat []) ab (ab.length : Int) 0) else (none)) else (none)))) = some r := h;clear h;replace H := qqB H;obtain ⟨⟨ap, ce⟩, A20, H⟩ := H;(try dsimp only at H);have A2 := Aside0.mk A20;clear A20;replace H := qqB H;obtain ⟨ax, A30, H⟩ := H;(try dsimp only at H);have A3 := Aside0.mk A30;clear A30
 by_cases c4 : 0 ≤ ax
 rotate_left
 ·rw [if_neg c4] at H
  exact absurd H (by simp)
 rw [if_pos c4] at H;have cf := eq_true c4;have cg := qqT c4;clear c4
 by_cases c5 : (ax : Int).toNat ≤ 11728124029610
 rotate_left
 ·rw [if_neg c5] at H
  exact absurd H (by simp)
 rw [if_pos c5] at H;have ch := eq_true c5;have ci := qqT c5;clear c5;obtain ⟨bK, aI⟩ : ∃ y_ : List (List Int), y_ = (List.replicate (ax : Int).toNat []) := ⟨_, rfl⟩
 replace H : (qha.l0 k ap bK ab (ab.length : Int) 0) = some r := by first | (rw [aI]; with_reducible exact H) | (have H2_ := (Option.bind_some _ _).symm.trans H; rw [aI]; with_reducible exact H2_) | (have H2_ := (Option.bind_some _ _).symm.trans H; with_reducible exact H2_) | with_reducible exact H | (rw [aI]; exact H) | exact H
 have bz := Aside0.mk aI;clear aI;have H' := Aside0.mk H;clear H;go_enter Try.func34, Try.ntmps34;go_wp2_with (first | ((with_reducible refine gate_dst (N := 1) rfl ?_); refine box_event ?hg (N := 1) ?hd (cs := #[.slice aA aq.length aC, .slice ba ab.length aD, .slice aE ar.length aG]) (t := 26) ?hr ?_; (case hd | hg => rfl); (case hr => go_simp; try rfl); intro aW hg w6 hbox hb; have ad := am hbox; have cr := kG HB hg; have ct := kG HB hg; replace HB := kH HB hb; clear hb hbox hg; have Z7 := kz3 ad) | ((with_reducible refine gate_callee (f := 12) rfl ?_); refine goesL_ (some 10) rfl rfl Try.func12 (by kernel_rfl) rfl #[.agg #[.slice aA aq.length aC, .slice ba ab.length aD, .slice aE ar.length aG]] rfl (by (try simp only [qM1, qM2, qM3]); first | done | rfl) ?_; (with_reducible refine (qea.calls k _ _ aq _ _ ab _ _ ar ap ce _ ?side1 ?side2 ?side3 ?side4 ?side5 ?side6 A2.out).mono ?_); (case side1 => repeat (first | exact (Kd.C_below bt.out HB.out) | (with_reducible first | refine Kd.C_alloc ?_ _ | refine Kd.C_drewN ?_ _ | refine Kd.C_drew ?_))); (case side2 => exact bu.out); (case side3 => repeat (first | exact (Kd.C_below aV.out HB.out) | (with_reducible first | refine Kd.C_alloc ?_ _ | refine Kd.C_drewN ?_ _ | refine Kd.C_drew ?_))); (case side4 => exact bv.out); (case side5 => repeat (first | exact (Kd.C_below bw.out HB.out) | (with_reducible first | refine Kd.C_alloc ?_ _ | refine Kd.C_drewN ?_ _ | refine Kd.C_drew ?_))); (case side6 => exact bx.out); rintro e w8 ⟨bb, rfl, ho0, hb⟩; refine ⟨_, rfl, ?_⟩; have ay := kLR ho0 HB; replace ad := kU ad hb; replace HB := kH HB hb; (try clear hb); (try clear hb2); (try clear hk); (try clear hi); (try clear ho0); have Z9 := kz3 ad) | ((with_reducible refine gate_callee (f := 32) rfl ?_); refine goesL_ (some 14) rfl rfl Try.func32 (by kernel_rfl) rfl #[.agg #[.slice aA aq.length aC, .slice ba ab.length aD, .slice aE ar.length aG]] rfl (by (try simp only [qM1, qM2, qM3]); first | done | rfl) ?_; (with_reducible refine (qqa.calls k _ _ aq _ _ ab _ _ ar ax _ ?side1 ?side2 ?side3 ?side4 ?side5 ?side6 A3.out).mono ?_); (case side1 => repeat (first | exact (Kd.C_below bt.out HB.out) | (with_reducible first | refine Kd.C_alloc ?_ _ | refine Kd.C_drewN ?_ _ | refine Kd.C_drew ?_))); (case side2 => exact bu.out); (case side3 => repeat (first | exact (Kd.C_below aV.out HB.out) | (with_reducible first | refine Kd.C_alloc ?_ _ | refine Kd.C_drewN ?_ _ | refine Kd.C_drew ?_))); (case side4 => exact bv.out); (case side5 => repeat (first | exact (Kd.C_below bw.out HB.out) | (with_reducible first | refine Kd.C_alloc ?_ _ | refine Kd.C_drewN ?_ _ | refine Kd.C_drew ?_))); (case side6 => exact bx.out); rintro e w10 ⟨rfl, hb⟩; refine ⟨_, rfl, ?_⟩; replace ay := kR ay hb; replace ad := kU ad hb; replace HB := kH HB hb; (try clear hb); (try clear hb2); (try clear hk); (try clear hi)) | ((with_reducible refine gate_dst (N := 15) rfl ?_); refine Kd.S_make (Kd.slice 3 (Kd.int .i64)) _ 27 rfl (N := 15) rfl 56 _ _ rfl ax rfl rfl Try.underlying56 (.slice none 0 0) 24 info27 rfl (by decide) (by omega) [] (ok := fun _ => True) (okp := fun _ => True) ⟨_, rfl, Kd.R_nil _ _ _ _ _⟩ (fun _ hk => hk) trivial od (Nat.le_trans (Nat.mul_le_mul_right _ (od : ax.toNat ≤ 11728124029610)) (by omega)) (Below.refl _ _) (Nat.le_refl _) ?_; intro bB w11 ho12 hb hg_ hnew_; clear hg_ hnew_; (first | rw [← bz.out] at ho12 | (simp only [Int.reduceToNat] at ho12; rw [← bz.out] at ho12)); have bL := Aside0.mk (Kd.S_lower (Kd.S_new' ho12 (Kd.R_lt (krR ay))) (below_size (kh HB))); replace ay := kR ay hb; replace ad := kU ad hb; replace HB := kH HB hb; clear hb ho12; have Z13 := kz3 ad));go_loopg [19] k (fun kq v19 w' => ∃ (ag : List (List Int)) (aa : Int), v19 = .int .i64 aa ∧ Aside0 (qha.l0 kq ap ag ab (ab.length : Int) aa = some r) ∧ Aside0 (kq ≤ k) ∧ Aside0 (Kd.R (Kd.int .i64) 3 w' w.heap.size (fun _ => True) bb ap) ∧ Aside0 (Kd.S (Kd.slice 3 (Kd.int .i64)) 27 w' w.heap.size (fun k_ => some k_ ≠ (bb : Value).ownBlock) bB ag) ∧ Aside0 (w'.heap[aW]? = some (.cells #[(.slice aA aq.length aC), (.slice ba ab.length aD), (.slice aE ar.length aG)] 26 (0, 0))) ∧ Aside0 (Below w.heap.size w w'))
 case atStart => exact ⟨(bK), (0), et, H', ⟨Nat.le_refl _⟩, ⟨krR ay⟩, ⟨by (with_reducible repeat first | apply Kd.S_alloc | apply Kd.S_drewN | apply Kd.S_drew); exact Kd.S_mono bL.out (fun _ hk => hk.2)⟩, ⟨kg ad⟩, ⟨kh HB⟩⟩
 case round =>
  clear H';(try clear cf cg ch ci Z13 Z7 Z9);obtain ⟨ag, aa, rfl, HA, HK1, ao, ai, ad, HB⟩ := hrel
  cases gk with
  | zero => exact absurd HA.out (by simp [qha.l0])
  | succ k1 =>
   have H := HA.out;clear HA;simp only [qha.l0] at H
   by_cases c14 : aa < (ab.length : Int)
   rotate_left
   ·rw [if_neg c14] at H
    have bM := qqF c14;clear c14;obtain rfl := qqI H;go_wp2;go_ret;exact ⟨_, er, by (with_reducible repeat first | apply Kd.S_alloc | apply Kd.S_drewN | apply Kd.S_drew); exact Kd.S_mono ai.out (fun _ hk => trivial), kh HB⟩
   rw [if_pos c14] at H;have bM := qqT c14;clear c14
   by_cases c15 : 0 ≤ aa
   rotate_left
   ·rw [if_neg c15] at H
    exact absurd H (by simp)
   rw [if_pos c15] at H;have cu := qqT c15;clear c15
   by_cases c16 : aa < (ab.length : Int)
   rotate_left
   ·rw [if_neg c16] at H
    exact absurd H (by simp)
   rw [if_pos c16] at H;have cv := qqT c16;clear c16
   by_cases c17 : ((rd_T61 ab aa).f0) = 5
   rotate_left
   ·rw [if_neg c17] at H
    have bN := beq_eq_false_iff_ne.mpr c17;have bO := bne_iff_ne.mpr c17;have H' := Aside0.mk H;clear H;have aM : 0 ≤ (aa : Int) := od;have aN : aa < (ab.length : Int) := od;obtain ⟨aX, bC, aj, ak, al, an⟩ := at_T61 aV.out aa aM aN;cases bC;replace aj := (HB.out.cell (qqW w _ aj)).trans aj;replace ak := (HB.out.cell (qqW w _ ak)).trans ak;replace al := (HB.out.cell (qqW w _ al)).trans al;replace an := (HB.out.cell (qqW w _ an)).trans an;replace aM := eq_true aM; replace aN := eq_true aN;go_wp2_with (first | ((with_reducible refine gate_dst (N := 7) rfl ?_); refine box_event ?hg (N := 7) ?hd (cs := #[.int .i64 0, .int .i64 0, .int .i64 0, .int .u64 0]) (t := 61) ?hr ?_; (case hd | hg => rfl); (case hr => go_simp; try rfl); intro ae hg w36 hbox hb; replace ao := kR ao hb; replace ai := kS ai hb; have ah := am hbox; have bP := kG HB hg; have bQ := kG HB hg; replace HB := kH HB hb; have av := kP ad hg; have aw := kQ ad hg; replace ad := kU ad hb; clear hb hbox hg; have cw := aw.out; have cx := av.out; have Z38 := kz4 ah));go_roundg k1
    case measure => have := HK1.out; omega
    case rel => exact ⟨(ag), (wrap64 (aa + 1)), et, H', ⟨by have := HK1.out; omega⟩, ⟨by (with_reducible repeat first | apply Kd.R_alloc | apply Kd.R_drewN | apply Kd.R_drew); exact Kd.R_mono (Kd.R_far (p := ⟨ae, 3, none⟩) (Kd.R_far (p := ⟨ae, 2, none⟩) (Kd.R_far (p := ⟨ae, 1, none⟩) (Kd.R_far (p := ⟨ae, 0, none⟩) (Kd.R_types ao.out ah.out (by decide)) (fun _ hk => hk.2) (.int .i64 ((rd_T61 ab aa).f0))) (fun _ hk => hk.2) (.int .i64 ((rd_T61 ab aa).f1))) (fun _ hk => hk.2) (.int .i64 ((rd_T61 ab aa).f2))) (fun _ hk => hk.2) (.int .u64 ((rd_T61 ab aa).f3))) (fun _ hk => trivial)⟩, ⟨by (with_reducible repeat first | apply Kd.S_alloc | apply Kd.S_drewN | apply Kd.S_drew); exact Kd.S_mono (Kd.S_far (p := ⟨ae, 3, none⟩) (Kd.S_far (p := ⟨ae, 2, none⟩) (Kd.S_far (p := ⟨ae, 1, none⟩) (Kd.S_far (p := ⟨ae, 0, none⟩) (Kd.S_types ai.out ah.out (by decide)) (fun _ hk => hk.2) (.int .i64 ((rd_T61 ab aa).f0))) (fun _ hk => hk.2) (.int .i64 ((rd_T61 ab aa).f1))) (fun _ hk => hk.2) (.int .i64 ((rd_T61 ab aa).f2))) (fun _ hk => hk.2) (.int .u64 ((rd_T61 ab aa).f3))) (fun _ hk => hk.1)⟩, ⟨kg ad⟩, ⟨kh HB⟩⟩
   rw [if_pos c17] at H;have bN := beq_iff_eq.mpr c17;have bO := bne_eq_false_iff_eq.mpr c17;clear c17
   by_cases c18 : aa < (ap.length : Int)
   rotate_left
   ·rw [if_neg c18] at H
    exact absurd H (by simp)
   rw [if_pos c18] at H;have cy := qqT c18;clear c18;obtain ⟨af, bc⟩ : ∃ j_ : Int, (wrap64 ((rd ap aa) - 1)) = j_ := ⟨_, rfl⟩
   replace H : (if 0 ≤ (af) then (if (af) < (ag.length : Int) then (if (rd_L5 ag (af)).length < 17592186044416 then (qha.l0 k1 ap (ag.set ((af) : Int).toNat ((rd_L5 ag (af)) ++ [aa])) ab (ab.length : Int) (wrap64 (aa + 1))) else (none)) else (none)) else (none)) = some r := by first | (rw [bc] at H; exact H) | (simp only [bc] at H ⊢; exact H)
   have cj : (IntKind.i64.wrap ((rd ap aa) - 1)) = af := (i64_w _).trans bc
   by_cases c20 : 0 ≤ (af)
   rotate_left
   ·rw [if_neg c20] at H
    exact absurd H (by simp)
   rw [if_pos c20] at H;have cz := qqT c20;clear c20
   by_cases c21 : (af) < (ag.length : Int)
   rotate_left
   ·rw [if_neg c21] at H
    exact absurd H (by simp)
   rw [if_pos c21] at H;have cA := qqT c21;clear c21
   by_cases c22 : (rd_L5 ag (af)).length < 17592186044416
   rotate_left
   ·rw [if_neg c22] at H
    exact absurd H (by simp)
   rw [if_pos c22] at H;have bR := Aside0.mk c22;clear c22;obtain ⟨bd, aJ⟩ : ∃ y_ : List Int, y_ = ((rd_L5 ag (af)) ++ [aa]) := ⟨_, rfl⟩
   replace H : (qha.l0 k1 ap (ag.set ((af) : Int).toNat bd) ab (ab.length : Int) (wrap64 (aa + 1))) = some r := by first | (rw [aJ]; with_reducible exact H) | (have H2_ := (Option.bind_some _ _).symm.trans H; rw [aJ]; with_reducible exact H2_) | (have H2_ := (Option.bind_some _ _).symm.trans H; with_reducible exact H2_) | with_reducible exact H | (rw [aJ]; exact H) | exact H
   have bS := Aside0.mk aJ;clear aJ;obtain ⟨bD, aK⟩ : ∃ y_ : List (List Int), y_ = (ag.set ((af) : Int).toNat bd) := ⟨_, rfl⟩
   replace H : (qha.l0 k1 ap bD ab (ab.length : Int) (wrap64 (aa + 1))) = some r := by first | (rw [aK]; with_reducible exact H) | (have H2_ := (Option.bind_some _ _).symm.trans H; rw [aK]; with_reducible exact H2_) | (have H2_ := (Option.bind_some _ _).symm.trans H; with_reducible exact H2_) | with_reducible exact H | (rw [aK]; exact H) | exact H
   have bT := Aside0.mk aK;clear aK;have H' := Aside0.mk H;clear H;have aM : 0 ≤ (aa : Int) := od;have aN : aa < (ab.length : Int) := od;obtain ⟨aX, bC, aj, ak, al, an⟩ := at_T61 aV.out aa aM aN;cases bC;replace aj := (HB.out.cell (qqW w _ aj)).trans aj;replace ak := (HB.out.cell (qqW w _ ak)).trans ak;replace al := (HB.out.cell (qqW w _ al)).trans al;replace an := (HB.out.cell (qqW w _ an)).trans an;replace aM := eq_true aM; replace aN := eq_true aN;go_wp2_with (first | ((with_reducible refine gate_dst (N := 7) rfl ?_); refine box_event ?hg (N := 7) ?hd (cs := #[.int .i64 0, .int .i64 0, .int .i64 0, .int .u64 0]) (t := 61) ?hr ?_; (case hd | hg => rfl); (case hr => go_simp; try rfl); intro ae hg w24 hbox hb; replace ao := kR ao hb; replace ai := kS ai hb; have ah := am hbox; have bP := kG HB hg; have bQ := kG HB hg; replace HB := kH HB hb; have av := kP ad hg; have aw := kQ ad hg; replace ad := kU ad hb; clear hb hbox hg; have cB := aw.out; have cC := av.out; have Z26 := kz4 ah) | ((with_reducible refine gate_store (t := 61) (p := 7) rfl ?_); refine store_event (t := 61) (p := 7) (v := ?vo_w27) (w1 := ((((w24.setCell ⟨ae, 0, none⟩ (.int .i64 ((rd_T61 ab aa).f0))).setCell ⟨ae, 1, none⟩ (.int .i64 ((rd_T61 ab aa).f1))).setCell ⟨ae, 2, none⟩ (.int .i64 ((rd_T61 ab aa).f2))).setCell ⟨ae, 3, none⟩ (.int .u64 ((rd_T61 ab aa).f3)))) ?hg ?ho ?hn ?hr ?_; (case ho => rfl); (case hg => rfl); (case hn => rfl); (case hr => go_simp; try rfl); intro w27 hw; replace ao : Aside0 (Kd.R (Kd.int .i64) 3 w27 w.heap.size (fun _ => True) bb ap) := ⟨(by rw [hw]; exact (by (with_reducible repeat first | apply Kd.R_alloc | apply Kd.R_drewN | apply Kd.R_drew); exact Kd.R_mono (Kd.R_far (p := ⟨ae, 3, none⟩) (Kd.R_far (p := ⟨ae, 2, none⟩) (Kd.R_far (p := ⟨ae, 1, none⟩) (Kd.R_far (p := ⟨ae, 0, none⟩) (Kd.R_types ao.out ah.out (by decide)) (fun _ hk => hk.2) (.int .i64 ((rd_T61 ab aa).f0))) (fun _ hk => hk.2) (.int .i64 ((rd_T61 ab aa).f1))) (fun _ hk => hk.2) (.int .i64 ((rd_T61 ab aa).f2))) (fun _ hk => hk.2) (.int .u64 ((rd_T61 ab aa).f3))) (fun _ hk => trivial)))⟩; replace ai : Aside0 (Kd.S (Kd.slice 3 (Kd.int .i64)) 27 w27 w.heap.size (fun k_ => some k_ ≠ (bb : Value).ownBlock) bB ag) := ⟨(by rw [hw]; exact (by (with_reducible repeat first | apply Kd.S_alloc | apply Kd.S_drewN | apply Kd.S_drew); exact Kd.S_mono (Kd.S_far (p := ⟨ae, 3, none⟩) (Kd.S_far (p := ⟨ae, 2, none⟩) (Kd.S_far (p := ⟨ae, 1, none⟩) (Kd.S_far (p := ⟨ae, 0, none⟩) (Kd.S_types ai.out ah.out (by decide)) (fun _ hk => hk.2) (.int .i64 ((rd_T61 ab aa).f0))) (fun _ hk => hk.2) (.int .i64 ((rd_T61 ab aa).f1))) (fun _ hk => hk.2) (.int .i64 ((rd_T61 ab aa).f2))) (fun _ hk => hk.2) (.int .u64 ((rd_T61 ab aa).f3))) (fun _ hk => hk.1)))⟩; replace ad : Aside0 (w27.heap[aW]? = some (.cells #[.slice aA aq.length aC, .slice (some aX) ab.length aD, .slice aE ar.length aG] 26 (0, 0))) := ⟨(by rw [hw]; exact (kg ad))⟩; replace ah : Aside0 (w27.heap[ae]? = some (.cells #[.int .i64 ((rd_T61 ab aa).f0), .int .i64 ((rd_T61 ab aa).f1), .int .i64 ((rd_T61 ab aa).f2), .int .u64 ((rd_T61 ab aa).f3)] 61 (0, 0))) := ⟨(by rw [hw]; exact (kg ah))⟩; replace HB : Aside0 (Below w.heap.size w w27) := ⟨(by rw [hw]; exact (kh HB))⟩; clear hw; have Z28 := kz4 ah));obtain ⟨w28, hw28⟩ : ∃ x : World, x = w27.drew := ⟨_, rfl⟩;replace ao : Aside0 (Kd.R (Kd.int .i64) 3 w28 w.heap.size (fun _ => True) bb ap) := ⟨by rw [hw28]; exact Kd.R_drew ao.out⟩; replace ai : Aside0 (Kd.S (Kd.slice 3 (Kd.int .i64)) 27 w28 w.heap.size (fun k_ => some k_ ≠ (bb : Value).ownBlock) bB ag) := ⟨by rw [hw28]; exact Kd.S_drew ai.out⟩; replace ad : Aside0 (w28.heap[aW]? = some (.cells #[.slice aA aq.length aC, .slice (some aX) ab.length aD, .slice aE ar.length aG] 26 (0, 0))) := ⟨by rw [hw28]; exact blk_drew ad.out⟩; replace ah : Aside0 (w28.heap[ae]? = some (.cells #[.int .i64 ((rd_T61 ab aa).f0), .int .i64 ((rd_T61 ab aa).f1), .int .i64 ((rd_T61 ab aa).f2), .int .u64 ((rd_T61 ab aa).f3)] 61 (0, 0))) := ⟨by rw [hw28]; exact blk_drew ah.out⟩; replace HB : Aside0 (Below w.heap.size w w28) := ⟨by rw [hw28]; exact below_drew1 HB.out⟩;obtain ⟨cF, bU, ck⟩ := Kd.R_slice ao.out;subst ck;have bE : 0 ≤ (aa : Int) := od;have bF : aa < (ap.length : Int) := od;obtain ⟨az, cl, bi⟩ := Kd.at_int (Kd.R_reads' ao.out).2.2 aa bE bF;cases cl;replace bE := eq_true bE; replace bF := eq_true bF;have bG : 0 ≤ (aa : Int) := od;have bH : aa < (ap.length : Int) := od;obtain ⟨bV, cm, cb⟩ := Kd.at_int (Kd.R_reads' ao.out).2.2 aa bG bH;obtain rfl : az = bV := (by injection cm);replace bG := eq_true bG; replace bH := eq_true bH;obtain ⟨cG, bW, cn⟩ := Kd.S_slice ai.out;subst cn;have bj : 0 ≤ ((af) : Int) := od;have bk : (af) < (ag.length : Int) := od;obtain ⟨cD, aQ, aT, co, aH, aY, hi867_0⟩ := at_L5 (Kd.S_reads' ai.out).2.2 (af) bj bk;cases co;obtain ⟨ce867, hce867, hMe867, hcc867⟩ := Kd.S_get ai.out [] (af) bj (by first | exact bk | exact od | (have e_ := (Kd.S_reads' ai.out).1; omega));obtain ⟨ve867_0, rfl, ge867_0⟩ := hMe867;have hv867_0 := hcc867 0 _ rfl;rw [Nat.add_zero, show ((Kd.slice 3 (Kd.int .i64))).sz = 1 from rfl, Nat.mul_one] at hv867_0;replace hv867_0 := qqI (hv867_0.symm.trans aH);rw [hv867_0] at ge867_0;have au := Aside0.mk (show Kd.R (Kd.int .i64) 3 _ _ _ _ (rd_L5 ag (af)) from ge867_0);clear hv867_0 ge867_0;have aZ := Aside0.mk aH;clear hcc867 hce867;have cc := Aside0.mk hi867_0;have cd := Aside0.mk aY;clear hi867_0 aY; replace bj := eq_true bj; replace bk := eq_true bk;obtain ⟨bf, cH, bX, bY, gl31, cl31, HG31⟩ := Kd.S_form ai.out (by have h_ : ((af) : Int) < ((ag.length : Int) : Int) := od; have h2_ : 0 ≤ ((af) : Int) := od; omega);(first | cases bX | (injection bX with ea_ en_ ec_; (first | subst ea_ | (injection ea_ with ea_; subst ea_)); subst ec_; clear en_));have cp := Aside0.mk bY;have cI := Aside0.mk HG31;clear bY gl31 HG31;(first | simp only [add_plain] at aH | skip);obtain ⟨bA, ce31, hcl31, hM31, hcc31, _, _, hH31⟩ := Kd.S_elem ai.out [] ((af) : Int) od (by have h_ : ((af) : Int) < ((ag.length : Int) : Int) := od; first | exact h_ | (have e_ := (Kd.S_reads' ai.out).1; omega) | simpa using h_);obtain ⟨ve31_0, rfl, ge31_0⟩ := hM31;have hv31 := hcc31 0 _ rfl;have hX31 := aZ.out;(try simp only [add_plain] at hX31);(try simp only [Nat.add_zero] at hv31);(try rw [show ((Kd.slice 3 (Kd.int .i64))).sz = 1 from rfl, Nat.mul_one] at hv31);replace hv31 := qqI (hv31.symm.trans hX31);subst hv31;clear hX31 hcc31 hcl31;have bI := Aside0.mk (show Kd.R (Kd.int .i64) 3 _ w.heap.size bA (.slice aQ (rd_L5 ag (af)).length aT) (rd_L5 ag (af)) from ge31_0);have HH31 := Aside0.mk hH31;have HN31 := Aside0.mk (Kd.S_reads' ai.out).1;clear hH31 ge31_0;refine start_ (n := 19) (S := fun w' => w'.cell? (az.add aa.toNat) = some (.int .i64 (rd ap aa)) ∧ w'.cell? ⟨bf, (af : Int).toNat, none⟩ = some (.slice aQ (rd_L5 ag af).length aT)) (ds := [17, 18]) (bs 19 0) (by kernel_rfl) rfl rfl (by rw [← hw28]; exact ⟨bi, by have h_ := aZ.out; (try simp only [add_plain] at h_); exact h_⟩) (fun hHeld => ?_);rw [← hw28] at hHeld ⊢;clear hw28;refine pure_ (i := 0) (N := (some 27)) (v := ?_) (a' := ?_) (bs 19 1) rfl rfl (by kernel_rfl) (fun _ _ _ h => h) (Or.inl ⟨by rfl, ?_⟩) ?_ ?_
   rotate_left; (intro w'; go_simp; with_reducible rfl); rotate_left; (simp only [Act.put, qS1, qS2, qS3, i64_w, i32_w]; rfl)
   refine pure_ (i := 1) (N := (some 28)) (v := ?_) (a' := ?_) (bs 19 3) rfl rfl (by kernel_rfl) (fun _ _ _ h => h) (Or.inl ⟨by rfl, ?_⟩) ?_ ?_
   rotate_left; (intro w'; go_simp; with_reducible rfl); rotate_left; (simp only [Act.put, qS1, qS2, qS3, i64_w, i32_w]; rfl)
   refine pure_ (i := 2) (N := (some 29)) (v := ?_) (a' := ?_) (bs 19 7) rfl rfl (by kernel_rfl) (fun _ _ _ h => h) (Or.inl ⟨by rfl, ?_⟩) ?_ ?_
   rotate_left; (intro w'; go_simp; with_reducible rfl); rotate_left; (simp only [Act.put, qS1, qS2, qS3, i64_w, i32_w]; rfl)
   refine pure_ (i := 6) (N := (some 33)) (v := ?_) (a' := ?_) (bs 19 71) rfl rfl (by kernel_rfl) (fun _ _ _ h => h) (Or.inl ⟨by rfl, ?_⟩) ?_ ?_
   rotate_left; (intro w'; go_simp; with_reducible rfl); rotate_left; (simp only [Act.put, qS1, qS2, qS3, i64_w, i32_w]; rfl)
   refine pure_ (i := 7) (N := (some 34)) (v := ?_) (a' := ?_) (bs 19 199) rfl rfl (by kernel_rfl) (fun _ _ _ h => h) (Or.inl ⟨by rfl, ?_⟩) ?_ ?_
   rotate_left; (intro w'; go_simp; with_reducible rfl); rotate_left; (simp only [Act.put, qS1, qS2, qS3, i64_w, i32_w]; rfl)
   refine pure_ (i := 8) (N := (some 35)) (v := ?_) (a' := ?_) (bs 19 455) rfl rfl (by kernel_rfl) (fun _ _ _ h => h) (Or.inl ⟨by rfl, ?_⟩) ?_ ?_
   rotate_left; (intro w'; go_simp; with_reducible rfl); rotate_left; (simp only [Act.put, qS1, qS2, qS3, i64_w, i32_w]; rfl)
   refine pure_ (i := 14) (N := (some 41)) (v := ?_) (a' := ?_) (bs 19 16839) rfl rfl (by kernel_rfl) (fun _ _ _ h => h) (Or.inl ⟨by rfl, ?_⟩) ?_ ?_
   rotate_left; (intro w'; go_simp; with_reducible rfl); rotate_left; (simp only [Act.put, qS1, qS2, qS3, i64_w, i32_w]; rfl)
   refine pure_ (i := 3) (N := (some 30)) (v := ?_) (a' := ?_) (bs 19 16847) rfl rfl (by kernel_rfl) (fun _ _ _ h => h) (Or.inl ⟨by rfl, ?_⟩) ?_ ?_
   rotate_left; (intro w'; go_simp; with_reducible rfl); rotate_left; (simp only [Act.put, qS1, qS2, qS3, i64_w, i32_w]; rfl)
   refine pure_ (i := 9) (N := (some 36)) (v := ?_) (a' := ?_) (bs 19 17359) rfl rfl (by kernel_rfl) (fun _ _ _ h => h) (Or.inl ⟨by rfl, ?_⟩) ?_ ?_
   rotate_left; (intro w'; go_simp; with_reducible rfl); rotate_left; (simp only [Act.put, qS1, qS2, qS3, i64_w, i32_w]; rfl)
   refine take_ (i := 4) (N := (some 31)) (v := ?_) (a' := ?_) (bs 19 17375) rfl rfl (by kernel_rfl) (fun _ _ _ h => h) (Or.inl ⟨by rfl, ?_⟩) hHeld ?_ ?_
   rotate_left; (rintro w' ⟨s0, s1⟩; go_simp; with_reducible rfl); rotate_left; (simp only [Act.put, qS1, qS2, qS3, i64_w, i32_w]; rfl)
   refine pure_ (i := 5) (N := (some 32)) (v := ?_) (a' := ?_) (bs 19 17407) rfl rfl (by kernel_rfl) (fun _ _ _ h => h) (Or.inl ⟨by rfl, ?_⟩) ?_ ?_
   rotate_left; (intro w'; go_simp; with_reducible rfl); rotate_left; (simp only [Act.put, qS1, qS2, qS3, i64_w, i32_w]; rfl)
   refine take_ (i := 10) (N := (some 37)) (v := ?_) (a' := ?_) (bs 19 18431) rfl rfl (by kernel_rfl) (fun _ _ _ h => h) (Or.inl ⟨by rfl, ?_⟩) hHeld ?_ ?_
   rotate_left; (rintro w' ⟨s0, s1⟩; go_simp; with_reducible rfl); rotate_left; (simp only [Act.put, qS1, qS2, qS3, i64_w, i32_w]; rfl)
   refine pure_ (i := 11) (N := (some 38)) (v := ?_) (a' := ?_) (bs 19 20479) rfl rfl (by kernel_rfl) (fun _ _ _ h => h) (Or.inl ⟨by rfl, ?_⟩) ?_ ?_
   rotate_left; (intro w'; go_simp; with_reducible rfl); rotate_left; (simp only [Act.put, qS1, qS2, qS3, i64_w, i32_w]; rfl)
   refine pure_ (i := 12) (N := (some 39)) (v := ?_) (a' := ?_) (bs 19 24575) rfl rfl (by kernel_rfl) (fun _ _ _ h => h) (Or.inl ⟨by rfl, ?_⟩) ?_ ?_
   rotate_left; (intro w'; go_simp; with_reducible rfl); rotate_left; (simp only [Act.put, qS1, qS2, qS3, i64_w, i32_w]; rfl)
   refine take_ (i := 13) (N := (some 40)) (v := ?_) (a' := ?_) (bs 19 32767) rfl rfl (by kernel_rfl) (fun _ _ _ h => h) (Or.inl ⟨by rfl, ?_⟩) hHeld ?_ ?_
   rotate_left; (rintro w' ⟨s0, s1⟩; go_simp; with_reducible rfl); rotate_left; (simp only [Act.put, qS1, qS2, qS3, i64_w, i32_w]; rfl)
   refine one_ (i := 15) (N := some 42) (bs 19 65535) rfl rfl (by kernel_rfl) (by decide) (fun K hK => ?_);refine event_step (w1 := w28.alloc (.cells #[.int .i64 aa] 3)) (v := .slice (some ⟨w28.heap.size, 0, none⟩) 1 1) (by rfl) ?hr15 ?_
   case hr15 => first | (go_simp; done) | (go_simp; rfl)
   have hb15 : Below w28.heap.size w28 (w28.alloc (.cells #[.int .i64 aa] 3)) := (Below.refl _ _).alloc (Nat.le_refl _) _;refine hK.out _ _ ⟨cellb_ hb15 hHeld.1, cellb_ hb15 hHeld.2⟩ (fun hHeld2 => ?_);clear hK K hb15;refine no (some 42) ?_;refine one_ (i := 16) (N := some 43) (bs 19 131071) rfl rfl (by kernel_rfl) (by decide) (fun K hK => ?_);refine Kd.R_append_step (Kd.int .i64) (w0 := w) w.heap.size (by rfl) (.tmp 40) (.tmp 42) 27 3 (.int .i64 0) 8 rfl Try.underlying27 info3 rfl (by decide) (by omega) (.slice aQ (rd_L5 ag (af)).length aT) (rd_L5 ag (af)) aa [.int .i64 aa] (fun k_ => bA k_ ∨ ((fun k_ => some k_ ≠ (.slice (some az) ap.length bU : Value).ownBlock)) k_ ∧ w28.heap.size ≤ k_) (fun _ => False) rfl rfl ?aP (fun _ hk => hk.elim) ?aF ?aO ?aB ?aS ?aL ?_;(case aP => exact rfl);(case aB => exact (kh HB));(case aF => exact (fun k_ hk => .inr ⟨Kd.fresh' (Kd.R_lt (krR ao)) k_ hk, hk⟩));(case aO => exact (by (with_reducible repeat first | apply Kd.R_alloc | apply Kd.R_drewN | apply Kd.R_drew); exact Kd.R_mono bI.out (fun _ hk => .inl hk)));(case aS => exact (below_size (kh HB)));(case aL => have := bR.out; omega);intro cJ w32 ho hb hg hat
   have hbk_ : (az.add aa.toNat).block = az.block := by unfold Addr.add; split <;> rfl
   have hcl_ := cell_grown hg hHeld.1 (fun e_ => (au.out.1 _ ((congrArg some hbk_).symm.trans e_).symm).1 rfl);clear hbk_;rw [← bS.out] at ho;replace ao := Aside0.mk (Kd.R_grown2 (krR ao) rfl hg (fun k_ e_ => (au.out.1 k_ e_).1)); replace ad := kXR ad au hg; replace ah := kXR ah au hg; replace HB := Aside0.mk (hb); replace HH31 := Aside0.mk (Kd.H_grown (Kd.H_widen (by repeat (first | exact HH31.out | refine Kd.H_alloc ?_ _ | refine Kd.H_drewN ?_ _ | refine Kd.H_drew ?_))) hg (fun k_ e_ => .inl (bI.out.1 k_ e_))); have bg := Aside0.mk (ho); clear au ai bI;clear ho hb hg hat;have p23 : 0 ≤ ((af) : Int) := od;have q23 : ((af) : Int) < ((ag.length : Int) : Int) := od;replace p23 := eq_true p23; replace q23 := eq_true q23;obtain ⟨bZ, ca, cq⟩ := Kd.R_slice bg.out;subst cq;obtain ⟨_, _, hraw33, _, _, hcc33, _⟩ := Kd.H_raw HH31.out od (by have h_ : ((af) : Int) < ((ag.length : Int) : Int) := od; first | exact h_ | (have e_ := (HN31.out); omega) | simpa using h_);obtain ⟨_, hfr33⟩ := Kd.H_at HH31.out od (by have h_ : ((af) : Int) < ((ag.length : Int) : Int) := od; first | exact h_ | (have e_ := (HN31.out); omega) | simpa using h_);have aU := hcc33 0 _ rfl;have bh := hfr33 0;(try simp only [Nat.add_zero] at aU bh);(try rw [show ((Kd.slice 3 (Kd.int .i64))).sz = 1 from rfl, Nat.mul_one] at aU);(try rw [show ((Kd.slice 3 (Kd.int .i64))).sz = 1 from rfl, Nat.mul_one] at bh);have bl := Kd.S_seg0 HH31.out od (by have h_ : ((af) : Int) < ((ag.length : Int) : Int) := od; first | exact h_ | (have e_ := (HN31.out); omega) | simpa using h_) (seg := [.slice bZ bd.length ca]) (j := 0) (show 1 ≤ 1 from by decide) (x' := bd) (Kd.M_row bg.out) (fun _ hk => hk);(try simp only [show ((Kd.slice 3 (Kd.int .i64))).sz = 1 from rfl, Nat.mul_one, Nat.add_zero] at bl);clear hcc33 hfr33;refine hK.out _ _ ⟨hcl_, aU⟩ (fun hHeld3 => ?_);clear hK K hcl_ hHeld2 hHeld3;refine no (some 43) ?_;refine qha.chainL [17, 18] 17 (by kernel_rfl) (by decide) (by kernel_rfl) ?_;simp only [List.toList_toArray, List.drop_succ_cons, List.drop_zero];clear hHeld;go_wp2_with (first | ((with_reducible refine gate_store (t := 27) (p := 44) rfl ?_); refine store_event (t := 27) (p := 44) (v := ?vo_w34) (w1 := (w32.setCell ⟨bf, ((af) : Int).toNat, none⟩ (.slice bZ bd.length ca))) ?hg ?ho ?hn ?hr ?_; (case ho => rfl); (case hg => rfl); (case hn => rfl); (case hr => go_simp; try rfl); intro w34 hw; have hg : w32.grownBy w34 (some bf) := (by rw [hw]; exact bl.2); have hp_ : Kd.S (Kd.slice 3 (Kd.int .i64)) 27 w34 w.heap.size (fun k_ => some k_ ≠ (.slice (some az) ap.length bU : Value).ownBlock) (.slice (some ⟨bf, 0, none⟩) ag.length bW) bD := (by rw [hw, bT.out]; exact bl.1); clear bl; replace ao := Aside0.mk (Kd.R_over' (v := (.slice (some ⟨bf, 0, none⟩) ag.length bW)) (krR ao) (Kd.R_typed hraw33) (by decide) hg); replace ad := Aside0.mk (blk_grown (g := aW) (o := .cells #[.slice aA aq.length aC, .slice (some aX) ab.length aD, .slice aE ar.length aG] 26 (0, 0)) (kb ad) hg (Kd.R_ne hraw33 ad.out (by decide))); replace ah := Aside0.mk (blk_grown (g := ae) (o := .cells #[.int .i64 ((rd_T61 ab aa).f0), .int .i64 ((rd_T61 ab aa).f1), .int .i64 ((rd_T61 ab aa).f2), .int .u64 ((rd_T61 ab aa).f3)] 61 (0, 0)) (kb ah) hg (Kd.R_ne hraw33 ah.out (by decide))); replace HB := Aside0.mk ((by rw [hw]; exact below_set HB.out cp.out : Below w.heap.size w w34)); have ai := Aside0.mk (hp_); clear HH31 bg; clear hg hw hp_ hraw33));go_roundg k1
   case measure => have := HK1.out; omega
   case rel => exact ⟨(bD), (wrap64 (aa + 1)), et, H', ⟨by have := HK1.out; omega⟩, ⟨krR ao⟩, ⟨krS ai⟩, ⟨kg ad⟩, ⟨kh HB⟩⟩
mutual
def qga.j0 : Nat → List (List Int) → List (List Int) → Bool → Option (Bool)
 | 0, _, _, _ => none
 | k + 1, x5, x8, x42 => if x42 = true then (some false) else (qga.l0 k x5 x8 (x5.length : Int) 0)
def qga.l0 : Nat → List (List Int) → List (List Int) → Int → Int → Option (Bool)
 | 0, _, _, _, _ => none
 | k + 1, x5, x8, x44, x45 => if x45 < x44 then (if 0 ≤ x45 then (if x45 < (x5.length : Int) then (if x45 < (x8.length : Int) then ((qia.f k (rd_L5 x5 x45) (rd_L5 x8 x45)).bind fun aa => (if aa = true then (qga.l0 k x5 x8 x44 (wrap64 (x45 + 1))) else (some false))) else (none)) else (none)) else (none)) else ((qra.f k).bind fun ab => (some ab))
end
def qga.f (k : Nat) (a0 : Int) (ab : List (S64)) (ad : List (S61)) (ae : List (S66)) : Option (Bool) := (tune_Rounds.f k a0 ab ad ae).bind fun aa => ((qda.f k a0 ab ad ae).bind fun ag => (if ag = 0 then ((qha.f k ab ad ae).bind fun af => (if aa.2 = 0 then (qga.j0 k aa.1 af ((aa.1.length : Int) != (af.length : Int))) else (qga.j0 k aa.1 af true))) else (if (aa.1.length : Int) = 0 then (if aa.2 = ag then ((qra.f k).bind fun ah => (some ah)) else (some false)) else (some false))))
theorem qga.j0_no {k y0 y1} {r : Bool} (hr : r = true) (h : qga.j0 k y0 y1 true = some r) : False := by subst hr; cases k <;> simp [qga.j0] at h
theorem qga.calls (k : Nat) (a0 : Int) (aw : Option Addr) (ax : Nat) (ae : List (S64)) (ay : Option Addr) (az : Nat) (af : List (S61)) (aA : Option Addr) (aC : Nat) (ag : List (S66)) (r : Bool) (w : World) (bh : Kd.C k64 w aw ae.length ae) (bi : ae.length ≤ ax) (bj : Kd.C k61 w ay af.length af) (bk : af.length ≤ az) (bl : Kd.C k66 w aA ag.length ag) (bm : ag.length ≤ aC) (h : qga.f k a0 ae af ag = some r) (hrt : r = true := by rfl) :
  Calls Try.prog 11 #[.int .u64 a0, .agg #[.slice aw ae.length ax, .slice ay af.length az, .slice aA ag.length aC]] w fun e w' => e = .returned (.bool r) ∧ Below w.heap.size w w' := by
 have HRT := Aside0.mk hrt;clear hrt;have hu26 := Try.underlying26;have ah := Aside0.mk bh;have ai := Aside0.mk bi;clear bh bi;have aj := Aside0.mk bj;have ak := Aside0.mk bk;clear bj bk;have al := Aside0.mk bl;have an := Aside0.mk bm;clear bl bm;have HB := Aside0.mk (Below.refl w.heap.size w);have H : ((tune_Rounds.f k a0 ae af ag).bind fun aD => ((qda.f k a0 ae af ag).bind fun au => (if au = 0 then ((qha.f k ae af ag).bind fun ap => (if aD.2 = 0 then (qga.j0 k aD.1 ap ((aD.1.length : Int) != (ap.length : Int))) else (qga.j0 k aD.1 ap true))) else (if (aD.1.length : Int) = 0 then (if aD.2 = au then ((qra.f k).bind fun aY => (some aY)) else (some false)) else (some false))))) = some r := h;clear h;replace H := qqB H;obtain ⟨⟨ao, aJ⟩, A30, H⟩ := H;(try dsimp only at H);have A3 := Aside0.mk A30;clear A30;replace H := qqB H;obtain ⟨au, A40, H⟩ := H;(try dsimp only at H);have A4 := Aside0.mk A40;clear A40
 by_cases c5 : au = 0
 rotate_left
 ·rw [if_neg c5] at H
  have bo := beq_eq_false_iff_ne.mpr c5;have bp := bne_iff_ne.mpr c5
  by_cases c29 : (ao.length : Int) = 0
  rotate_left
  ·rw [if_neg c29] at H
   have bq := beq_eq_false_iff_ne.mpr c29;have br := bne_iff_ne.mpr c29
   have bS : ¬ (ao = []) := fun h_ => c29 (by rw [h_]; rfl)
   exact absurd ((qqI H).trans HRT.out) (by decide)
  rw [if_pos c29] at H;have bq := beq_iff_eq.mpr c29;have br := bne_eq_false_iff_eq.mpr c29;clear c29
  by_cases c30 : aJ = au
  rotate_left
  ·rw [if_neg c30] at H
   have bt := beq_eq_false_iff_ne.mpr c30;have bu := bne_iff_ne.mpr c30;exact absurd ((qqI H).trans HRT.out) (by decide)
  rw [if_pos c30] at H;have bt := beq_iff_eq.mpr c30;have bu := bne_eq_false_iff_eq.mpr c30;clear c30;replace H := qqB H;obtain ⟨aY, bv, H⟩ := H;(try dsimp only at H);have A31 := Aside0.mk bv;clear bv;obtain rfl := qqI H;go_enter Try.func11, Try.ntmps11;go_wp2_with (first | ((with_reducible refine gate_dst (N := 3) rfl ?_); (try (refine gate_guard (by rfl) ?_; dsimp only)); refine box_event ?hg (N := 3) ?hd (cs := #[.slice aw ae.length ax, .slice ay af.length az, .slice aA ag.length aC]) (t := 26) ?hr ?_; (case hd | hg => rfl); (case hr => go_simp; try rfl); intro av hg w32 hbox hb; have aa := am hbox; have aK := kG HB hg; have aM := kG HB hg; replace HB := kH HB hb; clear hb hbox hg; have Z33 := kz3 aa) | (go_at_call 33; (with_reducible refine (tune_Rounds.calls k a0 _ _ ae _ _ af _ _ ag ao aJ _ ?side1 ?side2 ?side3 ?side4 ?side5 ?side6 A3.out).mono ?_); (case side1 => repeat (first | exact (Kd.C_below ah.out HB.out) | (with_reducible first | refine Kd.C_alloc ?_ _ | refine Kd.C_drewN ?_ _ | refine Kd.C_drew ?_))); (case side2 => exact ai.out); (case side3 => repeat (first | exact (Kd.C_below aj.out HB.out) | (with_reducible first | refine Kd.C_alloc ?_ _ | refine Kd.C_drewN ?_ _ | refine Kd.C_drew ?_))); (case side4 => exact ak.out); (case side5 => repeat (first | exact (Kd.C_below al.out HB.out) | (with_reducible first | refine Kd.C_alloc ?_ _ | refine Kd.C_drewN ?_ _ | refine Kd.C_drew ?_))); (case side6 => exact an.out); rintro e w34 ⟨aQ, rfl, ho0, hb⟩; have ab := kLS ho0 HB; replace aa := kU aa hb; replace HB := kH HB hb; (try clear hb); (try clear hb2); (try clear hk); (try clear hi); (try clear ho0); have Z35 := kz3 aa) | (go_at_call 17; (with_reducible refine (qda.calls k a0 _ _ ae _ _ af _ _ ag au _ ?side1 ?side2 ?side3 ?side4 ?side5 ?side6 A4.out).mono ?_); (case side1 => repeat (first | exact (Kd.C_below ah.out HB.out) | (with_reducible first | refine Kd.C_alloc ?_ _ | refine Kd.C_drewN ?_ _ | refine Kd.C_drew ?_))); (case side2 => exact ai.out); (case side3 => repeat (first | exact (Kd.C_below aj.out HB.out) | (with_reducible first | refine Kd.C_alloc ?_ _ | refine Kd.C_drewN ?_ _ | refine Kd.C_drew ?_))); (case side4 => exact ak.out); (case side5 => repeat (first | exact (Kd.C_below al.out HB.out) | (with_reducible first | refine Kd.C_alloc ?_ _ | refine Kd.C_drewN ?_ _ | refine Kd.C_drew ?_))); (case side6 => exact an.out); rintro e w36 ⟨rfl, hb⟩; replace ab := kS ab hb; replace aa := kU aa hb; replace HB := kH HB hb; (try clear hb); (try clear hb2); (try clear hk); (try clear hi); obtain ⟨bw, bx, aZ⟩ := Kd.S_slice ab.out; subst aZ) | (go_at_call 15; (with_reducible refine (qra.calls k  aY _ A31.out (by first | rfl | exact HRT.out)).mono ?_); rintro e w38 ⟨rfl, hb⟩; replace ab := kS ab hb; replace aa := kU aa hb; replace HB := kH HB hb; (try clear hb); (try clear hb2); (try clear hk); (try clear hi)))
  repeat (go_quiet (first | ((with_reducible refine gate_dst (N := 3) rfl ?_); (try (refine gate_guard (by rfl) ?_; dsimp only)); refine box_event ?hg (N := 3) ?hd (cs := #[.slice aw ae.length ax, .slice ay af.length az, .slice aA ag.length aC]) (t := 26) ?hr ?_; (case hd | hg => rfl); (case hr => go_simp; try rfl); intro av hg w32 hbox hb; have aa := am hbox; have aK := kG HB hg; have aM := kG HB hg; replace HB := kH HB hb; clear hb hbox hg; have Z33 := kz3 aa) | (go_at_call 33; (with_reducible refine (tune_Rounds.calls k a0 _ _ ae _ _ af _ _ ag ao aJ _ ?side1 ?side2 ?side3 ?side4 ?side5 ?side6 A3.out).mono ?_); (case side1 => repeat (first | exact (Kd.C_below ah.out HB.out) | (with_reducible first | refine Kd.C_alloc ?_ _ | refine Kd.C_drewN ?_ _ | refine Kd.C_drew ?_))); (case side2 => exact ai.out); (case side3 => repeat (first | exact (Kd.C_below aj.out HB.out) | (with_reducible first | refine Kd.C_alloc ?_ _ | refine Kd.C_drewN ?_ _ | refine Kd.C_drew ?_))); (case side4 => exact ak.out); (case side5 => repeat (first | exact (Kd.C_below al.out HB.out) | (with_reducible first | refine Kd.C_alloc ?_ _ | refine Kd.C_drewN ?_ _ | refine Kd.C_drew ?_))); (case side6 => exact an.out); rintro e w34 ⟨aQ, rfl, ho0, hb⟩; have ab := kLS ho0 HB; replace aa := kU aa hb; replace HB := kH HB hb; (try clear hb); (try clear hb2); (try clear hk); (try clear hi); (try clear ho0); have Z35 := kz3 aa) | (go_at_call 17; (with_reducible refine (qda.calls k a0 _ _ ae _ _ af _ _ ag au _ ?side1 ?side2 ?side3 ?side4 ?side5 ?side6 A4.out).mono ?_); (case side1 => repeat (first | exact (Kd.C_below ah.out HB.out) | (with_reducible first | refine Kd.C_alloc ?_ _ | refine Kd.C_drewN ?_ _ | refine Kd.C_drew ?_))); (case side2 => exact ai.out); (case side3 => repeat (first | exact (Kd.C_below aj.out HB.out) | (with_reducible first | refine Kd.C_alloc ?_ _ | refine Kd.C_drewN ?_ _ | refine Kd.C_drew ?_))); (case side4 => exact ak.out); (case side5 => repeat (first | exact (Kd.C_below al.out HB.out) | (with_reducible first | refine Kd.C_alloc ?_ _ | refine Kd.C_drewN ?_ _ | refine Kd.C_drew ?_))); (case side6 => exact an.out); rintro e w36 ⟨rfl, hb⟩; replace ab := kS ab hb; replace aa := kU aa hb; replace HB := kH HB hb; (try clear hb); (try clear hb2); (try clear hk); (try clear hi); obtain ⟨bw, bx, aZ⟩ := Kd.S_slice ab.out; subst aZ) | (go_at_call 15; (with_reducible refine (qra.calls k  aY _ A31.out (by first | rfl | exact HRT.out)).mono ?_); rintro e w38 ⟨rfl, hb⟩; replace ab := kS ab hb; replace aa := kU aa hb; replace HB := kH HB hb; (try clear hb); (try clear hb2); (try clear hk); (try clear hi))); try go_wp2_with (first | ((with_reducible refine gate_dst (N := 3) rfl ?_); (try (refine gate_guard (by rfl) ?_; dsimp only)); refine box_event ?hg (N := 3) ?hd (cs := #[.slice aw ae.length ax, .slice ay af.length az, .slice aA ag.length aC]) (t := 26) ?hr ?_; (case hd | hg => rfl); (case hr => go_simp; try rfl); intro av hg w32 hbox hb; have aa := am hbox; have aK := kG HB hg; have aM := kG HB hg; replace HB := kH HB hb; clear hb hbox hg; have Z33 := kz3 aa) | (go_at_call 33; (with_reducible refine (tune_Rounds.calls k a0 _ _ ae _ _ af _ _ ag ao aJ _ ?side1 ?side2 ?side3 ?side4 ?side5 ?side6 A3.out).mono ?_); (case side1 => repeat (first | exact (Kd.C_below ah.out HB.out) | (with_reducible first | refine Kd.C_alloc ?_ _ | refine Kd.C_drewN ?_ _ | refine Kd.C_drew ?_))); (case side2 => exact ai.out); (case side3 => repeat (first | exact (Kd.C_below aj.out HB.out) | (with_reducible first | refine Kd.C_alloc ?_ _ | refine Kd.C_drewN ?_ _ | refine Kd.C_drew ?_))); (case side4 => exact ak.out); (case side5 => repeat (first | exact (Kd.C_below al.out HB.out) | (with_reducible first | refine Kd.C_alloc ?_ _ | refine Kd.C_drewN ?_ _ | refine Kd.C_drew ?_))); (case side6 => exact an.out); rintro e w34 ⟨aQ, rfl, ho0, hb⟩; have ab := kLS ho0 HB; replace aa := kU aa hb; replace HB := kH HB hb; (try clear hb); (try clear hb2); (try clear hk); (try clear hi); (try clear ho0); have Z35 := kz3 aa) | (go_at_call 17; (with_reducible refine (qda.calls k a0 _ _ ae _ _ af _ _ ag au _ ?side1 ?side2 ?side3 ?side4 ?side5 ?side6 A4.out).mono ?_); (case side1 => repeat (first | exact (Kd.C_below ah.out HB.out) | (with_reducible first | refine Kd.C_alloc ?_ _ | refine Kd.C_drewN ?_ _ | refine Kd.C_drew ?_))); (case side2 => exact ai.out); (case side3 => repeat (first | exact (Kd.C_below aj.out HB.out) | (with_reducible first | refine Kd.C_alloc ?_ _ | refine Kd.C_drewN ?_ _ | refine Kd.C_drew ?_))); (case side4 => exact ak.out); (case side5 => repeat (first | exact (Kd.C_below al.out HB.out) | (with_reducible first | refine Kd.C_alloc ?_ _ | refine Kd.C_drewN ?_ _ | refine Kd.C_drew ?_))); (case side6 => exact an.out); rintro e w36 ⟨rfl, hb⟩; replace ab := kS ab hb; replace aa := kU aa hb; replace HB := kH HB hb; (try clear hb); (try clear hb2); (try clear hk); (try clear hi); obtain ⟨bw, bx, aZ⟩ := Kd.S_slice ab.out; subst aZ) | (go_at_call 15; (with_reducible refine (qra.calls k  aY _ A31.out (by first | rfl | exact HRT.out)).mono ?_); rintro e w38 ⟨rfl, hb⟩; replace ab := kS ab hb; replace aa := kU aa hb; replace HB := kH HB hb; (try clear hb); (try clear hb2); (try clear hk); (try clear hi))))
  go_ret;exact ⟨er, kh HB⟩
 rw [if_pos c5] at H;have bo := beq_iff_eq.mpr c5;have bp := bne_eq_false_iff_eq.mpr c5;clear c5;replace H := qqB H;obtain ⟨ap, A60, H⟩ := H;(try dsimp only at H);have A6 := Aside0.mk A60;clear A60;have HC7 := Aside0.mk H;clear H;go_enter Try.func11, Try.ntmps11;go_upto_region 6 with (first | ((with_reducible refine gate_dst (N := 3) rfl ?_); (try (refine gate_guard (by rfl) ?_; dsimp only)); refine box_event ?hg (N := 3) ?hd (cs := #[.slice aw ae.length ax, .slice ay af.length az, .slice aA ag.length aC]) (t := 26) ?hr ?_; (case hd | hg => rfl); (case hr => go_simp; try rfl); intro av hg w8 hbox hb; have aa := am hbox; have aK := kG HB hg; have aM := kG HB hg; replace HB := kH HB hb; clear hb hbox hg; have Z9 := kz3 aa) | (go_at_call 33; (with_reducible refine (tune_Rounds.calls k a0 _ _ ae _ _ af _ _ ag ao aJ _ ?side1 ?side2 ?side3 ?side4 ?side5 ?side6 A3.out).mono ?_); (case side1 => repeat (first | exact (Kd.C_below ah.out HB.out) | (with_reducible first | refine Kd.C_alloc ?_ _ | refine Kd.C_drewN ?_ _ | refine Kd.C_drew ?_))); (case side2 => exact ai.out); (case side3 => repeat (first | exact (Kd.C_below aj.out HB.out) | (with_reducible first | refine Kd.C_alloc ?_ _ | refine Kd.C_drewN ?_ _ | refine Kd.C_drew ?_))); (case side4 => exact ak.out); (case side5 => repeat (first | exact (Kd.C_below al.out HB.out) | (with_reducible first | refine Kd.C_alloc ?_ _ | refine Kd.C_drewN ?_ _ | refine Kd.C_drew ?_))); (case side6 => exact an.out); rintro e w10 ⟨aQ, rfl, ho0, hb⟩; have ab := kLS ho0 HB; replace aa := kU aa hb; replace HB := kH HB hb; (try clear hb); (try clear hb2); (try clear hk); (try clear hi); (try clear ho0); have Z11 := kz3 aa) | (go_at_call 17; (with_reducible refine (qda.calls k a0 _ _ ae _ _ af _ _ ag au _ ?side1 ?side2 ?side3 ?side4 ?side5 ?side6 A4.out).mono ?_); (case side1 => repeat (first | exact (Kd.C_below ah.out HB.out) | (with_reducible first | refine Kd.C_alloc ?_ _ | refine Kd.C_drewN ?_ _ | refine Kd.C_drew ?_))); (case side2 => exact ai.out); (case side3 => repeat (first | exact (Kd.C_below aj.out HB.out) | (with_reducible first | refine Kd.C_alloc ?_ _ | refine Kd.C_drewN ?_ _ | refine Kd.C_drew ?_))); (case side4 => exact ak.out); (case side5 => repeat (first | exact (Kd.C_below al.out HB.out) | (with_reducible first | refine Kd.C_alloc ?_ _ | refine Kd.C_drewN ?_ _ | refine Kd.C_drew ?_))); (case side6 => exact an.out); rintro e w12 ⟨rfl, hb⟩; replace ab := kS ab hb; replace aa := kU aa hb; replace HB := kH HB hb; (try clear hb); (try clear hb2); (try clear hk); (try clear hi); have Z13 := kz3 aa) | (go_at_call 34; (with_reducible refine (qha.calls k _ _ ae _ _ af _ _ ag ap _ ?side1 ?side2 ?side3 ?side4 ?side5 ?side6 A6.out).mono ?_); (case side1 => repeat (first | exact (Kd.C_below ah.out HB.out) | (with_reducible first | refine Kd.C_alloc ?_ _ | refine Kd.C_drewN ?_ _ | refine Kd.C_drew ?_))); (case side2 => exact ai.out); (case side3 => repeat (first | exact (Kd.C_below aj.out HB.out) | (with_reducible first | refine Kd.C_alloc ?_ _ | refine Kd.C_drewN ?_ _ | refine Kd.C_drew ?_))); (case side4 => exact ak.out); (case side5 => repeat (first | exact (Kd.C_below al.out HB.out) | (with_reducible first | refine Kd.C_alloc ?_ _ | refine Kd.C_drewN ?_ _ | refine Kd.C_drew ?_))); (case side6 => exact an.out); rintro e w14 ⟨aX, rfl, ho0, hb⟩; have aT := Aside0.mk (Kd.S_lower (Kd.S_new' (Kd.S_mono (ok' := fun k_ => True) ho0 (fun _ hk_ => trivial)) (Kd.S_lt (krS ab))) (below_size (kh HB))); replace ab := Aside0.mk (Kd.S_elder' (krS ab) (Kd.S_base ho0) hb); replace aa := kU aa hb; replace HB := kH HB hb; (try clear hb); (try clear hb2); (try clear hk); (try clear hi); (try clear ho0)))
 repeat (go_quiet (first | ((with_reducible refine gate_dst (N := 3) rfl ?_); (try (refine gate_guard (by rfl) ?_; dsimp only)); refine box_event ?hg (N := 3) ?hd (cs := #[.slice aw ae.length ax, .slice ay af.length az, .slice aA ag.length aC]) (t := 26) ?hr ?_; (case hd | hg => rfl); (case hr => go_simp; try rfl); intro av hg w8 hbox hb; have aa := am hbox; have aK := kG HB hg; have aM := kG HB hg; replace HB := kH HB hb; clear hb hbox hg; have Z9 := kz3 aa) | (go_at_call 33; (with_reducible refine (tune_Rounds.calls k a0 _ _ ae _ _ af _ _ ag ao aJ _ ?side1 ?side2 ?side3 ?side4 ?side5 ?side6 A3.out).mono ?_); (case side1 => repeat (first | exact (Kd.C_below ah.out HB.out) | (with_reducible first | refine Kd.C_alloc ?_ _ | refine Kd.C_drewN ?_ _ | refine Kd.C_drew ?_))); (case side2 => exact ai.out); (case side3 => repeat (first | exact (Kd.C_below aj.out HB.out) | (with_reducible first | refine Kd.C_alloc ?_ _ | refine Kd.C_drewN ?_ _ | refine Kd.C_drew ?_))); (case side4 => exact ak.out); (case side5 => repeat (first | exact (Kd.C_below al.out HB.out) | (with_reducible first | refine Kd.C_alloc ?_ _ | refine Kd.C_drewN ?_ _ | refine Kd.C_drew ?_))); (case side6 => exact an.out); rintro e w10 ⟨aQ, rfl, ho0, hb⟩; have ab := kLS ho0 HB; replace aa := kU aa hb; replace HB := kH HB hb; (try clear hb); (try clear hb2); (try clear hk); (try clear hi); (try clear ho0); have Z11 := kz3 aa) | (go_at_call 17; (with_reducible refine (qda.calls k a0 _ _ ae _ _ af _ _ ag au _ ?side1 ?side2 ?side3 ?side4 ?side5 ?side6 A4.out).mono ?_); (case side1 => repeat (first | exact (Kd.C_below ah.out HB.out) | (with_reducible first | refine Kd.C_alloc ?_ _ | refine Kd.C_drewN ?_ _ | refine Kd.C_drew ?_))); (case side2 => exact ai.out); (case side3 => repeat (first | exact (Kd.C_below aj.out HB.out) | (with_reducible first | refine Kd.C_alloc ?_ _ | refine Kd.C_drewN ?_ _ | refine Kd.C_drew ?_))); (case side4 => exact ak.out); (case side5 => repeat (first | exact (Kd.C_below al.out HB.out) | (with_reducible first | refine Kd.C_alloc ?_ _ | refine Kd.C_drewN ?_ _ | refine Kd.C_drew ?_))); (case side6 => exact an.out); rintro e w12 ⟨rfl, hb⟩; replace ab := kS ab hb; replace aa := kU aa hb; replace HB := kH HB hb; (try clear hb); (try clear hb2); (try clear hk); (try clear hi); have Z13 := kz3 aa) | (go_at_call 34; (with_reducible refine (qha.calls k _ _ ae _ _ af _ _ ag ap _ ?side1 ?side2 ?side3 ?side4 ?side5 ?side6 A6.out).mono ?_); (case side1 => repeat (first | exact (Kd.C_below ah.out HB.out) | (with_reducible first | refine Kd.C_alloc ?_ _ | refine Kd.C_drewN ?_ _ | refine Kd.C_drew ?_))); (case side2 => exact ai.out); (case side3 => repeat (first | exact (Kd.C_below aj.out HB.out) | (with_reducible first | refine Kd.C_alloc ?_ _ | refine Kd.C_drewN ?_ _ | refine Kd.C_drew ?_))); (case side4 => exact ak.out); (case side5 => repeat (first | exact (Kd.C_below al.out HB.out) | (with_reducible first | refine Kd.C_alloc ?_ _ | refine Kd.C_drewN ?_ _ | refine Kd.C_drew ?_))); (case side6 => exact an.out); rintro e w14 ⟨aX, rfl, ho0, hb⟩; have aT := Aside0.mk (Kd.S_lower (Kd.S_new' (Kd.S_mono (ok' := fun k_ => True) ho0 (fun _ hk_ => trivial)) (Kd.S_lt (krS ab))) (below_size (kh HB))); replace ab := Aside0.mk (Kd.S_elder' (krS ab) (Kd.S_base ho0) hb); replace aa := kU aa hb; replace HB := kH HB hb; (try clear hb); (try clear hb2); (try clear hk); (try clear hi); (try clear ho0))); go_upto_region 6 with (first | ((with_reducible refine gate_dst (N := 3) rfl ?_); (try (refine gate_guard (by rfl) ?_; dsimp only)); refine box_event ?hg (N := 3) ?hd (cs := #[.slice aw ae.length ax, .slice ay af.length az, .slice aA ag.length aC]) (t := 26) ?hr ?_; (case hd | hg => rfl); (case hr => go_simp; try rfl); intro av hg w8 hbox hb; have aa := am hbox; have aK := kG HB hg; have aM := kG HB hg; replace HB := kH HB hb; clear hb hbox hg; have Z9 := kz3 aa) | (go_at_call 33; (with_reducible refine (tune_Rounds.calls k a0 _ _ ae _ _ af _ _ ag ao aJ _ ?side1 ?side2 ?side3 ?side4 ?side5 ?side6 A3.out).mono ?_); (case side1 => repeat (first | exact (Kd.C_below ah.out HB.out) | (with_reducible first | refine Kd.C_alloc ?_ _ | refine Kd.C_drewN ?_ _ | refine Kd.C_drew ?_))); (case side2 => exact ai.out); (case side3 => repeat (first | exact (Kd.C_below aj.out HB.out) | (with_reducible first | refine Kd.C_alloc ?_ _ | refine Kd.C_drewN ?_ _ | refine Kd.C_drew ?_))); (case side4 => exact ak.out); (case side5 => repeat (first | exact (Kd.C_below al.out HB.out) | (with_reducible first | refine Kd.C_alloc ?_ _ | refine Kd.C_drewN ?_ _ | refine Kd.C_drew ?_))); (case side6 => exact an.out); rintro e w10 ⟨aQ, rfl, ho0, hb⟩; have ab := kLS ho0 HB; replace aa := kU aa hb; replace HB := kH HB hb; (try clear hb); (try clear hb2); (try clear hk); (try clear hi); (try clear ho0); have Z11 := kz3 aa) | (go_at_call 17; (with_reducible refine (qda.calls k a0 _ _ ae _ _ af _ _ ag au _ ?side1 ?side2 ?side3 ?side4 ?side5 ?side6 A4.out).mono ?_); (case side1 => repeat (first | exact (Kd.C_below ah.out HB.out) | (with_reducible first | refine Kd.C_alloc ?_ _ | refine Kd.C_drewN ?_ _ | refine Kd.C_drew ?_))); (case side2 => exact ai.out); (case side3 => repeat (first | exact (Kd.C_below aj.out HB.out) | (with_reducible first | refine Kd.C_alloc ?_ _ | refine Kd.C_drewN ?_ _ | refine Kd.C_drew ?_))); (case side4 => exact ak.out); (case side5 => repeat (first | exact (Kd.C_below al.out HB.out) | (with_reducible first | refine Kd.C_alloc ?_ _ | refine Kd.C_drewN ?_ _ | refine Kd.C_drew ?_))); (case side6 => exact an.out); rintro e w12 ⟨rfl, hb⟩; replace ab := kS ab hb; replace aa := kU aa hb; replace HB := kH HB hb; (try clear hb); (try clear hb2); (try clear hk); (try clear hi); have Z13 := kz3 aa) | (go_at_call 34; (with_reducible refine (qha.calls k _ _ ae _ _ af _ _ ag ap _ ?side1 ?side2 ?side3 ?side4 ?side5 ?side6 A6.out).mono ?_); (case side1 => repeat (first | exact (Kd.C_below ah.out HB.out) | (with_reducible first | refine Kd.C_alloc ?_ _ | refine Kd.C_drewN ?_ _ | refine Kd.C_drew ?_))); (case side2 => exact ai.out); (case side3 => repeat (first | exact (Kd.C_below aj.out HB.out) | (with_reducible first | refine Kd.C_alloc ?_ _ | refine Kd.C_drewN ?_ _ | refine Kd.C_drew ?_))); (case side4 => exact ak.out); (case side5 => repeat (first | exact (Kd.C_below al.out HB.out) | (with_reducible first | refine Kd.C_alloc ?_ _ | refine Kd.C_drewN ?_ _ | refine Kd.C_drew ?_))); (case side6 => exact an.out); rintro e w14 ⟨aX, rfl, ho0, hb⟩; have aT := Aside0.mk (Kd.S_lower (Kd.S_new' (Kd.S_mono (ok' := fun k_ => True) ho0 (fun _ hk_ => trivial)) (Kd.S_lt (krS ab))) (below_size (kh HB))); replace ab := Aside0.mk (Kd.S_elder' (krS ab) (Kd.S_base ho0) hb); replace aa := kU aa hb; replace HB := kH HB hb; (try clear hb); (try clear hb2); (try clear hk); (try clear hi); (try clear ho0))))
 (try simp only [Act.put, qS1, qS2, qS3]);go_cut [42] (fun v42 wc => ∃ (kq : Nat) (aU : Bool), v42 = .bool aU ∧ Aside0 (qga.j0 kq ao ap aU = some r) ∧ Aside0 (kq ≤ k) ∧ Aside0 (Kd.S (Kd.slice 3 (Kd.int .i64)) 27 wc w.heap.size (fun k_ => some k_ ≠ (aX : Value).ownBlock) aQ ao) ∧ Aside0 (Kd.S (Kd.slice 3 (Kd.int .i64)) 27 wc w.heap.size (fun k_ => some k_ ≠ (aQ : Value).ownBlock) aX ap) ∧ Aside0 (wc.heap[av]? = some (.cells #[(.slice aw ae.length ax), (.slice ay af.length az), (.slice aA ag.length aC)] 26 (0, 0))) ∧ Aside0 (Below w.heap.size w wc))
 case first =>
  have H := HC7.out;clear HC7
  by_cases c15 : aJ = 0
  rotate_left
  ·rw [if_neg c15] at H
   have aN := beq_eq_false_iff_ne.mpr c15;have bz := bne_iff_ne.mpr c15;(first | rw [aN] | (simp only [i64_w, i32_w]; rw [aN]) | skip);exact (qga.j0_no HRT.out H).elim
  rw [if_pos c15] at H;have aN := beq_iff_eq.mpr c15;have bz := bne_eq_false_iff_eq.mpr c15;clear c15;(first | rw [aN] | (simp only [i64_w, i32_w]; rw [aN]) | skip);have H' := Aside0.mk H;clear H;obtain ⟨bY, bZ, bH⟩ := Kd.S_slice ab.out;subst bH;obtain ⟨ca, cb, bI⟩ := Kd.S_slice aT.out;subst bI;go_wp2
  repeat (go_quiet (fail); try go_wp2)
  go_meet
  case rel => exact ⟨_, (((ao.length : Int) != (ap.length : Int))), et, H', ⟨by first | omega | exact Nat.le_refl _⟩, ⟨by (with_reducible repeat first | apply Kd.S_alloc | apply Kd.S_drewN | apply Kd.S_drew); exact Kd.S_mono ab.out (fun _ hk => hk.2)⟩, ⟨by (with_reducible repeat first | apply Kd.S_alloc | apply Kd.S_drewN | apply Kd.S_drew); exact Kd.S_mono aT.out (fun _ hk => hk.2)⟩, ⟨kg aa⟩, ⟨kh HB⟩⟩
 clear HC7;(try clear bo bp Z11 Z13 Z9);obtain ⟨kq, aU, rfl, HA, HJ6, aq, ar, aa, HB⟩ := hcut
 cases kq with
 | zero => exact absurd HA.out (by simp [qga.j0])
 | succ kj6 =>
  have H := HA.out;clear HA;simp only [qga.j0] at H
  by_cases c18 : aU = true
  ·subst c18
   replace H := ifT H;exact absurd ((qqI H).trans HRT.out) (by decide)
  replace c18 := Bool.eq_false_iff.mpr c18;subst c18;replace H := ifF H;have H' := Aside0.mk H;clear H;obtain ⟨bA, bB, bJ⟩ := Kd.S_slice aq.out;subst bJ;go_wp2
  repeat (go_quiet (fail); try go_wp2)
  go_loopg [45] kj6 (fun kq v45 w' => ∃ (ad : Int), v45 = .int .i64 ad ∧ Aside0 (qga.l0 kq ao ap (ao.length : Int) ad = some r) ∧ Aside0 (kq ≤ kj6) ∧ Aside0 (Kd.S (Kd.slice 3 (Kd.int .i64)) 27 w' w.heap.size (fun k_ => some k_ ≠ (aX : Value).ownBlock) (.slice bA ao.length bB) ao) ∧ Aside0 (Kd.S (Kd.slice 3 (Kd.int .i64)) 27 w' w.heap.size (fun k_ => some k_ ≠ ((.slice bA ao.length bB) : Value).ownBlock) aX ap) ∧ Aside0 (w'.heap[av]? = some (.cells #[(.slice aw ae.length ax), (.slice ay af.length az), (.slice aA ag.length aC)] 26 (0, 0))) ∧ Aside0 (Below w.heap.size w w'))
  case atStart => exact ⟨(0), et, H', ⟨Nat.le_refl _⟩, ⟨krS aq⟩, ⟨krS ar⟩, ⟨kg aa⟩, ⟨kh HB⟩⟩
  case round =>
   clear H'; (try clear c18);obtain ⟨ad, rfl, HA, HK2, aq, ar, aa, HB⟩ := hrel
   cases gk with
   | zero => exact absurd HA.out (by simp [qga.l0])
   | succ k2 =>
    have H := HA.out;clear HA;simp only [qga.l0] at H
    by_cases c20 : ad < (ao.length : Int)
    rotate_left
    ·rw [if_neg c20] at H
     have bC := qqF c20;clear c20;replace H := qqB H;obtain ⟨bn, bD, H⟩ := H;(try dsimp only at H);have A27 := Aside0.mk bD;clear bD;obtain rfl := qqI H;go_wp2_with (first | (go_at_call 15; (with_reducible refine (qra.calls k2  bn _ A27.out (by first | rfl | exact HRT.out)).mono ?_); rintro e w28 ⟨rfl, hb⟩; replace aq := kS aq hb; replace ar := kS ar hb; replace aa := kU aa hb; replace HB := kH HB hb; (try clear hb); (try clear hb2); (try clear hk); (try clear hi)))
     repeat (go_quiet (first | (go_at_call 15; (with_reducible refine (qra.calls k2  bn _ A27.out (by first | rfl | exact HRT.out)).mono ?_); rintro e w28 ⟨rfl, hb⟩; replace aq := kS aq hb; replace ar := kS ar hb; replace aa := kU aa hb; replace HB := kH HB hb; (try clear hb); (try clear hb2); (try clear hk); (try clear hi))); try go_wp2_with (first | (go_at_call 15; (with_reducible refine (qra.calls k2  bn _ A27.out (by first | rfl | exact HRT.out)).mono ?_); rintro e w28 ⟨rfl, hb⟩; replace aq := kS aq hb; replace ar := kS ar hb; replace aa := kU aa hb; replace HB := kH HB hb; (try clear hb); (try clear hb2); (try clear hk); (try clear hi))))
     go_ret;exact ⟨er, kh HB⟩
    rw [if_pos c20] at H;have bC := qqT c20;clear c20
    by_cases c21 : 0 ≤ ad
    rotate_left
    ·rw [if_neg c21] at H
     exact absurd H (by simp)
    rw [if_pos c21] at H;have bT := qqT c21;clear c21
    by_cases c22 : ad < (ao.length : Int)
    rotate_left
    ·rw [if_neg c22] at H
     exact absurd H (by simp)
    rw [if_pos c22] at H;have bU := qqT c22;clear c22
    by_cases c23 : ad < (ap.length : Int)
    rotate_left
    ·rw [if_neg c23] at H
     exact absurd H (by simp)
    rw [if_pos c23] at H;have bV := qqT c23;clear c23;replace H := qqB H;obtain ⟨bK, bE, H⟩ := H;(try dsimp only at H);have A24 := Aside0.mk bE;clear bE
    by_cases c25 : bK = true
    rotate_left
    ·replace c25 := Bool.eq_false_iff.mpr c25
     subst c25;replace H := ifF H;exact absurd ((qqI H).trans HRT.out) (by decide)
    subst c25;replace H := ifT H;have H' := Aside0.mk H;clear H;have ba : 0 ≤ (ad : Int) := od;have bb : ad < (ao.length : Int) := od;obtain ⟨bW, bL, bM, bN, bc, aV, hi864_0⟩ := at_L5 (Kd.S_reads' aq.out).2.2 ad ba bb;cases bN;obtain ⟨ce864, hce864, hMe864, hcc864⟩ := Kd.S_get aq.out [] ad ba (by first | exact bb | exact od | (have e_ := (Kd.S_reads' aq.out).1; omega));obtain ⟨ve864_0, rfl, ge864_0⟩ := hMe864;have hv864_0 := hcc864 0 _ rfl;rw [Nat.add_zero, show ((Kd.slice 3 (Kd.int .i64))).sz = 1 from rfl, Nat.mul_one] at hv864_0;replace hv864_0 := qqI (hv864_0.symm.trans bc);rw [hv864_0] at ge864_0;have bF := Aside0.mk (show Kd.R (Kd.int .i64) 3 _ _ _ _ (rd_L5 ao ad) from ge864_0);clear hv864_0 ge864_0 hcc864 hce864;have aE := Aside0.mk hi864_0;have aG := Aside0.mk aV;clear hi864_0 aV; replace ba := eq_true ba; replace bb := eq_true bb;obtain ⟨cc, cd, bO⟩ := Kd.S_slice ar.out;subst bO;have bd : 0 ≤ (ad : Int) := od;have bf : ad < (ap.length : Int) := od;obtain ⟨bX, bP, bQ, bR, bg, aW, hi865_0⟩ := at_L5 (Kd.S_reads' ar.out).2.2 ad bd bf;cases bR;obtain ⟨ce865, hce865, hMe865, hcc865⟩ := Kd.S_get ar.out [] ad bd (by first | exact bf | exact od | (have e_ := (Kd.S_reads' ar.out).1; omega));obtain ⟨ve865_0, rfl, ge865_0⟩ := hMe865;have hv865_0 := hcc865 0 _ rfl;rw [Nat.add_zero, show ((Kd.slice 3 (Kd.int .i64))).sz = 1 from rfl, Nat.mul_one] at hv865_0;replace hv865_0 := qqI (hv865_0.symm.trans bg);rw [hv865_0] at ge865_0;have bG := Aside0.mk (show Kd.R (Kd.int .i64) 3 _ _ _ _ (rd_L5 ap ad) from ge865_0);clear hv865_0 ge865_0 hcc865 hce865;have aH := Aside0.mk hi865_0;have aI := Aside0.mk aW;clear hi865_0 aW; replace bd := eq_true bd; replace bf := eq_true bf;go_wp2_with (first | (go_at_call 13; (with_reducible refine (qia.calls k2 _ _ (rd_L5 ao ad) _ _ (rd_L5 ap ad) true _ ?side1 ?side2 ?side3 ?side4 A24.out).mono ?_); (case side1 => repeat (first | exact (kc aE) | (with_reducible first | refine Kd.C_alloc ?_ _ | refine Kd.C_drewN ?_ _ | refine Kd.C_drew ?_))); (case side2 => exact aG.out); (case side3 => repeat (first | exact (kc aH) | (with_reducible first | refine Kd.C_alloc ?_ _ | refine Kd.C_drewN ?_ _ | refine Kd.C_drew ?_))); (case side4 => exact aI.out); rintro e w' ⟨rfl, ⟨nd, rfl⟩⟩; (try first | exact ⟨rfl, _, World.drewN_drewN _ _ _⟩ | exact ⟨rfl, _, Eq.trans (World.drewN_drewN _ _ _) (congrArg (World.drewN _) (Nat.add_assoc _ _ _))⟩)))
    repeat (go_quiet (first | (go_at_call 13; (with_reducible refine (qia.calls k2 _ _ (rd_L5 ao ad) _ _ (rd_L5 ap ad) true _ ?side1 ?side2 ?side3 ?side4 A24.out).mono ?_); (case side1 => repeat (first | exact (kc aE) | (with_reducible first | refine Kd.C_alloc ?_ _ | refine Kd.C_drewN ?_ _ | refine Kd.C_drew ?_))); (case side2 => exact aG.out); (case side3 => repeat (first | exact (kc aH) | (with_reducible first | refine Kd.C_alloc ?_ _ | refine Kd.C_drewN ?_ _ | refine Kd.C_drew ?_))); (case side4 => exact aI.out); rintro e w' ⟨rfl, ⟨nd, rfl⟩⟩; (try first | exact ⟨rfl, _, World.drewN_drewN _ _ _⟩ | exact ⟨rfl, _, Eq.trans (World.drewN_drewN _ _ _) (congrArg (World.drewN _) (Nat.add_assoc _ _ _))⟩))); try go_wp2_with (first | (go_at_call 13; (with_reducible refine (qia.calls k2 _ _ (rd_L5 ao ad) _ _ (rd_L5 ap ad) true _ ?side1 ?side2 ?side3 ?side4 A24.out).mono ?_); (case side1 => repeat (first | exact (kc aE) | (with_reducible first | refine Kd.C_alloc ?_ _ | refine Kd.C_drewN ?_ _ | refine Kd.C_drew ?_))); (case side2 => exact aG.out); (case side3 => repeat (first | exact (kc aH) | (with_reducible first | refine Kd.C_alloc ?_ _ | refine Kd.C_drewN ?_ _ | refine Kd.C_drew ?_))); (case side4 => exact aI.out); rintro e w' ⟨rfl, ⟨nd, rfl⟩⟩; (try first | exact ⟨rfl, _, World.drewN_drewN _ _ _⟩ | exact ⟨rfl, _, Eq.trans (World.drewN_drewN _ _ _) (congrArg (World.drewN _) (Nat.add_assoc _ _ _))⟩))))
    go_roundg k2
    case measure => have := HJ6.out; have := HK2.out; omega
    case rel => exact ⟨(wrap64 (ad + 1)), et, H', ⟨by have := HJ6.out; have := HK2.out; omega⟩, ⟨krS aq⟩, ⟨krS ar⟩, ⟨kg aa⟩, ⟨kh HB⟩⟩
end Go.Proofs.Ytmlbliggbkfjnaa.J
/- What comes in laid out as a type says is a value of a kind, within the bounds that its weights leave: once for every type. -/
namespace Go.Proofs.Ytmlbliggbkfjnaa.Op
open Go.RowKit Go.Proofs.YtmlbliggbkfjnaaW.PrintWords Go.Proofs.YtmlbliggbkfjnaaW.PrintLast Go.Proofs.YtmlbliggbkfjnaaW.PrintMore
def Opens {α : Type} (P : Program) (d : Kd α) (t : TypeId) (wf : α → Prop) : Prop :=
  ∀ (H : Type) (enc : TypeId × Value → H) (w : World) (base fuel : Nat) (spare : Nat → Bool) (held : Bool) (cs : List Value) (x : DataW H × List MemPlace), cs.length = d.sz →
    DataW.trod enc P w base spare held fuel t cs = some x → (x.1.weights P t).all (· ≤ reachBytes) = true → ∃ a, d.K w a cs ∧ wf a
theorem op_int {P : Program} {t : TypeId} {k : IntKind} (ht : P.underlying t = some (.int k)) : Opens P (Kd.int k) t (fun n => (Lit.int k n).wf = true) := by
  intro H enc w base fuel spare held cs x _ h _;obtain ⟨n, rfl, _, hw⟩ := DataW.trod_int ht h;exact ⟨n, rfl, hw⟩
theorem op_bool {P : Program} {t : TypeId} (ht : P.underlying t = some .bool) : Opens P Kd.bool t (fun _ => True) := by
  intro H enc w base fuel spare held cs x _ h _;obtain ⟨n, rfl, _⟩ := DataW.trod_bool ht h;exact ⟨n, rfl, trivial⟩
theorem all_weights {H : Type} {P : Program} {e : TypeId} {p : Nat → Bool} : ∀ (ds : List (DataW H)), (DataW.weightsAll P e ds).all p = true → ∀ d ∈ ds, (d.weights P e).all p = true
  | [], _, d, hd => by simp at hd
  | a :: r, h, d, hd => by
    unfold DataW.weightsAll at h;rw [List.all_append, Bool.and_eq_true] at h
    rcases List.mem_cons.1 hd with rfl | hd
    · exact h.1
    · exact all_weights r h.2 d hd
theorem add_add_ (a : Addr) (i j : Nat) : a.add (i + j) = (a.add i).add j := by
  cases a
  unfold Addr.add
  rcases Nat.eq_zero_or_pos i with hi | hi <;> rcases Nat.eq_zero_or_pos j with hj | hj
  · simp [hi, hj]
  · simp [hi, show j ≠ 0 by omega]
  · simp [hj, show i ≠ 0 by omega]
  · simp [show i ≠ 0 by omega, show j ≠ 0 by omega, Nat.add_assoc]
theorem pick {β : Type} {p : Nat → β → Prop} : ∀ n, (∀ i : Nat, i < n → ∃ q, p i q) → ∃ l : List β, l.length = n ∧ ∀ (i : Nat) (q : β), l[i]? = some q → p i q
  | 0, _ => ⟨[], rfl, fun i q h => by simp at h⟩
  | n + 1, h => by
    obtain ⟨l, hl, hp⟩ := pick n (fun i hi => h i (by omega));obtain ⟨q, hq⟩ := h n (by omega);refine ⟨l ++ [q], by simp [hl], fun i r hr => ?_⟩
    rcases Nat.lt_or_ge i l.length with hi | hi
    · rw [List.getElem?_append_left hi] at hr
      exact hp i r hr
    · rw [List.getElem?_append_right hi] at hr
      have h0 : i - l.length = 0 := by
        rcases Nat.eq_zero_or_pos (i - l.length) with h' | h'
        · exact h'
        · rw [List.getElem?_eq_none (by simp; omega)] at hr; cases hr
      rw [h0] at hr
      obtain rfl : q = r := by simpa using hr
      have : i = n := by omega
      rw [this]; exact hq
theorem weights_at {H : Type} {P : Program} {p : Nat → Bool} : ∀ (ts : List TypeId) (ds : List (DataW H)) (j : Nat) {t : TypeId} {d : DataW H}, (DataW.weightsEach P ts ds).all p = true → ts[j]? = some t → ds[j]? = some d → (d.weights P t).all p = true
  | [], _, _, _, _, _, ht, _ => by simp at ht
  | _ :: _, [], _, _, _, _, _, hd => by simp at hd
  | t :: ts, d :: ds, j, t', d', h, ht, hd => by
    unfold DataW.weightsEach at h;rw [List.all_append, Bool.and_eq_true] at h
    match j, ht, hd with
    | 0, ht, hd =>
      obtain rfl : t = t' := by simpa using ht
      obtain rfl : d = d' := by simpa using hd
      exact h.1
    | j + 1, ht, hd => exact weights_at ts ds j h.2 (by simpa using ht) (by simpa using hd)
theorem op_slice {α : Type} {P : Program} {d : Kd α} {t e : TypeId} {B : Nat} {wf : α → Prop} (ht : P.underlying t = some (.slice e)) (hB : P.bytesOf e = B) (hsz : P.cellsOf e = d.sz) (he : Opens P d e wf) :
    Opens P (Kd.slice e d) t (fun l => l.length ≤ maxLen ∧ l.length * B ≤ 140737488351232 ∧ ∀ a ∈ l, wf a) := by
  intro H enc w base fuel spare held cs x _ h hw
  rcases Go.Deep.open_slice ht h with ⟨rfl, _⟩ | ⟨a, len, cap, m, n, D, Pl, rfl, hb, hl, hm, hmm, rfl, hx⟩
  · exact ⟨[], ⟨none, 0, rfl, Nat.le_refl _, rfl, Nat.zero_le _, fun h0 => absurd h0 (by simp)⟩, by simp, by simp, fun a ha => by simp at ha⟩
  · have hlm : len ≤ m := by rw [hmm]; split <;> omega
    simp only [DataW.weights, ht, List.all_cons, List.all_append, Bool.and_eq_true, List.length_map, List.length_range] at hw;obtain ⟨hw0, hw1, _⟩ := hw
    have each : ∀ i : Nat, i < len → ∃ q : α, wf q ∧ ∃ c : List Value, c.length = d.sz ∧ d.K w q c ∧ ∀ j u, c[j]? = some u → w.cell? (a.add (i * d.sz + j)) = some u := by
      intro i hi;obtain ⟨cs', h1, h2⟩ := hx i (by omega);rw [hsz] at h1;obtain ⟨_, hlen, hcell⟩ := World.cells?_some h1;obtain ⟨y, hK, hwf⟩ := he H enc w base n spare held cs' _ hlen h2 (all_weights _ hw1 _ (List.mem_map.2 ⟨i, List.mem_range.2 hi, rfl⟩));refine ⟨y, hwf, cs', hlen, hK, fun j u hu => ?_⟩
      have hj : j < d.sz := by
        rw [← hlen]
        rcases Nat.lt_or_ge j cs'.length with h' | h'
        · exact h'
        · rw [List.getElem?_eq_none h'] at hu; cases hu
      have := hcell j hj;rw [hu] at this;rw [show a.add (i * d.sz + j) = (a.add (i * d.sz)).add j from add_add_ _ _ _];exact this
    obtain ⟨l, rfl, hl2⟩ := pick len each;refine ⟨l, ⟨some a, cap, rfl, hl, rfl, Nat.le_trans hl hm, fun _ => ⟨a, rfl, fun j p hj => (hl2 j p hj).2⟩⟩, Nat.le_trans hl hm, ?_, ?_⟩
    · have hw2 := of_decide_eq_true hw0
      rw [hB] at hw2;exact Nat.le_trans (Nat.mul_le_mul_right _ (by omega)) hw2
    · intro y hy
      obtain ⟨j, hj⟩ := List.mem_iff_getElem?.1 hy;exact (hl2 j y hj).1
def OpL {β : Type} (P : Program) (d : Kd β) (fs : List Field) (o : Nat) (wf : β → Prop) : Prop :=
  ∀ (H : Type) (enc : TypeId × Value → H) (w : World) (base n : Nat) (spare : Nat → Bool) (held : Bool) (cs : List Value) (xs : List (DataW H × List MemPlace)), cs.length = d.sz → xs.length = fs.length →
    (∀ (i : Nat) (f : Field), fs[i]? = some f → DataW.trod enc P w base spare held n f.type ((cs.drop (f.offset - o)).take (P.cellsOf f.type)) = xs[i]?) →
    (DataW.weightsEach P (fs.map (·.type)) (xs.map (·.1))).all (· ≤ reachBytes) = true → ∃ a, d.K w a cs ∧ wf a
theorem opL_one {β : Type} {P : Program} {d : Kd β} {f : Field} {o : Nat} {wf : β → Prop} (ho : f.offset = o) (hc : P.cellsOf f.type = d.sz) (h : Opens P d f.type wf) : OpL P d [f] o wf := by
  intro H enc w base n spare held cs xs hl hx hf hw
  match xs, hx with
  | [y], _ =>
    have h0 := hf 0 f rfl;rw [ho, Nat.sub_self, List.drop_zero, hc, ← hl, List.take_length] at h0;simp only [List.map_cons, List.map_nil, DataW.weightsEach, List.append_nil] at hw;exact h H enc w base n spare held cs y hl h0 hw
theorem opL_cons {α β : Type} {P : Program} {d1 : Kd α} {d : Kd β} {f : Field} {fs : List Field} {o : Nat} {wf1 : α → Prop} {wf : β → Prop} (ho : f.offset = o) (hc : P.cellsOf f.type = d1.sz) (h1 : Opens P d1 f.type wf1)
    (aa : (fs.all fun g => decide (o + d1.sz ≤ g.offset)) = true) (h : OpL P d fs (o + d1.sz) wf) : OpL P (Kd.pair d1 d) (f :: fs) o (fun x => wf1 x.1 ∧ wf x.2) := by
  have hfs : ∀ g ∈ fs, o + d1.sz ≤ g.offset := fun g hg => of_decide_eq_true (List.all_eq_true.1 aa g hg)
  intro H enc w base n spare held cs xs hl hx hf hw;have hl' : cs.length = d1.sz + d.sz := hl
  match xs, hx with
  | y :: ys, hx =>
    have h0 := hf 0 f rfl;rw [ho, Nat.sub_self, List.drop_zero, hc] at h0;simp only [List.map_cons, DataW.weightsEach, List.all_append, Bool.and_eq_true] at hw;obtain ⟨a, ka, wa⟩ := h1 H enc w base n spare held (cs.take d1.sz) y (by rw [List.length_take]; omega) h0 hw.1
    obtain ⟨b, kb, wb⟩ := h H enc w base n spare held (cs.drop d1.sz) ys (by rw [List.length_drop]; omega) (by simpa using hx) (fun i g hg => by
      have := hf (i + 1) g (by simpa using hg);rw [List.drop_drop];have hg2 := hfs g (List.mem_of_getElem? hg);rw [show d1.sz + (g.offset - (o + d1.sz)) = g.offset - o by omega, this]
      simp) hw.2
    exact ⟨(a, b), ⟨cs.take d1.sz, cs.drop d1.sz, (List.take_append_drop _ _).symm, ka, kb⟩, wa, wb⟩
theorem op_struct {α β : Type} {P : Program} {d : Kd α} {t : TypeId} {fs : Array Field} {wf : α → Prop} {p : β → α} (g : α → β) (hg : ∀ a, p (g a) = a) (ht : P.underlying t = some (.struct fs)) (h : OpL P d fs.toList 0 wf) :
    Opens P (Kd.iso d p) t (fun b => wf (p b)) := by
  intro H enc w base fuel spare held cs x hl hx hw;obtain ⟨xs, n, rfl, rfl, _, hxl, hf⟩ := DataW.trod_struct ht hx;simp only [DataW.weights, ht] at hw
  obtain ⟨a, ka, wa⟩ := h H enc w base n spare held cs xs hl (by simpa using hxl) (fun i f hi => by
    rw [Nat.sub_zero]
    exact hf i f (by simpa using hi)) hw
  refine ⟨g a, ?_, ?_⟩
  · show d.K w (p (g a)) cs
    rw [hg]; exact ka
  · show wf (p (g a))
    rw [hg]; exact wa
theorem op_agg {α : Type} {P : Program} {d : Kd α} {t : TypeId} {fs : Array Field} {wf : α → Prop} (ht : P.underlying t = some (.struct fs)) (h : OpL P d fs.toList 0 wf) : Opens P d t wf :=
  op_struct (d := d) (p := fun a => a) (fun a => a) (fun _ => rfl) ht h
theorem op_array2 {α : Type} {P : Program} {d : Kd α} {t e : TypeId} {wf : α → Prop} (ht : P.underlying t = some (.array 2 e)) (hc : P.cellsOf e = d.sz) (h : Opens P d e wf) : Opens P (Kd.pair d d) t (fun x => wf x.1 ∧ wf x.2) := by
  intro H enc w base fuel spare held cs x hl hx hw;obtain ⟨xs, m, rfl, rfl, _, hxl, hf⟩ := DataW.trod_array ht hx;simp only [DataW.weights, ht] at hw;have hl' : cs.length = d.sz + d.sz := hl
  match xs, hxl with
  | [y, z], _ =>
    have h0 := hf 0 (by omega);have h1 := hf 1 (by omega);rw [Nat.zero_mul, List.drop_zero, hc] at h0;rw [Nat.one_mul, hc, List.take_of_length_le (by rw [List.length_drop]; omega)] at h1;simp only [List.map_cons, List.map_nil, DataW.weightsAll, List.all_append, Bool.and_eq_true] at hw;obtain ⟨a, ka, wa⟩ := h H enc w base m spare held (cs.take d.sz) y (by rw [List.length_take]; omega) h0 hw.1;obtain ⟨b, kb, wb⟩ := h H enc w base m spare held (cs.drop d.sz) z (by rw [List.length_drop]; omega) h1 hw.2.1;exact ⟨(a, b), ⟨cs.take d.sz, cs.drop d.sz, (List.take_append_drop _ _).symm, ka, kb⟩, wa, wb⟩
theorem okWide_arr {P : Program} {W : World} {r : Reach} {b0 : Nat} {t e : TypeId} {n : Nat} {v : Value} (ht : P.underlying t = some (.array n e)) (h : Value.okWide P W r b0 t v) : ∃ cs, v = .agg cs ∧ cs.size = P.cellsOf t := by
  simp only [Value.okWide, ht] at h;obtain ⟨cs, h1, h2, _⟩ := h;exact ⟨cs, h1, h2⟩
theorem okWide_agg {P : Program} {W : World} {r : Reach} {b0 : Nat} {t : TypeId} {fs : Array Field} {v : Value} (ht : P.underlying t = some (.struct fs)) (h : Value.okWide P W r b0 t v) : ∃ cs, v = .agg cs ∧ cs.size = P.cellsOf t := by
  simp only [Value.okWide, ht] at h;obtain ⟨cs, h1, h2, _⟩ := h;exact ⟨cs, h1, h2⟩
theorem arg {α H : Type} {enc : TypeId × Value → H} {P : Program} {d : Kd α} {t : TypeId} {wf : α → Prop} (h : Opens P d t wf) {w : World} {base : Nat} {spare : Nat → Bool} {held : Bool} {v : Value} {x : DataW H} {ps : List MemPlace}
    (hl : v.cells.toList.length = d.sz) (hv : DataW.Trod enc P w base spare held t v x ps) {ts : List TypeId} {ds : List (DataW H)} {j : Nat} (hsz : (DataW.weightsEach P ts ds).all (· ≤ reachBytes) = true) (ht : ts[j]? = some t) (hd : ds[j]? = some x) :
    ∃ a, d.K w a v.cells.toList ∧ wf a := by
  obtain ⟨fuel, hf⟩ := hv;exact h H enc w base fuel spare held _ _ hl hf (weights_at ts ds j hsz ht hd)
end Go.Proofs.Ytmlbliggbkfjnaa.Op
/- Three closed facts over the whole program, with its header's words as numbers. -/
namespace Go.Proofs.Ytmlbliggbkfjnaa.Facts
theorem toList_of (s : String) (l : List Char) (h : s = String.ofList l) : s.toList = l := by rw [h, String.toList_ofList]
def glue : List (List Char) → List Char
  | [] => []
  | [w] => w
  | w :: v :: r => w ++ Char.ofNat 32 :: glue (v :: r)
theorem signs_space (r : List Char) : wordsSigns (Char.ofNat 32 :: r) = [] :: wordsSigns r := rfl
theorem signs_cons (c : Char) (r : List Char) (h : c ≠ Char.ofNat 32) (w : List Char) (ws : List (List Char)) (e : wordsSigns r = w :: ws) : wordsSigns (c :: r) = (c :: w) :: ws := by
  rw [wordsSigns]
  · rw [e]
  · exact h
theorem signs_one : ∀ (w : List Char), (∀ c ∈ w, c ≠ Char.ofNat 32) → wordsSigns w = [w]
  | [], _ => rfl
  | c :: w, h => signs_cons c w (h c (List.mem_cons_self ..)) _ _ (signs_one w (fun d hd => h d (List.mem_cons_of_mem _ hd)))
theorem signs_more (r : List Char) : ∀ (w : List Char), (∀ c ∈ w, c ≠ Char.ofNat 32) → wordsSigns (w ++ Char.ofNat 32 :: r) = w :: wordsSigns r
  | [], _ => signs_space r
  | c :: w, h => signs_cons c _ (h c (List.mem_cons_self ..)) _ _ (signs_more r w (fun d hd => h d (List.mem_cons_of_mem _ hd)))
theorem signs_glue : ∀ (ws : List (List Char)), ws ≠ [] → (∀ w ∈ ws, ∀ c ∈ w, c ≠ Char.ofNat 32) → wordsSigns (glue ws) = ws
  | [], h, _ => absurd rfl h
  | [w], _, h => signs_one w (h w (List.mem_cons_self ..))
  | w :: v :: r, _, h => by
    rw [glue, signs_more _ w (h w (List.mem_cons_self ..)), signs_glue (v :: r) (by simp) (fun u hu => h u (List.mem_cons_of_mem _ hu))]
def W : List (List Char) := (List.map (List.map Char.ofNat) [[104, 97, 114, 110, 101, 115, 115],
  [57, 102, 101, 51, 102, 100, 99, 53, 49, 100, 57, 100, 102, 56, 54, 48, 56, 53, 55, 52, 52, 48, 57, 101, 56, 99, 100, 99, 99, 53, 54, 99, 49, 98, 57, 102, 57, 51, 54, 97, 99, 99, 57, 99, 48, 98, 56, 53, 101, 98, 53, 56, 55, 54, 48, 97, 49, 50, 51, 51, 54, 99, 50, 99],
  [99, 117, 116],
  [97, 116],
  [106, 117, 110, 116, 111, 47, 106, 117, 110, 116, 111, 108, 97, 119, 49, 54, 46, 84, 117, 110, 101, 76, 101, 118, 101, 108, 115],
  [106, 117, 110, 116, 111, 47, 106, 117, 110, 116, 111, 108, 97, 119, 49, 54, 46, 84, 117, 110, 101, 70, 111, 108, 100, 115],
  [106, 117, 110, 116, 111, 47, 106, 117, 110, 116, 111, 108, 97, 119, 49, 54, 46, 84, 117, 110, 101, 83, 104, 97, 114, 101, 115],
  [106, 117, 110, 116, 111, 47, 106, 117, 110, 116, 111, 108, 97, 119, 49, 54, 46, 84, 117, 110, 101, 80, 114, 117, 110, 101, 115],
  [106, 117, 110, 116, 111, 47, 106, 117, 110, 116, 111, 108, 97, 119, 49, 54, 46, 84, 117, 110, 101, 84, 117, 110, 101, 115],
  [106, 117, 110, 116, 111, 47, 106, 117, 110, 116, 111, 108, 97, 119, 49, 54, 46, 84, 117, 110, 101, 83, 97, 109, 101],
  [106, 117, 110, 116, 111, 47, 106, 117, 110, 116, 111, 108, 97, 119, 49, 54, 46, 84, 117, 110, 101, 76, 101, 115, 115],
  [106, 117, 110, 116, 111, 47, 106, 117, 110, 116, 111, 108, 97, 119, 49, 54, 46, 84, 117, 110, 101, 68, 111, 110, 101],
  [106, 117, 110, 116, 111, 47, 106, 117, 110, 116, 111, 108, 97, 119, 49, 54, 46, 84, 117, 110, 101, 82, 111, 117, 110, 100, 115]])
theorem head : Try.pinned.checked.prog.initOrder.toList = glue W := toList_of _ _ (by kernel_rfl)
theorem plain : (W.all fun w => w.all fun c => c.toNat != 32) = true := by kernel_rfl
theorem signs : wordsSigns Try.pinned.checked.prog.initOrder.toList = W := by
  rw [head]
  refine signs_glue W (by simp [W]) fun w hw c hc e => ?_
  have h := List.all_eq_true.1 (List.all_eq_true.1 plain w hw) c hc;rw [e] at h;cases h
theorem words : behindMainWord (wordsSigns Try.pinned.checked.prog.initOrder.toList) = W.drop 2 := by
  rw [signs]
  kernel_rfl
theorem lifts : Try.pinned.checked.prog.headLifts = [] := by
  unfold Program.headLifts;rw [words]
  kernel_rfl
theorem final : Try.pinned.checked.prog.liftsFinal = false := by
  unfold Program.liftsFinal;rw [words, lifts]
  kernel_rfl
theorem made_of (P : Program) (rest : List (List Char)) (h : behindMainWord (wordsSigns P.initOrder.toList) = [Char.ofNat 99, Char.ofNat 117, Char.ofNat 116] :: rest) : P.make = some .cut := by
  unfold Program.make;rw [h]
  kernel_rfl
theorem enters_of (P : Program) (rest : List (List Char)) (h : behindMainWord (wordsSigns P.initOrder.toList) = [Char.ofNat 99, Char.ofNat 117, Char.ofNat 116] :: rest) (hl : P.laysLater = false) (hb : P.bearsReflect = false) (hd : P.doorFits [] = true)
    (hs : stripLifts liftWords ([Char.ofNat 99, Char.ofNat 117, Char.ofNat 116] :: rest) = ([], [Char.ofNat 99, Char.ofNat 117, Char.ofNat 116] :: rest)) : P.mayEnter = true := by
  unfold Program.mayEnter;rw [h];simp only [hs, hl, hb, hd]
  kernel_rfl
theorem made : Try.pinned.checked.prog.make = some .cut := made_of _ (W.drop 3) (words.trans (by kernel_rfl))
theorem enters : Try.pinned.checked.prog.mayEnter = true := enters_of _ (W.drop 3) (words.trans (by kernel_rfl)) (by kernel_rfl) (by kernel_rfl) (by kernel_rfl) (by kernel_rfl)
end Go.Proofs.Ytmlbliggbkfjnaa.Facts
/- Gates: what they may be, what they mean, and their folding. -/
namespace Go.Proofs.Ytmlbliggbkfjnaa.L
open Go.RowKit Go.Proofs.YtmlbliggbkfjnaaW.PrintWords Go.Proofs.Ytmlbliggbkfjnaa.J
def atI (l : List Int) (i : Int) : Int := l.getD i.toNat 0
def atG (l : List S61) (i : Int) : S61 := l.getD i.toNat ⟨0, 0, 0, 0⟩
def okG (p s i : Int) (g : S61) : Prop :=
  (g.f0 = 1 ∧ 0 ≤ g.f1 ∧ g.f1 < s ∧ g.f2 = 0 ∧ g.f3 = 0) ∨
  (g.f0 = 2 ∧ g.f1 = 0 ∧ g.f2 = 0 ∧ 0 ≤ g.f3 ∧ g.f3 < p) ∨
  ((g.f0 = 3 ∨ g.f0 = 4 ∨ g.f0 = 5) ∧ 0 ≤ g.f1 ∧ g.f1 < i ∧ 0 ≤ g.f2 ∧ g.f2 < i ∧ g.f3 = 0) ∨
  (g.f0 = 6 ∧ 0 ≤ g.f1 ∧ g.f1 < i ∧ g.f2 = 0 ∧ 0 ≤ g.f3 ∧ g.f3 < p)
def okL (p s : Int) (l : List S61) : Prop := ∀ (i : Nat) (g : S61), l[i]? = some g → okG p s i g
theorem okL_nil (p s : Int) : okL p s [] := fun i g h => by simp at h
theorem okL_snoc {p s : Int} {l : List S61} {g : S61} (h : okL p s l) (hg : okG p s l.length g) : okL p s (l ++ [g]) := by
  intro i x hx;rw [List.getElem?_append] at hx
  split at hx
  · exact h i x hx
  · rename_i hi
    rw [List.getElem?_singleton] at hx
    split at hx
    · rename_i h0
      obtain rfl := qqI hx;rw [show i = l.length by omega]; exact hg
    · cases hx
theorem okL_cut {p s : Int} {l : List S61} {g : S61} (h : okL p s (l ++ [g])) : okL p s l ∧ okG p s l.length g := by
  constructor
  · intro i x hx
    refine h i x ?_;rw [List.getElem?_append_left (List.getElem?_eq_some_iff.1 hx).1]; exact hx
  · exact h l.length g (by simp)
theorem okL_app {p s : Int} {l m : List S61} (h : okL p s (l ++ m)) : okL p s l := by
  intro i x hx;refine h i x ?_;rw [List.getElem?_append_left (List.getElem?_eq_some_iff.1 hx).1]; exact hx
theorem okL_at {p s : Int} {l : List S61} (h : okL p s l) {i : Int} (h0 : 0 ≤ i) (h1 : i < l.length) : okG p s i (atG l i) := by
  have hi : i.toNat < l.length := by omega
  have := h i.toNat l[i.toNat] (List.getElem?_eq_getElem hi);unfold atG;rw [List.getD_eq_getElem?_getD, List.getElem?_eq_getElem hi]
  simpa [Int.toNat_of_nonneg h0] using this
theorem atG_left {l m : List S61} {i : Int} (h1 : i < l.length) (h0 : 0 ≤ i) : atG (l ++ m) i = atG l i := by
  unfold atG;rw [List.getD_eq_getElem?_getD, List.getD_eq_getElem?_getD, List.getElem?_append_left (by omega)]
theorem atI_left {l m : List Int} {i : Int} (h1 : i < l.length) (h0 : 0 ≤ i) : atI (l ++ m) i = atI l i := by
  unfold atI;rw [List.getD_eq_getElem?_getD, List.getD_eq_getElem?_getD, List.getElem?_append_left (by omega)]
theorem atI_last (l : List Int) (x : Int) : atI (l ++ [x]) l.length = x := by
  simp [atI, List.getD_eq_getElem?_getD]
theorem atG_last (l : List S61) (x : S61) : atG (l ++ [x]) l.length = x := by
  simp [atG, List.getD_eq_getElem?_getD]
structure Alg where
  inp : Int → Int
  con : Int → Int
  scl : Int → Int → Int
  two : Int → Int → Int → Int
def app (A : Alg) (v : List Int) (g : S61) : Int :=
  if g.f0 = 1 then A.inp g.f1 else if g.f0 = 2 then A.con g.f3 else if g.f0 = 6 then A.scl g.f3 (atI v g.f1) else A.two g.f0 (atI v g.f1) (atI v g.f2)
def snocs {α β : Type} (f : List α → β → α) : List α → List β → List α
  | d, [] => d
  | d, b :: bs => snocs f (d ++ [f d b]) bs
theorem snocs_snoc {α β : Type} (f : List α → β → α) (b : β) : ∀ (bs : List β) (d : List α), snocs f d (bs ++ [b]) = snocs f d bs ++ [f (snocs f d bs) b]
  | [], d => rfl
  | c :: bs, d => by simp only [List.cons_append, snocs]; exact snocs_snoc f b bs _
theorem snocs_len {α β : Type} (f : List α → β → α) : ∀ (bs : List β) (d : List α), (snocs f d bs).length = d.length + bs.length
  | [], d => rfl
  | c :: bs, d => by simp only [snocs, snocs_len f bs, List.length_append, List.length_cons, List.length_nil]; omega
def vals (A : Alg) (l : List S61) : List Int := snocs (app A) [] l
theorem vals_snoc (A : Alg) (l : List S61) (g : S61) : vals A (l ++ [g]) = vals A l ++ [app A (vals A l) g] := snocs_snoc _ _ _ _
theorem vals_len (A : Alg) (l : List S61) : (vals A l).length = l.length := by simp [vals, snocs_len]
theorem app_congr {A : Alg} {p s i : Int} {g : S61} {v v' : List Int} (h : okG p s i g) (e : ∀ x, 0 ≤ x → x < i → atI v x = atI v' x) : app A v g = app A v' g := by
  unfold app;unfold okG at h
  split
  · rfl
  split
  · rfl
  split
  · rw [e g.f1 (by omega) (by omega)]
  · rw [e g.f1 (by omega) (by omega), e g.f2 (by omega) (by omega)]
theorem snoc_ind {α : Type} {P : List α → Prop} (h0 : P []) (h1 : ∀ l x, P l → P (l ++ [x])) (l : List α) : P l := by
  rw [← List.reverse_reverse l]
  induction l.reverse with
  | nil => exact h0
  | cons x r ih => rw [List.reverse_cons]; exact h1 _ _ ih
theorem vals_at (A : Alg) {p s : Int} (l : List S61) : okL p s l → ∀ i : Int, 0 ≤ i → i < l.length → atI (vals A l) i = app A (vals A l) (atG l i) := by
  refine snoc_ind (P := fun l => okL p s l → ∀ i : Int, 0 ≤ i → i < l.length → atI (vals A l) i = app A (vals A l) (atG l i)) ?_ ?_ l
  · intro _ i h0 h1; simp at h1; omega
  · intro l g ih hok i h0 h1
    obtain ⟨hl, hg⟩ := okL_cut hok;have hlen := vals_len A l;rw [vals_snoc]
    by_cases h : i < l.length
    · rw [atI_left (by omega) h0, atG_left h h0, ih hl i h0 h]
      exact app_congr (okL_at hl h0 h) (fun x x0 x1 => (atI_left (by omega) x0).symm)
    · have hi : i = l.length := by simp at h1; omega
      rw [hi, atG_last];rw [show (l.length : Int) = ((vals A l).length : Nat) by rw [hlen], atI_last];exact app_congr hg (fun x x0 x1 => (atI_left (by omega) x0).symm)
def opV (p k a b : Int) : Int := if k = 3 then (a + b) % p else if k = 4 then (a + p - b) % p else a * b % p
def levA : Alg := { inp := fun _ => 0, con := fun _ => 0, scl := fun _ a => a, two := fun k a b => if k = 5 then max a b + 1 else max a b }
def foldStep (p : Int) (l : List S61) (g : S61) : Option S61 :=
  if (g.f0 = 3 ∨ g.f0 = 4 ∨ g.f0 = 5) ∧ (atG l g.f1).f0 = 2 ∧ (atG l g.f2).f0 = 2 then some ⟨2, 0, 0, opV p g.f0 (atG l g.f1).f3 (atG l g.f2).f3⟩
  else if g.f0 = 6 ∧ (atG l g.f1).f0 = 2 then some ⟨2, 0, 0, (atG l g.f1).f3 * g.f3 % p⟩
  else if g.f0 = 5 ∧ (atG l g.f1).f0 = 2 then some ⟨6, g.f2, 0, (atG l g.f1).f3⟩
  else if g.f0 = 5 ∧ (atG l g.f2).f0 = 2 then some ⟨6, g.f1, 0, (atG l g.f2).f3⟩
  else if g.f0 = 6 ∧ g.f3 = 0 then some ⟨2, 0, 0, 0⟩
  else if g.f0 = 6 ∧ (atG l g.f1).f0 = 6 then some ⟨6, (atG l g.f1).f1, 0, (atG l g.f1).f3 * g.f3 % p⟩
  else if g.f0 = 4 ∧ g.f1 = g.f2 then some ⟨2, 0, 0, 0⟩
  else none
def meas (n : Nat) (g : S61) : Nat := if g.f0 = 5 then n + 1 else if g.f0 = 6 then g.f1.toNat + 1 else if g.f0 = 3 ∨ g.f0 = 4 then 1 else 0
theorem opV_range {p : Int} (hp : 0 < p) (k a b : Int) : 0 ≤ opV p k a b ∧ opV p k a b < p := by
  unfold opV
  split
  · exact ⟨Int.emod_nonneg _ (by omega), Int.emod_lt_of_pos _ hp⟩
  split
  · exact ⟨Int.emod_nonneg _ (by omega), Int.emod_lt_of_pos _ hp⟩
  · exact ⟨Int.emod_nonneg _ (by omega), Int.emod_lt_of_pos _ hp⟩
theorem fold_ok {p s : Int} (hp : 0 < p) {l : List S61} {g g' : S61} (hl : okL p s l) (hg : okG p s l.length g) (h : foldStep p l g = some g') : okG p s l.length g' ∧ meas l.length g' < meas l.length g := by
  have m1 := fun (a b : Int) => (⟨Int.emod_nonneg (a * b) (show p ≠ 0 by omega), Int.emod_lt_of_pos _ hp⟩ : 0 ≤ a * b % p ∧ a * b % p < p)
  unfold foldStep at h
  split at h
  · rename_i c
    obtain rfl := qqI h;refine ⟨.inr (.inl ⟨rfl, rfl, rfl, (opV_range hp _ _ _).1, (opV_range hp _ _ _).2⟩), ?_⟩;simp only [meas]; simp; split
    · omega
    · split
      · omega
      · rw [if_pos (by omega)]; omega
  split at h
  · rename_i c
    obtain rfl := qqI h;refine ⟨.inr (.inl ⟨rfl, rfl, rfl, (m1 _ _).1, (m1 _ _).2⟩), ?_⟩;simp [meas, c.1]
  split at h
  · rename_i c
    obtain rfl := qqI h
    have hg' : 0 ≤ g.f1 ∧ g.f1 < l.length ∧ 0 ≤ g.f2 ∧ g.f2 < l.length := by unfold okG at hg; omega
    have ha := okL_at hl hg'.1 hg'.2.1;generalize atG l g.f1 = a at *;refine ⟨.inr (.inr (.inr ⟨rfl, hg'.2.2.1, hg'.2.2.2, rfl, ?_⟩)), ?_⟩
    · unfold okG at ha; show 0 ≤ a.f3 ∧ a.f3 < p; omega
    · simp [meas, c.1]; omega
  split at h
  · rename_i c
    obtain rfl := qqI h
    have hg' : 0 ≤ g.f1 ∧ g.f1 < l.length ∧ 0 ≤ g.f2 ∧ g.f2 < l.length := by unfold okG at hg; omega
    have ha := okL_at hl hg'.2.2.1 hg'.2.2.2;generalize atG l g.f2 = a at *;refine ⟨.inr (.inr (.inr ⟨rfl, hg'.1, hg'.2.1, rfl, ?_⟩)), ?_⟩
    · unfold okG at ha; show 0 ≤ a.f3 ∧ a.f3 < p; omega
    · simp [meas, c.1]; omega
  split at h
  · rename_i c
    obtain rfl := qqI h;refine ⟨.inr (.inl ⟨rfl, rfl, rfl, Int.le_refl _, hp⟩), ?_⟩;simp [meas, c.1]
  split at h
  · rename_i c
    obtain rfl := qqI h
    have hg' : 0 ≤ g.f1 ∧ g.f1 < l.length := by unfold okG at hg; omega
    have ha := okL_at hl hg'.1 hg'.2;generalize atG l g.f1 = a at *
    have ha' : 0 ≤ a.f1 ∧ a.f1 < g.f1 := by unfold okG at ha; omega
    refine ⟨.inr (.inr (.inr ⟨rfl, ha'.1, by show a.f1 < _; omega, rfl, (m1 _ _).1, (m1 _ _).2⟩)), ?_⟩;simp [meas, c.1]; omega
  split at h
  · rename_i c
    obtain rfl := qqI h;refine ⟨.inr (.inl ⟨rfl, rfl, rfl, Int.le_refl _, hp⟩), ?_⟩;simp [meas, c.1]
  · cases h
def foldN (p : Int) (l : List S61) : Nat → S61 → S61
  | 0, g => g
  | n + 1, g => match foldStep p l g with
    | none => g
    | some g' => foldN p l n g'
def foldG (p : Int) (l : List S61) (g : S61) : S61 := foldN p l (l.length + 2) g
theorem foldN_ok {p s : Int} (hp : 0 < p) {l : List S61} (hl : okL p s l) : ∀ (n : Nat) (g : S61), meas l.length g < n → okG p s l.length g → okG p s l.length (foldN p l n g) ∧ foldStep p l (foldN p l n g) = none
  | 0, g, h, _ => by omega
  | n + 1, g, h, hg => by
    unfold foldN
    cases e : foldStep p l g with
    | none => exact ⟨hg, e⟩
    | some g' =>
      obtain ⟨h1, h2⟩ := fold_ok hp hl hg e;exact foldN_ok hp hl n g' (by omega) h1
theorem meas_lt {p s : Int} {n : Nat} {g : S61} (h : okG p s n g) : meas n g < n + 2 := by
  unfold meas; unfold okG at h
  split
  · omega
  split
  · omega
  split <;> omega
theorem foldG_ok {p s : Int} (hp : 0 < p) {l : List S61} (hl : okL p s l) {g : S61} (hg : okG p s l.length g) : okG p s l.length (foldG p l g) ∧ foldStep p l (foldG p l g) = none :=
  foldN_ok hp hl _ g (meas_lt hg) hg
def folds (p : Int) (d : List S61) (l : List S61) : List S61 := snocs (foldG p) d l
theorem folds_ok {p s : Int} (hp : 0 < p) (l : List S61) : okL p s l → okL p s (folds p [] l) := by
  refine snoc_ind (P := fun l => okL p s l → okL p s (folds p [] l)) (fun _ => okL_nil p s) ?_ l;intro l g ih h;obtain ⟨h1, h2⟩ := okL_cut h
  have hlen : (folds p [] l).length = l.length := by simp [folds, snocs_len]
  unfold folds;rw [snocs_snoc];refine okL_snoc (ih h1) ?_;exact (foldG_ok hp (ih h1) (by rw [hlen]; exact h2)).1
theorem atI_nonneg {A : Alg} {l : List S61} (hA : ∀ v g, (∀ x ∈ v, 0 ≤ x) → 0 ≤ app A v g) : ∀ x ∈ vals A l, 0 ≤ x := by
  refine snoc_ind (P := fun l => ∀ x ∈ vals A l, 0 ≤ x) (fun x hx => by cases hx) ?_ l;intro l g ih x hx;rw [vals_snoc, List.mem_append] at hx
  rcases hx with hx | hx
  · exact ih x hx
  · obtain rfl := List.mem_singleton.1 hx
    exact hA _ _ ih
theorem atI_mem {v : List Int} (h : ∀ x ∈ v, 0 ≤ x) (i : Int) : 0 ≤ atI v i := by
  unfold atI;rw [List.getD_eq_getElem?_getD]
  cases e : v[i.toNat]? with
  | none => simp
  | some x => simpa using h x (List.mem_of_getElem? e)
theorem lev_app {v : List Int} {g : S61} (h : ∀ x ∈ v, 0 ≤ x) : 0 ≤ app levA v g := by
  have h1 := atI_mem h g.f1;have h2 := atI_mem h g.f2;unfold app levA;simp only
  split
  · omega
  split
  · omega
  split
  · omega
  split <;> omega
theorem lev_nonneg (l : List S61) : ∀ x ∈ vals levA l, 0 ≤ x := atI_nonneg fun _ _ h => lev_app h
end Go.Proofs.Ytmlbliggbkfjnaa.L
/- Gates left out and others named in their place; gates that are alike. -/
namespace Go.Proofs.Ytmlbliggbkfjnaa.L
open Go.RowKit Go.Proofs.YtmlbliggbkfjnaaW.PrintWords Go.Proofs.Ytmlbliggbkfjnaa.J
def rnf (t : Int → Int) (g : S61) : S61 :=
  if g.f0 = 1 ∨ g.f0 = 2 then g else if g.f0 = 6 then ⟨g.f0, t g.f1, g.f2, g.f3⟩ else ⟨g.f0, t g.f1, t g.f2, g.f3⟩
theorem rnf_kind (t : Int → Int) (g : S61) : (rnf t g).f0 = g.f0 := by unfold rnf; split; rfl; split <;> rfl
theorem rnf_congr {p s i : Int} {g : S61} {t t' : Int → Int} (h : okG p s i g) (e : ∀ x, 0 ≤ x → x < i → t x = t' x) : rnf t g = rnf t' g := by
  unfold rnf; unfold okG at h
  split
  · rfl
  split
  · rw [e g.f1 (by omega) (by omega)]
  · rw [e g.f1 (by omega) (by omega), e g.f2 (by omega) (by omega)]
theorem rnf_ok {p s i j : Int} {g : S61} {t : Int → Int} (h : okG p s i g)
    (e : g.f0 ≠ 1 → g.f0 ≠ 2 → 0 ≤ t g.f1 ∧ t g.f1 < j ∧ (g.f0 ≠ 6 → 0 ≤ t g.f2 ∧ t g.f2 < j)) : okG p s j (rnf t g) := by
  unfold rnf
  rcases h with h | h | h | h
  · rw [if_pos (.inl h.1)]; exact .inl h
  · rw [if_pos (.inr h.1)]; exact .inr (.inl h)
  · have h12 : ¬ (g.f0 = 1 ∨ g.f0 = 2) := by omega
    have h6 : ¬ g.f0 = 6 := by omega
    obtain ⟨a, b, c⟩ := e (by omega) (by omega);obtain ⟨c, d⟩ := c h6;rw [if_neg h12, if_neg h6];exact .inr (.inr (.inl ⟨h.1, a, b, c, d, h.2.2.2.2.2⟩))
  · obtain ⟨a, b, c⟩ := e (by omega) (by omega)
    rw [if_neg (by omega), if_pos h.1];exact .inr (.inr (.inr ⟨h.1, a, b, h.2.2.2.1, h.2.2.2.2⟩))
theorem okG_ops {p s i : Int} {g : S61} (h : okG p s i g) (h1 : g.f0 ≠ 1) (h2 : g.f0 ≠ 2) : 0 ≤ g.f1 ∧ g.f1 < i ∧ (g.f0 ≠ 6 → 0 ≤ g.f2 ∧ g.f2 < i) := by
  rcases h with h | h | h | h
  · exact absurd h.1 h1
  · exact absurd h.1 h2
  · exact ⟨h.2.1, h.2.2.1, fun _ => ⟨h.2.2.2.1, h.2.2.2.2.1⟩⟩
  · exact ⟨h.2.1, h.2.2.1, fun h6 => absurd h.1 h6⟩
def Comm (A : Alg) : Prop := ∀ a b, A.two 3 a b = A.two 3 b a ∧ A.two 5 a b = A.two 5 b a
def sameG (x y : S61) : Prop := x = y ∨ ((⟨x.f0, x.f2, x.f1, x.f3⟩ : S61) = y ∧ (x.f0 = 3 ∨ x.f0 = 5))
theorem S61.ext_iff' (x y : S61) : x = y ↔ x.f0 = y.f0 ∧ x.f1 = y.f1 ∧ x.f2 = y.f2 ∧ x.f3 = y.f3 := by
  cases x; cases y; simp
instance (x y : S61) : Decidable (x = y) := decidable_of_iff _ (S61.ext_iff' x y).symm
instance (x y : S61) : Decidable (sameG x y) := by unfold sameG; infer_instance
theorem app_same {A : Alg} (hA : Comm A) {x y : S61} (v : List Int) (h : sameG x y) : app A v x = app A v y := by
  rcases h with rfl | ⟨rfl, h⟩
  · rfl
  · unfold app
    rcases h with h | h
    · simp [h, (hA (atI v x.f1) (atI v x.f2)).1]
    · simp [h, (hA (atI v x.f1) (atI v x.f2)).2]
theorem app_rnf {A : Alg} {p s i : Int} {g : S61} {t : Int → Int} {v v' : List Int} (h : okG p s i g) (e : ∀ x, 0 ≤ x → x < i → x = g.f1 ∨ (g.f0 ≠ 6 ∧ x = g.f2) → g.f0 ≠ 1 → g.f0 ≠ 2 → atI v' (t x) = atI v x) : app A v' (rnf t g) = app A v g := by
  unfold rnf; unfold okG at h
  split
  · rename_i h1
    unfold app
    rcases h1 with h1 | h1 <;> simp [h1]
  split
  · rename_i h1 h6
    unfold app;simp only [h6, if_neg (show ¬ (6 : Int) = 1 by decide), if_neg (show ¬ (6 : Int) = 2 by decide), if_true];rw [e g.f1 (by omega) (by omega) (.inl rfl) (by omega) (by omega)]
  · rename_i h1 h6
    unfold app;simp only [if_neg (show ¬ g.f0 = 1 by omega), if_neg (show ¬ g.f0 = 2 by omega), if_neg h6];rw [e g.f1 (by omega) (by omega) (.inl rfl) (by omega) (by omega), e g.f2 (by omega) (by omega) (.inr ⟨h6, rfl⟩) (by omega) (by omega)]
structure Shr (p s : Int) (gs l : List S61) (t : Int → Int) (N : Int → Prop) : Prop where
  rng : ∀ i : Int, 0 ≤ i → i < gs.length → N i → 0 ≤ t i ∧ t i < l.length
  onto : ∀ j : Int, 0 ≤ j → j < l.length → ∃ i : Int, 0 ≤ i ∧ i < gs.length ∧ N i ∧ t i = j
  vals : ∀ A, Comm A → ∀ i : Int, 0 ≤ i → i < gs.length → N i → atI (L.vals A l) (t i) = atI (L.vals A gs) i
  ok : okL p s l
  cnt : ∀ f : S61 → Bool, (∀ g t, f (rnf t g) = f g) → (l.filter f).length ≤ (gs.filter f).length
theorem Shr.nil (p s : Int) (t : Int → Int) (N : Int → Prop) : Shr p s [] [] t N :=
  ⟨fun i h0 h1 => by simp at h1; omega, fun i h0 h1 => by simp at h1; omega, fun _ _ i h0 h1 => by simp at h1; omega, okL_nil p s, fun _ _ => Nat.le_refl _⟩
theorem vals_left (A : Alg) {l : List S61} {g : S61} {i : Int} (h0 : 0 ≤ i) (h1 : i < l.length) : atI (vals A (l ++ [g])) i = atI (vals A l) i := by
  rw [vals_snoc]; exact atI_left (by rw [vals_len]; exact h1) h0
theorem vals_last (A : Alg) (l : List S61) (g : S61) : atI (vals A (l ++ [g])) l.length = app A (vals A l) g := by
  rw [vals_snoc, show (l.length : Int) = ((vals A l).length : Nat) by rw [vals_len], atI_last]
def uses (g : S61) (x : Int) : Prop := g.f0 ≠ 1 ∧ g.f0 ≠ 2 ∧ (x = g.f1 ∨ (g.f0 ≠ 6 ∧ x = g.f2))
theorem uses_lt {p s i : Int} {g : S61} (h : okG p s i g) {x : Int} (hx : uses g x) : 0 ≤ x ∧ x < i := by
  obtain ⟨h1, h2, h3⟩ := hx;obtain ⟨a, b, c⟩ := okG_ops h h1 h2
  rcases h3 with rfl | ⟨h6, rfl⟩
  · exact ⟨a, b⟩
  · exact c h6
theorem Shr.new_ok {p s : Int} {gs l : List S61} {t : Int → Int} {N : Int → Prop} (h : Shr p s gs l t N) {g : S61} (hg : okG p s gs.length g)
    (hN : ∀ x, uses g x → N x) : okG p s l.length (rnf t g) := by
  refine rnf_ok hg fun h1 h2 => ?_
  have u1 : uses g g.f1 := ⟨h1, h2, .inl rfl⟩;obtain ⟨a, b⟩ := uses_lt hg u1;obtain ⟨c, d⟩ := h.rng _ a b (hN _ u1);refine ⟨c, d, fun h6 => ?_⟩;have u2 : uses g g.f2 := ⟨h1, h2, .inr ⟨h6, rfl⟩⟩;obtain ⟨a, b⟩ := uses_lt hg u2;exact h.rng _ a b (hN _ u2)
theorem Shr.new_val {p s : Int} {gs l : List S61} {t : Int → Int} {N : Int → Prop} (h : Shr p s gs l t N) {g : S61} (hg : okG p s gs.length g)
    (hN : ∀ x, uses g x → N x) {A : Alg} (hA : Comm A) : app A (L.vals A l) (rnf t g) = app A (L.vals A gs) g :=
  app_rnf hg fun x x0 x1 xe h1 h2 => h.vals A hA x x0 x1 (hN x ⟨h1, h2, xe⟩)
theorem Shr.stay {p s : Int} {gs l : List S61} {t t' : Int → Int} {N : Int → Prop} (h : Shr p s gs l t N) {g : S61} (hg : okG p s gs.length g)
    (ht : ∀ x : Int, 0 ≤ x → x < gs.length → t' x = t x) (hl : t' gs.length = l.length)
    (hN : ∀ x, uses g x → N x) (hN' : N gs.length) : Shr p s (gs ++ [g]) (l ++ [rnf t g]) t' N := by
  refine ⟨?_, ?_, ?_, okL_snoc h.ok (h.new_ok hg hN), ?_⟩
  · intro i i0 i1 iN
    simp only [List.length_append, List.length_cons, List.length_nil] at i1 ⊢
    by_cases e : i < gs.length
    · rw [ht i i0 e]; have := h.rng i i0 e iN; omega
    · rw [show i = gs.length by omega, hl]; omega
  · intro j j0 j1
    simp only [List.length_append, List.length_cons, List.length_nil] at j1 ⊢
    by_cases e : j < l.length
    · obtain ⟨i, i0, i1, iN, ij⟩ := h.onto j j0 e
      exact ⟨i, i0, by omega, iN, by rw [ht i i0 i1]; exact ij⟩
    · exact ⟨gs.length, by omega, by omega, hN', by rw [hl]; omega⟩
  · intro A hA i i0 i1 iN
    simp only [List.length_append, List.length_cons, List.length_nil] at i1
    by_cases e : i < gs.length
    · have r := h.rng i i0 e iN
      rw [ht i i0 e, vals_left A r.1 r.2, vals_left A i0 e];exact h.vals A hA i i0 e iN
    · rw [show i = gs.length by omega, hl, vals_last, vals_last]
      exact h.new_val hg hN hA
  · intro f hf
    have := h.cnt f hf;rw [List.filter_append, List.filter_append, List.length_append, List.length_append]
    have e : ([rnf t g].filter f).length = ([g].filter f).length := by
      simp only [List.filter_cons, hf, List.filter_nil]
      split <;> rfl
    omega
theorem Shr.other {p s : Int} {gs l : List S61} {t t' : Int → Int} {N : Int → Prop} (h : Shr p s gs l t N) {g : S61} (hg : okG p s gs.length g)
    (ht : ∀ x : Int, 0 ≤ x → x < gs.length → t' x = t x) (hN : N gs.length → (∀ x, uses g x → N x) ∧ 0 ≤ t' gs.length ∧ t' gs.length < l.length ∧ sameG (atG l (t' gs.length)) (rnf t g)) : Shr p s (gs ++ [g]) l t' N := by
  refine ⟨?_, ?_, ?_, h.ok, ?_⟩
  · intro i i0 i1 iN
    simp only [List.length_append, List.length_cons, List.length_nil] at i1 ⊢
    by_cases e : i < gs.length
    · rw [ht i i0 e]; exact h.rng i i0 e iN
    · have hi : i = gs.length := by omega
      subst hi;exact ⟨(hN iN).2.1, (hN iN).2.2.1⟩
  · intro j j0 j1
    obtain ⟨i, i0, i1, iN, ij⟩ := h.onto j j0 j1;exact ⟨i, i0, by simp; omega, iN, by rw [ht i i0 i1]; exact ij⟩
  · intro A hA i i0 i1 iN
    simp only [List.length_append, List.length_cons, List.length_nil] at i1
    by_cases e : i < gs.length
    · rw [ht i i0 e, vals_left A i0 e]
      exact h.vals A hA i i0 e iN
    · have hi : i = gs.length := by omega
      subst hi;obtain ⟨n1, n2, n3, n4⟩ := hN iN;rw [vals_last, vals_at A l h.ok _ n2 n3, app_same hA _ n4];exact h.new_val hg n1 hA
  · intro f hf
    have := h.cnt f hf;rw [List.filter_append, List.length_append]
    omega
def findS (l : List S61) (g : S61) : Nat := l.findIdx fun x => decide (sameG x g)
def shStep (st : List S61 × List Int) (g : S61) : List S61 × List Int :=
  let g' := rnf (atI st.2) g
  let k := findS st.1 g'
  (if k = st.1.length then st.1 ++ [g'] else st.1, st.2 ++ [(k : Int)])
def shL (gs : List S61) : List S61 × List Int := gs.foldl shStep ([], [])
theorem shL_snoc (gs : List S61) (g : S61) : shL (gs ++ [g]) = shStep (shL gs) g := by simp [shL, List.foldl_append]
theorem shL_len (gs : List S61) : (shL gs).2.length = gs.length := by
  refine snoc_ind (P := fun gs => (shL gs).2.length = gs.length) rfl (fun gs g ih => ?_) gs;rw [shL_snoc]; simp [shStep, ih]
theorem findS_le (l : List S61) (g : S61) : findS l g ≤ l.length := List.findIdx_le_length
theorem findS_same {l : List S61} {g : S61} (h : findS l g < l.length) : sameG (atG l (findS l g)) g := by
  have := List.findIdx_getElem (w := h);unfold atG;rw [List.getD_eq_getElem?_getD, Int.toNat_natCast, List.getElem?_eq_getElem h];exact of_decide_eq_true this
theorem shL_shr {p s : Int} (gs : List S61) : okL p s gs → Shr p s gs (shL gs).1 (atI (shL gs).2) (fun _ => True) := by
  refine snoc_ind (P := fun gs => okL p s gs → Shr p s gs (shL gs).1 (atI (shL gs).2) (fun _ => True)) (fun _ => Shr.nil p s _ _) (fun gs g ih h => ?_) gs;obtain ⟨h1, h2⟩ := okL_cut h;have hlen := shL_len gs
  have ht : ∀ (k x : Int), 0 ≤ x → x < gs.length → atI ((shL gs).2 ++ [k]) x = atI (shL gs).2 x := fun k x x0 x1 => atI_left (by omega) x0
  have hk : ∀ k : Int, atI ((shL gs).2 ++ [k]) gs.length = k := fun k => by rw [← hlen]; exact atI_last _ _
  rw [shL_snoc];unfold shStep;simp only;have hle := findS_le (shL gs).1 (rnf (atI (shL gs).2) g)
  split
  · rename_i e
    exact (ih h1).stay h2 (ht _) (by rw [hk, e]) (fun _ _ => trivial) trivial
  · rename_i e
    refine (ih h1).other h2 (ht _) fun _ => ⟨fun _ _ => trivial, by rw [hk]; omega, by rw [hk]; omega, ?_⟩
    rw [hk];exact findS_same (by omega)
def apart (l : List S61) : Prop := l.Pairwise fun x y => ¬ sameG x y
end Go.Proofs.Ytmlbliggbkfjnaa.L
/- Gates that nobody asks for; levels. -/
namespace Go.Proofs.Ytmlbliggbkfjnaa.L
open Go.RowKit Go.Proofs.YtmlbliggbkfjnaaW.PrintWords Go.Proofs.Ytmlbliggbkfjnaa.J
def atB (l : List Bool) (i : Int) : Bool := l.getD i.toNat false
def mkStep (gs : List S61) (a : List Bool) (i : Nat) : List Bool :=
  if atB a i = true ∧ (atG gs i).f0 ≠ 1 ∧ (atG gs i).f0 ≠ 2 then
    (if (atG gs i).f0 = 6 then a.set (atG gs i).f1.toNat true else (a.set (atG gs i).f1.toNat true).set (atG gs i).f2.toNat true)
  else a
def mkM (gs : List S61) : Nat → List Bool → List Bool
  | 0, a => a
  | m + 1, a => mkM gs m (mkStep gs a m)
theorem mkStep_len (gs : List S61) (a : List Bool) (i : Nat) : (mkStep gs a i).length = a.length := by
  unfold mkStep
  split
  · split <;> simp
  · rfl
theorem mkM_len (gs : List S61) : ∀ (m : Nat) (a : List Bool), (mkM gs m a).length = a.length
  | 0, a => rfl
  | m + 1, a => by unfold mkM; rw [mkM_len gs m, mkStep_len]
def prStep (a : List Bool) (st : List S61 × List Int) (g : S61) : List S61 × List Int :=
  if atB a st.2.length = true then (st.1 ++ [rnf (atI st.2) g], st.2 ++ [(st.1.length : Int)]) else (st.1, st.2 ++ [0])
def prL (a : List Bool) (gs : List S61) : List S61 × List Int := gs.foldl (prStep a) ([], [])
def topV (l : List S61) : Int := (vals levA l).foldl max 0
theorem foldl_max_le (v : List Int) : ∀ (b m : Int), b ≤ m → (∀ x ∈ v, x ≤ m) → v.foldl max b ≤ m := by
  induction v with
  | nil => intro b m h _; exact h
  | cons x v ih => intro b m h hx; exact ih _ m (by have := hx x (List.mem_cons_self ..); omega) fun y hy => hx y (List.mem_cons_of_mem _ hy)
theorem le_foldl_max (v : List Int) : ∀ (b : Int), b ≤ v.foldl max b ∧ ∀ x ∈ v, x ≤ v.foldl max b := by
  induction v with
  | nil => intro b; exact ⟨Int.le_refl _, fun x hx => by cases hx⟩
  | cons y v ih =>
    intro b;obtain ⟨h1, h2⟩ := ih (max b y);simp only [List.foldl_cons];refine ⟨by omega, fun x hx => ?_⟩
    rcases List.mem_cons.1 hx with rfl | hx
    · omega
    · exact h2 x hx
end Go.Proofs.Ytmlbliggbkfjnaa.L
/- The program's way to leave out gates that are alike comes to the reference's. -/
namespace Go.Proofs.Ytmlbliggbkfjnaa.L
open Go.RowKit Go.Proofs.YtmlbliggbkfjnaaW.PrintWords Go.Proofs.Ytmlbliggbkfjnaa.J
def canon (g : S61) : S61 := if (g.f0 = 3 ∨ g.f0 = 5) ∧ g.f1 > g.f2 then ⟨g.f0, g.f2, g.f1, g.f3⟩ else g
def findM (g : S61) : List (S61 × Int) → Option Int
  | [] => none
  | x :: M => if g = x.1 then some x.2 else findM g M
def atM (M : List (S61 × Int)) (i : Int) : S61 × Int := M.getD i.toNat (⟨0, 0, 0, 0⟩, 0)
def spStep (st : List Int × List (S61 × Int)) (g : S61) : List Int × List (S61 × Int) :=
  match findM (canon (rnf (atI st.1) g)) st.2 with
  | some k => (st.1 ++ [k], st.2)
  | none => (st.1 ++ [(st.1.length : Int)], st.2 ++ [(canon (rnf (atI st.1) g), (st.1.length : Int))])
def spL (gs : List S61) : List Int × List (S61 × Int) := gs.foldl spStep ([], [])
theorem spL_snoc (gs : List S61) (g : S61) : spL (gs ++ [g]) = spStep (spL gs) g := by simp [spL, List.foldl_append]
theorem spL_len (gs : List S61) : (spL gs).1.length = gs.length := by
  refine snoc_ind (P := fun gs => (spL gs).1.length = gs.length) rfl (fun gs g ih => ?_) gs;rw [spL_snoc]; unfold spStep; split <;> simp [ih]
def mvStep (st : Int → Bool) (t : Int → Int) (z : List S61 × List Int) (g : S61) : List S61 × List Int :=
  if st z.2.length = true then (z.1 ++ [rnf (fun x => atI z.2 (t x)) g], z.2 ++ [(z.1.length : Int)]) else (z.1, z.2 ++ [0])
def mvL (st : Int → Bool) (t : Int → Int) (gs : List S61) : List S61 × List Int := gs.foldl (mvStep st t) ([], [])
theorem mvL_snoc (st : Int → Bool) (t : Int → Int) (gs : List S61) (g : S61) : mvL st t (gs ++ [g]) = mvStep st t (mvL st t gs) g := by simp [mvL, List.foldl_append]
theorem mvL_len (st : Int → Bool) (t : Int → Int) (gs : List S61) : (mvL st t gs).2.length = gs.length := by
  refine snoc_ind (P := fun gs => (mvL st t gs).2.length = gs.length) rfl (fun gs g ih => ?_) gs;rw [mvL_snoc]; unfold mvStep; split <;> simp [ih]
theorem mvL_congr {p s : Int} {st st' : Int → Bool} {t t' : Int → Int} (gs : List S61) : okL p s gs → (∀ x : Int, 0 ≤ x → x < gs.length → st x = st' x ∧ t x = t' x) → mvL st t gs = mvL st' t' gs := by
  refine snoc_ind (P := fun gs => okL p s gs → (∀ x : Int, 0 ≤ x → x < gs.length → st x = st' x ∧ t x = t' x) → mvL st t gs = mvL st' t' gs) (fun _ _ => rfl) (fun gs g ih h e => ?_) gs;obtain ⟨h1, h2⟩ := okL_cut h;rw [mvL_snoc, mvL_snoc, ih h1 fun x x0 x1 => e x x0 (by simp; omega)];unfold mvStep;rw [mvL_len, (e gs.length (by omega) (by simp; omega)).1];rw [rnf_congr (t := fun x => atI (mvL st' t' gs).2 (t x)) (t' := fun x => atI (mvL st' t' gs).2 (t' x)) h2 fun x x0 x1 => by rw [(e x x0 (by simp; omega)).2]]
theorem rnf_rnf (f t : Int → Int) (g : S61) : rnf f (rnf t g) = rnf (fun x => f (t x)) g := by
  by_cases h : g.f0 = 1 ∨ g.f0 = 2
  · unfold rnf; simp only [if_pos h]
  · by_cases h6 : g.f0 = 6
    · unfold rnf; simp [h6]
    · unfold rnf; simp only [if_neg h, if_neg h6]
theorem canon_kind (g : S61) : (canon g).f0 = g.f0 := by unfold canon; split <;> rfl
theorem canon_same {p s i j L : Int} {f : Int → Int} (hf : ∀ x y, 0 ≤ x → x < L → 0 ≤ y → y < L → f x = f y → x = y) {x y : S61} (hx : okG p s i x) (hy : okG p s j y) (hi : i ≤ L) (hj : j ≤ L) :
    canon (rnf f y) = canon (rnf f x) ↔ sameG x y := by
  by_cases hk : x.f0 = y.f0
  · have fe : ∀ a b, 0 ≤ a → a < L → 0 ≤ b → b < L → (f a = f b ↔ a = b) := fun a b a0 a1 b0 b1 => ⟨hf a b a0 a1 b0 b1, fun e => by rw [e]⟩
    have sm : sameG x y ↔ (x.f1 = y.f1 ∧ x.f2 = y.f2 ∧ x.f3 = y.f3) ∨ ((x.f0 = 3 ∨ x.f0 = 5) ∧ x.f2 = y.f1 ∧ x.f1 = y.f2 ∧ x.f3 = y.f3) := by
      unfold sameG;rw [S61.ext_iff', S61.ext_iff'];simp only [hk, true_and]
      constructor
      · rintro (h | ⟨h, h'⟩)
        · exact .inl h
        · exact .inr ⟨h', h⟩
      · rintro (h | ⟨h', h⟩)
        · exact .inl h
        · exact .inr ⟨h, h'⟩
    rw [sm];clear sm
    rcases hx with hx | hx | hx | hx
    · have e1 : rnf f x = x := by unfold rnf; rw [if_pos (.inl hx.1)]
      have e2 : rnf f y = y := by unfold rnf; rw [if_pos (.inl (by omega))]
      have c1 : canon x = x := by unfold canon; rw [if_neg (by omega)]
      have c2 : canon y = y := by unfold canon; rw [if_neg (by omega)]
      rw [e1, e2, c1, c2, S61.ext_iff']
      omega
    · have e1 : rnf f x = x := by unfold rnf; rw [if_pos (.inr hx.1)]
      have e2 : rnf f y = y := by unfold rnf; rw [if_pos (.inr (by omega))]
      have c1 : canon x = x := by unfold canon; rw [if_neg (by omega)]
      have c2 : canon y = y := by unfold canon; rw [if_neg (by omega)]
      rw [e1, e2, c1, c2, S61.ext_iff']
      omega
    · have n12 : ¬ (x.f0 = 1 ∨ x.f0 = 2) := by omega
      have n6 : ¬ x.f0 = 6 := by omega
      obtain ⟨y1, y2, y3⟩ := okG_ops hy (by omega) (by omega);obtain ⟨y3, y4⟩ := y3 (by omega);have f11 := fe x.f1 y.f1 (by omega) (by omega) (by omega) (by omega);have f12 := fe x.f1 y.f2 (by omega) (by omega) (by omega) (by omega);have f21 := fe x.f2 y.f1 (by omega) (by omega) (by omega) (by omega);have f22 := fe x.f2 y.f2 (by omega) (by omega) (by omega) (by omega)
      have e1 : rnf f x = ⟨x.f0, f x.f1, f x.f2, x.f3⟩ := by unfold rnf; rw [if_neg n12, if_neg n6]
      have e2 : rnf f y = ⟨y.f0, f y.f1, f y.f2, y.f3⟩ := by unfold rnf; rw [if_neg (by omega), if_neg (by omega)]
      rw [e1, e2, ← hk];rw [← f11, ← f12, ← f21, ← f22];generalize f x.f1 = A;generalize f x.f2 = B;generalize f y.f1 = C;generalize f y.f2 = D;generalize x.f3 = X;generalize y.f3 = Y;have h0 := hx.1;generalize x.f0 = K at *;clear hx hy f11 f12 f21 f22 e1 e2 fe hf hk n12 n6;unfold canon;simp only
      by_cases c : K = 3 ∨ K = 5
      · by_cases c1 : A > B <;> by_cases c2 : C > D <;> simp [c, c1, c2] <;> omega
      · simp [c, eq_comm]
    · have n12 : ¬ (x.f0 = 1 ∨ x.f0 = 2) := by omega
      obtain ⟨y1, y2, y3⟩ := okG_ops hy (by omega) (by omega);have f11 := fe x.f1 y.f1 (by omega) (by omega) (by omega) (by omega)
      have e1 : rnf f x = ⟨x.f0, f x.f1, x.f2, x.f3⟩ := by unfold rnf; rw [if_neg n12, if_pos hx.1]
      have e2 : rnf f y = ⟨y.f0, f y.f1, y.f2, y.f3⟩ := by unfold rnf; rw [if_neg (by omega), if_pos (by omega)]
      have c1 : canon ⟨x.f0, f x.f1, x.f2, x.f3⟩ = ⟨x.f0, f x.f1, x.f2, x.f3⟩ := by unfold canon; rw [if_neg (by show ¬ ((x.f0 = 3 ∨ x.f0 = 5) ∧ _); omega)]
      have c2 : canon ⟨y.f0, f y.f1, y.f2, y.f3⟩ = ⟨y.f0, f y.f1, y.f2, y.f3⟩ := by unfold canon; rw [if_neg (by show ¬ ((y.f0 = 3 ∨ y.f0 = 5) ∧ _); omega)]
      rw [e1, e2, c1, c2, S61.ext_iff'];simp only
      omega
  · constructor
    · intro h
      have := congrArg S61.f0 h;rw [canon_kind, canon_kind, rnf_kind, rnf_kind] at this;exact absurd this.symm hk
    · intro h
      exfalso
      rcases h with rfl | ⟨rfl, _⟩
      · exact hk rfl
      · exact hk rfl
theorem find_par (key g : S61) : ∀ (M : List (S61 × Int)) (l : List S61), M.length = l.length → (∀ j : Int, 0 ≤ j → j < l.length → (key = (atM M j).1 ↔ sameG (atG l j) g)) →
    findM key M = if findS l g < l.length then some (atM M (findS l g)).2 else none
  | [], [], _, _ => by simp [findM]
  | [], _ :: _, h, _ => by simp at h
  | _ :: _, [], h, _ => by simp at h
  | m :: M, x :: l, h, hj => by
    have h0 := hj 0 (by omega) (by simp);have e0 : (key = m.1 ↔ sameG x g) := h0;unfold findM findS;rw [List.findIdx_cons]
    by_cases e : sameG x g
    · rw [if_pos (e0.2 e)]
      simp [e, atM]
    · rw [if_neg (fun h' => e (e0.1 h'))]
      have ih := find_par key g M l (by simpa using h) fun j j0 j1 => by
        have := hj (j + 1) (by omega) (by simp; omega)
        have t1 : atM (m :: M) (j + 1) = atM M j := by
          unfold atM; rw [show (j + 1).toNat = j.toNat + 1 by omega]; rfl
        have t2 : atG (x :: l) (j + 1) = atG l j := by
          unfold atG; rw [show (j + 1).toNat = j.toNat + 1 by omega]; rfl
        rw [t1, t2] at this;exact this
      rw [ih];simp only [e, decide_false, Bool.cond_false, List.length_cons, Nat.add_lt_add_iff_right];unfold findS
      split
      · congr 1
      · rfl
structure SInv (gs : List S61) (pl : List Int) : Prop where
  len : (spL gs).2.length = (shL gs).1.length
  pls : pl.length = gs.length
  a : ∀ i : Int, 0 ≤ i → i < gs.length → 0 ≤ atI (shL gs).2 i ∧ atI (shL gs).2 i < (shL gs).1.length ∧ atI (spL gs).1 i = (atM (spL gs).2 (atI (shL gs).2 i)).2
  b : ∀ j : Int, 0 ≤ j → j < (shL gs).1.length → 0 ≤ (atM (spL gs).2 j).2 ∧ (atM (spL gs).2 j).2 < gs.length ∧ atI (shL gs).2 (atM (spL gs).2 j).2 = j ∧ atI (spL gs).1 (atM (spL gs).2 j).2 = (atM (spL gs).2 j).2
  c : ∀ j : Int, 0 ≤ j → j < (shL gs).1.length → (atM (spL gs).2 j).1 = canon (rnf (fun x => (atM (spL gs).2 x).2) (atG (shL gs).1 j))
  d : mvL (fun i => atI (spL gs).1 i == i) (atI (spL gs).1) gs = ((shL gs).1, pl)
  e : ∀ j : Int, 0 ≤ j → j < (shL gs).1.length → atI pl (atM (spL gs).2 j).2 = j
theorem atM_left {l m : List (S61 × Int)} {i : Int} (h1 : i < l.length) (h0 : 0 ≤ i) : atM (l ++ m) i = atM l i := by
  unfold atM;rw [List.getD_eq_getElem?_getD, List.getD_eq_getElem?_getD, List.getElem?_append_left (by omega)]
theorem atM_last (l : List (S61 × Int)) (x : S61 × Int) : atM (l ++ [x]) l.length = x := by
  simp [atM, List.getD_eq_getElem?_getD]
theorem share_inv {p s : Int} (gs : List S61) : okL p s gs → ∃ pl, SInv gs pl := by
  refine snoc_ind (P := fun gs => okL p s gs → ∃ pl, SInv gs pl) (fun _ => ⟨[], ⟨rfl, rfl, fun i i0 i1 => ?_, fun i i0 i1 => ?_, fun i i0 i1 => ?_, rfl, fun i i0 i1 => ?_⟩⟩) (fun gs g ih h => ?_) gs
  · exact absurd i1 (by simp; omega)
  · exact absurd i1 (by simp [shL]; omega)
  · exact absurd i1 (by simp [shL]; omega)
  · exact absurd i1 (by simp [shL]; omega)
  obtain ⟨h1, h2⟩ := okL_cut h;obtain ⟨pl, I⟩ := ih h1;have lt := shL_len gs;have ls := spL_len gs;have hsh := shL_shr gs h1
  have hg' : okG p s (shL gs).1.length (rnf (atI (shL gs).2) g) := hsh.new_ok h2 fun _ _ => trivial
  have key : canon (rnf (atI (spL gs).1) g) = canon (rnf (fun x => (atM (spL gs).2 x).2) (rnf (atI (shL gs).2) g)) := by
    rw [rnf_rnf]
    congr 1
    exact rnf_congr h2 fun x x0 x1 => (I.a x x0 x1).2.2
  have inj : ∀ x y, 0 ≤ x → x < ((shL gs).1.length : Int) → 0 ≤ y → y < ((shL gs).1.length : Int) → (atM (spL gs).2 x).2 = (atM (spL gs).2 y).2 → x = y := fun x y x0 x1 y0 y1 e => by
    have e1 := (I.b x x0 x1).2.2.1;have e2 := (I.b y y0 y1).2.2.1;rw [e, e2] at e1;exact e1.symm
  have fnd := find_par (canon (rnf (atI (spL gs).1) g)) (rnf (atI (shL gs).2) g) (spL gs).2 (shL gs).1 I.len fun j j0 j1 => by
    rw [I.c j j0 j1, key];exact canon_same inj (okL_at hsh.ok j0 j1) hg' (by omega) (Int.le_refl _)
  have hle := findS_le (shL gs).1 (rnf (atI (shL gs).2) g)
  have mono : ∀ k : Int, mvL (fun i => atI ((spL gs).1 ++ [k]) i == i) (atI ((spL gs).1 ++ [k])) gs = ((shL gs).1, pl) := fun k => by
    rw [← I.d]
    refine mvL_congr gs h1 fun x x0 x1 => ?_
    rw [atI_left (by omega) x0];exact ⟨rfl, rfl⟩
  by_cases hk : findS (shL gs).1 (rnf (atI (shL gs).2) g) < (shL gs).1.length
  · rw [if_pos hk] at fnd
    generalize hkk : findS (shL gs).1 (rnf (atI (shL gs).2) g) = k at *
    have es : spL (gs ++ [g]) = ((spL gs).1 ++ [(atM (spL gs).2 (k : Int)).2], (spL gs).2) := by
      rw [spL_snoc]; unfold spStep; rw [fnd]
    have et : shL (gs ++ [g]) = ((shL gs).1, (shL gs).2 ++ [(k : Int)]) := by
      rw [shL_snoc]; unfold shStep; simp only; rw [hkk, if_neg (by omega)]
    obtain ⟨bk0, bk1, bk2, bk3⟩ := I.b k (by omega) (by omega);refine ⟨pl ++ [0], ?_, ?_, ?_, ?_, ?_, ?_, ?_⟩
    · rw [es, et]; exact I.len
    · simp [I.pls]
    · rw [es, et]
      intro i i0 i1;simp only [List.length_append, List.length_cons, List.length_nil] at i1
      by_cases e : i < gs.length
      · rw [atI_left (by omega) i0, atI_left (by omega) i0]; exact I.a i i0 e
      · have hi : i = gs.length := by omega
        have p1 : atI ((spL gs).1 ++ [(atM (spL gs).2 (k : Int)).2]) i = (atM (spL gs).2 (k : Int)).2 := by rw [hi, ← ls, atI_last]
        have p2 : atI ((shL gs).2 ++ [(k : Int)]) i = k := by rw [hi, ← lt, atI_last]
        simp only;rw [p1, p2];exact ⟨by omega, by omega, rfl⟩
    · rw [es, et]
      intro j j0 j1;obtain ⟨b0, b1, b2, b3⟩ := I.b j j0 j1;simp only;refine ⟨b0, by simp; omega, ?_, ?_⟩
      · rw [atI_left (by omega) b0]; exact b2
      · rw [atI_left (by omega) b0]; exact b3
    · rw [es, et]
      exact I.c
    · rw [es, et]
      simp only;rw [mvL_snoc, mono];unfold mvStep;simp only [I.pls];rw [← ls, atI_last, if_neg];simp only [beq_iff_eq]
      omega
    · rw [es, et]
      intro j j0 j1;obtain ⟨b0, b1, b2, b3⟩ := I.b j j0 j1;simp only;rw [atI_left (by rw [I.pls]; exact b1) b0];exact I.e j j0 j1
  · rw [if_neg hk] at fnd
    have hk' : findS (shL gs).1 (rnf (atI (shL gs).2) g) = (shL gs).1.length := by omega
    have es : spL (gs ++ [g]) = ((spL gs).1 ++ [(gs.length : Int)], (spL gs).2 ++ [(canon (rnf (atI (spL gs).1) g), (gs.length : Int))]) := by
      rw [spL_snoc]; unfold spStep; rw [fnd]; simp only [ls]
    have et : shL (gs ++ [g]) = ((shL gs).1 ++ [rnf (atI (shL gs).2) g], (shL gs).2 ++ [((shL gs).1.length : Int)]) := by
      rw [shL_snoc]; unfold shStep; simp only; rw [hk', if_pos rfl]
    have mle : ∀ j : Int, 0 ≤ j → j < (shL gs).1.length → atM ((spL gs).2 ++ [(canon (rnf (atI (spL gs).1) g), (gs.length : Int))]) j = atM (spL gs).2 j := fun j j0 j1 => atM_left (by rw [I.len]; exact j1) j0
    have mla : atM ((spL gs).2 ++ [(canon (rnf (atI (spL gs).1) g), (gs.length : Int))]) (shL gs).1.length = (canon (rnf (atI (spL gs).1) g), (gs.length : Int)) := by
      rw [← I.len]; exact atM_last _ _
    refine ⟨pl ++ [((shL gs).1.length : Int)], ?_, ?_, ?_, ?_, ?_, ?_, ?_⟩
    · rw [es, et]; simp [I.len]
    · simp [I.pls]
    · rw [es, et]
      intro i i0 i1;simp only [List.length_append, List.length_cons, List.length_nil] at i1 ⊢
      by_cases e : i < gs.length
      · obtain ⟨a0, a1, a2⟩ := I.a i i0 e
        rw [atI_left (by omega) i0, atI_left (by omega) i0, mle _ a0 a1];exact ⟨a0, by omega, a2⟩
      · have hi : i = gs.length := by omega
        have p1 : atI ((spL gs).1 ++ [(gs.length : Int)]) i = gs.length := by rw [hi, ← ls, atI_last]
        have p2 : atI ((shL gs).2 ++ [((shL gs).1.length : Int)]) i = (shL gs).1.length := by rw [hi, ← lt, atI_last]
        rw [p1, p2, mla];exact ⟨by omega, by omega, rfl⟩
    · rw [es, et]
      intro j j0 j1;simp only [List.length_append, List.length_cons, List.length_nil] at j1 ⊢
      by_cases e : j < (shL gs).1.length
      · obtain ⟨b0, b1, b2, b3⟩ := I.b j j0 e
        rw [mle j j0 e, atI_left (by omega) b0, atI_left (by omega) b0];exact ⟨b0, by omega, b2, b3⟩
      · have hj : j = (shL gs).1.length := by omega
        have p1 : atI ((spL gs).1 ++ [(gs.length : Int)]) (gs.length : Int) = gs.length := by
          have := atI_last (spL gs).1 (gs.length : Int); rw [ls] at this; exact this
        have p2 : atI ((shL gs).2 ++ [((shL gs).1.length : Int)]) (gs.length : Int) = (shL gs).1.length := by
          have := atI_last (shL gs).2 ((shL gs).1.length : Int); rw [lt] at this; exact this
        rw [hj, mla];exact ⟨by show (0 : Int) ≤ (gs.length : Int); omega, by show (gs.length : Int) < _; omega, p2, p1⟩
    · rw [es, et]
      intro j j0 j1;simp only [List.length_append, List.length_cons, List.length_nil] at j1 ⊢
      by_cases e : j < (shL gs).1.length
      · rw [mle j j0 e, atG_left e j0, I.c j j0 e]
        congr 1
        exact rnf_congr (okL_at hsh.ok j0 e) fun x x0 x1 => by rw [mle x x0 (by omega)]
      · have hj : j = (shL gs).1.length := by omega
        rw [hj, mla, atG_last]
        show canon (rnf (atI (spL gs).1) g) = _
        refine key.trans ?_
        congr 1
        exact rnf_congr hg' fun x x0 x1 => by rw [mle x x0 x1]
    · rw [es, et]
      simp only;rw [mvL_snoc, mono];unfold mvStep;simp only [I.pls]
      have p1 : atI ((spL gs).1 ++ [(gs.length : Int)]) (gs.length : Int) = gs.length := by
        have := atI_last (spL gs).1 (gs.length : Int); rw [ls] at this; exact this
      rw [p1, if_pos (by simp)]
      congr 3
      refine rnf_congr h2 fun x x0 x1 => ?_
      obtain ⟨a0, a1, a2⟩ := I.a x x0 x1;rw [atI_left (by omega) x0, a2];exact I.e _ a0 a1
    · rw [es, et]
      intro j j0 j1;simp only [List.length_append, List.length_cons, List.length_nil] at j1
      by_cases e : j < (shL gs).1.length
      · obtain ⟨b0, b1, b2, b3⟩ := I.b j j0 e
        simp only;rw [mle j j0 e, atI_left (by rw [I.pls]; exact b1) b0];exact I.e j j0 e
      · have hj : j = (shL gs).1.length := by omega
        simp only;rw [hj, mla];have := atI_last pl ((shL gs).1.length : Int); rw [I.pls] at this; exact this
theorem share_moved {p s : Int} {gs : List S61} (h : okL p s gs) : ∃ pl, mvL (fun i => atI (spL gs).1 i == i) (atI (spL gs).1) gs = ((shL gs).1, pl) ∧ pl.length = gs.length ∧ ∀ i : Int, 0 ≤ i → i < gs.length → 0 ≤ atI (spL gs).1 i ∧ atI (spL gs).1 i < gs.length ∧ atI pl (atI (spL gs).1 i) = atI (shL gs).2 i := by
  obtain ⟨pl, I⟩ := share_inv gs h;refine ⟨pl, I.d, I.pls, fun i i0 i1 => ?_⟩;obtain ⟨a0, a1, a2⟩ := I.a i i0 i1;obtain ⟨b0, b1, _⟩ := I.b _ a0 a1;rw [a2];exact ⟨b0, b1, I.e _ a0 a1⟩
end Go.Proofs.Ytmlbliggbkfjnaa.L
/- Both tests of a prime answer alike, and what they answer; loops. -/
namespace Go.Proofs.Ytmlbliggbkfjnaa.L
open Go.RowKit Go.Proofs.YtmlbliggbkfjnaaW.PrintWords Go.Proofs.Ytmlbliggbkfjnaa.J
theorem u64_small {n : Int} (h0 : 0 ≤ n) (h1 : n < 18446744073709551616) : IntKind.u64.wrap n = n := by
  simp [IntKind.wrap, IntKind.signed, IntKind.bits]
  omega
theorem w64_small {n : Int} (h0 : -9223372036854775808 ≤ n) (h1 : n < 9223372036854775808) : wrap64 n = n := by
  unfold wrap64
  omega
def free (a : Int) : Prop := ∀ y : Fin 257, 2 ≤ y.val → ((y.val : Int) * (y.val : Int)) ≤ a → a % (y.val : Int) ≠ 0
def isP (a : Int) : Bool := decide (3 ≤ a ∧ a ≤ 65537 ∧ ∀ y : Fin 257, 2 ≤ y.val → ((y.val : Int) * (y.val : Int)) ≤ a → a % (y.val : Int) ≠ 0)
theorem free_of {a : Int} (h : a ≤ 65537) (hf : ∀ y : Fin 257, 2 ≤ y.val → ((y.val : Int) * (y.val : Int)) ≤ a → a % (y.val : Int) ≠ 0) (y : Int) (h2 : 2 ≤ y) (hy : y * y ≤ a) : a % y ≠ 0 := by
  have hb : y < 257 := by
    rcases Int.lt_or_le y 257 with h' | h'
    · exact h'
    · have : 257 * 257 ≤ y * y := Int.mul_le_mul h' h' (by omega) (by omega)
      omega
  have := hf ⟨y.toNat, by omega⟩ (show 2 ≤ y.toNat by omega);simp only at this;rw [show ((y.toNat : Nat) : Int) = y by omega] at this;exact this hy
theorem isP_iff (a : Int) : isP a = true ↔ 3 ≤ a ∧ a ≤ 65537 ∧ ∀ y : Int, 2 ≤ y → y * y ≤ a → a % y ≠ 0 := by
  unfold isP;rw [decide_eq_true_iff]
  constructor
  · rintro ⟨h1, h2, h3⟩
    exact ⟨h1, h2, fun y hy => free_of h2 h3 y hy⟩
  · rintro ⟨h1, h2, h3⟩
    exact ⟨h1, h2, fun y hy hq => h3 y.val (by omega) hq⟩
theorem sq_small {x : Int} (h0 : 0 ≤ x) (h1 : x ≤ 300) : 0 ≤ x * x ∧ x * x ≤ 90000 :=
  ⟨Int.mul_nonneg h0 h0, Int.mul_le_mul h1 h1 h0 (by omega)⟩
theorem ref_loop (a : Int) (h3 : 3 ≤ a) (ha : a ≤ 65537) : ∀ (m : Nat) (x : Int), 2 ≤ x → x + m = 258 → (∀ y : Int, 2 ≤ y → y < x → y * y ≤ a → a % y ≠ 0) → Ev (fun k => qka.l0 k a x) (isP a)
  | 0, x, h2, hx, hy => by
    have hb : isP a = true := (isP_iff a).2 ⟨h3, ha, fun y y2 yq => hy y y2 (by
      rcases Int.lt_or_le y x with h' | h'
      · exact h'
      · have : 257 * 257 ≤ y * y := Int.mul_le_mul (by omega) (by omega) (by omega) (by omega)
        omega) yq⟩
    rw [hb];refine Ev.step (f := fun k => some true) (fun k => ?_) (Ev.now _);have hq := sq_small (x := x) (by omega) (by omega)
    have : ¬ (x * x ≤ a) := by
      have : 257 * 257 ≤ x * x := Int.mul_le_mul (by omega) (by omega) (by omega) (by omega)
      omega
    simp only [qka.l0];rw [u64_small hq.1 (by omega), if_neg this]
  | m + 1, x, h2, hx, hy => by
    have hq := sq_small (x := x) (by omega) (by omega)
    by_cases hle : x * x ≤ a
    · by_cases hd : a % x = 0
      · have hb : isP a = false := by
          rw [Bool.eq_false_iff];intro h';exact ((isP_iff a).1 h').2.2 x h2 hle hd
        rw [hb];refine Ev.step (f := fun k => some false) (fun k => ?_) (Ev.now _);simp only [qka.l0];rw [u64_small hq.1 (by omega), if_pos hle, if_neg (show ¬ x = 0 by omega), if_pos (by rw [Int.tmod_eq_emod_of_nonneg (by omega)]; exact hd)]
      · refine Ev.step (f := fun k => qka.l0 k a (x + 1)) (fun k => ?_) (ref_loop a h3 ha m (x + 1) (by omega) (by omega) fun y y2 yx yq => ?_)
        · conv => lhs; simp only [qka.l0]
          rw [u64_small hq.1 (by omega), if_pos hle, if_neg (show ¬ x = 0 by omega), if_neg (by rw [Int.tmod_eq_emod_of_nonneg (by omega)]; exact hd), u64_small (show 0 ≤ x + 1 by omega) (by omega)]
        · rcases Int.lt_or_le y x with h' | h'
          · exact hy y y2 h' yq
          · obtain rfl : y = x := by omega
            exact hd
    · have hb : isP a = true := (isP_iff a).2 ⟨h3, ha, fun y y2 yq => hy y y2 (by
        rcases Int.lt_or_le y x with h' | h'
        · exact h'
        · have : x * x ≤ y * y := Int.mul_le_mul h' h' (by omega) (by omega)
          omega) yq⟩
      rw [hb];refine Ev.step (f := fun k => some true) (fun k => ?_) (Ev.now _);simp only [qka.l0];rw [u64_small hq.1 (by omega), if_neg hle]
theorem odd_loop (a : Int) (h3 : 3 ≤ a) (ha : a ≤ 65537) (hodd : a % 2 = 1) : ∀ (m : Nat) (x : Int), 3 ≤ x → x % 2 = 1 → x + 2 * m = 259 → (∀ y : Int, 2 ≤ y → y < x → y * y ≤ a → a % y ≠ 0) → Ev (fun k => qta.l0 k a x) (isP a)
  | 0, x, h2, hxo, hx, hy => by
    have hb : isP a = true := (isP_iff a).2 ⟨h3, ha, fun y y2 yq => hy y y2 (by
      rcases Int.lt_or_le y x with h' | h'
      · exact h'
      · have : 257 * 257 ≤ y * y := Int.mul_le_mul (by omega) (by omega) (by omega) (by omega)
        omega) yq⟩
    rw [hb];refine Ev.step (f := fun k => some true) (fun k => ?_) (Ev.now _);have hq := sq_small (x := x) (by omega) (by omega)
    have : ¬ (x * x ≤ a) := by
      have : 257 * 257 ≤ x * x := Int.mul_le_mul (by omega) (by omega) (by omega) (by omega)
      omega
    simp only [qta.l0];rw [u64_small hq.1 (by omega), if_neg this]
  | m + 1, x, h2, hxo, hx, hy => by
    have hq := sq_small (x := x) (by omega) (by omega)
    by_cases hle : x * x ≤ a
    · by_cases hd : a % x = 0
      · have hb : isP a = false := by
          rw [Bool.eq_false_iff];intro h';exact ((isP_iff a).1 h').2.2 x (by omega) hle hd
        rw [hb];refine Ev.step (f := fun k => some false) (fun k => ?_) (Ev.now _);simp only [qta.l0];rw [u64_small hq.1 (by omega), if_pos hle, if_neg (show ¬ x = 0 by omega), if_pos (by rw [Int.tmod_eq_emod_of_nonneg (by omega)]; exact hd)]
      · refine Ev.step (f := fun k => qta.l0 k a (x + 2)) (fun k => ?_) (odd_loop a h3 ha hodd m (x + 2) (by omega) (by omega) (by omega) fun y y2 yx yq => ?_)
        · conv => lhs; simp only [qta.l0]
          rw [u64_small hq.1 (by omega), if_pos hle, if_neg (show ¬ x = 0 by omega), if_neg (by rw [Int.tmod_eq_emod_of_nonneg (by omega)]; exact hd), u64_small (show 0 ≤ x + 2 by omega) (by omega)]
        · rcases Int.lt_or_le y x with h' | h'
          · exact hy y y2 h' yq
          · rcases Int.lt_or_le x y with h'' | h''
            · obtain rfl : y = x + 1 := by omega
              intro h0;have h1 : (2 : Int) ∣ a := Int.dvd_trans (Int.dvd_of_emod_eq_zero (by omega)) (Int.dvd_of_emod_eq_zero h0);have := Int.emod_eq_zero_of_dvd h1
              omega
            · obtain rfl : y = x := by omega
              exact hd
    · have hb : isP a = true := (isP_iff a).2 ⟨h3, ha, fun y y2 yq => hy y y2 (by
        rcases Int.lt_or_le y x with h' | h'
        · exact h'
        · have : x * x ≤ y * y := Int.mul_le_mul h' h' (by omega) (by omega)
          omega) yq⟩
      rw [hb];refine Ev.step (f := fun k => some true) (fun k => ?_) (Ev.now _);simp only [qta.l0];rw [u64_small hq.1 (by omega), if_neg hle]
theorem not_isP {a : Int} (h : ¬ (3 ≤ a ∧ a ≤ 65537)) : isP a = false := by
  rw [Bool.eq_false_iff];intro h';have := (isP_iff a).1 h';exact h ⟨this.1, this.2.1⟩
theorem ref_is (a : Int) : Ev (fun k => qka.f k a) (isP a) := by
  by_cases h3 : a < 3
  · rw [not_isP (by omega)]
    refine Ev.step (f := fun k => some false) (fun k => ?_) (Ev.now _);simp [qka.f, qka.j0, h3]
  · by_cases hb : a > 65537
    · rw [not_isP (by omega)]
      refine Ev.step (f := fun k => some false) (fun k => ?_) (Ev.now _);simp [qka.f, qka.j0, h3, hb]
    · refine Ev.step (f := fun k => qka.l0 k a 2) (fun k => ?_) (ref_loop a (by omega) (by omega) 256 2 (by omega) (by omega) fun y y2 yx => by omega)
      simp [qka.f, qka.j0, h3, hb]
theorem field_is (a : Int) : Ev (fun k => qta.f k a) (isP a) := by
  by_cases h3 : a < 3
  · rw [not_isP (by omega)]
    refine Ev.step (f := fun k => some false) (fun k => ?_) (Ev.now _);simp [qta.f, qta.j0, h3]
  · by_cases hb : a > 65537
    · rw [not_isP (by omega)]
      refine Ev.step (f := fun k => some false) (fun k => ?_) (Ev.now _);simp [qta.f, qta.j0, h3, hb]
    · by_cases ho : a % 2 = 0
      · have hp : isP a = false := by
          rw [Bool.eq_false_iff];intro h';exact ((isP_iff a).1 h').2.2 2 (by omega) (by omega) ho
        rw [hp];refine Ev.step (f := fun k => some false) (fun k => ?_) (Ev.now _)
        have ht : Int.tmod a 2 = 0 := by rw [Int.tmod_eq_emod_of_nonneg (by omega)]; exact ho
        simp [qta.f, qta.j0, h3, hb, ht]
      · refine Ev.step (f := fun k => qta.l0 k a 3) (fun k => ?_) (odd_loop a (by omega) (by omega) (by omega) 128 3 (by omega) (by omega) (by omega) fun y y2 yx yq => ?_)
        · have ht : ¬ Int.tmod a 2 = 0 := by rw [Int.tmod_eq_emod_of_nonneg (by omega)]; exact ho
          simp [qta.f, qta.j0, h3, hb, ht]
        · obtain rfl : y = 2 := by omega
          exact ho
theorem Ev.fuel {α : Type} {g : Nat → Option α} {r : α} (n : Nat) (h : ∀ k, g (k + n) = some r) : Ev g r :=
  ⟨n, fun k hk => by obtain ⟨m, rfl⟩ := Nat.exists_eq_add_of_le hk; rw [Nat.add_comm]; exact h m⟩
theorem Ev.steps {α : Type} {g f : Nat → Option α} {r : α} (n : Nat) (h : ∀ k, g (k + n) = f k) (hf : Ev f r) : Ev g r := by
  obtain ⟨K, hK⟩ := hf;exact ⟨K + n, fun k hk => by obtain ⟨m, rfl⟩ := Nat.exists_eq_add_of_le hk; rw [show K + n + m = (K + m) + n by omega, h]; exact hK _ (by omega)⟩
theorem up {α : Type} {g : Nat → Nat → Option α} {R : Nat → α} {n : Nat} (last : Ev (fun k => g k n) (R n)) (step : ∀ i, i < n → Ev (fun k => g k (i + 1)) (R (i + 1)) → Ev (fun k => g k i) (R i)) : ∀ m i : Nat, i + m = n → Ev (fun k => g k i) (R i)
  | 0, i, h => by obtain rfl : i = n := by omega
                  exact last
  | m + 1, i, h => step i (by omega) (up last step m (i + 1) (by omega))
theorem up0 {α : Type} {g : Nat → Nat → Option α} {R : Nat → α} {n : Nat} (last : Ev (fun k => g k n) (R n)) (step : ∀ i, i < n → Ev (fun k => g k (i + 1)) (R (i + 1)) → Ev (fun k => g k i) (R i)) : Ev (fun k => g k 0) (R 0) := up last step n 0 (by omega)
theorem wadd {i : Nat} (h : i < 9223372036854775807) : wrap64 ((i : Int) + 1) = ((i + 1 : Nat) : Int) := by rw [w64_small (by omega) (by omega)]; omega
theorem rd_at (l : List Int) (i : Int) : rd l i = atI l i := rfl
theorem u64_wf {n : Int} (h : (Lit.int .u64 n).wf = true) : 0 ≤ n ∧ n < 18446744073709551616 := by
  simp [Lit.wf, IntKind.min, IntKind.max, IntKind.signed, IntKind.bits] at h
  omega
end Go.Proofs.Ytmlbliggbkfjnaa.L
/- Both checks of a circuit answer alike, and what they answer. -/
namespace Go.Proofs.Ytmlbliggbkfjnaa.L
open Go.RowKit Go.Proofs.YtmlbliggbkfjnaaW.PrintWords Go.Proofs.Ytmlbliggbkfjnaa.J
def gateV (p s i : Int) (g : S61) : Int :=
  if g.f0 = 1 then (if g.f2 ≠ 0 ∨ g.f3 ≠ 0 then 4 else if g.f1 < 0 ∨ g.f1 ≥ s then 13 else 0)
  else if g.f0 = 2 then (if g.f1 ≠ 0 ∨ g.f2 ≠ 0 then 4 else if g.f3 ≥ p then 2 else 0)
  else if g.f0 = 3 ∨ g.f0 = 4 ∨ g.f0 = 5 then (if g.f3 ≠ 0 then 4 else if g.f1 < 0 ∨ g.f1 ≥ i ∨ g.f2 < 0 ∨ g.f2 ≥ i then 13 else 0)
  else if g.f0 = 6 then (if g.f2 ≠ 0 then 4 else if g.f1 < 0 ∨ g.f1 ≥ i then 13 else if g.f3 ≥ p then 2 else 0)
  else 4
theorem gateV_ok {p s i : Int} {g : S61} (h3 : 0 ≤ g.f3) : gateV p s i g = 0 ↔ okG p s i g := by
  unfold gateV okG
  split
  · split
    · simp; omega
    · split
      · simp; omega
      · simp; omega
  split
  · split
    · simp; omega
    · split
      · simp; omega
      · simp; omega
  split
  · split
    · simp; omega
    · split
      · simp; omega
      · simp; omega
  split
  · split
    · simp; omega
    · split
      · simp; omega
      · split
        · simp; omega
        · simp; omega
  · simp; omega
theorem within_is (b s : Int) : circ_Gate_1.f b s = some (!decide (b < 0 ∨ b ≥ s)) := by
  unfold circ_Gate_1.f
  by_cases h : b < 0
  · rw [if_neg (by omega)]; simp [h]
  · rw [if_pos (by omega)]
    by_cases h' : b < s
    · have : ¬ (b < 0 ∨ b ≥ s) := by omega
      simp [this, h']
    · have : (b < 0 ∨ b ≥ s) := by omega
      simp [this, h']
theorem circ_gate (p s i : Int) (g : S61) (hp : 0 < p) : Ev (fun k => circ_Gate.f k p s i g.f0 g.f1 g.f2 g.f3) (gateV p s i g) := by
  refine Ev.fuel 10 fun k => ?_
  unfold gateV;obtain ⟨a, b, c, d⟩ := g;simp only
  have hp' : ¬ p ≤ 0 := by omega
  by_cases h1 : a = 1
  · subst h1
    have e := within_is b s
    by_cases hb : b < 0 ∨ b ≥ s
    · rw [qqT hb] at e
      by_cases hc : c = 0 <;> by_cases hd : d = 0 <;> simp only [circ_Gate.f, circ_named.f, circ_Gate.j0, circ_Gate.j1, e, if_pos hb] <;> simp [hc, hd, hp']
    · rw [qqF hb] at e
      by_cases hc : c = 0 <;> by_cases hd : d = 0 <;> simp only [circ_Gate.f, circ_named.f, circ_Gate.j0, circ_Gate.j1, e, if_neg hb] <;> simp [hc, hd, hp']
  by_cases h2 : a = 2
  · subst h2
    by_cases hb : b = 0 <;> by_cases hc : c = 0 <;> by_cases hd : d ≥ p <;> simp [circ_Gate.f, circ_named.f, circ_Gate.j0, circ_Gate.j1, hb, hc, hd]
  by_cases h3 : a = 3 ∨ a = 4 ∨ a = 5
  · have e : circ_named.f (k + 10) a = some (false, true, true, false, true) := by
      rcases h3 with rfl | rfl | rfl <;> simp [circ_named.f, circ_named.j0]
    rw [if_neg h1, if_neg h2, if_pos h3];unfold circ_Gate.f;rw [e];have e1 := within_is b i;have e2 := within_is c i
    by_cases hb : b < 0 ∨ b ≥ i
    · rw [qqT hb] at e1
      have hh : b < 0 ∨ b ≥ i ∨ c < 0 ∨ c ≥ i := by omega
      by_cases hd : d = 0 <;> simp only [circ_Gate.j0, circ_Gate.j1, e1, e2, if_pos hh] <;> simp [hd, hp']
    · rw [qqF hb] at e1
      by_cases hc : c < 0 ∨ c ≥ i
      · rw [qqT hc] at e2
        have hh : b < 0 ∨ b ≥ i ∨ c < 0 ∨ c ≥ i := by omega
        by_cases hd : d = 0 <;> simp only [circ_Gate.j0, circ_Gate.j1, e1, e2, if_pos hh] <;> simp [hd, hp']
      · rw [qqF hc] at e2
        have hh : ¬ (b < 0 ∨ b ≥ i ∨ c < 0 ∨ c ≥ i) := by omega
        by_cases hd : d = 0 <;> simp only [circ_Gate.j0, circ_Gate.j1, e1, e2, if_neg hh] <;> simp [hd, hp']
  by_cases h6 : a = 6
  · subst h6
    have e := within_is b i
    by_cases hb : b < 0 ∨ b ≥ i
    · rw [qqT hb] at e
      by_cases hc : c = 0 <;> by_cases hd : d ≥ p <;> simp only [circ_Gate.f, circ_named.f, circ_named.j0, circ_Gate.j0, circ_Gate.j1, e, if_pos hb] <;> simp [hc, hd]
    · rw [qqF hb] at e
      by_cases hc : c = 0 <;> by_cases hd : d ≥ p <;> simp only [circ_Gate.f, circ_named.f, circ_named.j0, circ_Gate.j0, circ_Gate.j1, e, if_neg hb] <;> simp [hc, hd]
  · have e : circ_named.f (k + 10) a = some (false, false, false, false, false) := by
      have h5 : a ≠ 3 ∧ a ≠ 4 ∧ a ≠ 5 := by omega
      simp [circ_named.f, circ_named.j0, h1, h2, h5, h6]
    rw [if_neg h1, if_neg h2, if_neg h3, if_neg h6];unfold circ_Gate.f;rw [e]
    rfl
theorem ref_gate (p s i : Int) (g : S61) : Ev (fun k => qca.f k p s i g.f0 g.f1 g.f2 g.f3) (gateV p s i g) := by
  refine Ev.fuel 10 fun k => ?_
  unfold gateV;obtain ⟨a, b, c, d⟩ := g;simp only
  by_cases h1 : a = 1
  · subst h1
    by_cases hc : c = 0 <;> by_cases hd : d = 0 <;> by_cases hb : b < 0 <;> by_cases hb' : b ≥ s <;> simp [qca.f, qca.j0, qca.j1, qca.j2, qca.j3, qca.j4, hb, hb', hc, hd]
  by_cases h2 : a = 2
  · subst h2
    by_cases hb : b = 0 <;> by_cases hc : c = 0 <;> by_cases hd : d ≥ p <;> simp [qca.f, qca.j0, qca.j1, qca.j2, qca.j3, qca.j4, hb, hc, hd]
  by_cases h3 : a = 3 ∨ a = 4 ∨ a = 5
  · have e : qca.f (k + 10) p s i a b c d = qca.j1 (k + 9) p s i true true false a b c d := by
      rcases h3 with rfl | rfl | rfl <;> simp [qca.f, qca.j0]
    have h1' : ¬ a = 1 := h1;rw [if_neg h1, if_neg h2, if_pos h3, e]
    by_cases hd : d = 0 <;> by_cases hb : b < 0 <;> by_cases hb' : b ≥ i <;> by_cases hc : c < 0 <;> by_cases hc' : c ≥ i <;> simp [qca.j1, qca.j2, qca.j3, qca.j4, h1', hd, hb, hb', hc, hc']
  by_cases h6 : a = 6
  · subst h6
    by_cases hc : c = 0 <;> by_cases hb : b < 0 <;> by_cases hb' : b ≥ i <;> by_cases hd : d ≥ p <;> simp [qca.f, qca.j0, qca.j1, qca.j2, qca.j3, qca.j4, hd, hb, hb', hc]
  · have h5 : a ≠ 3 ∧ a ≠ 4 ∧ a ≠ 5 := by omega
    rw [if_neg h1, if_neg h2, if_neg h3, if_neg h6];simp [qca.f, qca.j0, h1, h2, h5, h6]
def firstE {β : Type} (f : Int → β → Int) : Nat → List β → Int
  | _, [] => 0
  | i, b :: bs => if f i b = 0 then firstE f (i + 1) bs else f i b
theorem firstE_step {β : Type} (f : Int → β → Int) (l : List β) (i : Nat) (h : i < l.length) : firstE f i (l.drop i) = if f i l[i] = 0 then firstE f (i + 1) (l.drop (i + 1)) else f i l[i] := by
  rw [List.drop_eq_getElem_cons h]; rfl
theorem firstE_end {β : Type} (f : Int → β → Int) (l : List β) : firstE f l.length (l.drop l.length) = 0 := by
  rw [List.drop_of_length_le (Nat.le_refl _)]; rfl
theorem firstE_zero {β : Type} (f : Int → β → Int) : ∀ (l : List β) (i : Nat), firstE f i l = 0 ↔ ∀ (j : Nat) b, l[j]? = some b → f ((i + j : Nat) : Int) b = 0
  | [], i => by simp [firstE]
  | b :: l, i => by
    unfold firstE
    constructor
    · intro h j c hc
      split at h
      · rename_i h0
        match j, hc with
        | 0, hc => obtain rfl : b = c := by simpa using hc
                   exact h0
        | j + 1, hc =>
          have := (firstE_zero f l (i + 1)).1 h j c (by simpa using hc);rw [show i + (j + 1) = i + 1 + j by omega]; exact this
      · rename_i h0; exact absurd h h0
    · intro h
      rw [if_pos (show f (i : Int) b = 0 from h 0 b rfl)]
      refine (firstE_zero f l (i + 1)).2 fun j c hc => ?_
      have := h (j + 1) c (by simpa using hc);rw [show i + (j + 1) = i + 1 + j by omega] at this; exact this
def rise (m : Int) : List Int → Bool
  | [] => true
  | x :: xs => decide (m < x ∧ x ≤ 13) && rise x xs
theorem rise_len : ∀ (l : List Int) (m : Int), m ≤ 13 → rise m l = true → (l.length : Int) ≤ 13 - m
  | [], m, h, _ => by simp only [List.length_nil]; omega
  | x :: xs, m, _, h => by
    simp only [rise, Bool.and_eq_true, decide_eq_true_eq] at h;have := rise_len xs x h.1.2 h.2;simp only [List.length_cons]; omega
def badX (n : Int) (l : List Int) : Bool := l.any fun x => decide (x < 0) || decide (x ≥ n)
def exitV (n : Int) (x : S66) : Int := if rise 0 x.f0 = true then (if (x.f1.length : Int) > 1024 then 3 else if badX n x.f1 = true then 13 else 0) else 2
theorem circ_exit (n : Int) (x : S66) (hl : x.f0.length ≤ maxLen) : Ev (fun k => circ_Exit.f k n x.f0 x.f1) (exitV n x) := by
  have hm : x.f0.length ≤ 9223372036854775807 := by simp only [maxLen] at hl; omega
  unfold circ_Exit.f
  have key : ∀ (m i : Nat) (last : Int), i + m = x.f0.length → Ev (fun k => circ_Exit.l0 k last x.f0 (x.f0.length : Int) (i : Int) n x.f0 x.f1) (if rise last (x.f0.drop i) = true then (if (x.f1.length : Int) > 1024 then 3 else if badX n x.f1 = true then 13 else 0) else 2) := by
    intro m
    induction m with
    | zero =>
      intro i last hi;rw [List.drop_of_length_le (by omega)]
      refine Ev.fuel 1 fun k => ?_
      simp only [circ_Exit.l0, rise, if_true];rw [if_neg (by omega)];unfold badX qna.f
      split
      · rfl
      · simp only [Option.bind_some]
        split <;> rfl
    | succ m ih =>
      intro i last hi
      have hlt : i < x.f0.length := by omega
      have hr : rd x.f0 (i : Int) = x.f0[i] := by simp [rd, List.getD_eq_getElem?_getD, hlt]
      rw [List.drop_eq_getElem_cons hlt]
      by_cases h1 : x.f0[i] ≤ last
      · refine Ev.step (f := fun k => some 2) (fun k => ?_) ?_
        · simp only [circ_Exit.l0]
          rw [if_pos (by omega), if_pos (by omega), if_pos (by omega), hr, if_pos h1]
        · have hf : rise last (x.f0[i] :: x.f0.drop (i + 1)) = false := by
            simp only [rise];rw [show decide (last < x.f0[i] ∧ x.f0[i] ≤ 13) = false by rw [decide_eq_false_iff_not]; omega, Bool.false_and]
          rw [if_neg (by rw [hf]; decide)]; exact Ev.now _
      by_cases h2 : x.f0[i] > 13
      · refine Ev.step (f := fun k => some 2) (fun k => ?_) ?_
        · simp only [circ_Exit.l0]
          rw [if_pos (by omega), if_pos (by omega), if_pos (by omega), hr, if_neg h1, if_pos h2]
        · have hf : rise last (x.f0[i] :: x.f0.drop (i + 1)) = false := by
            simp only [rise];rw [show decide (last < x.f0[i] ∧ x.f0[i] ≤ 13) = false by rw [decide_eq_false_iff_not]; omega, Bool.false_and]
          rw [if_neg (by rw [hf]; decide)]; exact Ev.now _
      · have hd : decide (last < x.f0[i] ∧ x.f0[i] ≤ 13) = true := by simp; omega
        have he : rise last (x.f0[i] :: x.f0.drop (i + 1)) = rise x.f0[i] (x.f0.drop (i + 1)) := by
          simp only [rise];rw [hd, Bool.true_and]
        rw [he];refine Ev.step (f := fun k => circ_Exit.l0 k x.f0[i] x.f0 (x.f0.length : Int) ((i + 1 : Nat) : Int) n x.f0 x.f1) (fun k => ?_) (ih (i + 1) x.f0[i] (by omega));simp only [circ_Exit.l0];rw [if_pos (by omega), if_pos (by omega), if_pos (by omega), hr, if_neg h1, if_neg h2, wadd (by omega)]
  exact key x.f0.length 0 0 (by omega)
theorem ref_rising (l : List Int) (hl : l.length ≤ maxLen) : Ev (fun k => qja.f k 13 l) (rise 0 l) := by
  have hm : l.length ≤ 9223372036854775807 := by simp only [maxLen] at hl; omega
  unfold qja.f
  have key : ∀ (m i : Nat), i + m = l.length → (0 < i → 1 ≤ atI l ((i : Int) - 1)) → Ev (fun k => qja.l0 k 13 l l (l.length : Int) (i : Int)) (rise (if i = 0 then 0 else atI l ((i : Int) - 1)) (l.drop i)) := by
    intro m
    induction m with
    | zero =>
      intro i hi _;rw [List.drop_of_length_le (by omega)]
      refine Ev.fuel 1 fun k => ?_
      simp only [qja.l0, rise];rw [if_neg (by omega)]
    | succ m ih =>
      intro i hi h0
      have hlt : i < l.length := by omega
      have hr : rd l (i : Int) = l[i] := by simp [rd, List.getD_eq_getElem?_getD, hlt]
      have ha : atI l ((i + 1 : Nat) - 1 : Int) = l[i] := by rw [show ((i + 1 : Nat) - 1 : Int) = (i : Int) by omega]; exact hr
      rw [List.drop_eq_getElem_cons hlt];simp only [rise]
      have stop : (l[i] < 1 ∨ l[i] > 13 ∨ (0 < i ∧ atI l ((i : Int) - 1) ≥ l[i])) → Ev (fun k => qja.l0 k 13 l l (l.length : Int) (i : Int)) false := by
        intro hs
        refine Ev.fuel 1 fun k => ?_
        simp only [qja.l0];rw [if_pos (by omega), if_pos (by omega), if_pos (by omega), hr]
        by_cases a1 : l[i] < 1
        · rw [if_pos a1]
        rw [if_neg a1]
        by_cases a2 : l[i] > 13
        · rw [if_pos a2]
        rw [if_neg a2]
        have a3 : 0 < i ∧ atI l ((i : Int) - 1) ≥ l[i] := by omega
        rw [if_pos (by omega), w64_small (by omega) (by omega), if_pos (by omega), if_pos (by omega), if_pos (by exact a3.2)]
      by_cases c : l[i] < 1 ∨ l[i] > 13 ∨ (0 < i ∧ atI l ((i : Int) - 1) ≥ l[i])
      · have e : decide ((if i = 0 then 0 else atI l ((i : Int) - 1)) < l[i] ∧ l[i] ≤ 13) = false := by
          rw [decide_eq_false_iff_not]
          split
          · omega
          · rename_i hne
            have := h0 (by omega)
            omega
        rw [e, Bool.false_and];exact stop c
      · have e : decide ((if i = 0 then 0 else atI l ((i : Int) - 1)) < l[i] ∧ l[i] ≤ 13) = true := by
          rw [decide_eq_true_iff]
          split <;> omega
        rw [e, Bool.true_and];have := ih (i + 1) (by omega) (fun _ => by rw [ha]; omega);rw [if_neg (by omega), ha] at this;refine Ev.step (f := fun k => qja.l0 k 13 l l (l.length : Int) ((i + 1 : Nat) : Int)) (fun k => ?_) this;simp only [qja.l0];rw [if_pos (by omega), if_pos (by omega), if_pos (by omega), hr, if_neg (by omega), if_neg (by omega), wadd (by omega)]
        by_cases hi0 : (i : Int) > 0
        · rw [if_pos hi0, w64_small (by omega) (by omega), if_pos (by omega), if_pos (by omega), if_neg (by show ¬ (atI l ((i : Int) - 1) ≥ l[i]); omega)]
        · rw [if_neg hi0]
  have := key l.length 0 (by omega) (by omega)
  simpa using this
theorem ref_exit (n : Int) (x : S66) (hl : x.f0.length ≤ maxLen) : Ev (fun k => qma.f k n x.f0 x.f1) (exitV n x) := by
  unfold qma.f exitV;refine Ev.bind (ref_rising x.f0 hl) ?_
  by_cases hr : rise 0 x.f0 = true
  · simp only [if_pos hr]
    by_cases h1 : (x.f1.length : Int) > 1024
    · simp only [if_pos h1]; exact Ev.now _
    simp only [if_neg h1]
    refine up0 (g := fun k i => qma.l0 k n x.f1 (x.f1.length : Int) (i : Int)) (R := fun i => if badX n (x.f1.drop i) = true then 13 else 0) (n := x.f1.length) ?_ fun i hi h => ?_
    · rw [List.drop_of_length_le (Nat.le_refl _)]
      refine Ev.fuel 1 fun k => ?_
      simp only [qma.l0];rw [if_neg (by omega)]
      rfl
    · have hr : rd x.f1 (i : Int) = x.f1[i] := by simp [rd, List.getD_eq_getElem?_getD, hi]
      rw [List.drop_eq_getElem_cons hi];unfold badX at h ⊢;rw [List.any_cons]
      by_cases a1 : x.f1[i] < 0
      · refine Ev.fuel 1 fun k => ?_
        simp only [qma.l0];rw [if_pos (by omega), if_pos (by omega), if_pos (by omega), hr, if_pos a1];simp [a1]
      by_cases a2 : x.f1[i] ≥ n
      · refine Ev.fuel 1 fun k => ?_
        simp only [qma.l0];rw [if_pos (by omega), if_pos (by omega), if_pos (by omega), hr, if_neg a1, if_pos a2];simp [a2]
      · rw [show (decide (x.f1[i] < 0) || decide (x.f1[i] ≥ n)) = false by simp; omega, Bool.false_or]
        refine Ev.step (f := fun k => qma.l0 k n x.f1 (x.f1.length : Int) ((i + 1 : Nat) : Int)) (fun k => ?_) h;simp only [qma.l0];rw [if_pos (by omega), if_pos (by omega), if_pos (by omega), hr, if_neg a1, if_neg a2, wadd (by omega)]
  · simp only [if_neg hr]; exact Ev.now _
def badS (s : List S64) : Bool := s.any fun x => decide (x.f0 < 1) || decide (x.f0 > 13)
def checkV (p : Int) (s : List S64) (g : List S61) (x : List S66) : Int :=
  if isP p = true then (if (s.length : Int) > 256 ∨ (g.length : Int) > 65536 ∨ (x.length : Int) > 4096 then 3 else if badS s = true then 2 else
    if firstE (gateV p s.length) 0 g = 0 then firstE (fun _ => exitV g.length) 0 x else firstE (gateV p s.length) 0 g) else 2
theorem rdX_at {x : List S66} {i : Nat} (h : i < x.length) : rd_T66 x (i : Int) = x[i] := by simp [rd_T66, List.getD_eq_getElem?_getD, h]
theorem rdG_get {x : List S61} {i : Nat} (h : i < x.length) : rd_T61 x (i : Int) = x[i] := by simp [rd_T61, List.getD_eq_getElem?_getD, h]
theorem rdS_at {x : List S64} {i : Nat} (h : i < x.length) : rd_T64 x (i : Int) = x[i] := by simp [rd_T64, List.getD_eq_getElem?_getD, h]
theorem circ_check_exits (s : List S64) (g : List S61) (x : List S66) (hx : (x.length : Int) ≤ 4096) (hl : ∀ e ∈ x, e.f0.length ≤ maxLen) : Ev (fun k => circ_Check.l1 k x (x.length : Int) 0 s g x) (firstE (fun _ => exitV g.length) 0 x) := by
  refine up0 (g := fun k i => circ_Check.l1 k x (x.length : Int) (i : Int) s g x) (R := fun i => firstE (fun _ => exitV g.length) i (x.drop i)) (n := x.length) ?_ fun i hi h => ?_
  · rw [firstE_end]
    refine Ev.fuel 1 fun k => ?_
    simp only [circ_Check.l1];rw [if_neg (by omega)]
  · rw [firstE_step _ _ _ hi]
    refine Ev.step (f := fun k => (circ_Exit.f k (g.length : Int) x[i].f0 x[i].f1).bind fun aa => (if aa = 0 then (circ_Check.l1 k x (x.length : Int) ((i + 1 : Nat) : Int) s g x) else (some aa))) (fun k => ?_) (Ev.bind (circ_exit _ x[i] (hl _ (List.getElem_mem hi))) ?_)
    · simp only [circ_Check.l1]
      rw [if_pos (by omega), if_pos (by omega), if_pos (by omega), rdX_at hi, wadd (by omega)]
    · by_cases e : exitV g.length x[i] = 0
      · simp only [if_pos e]; exact h
      · simp only [if_neg e]; exact Ev.now _
theorem circ_check (p : Int) (s : List S64) (g : List S61) (x : List S66) (hl : ∀ e ∈ x, e.f0.length ≤ maxLen) : Ev (fun k => circ_Check.f k p s g x) (checkV p s g x) := by
  unfold circ_Check.f checkV;refine Ev.bind (field_is p) ?_
  by_cases hp : isP p = true
  · simp only [if_pos hp]
    have hp3 := ((isP_iff p).1 hp).1
    have j0t : Ev (fun k => circ_Check.j0 k p true s g x) 3 := Ev.fuel 1 fun k => by simp [circ_Check.j0]
    by_cases h1 : (s.length : Int) > 256
    · simp only [if_pos h1, if_pos (show (s.length : Int) > 256 ∨ (g.length : Int) > 65536 ∨ (x.length : Int) > 4096 from .inl h1)]; exact j0t
    by_cases h2 : (g.length : Int) > 65536
    · simp only [if_neg h1, if_pos h2, if_pos (show (s.length : Int) > 256 ∨ (g.length : Int) > 65536 ∨ (x.length : Int) > 4096 from .inr (.inl h2))]; exact j0t
    by_cases h3 : (x.length : Int) > 4096
    · simp only [if_neg h1, if_neg h2, qqT h3, if_pos (show (s.length : Int) > 256 ∨ (g.length : Int) > 65536 ∨ (x.length : Int) > 4096 from .inr (.inr h3))]; exact j0t
    simp only [if_neg h1, if_neg h2, qqF h3, if_neg (show ¬ ((s.length : Int) > 256 ∨ (g.length : Int) > 65536 ∨ (x.length : Int) > 4096) by omega)]
    have hs : api_Slot_60.f s = some (badS s) := by
      unfold api_Slot_60.f badS
      congr 2
      funext y
      unfold circ_Check_1.f
      by_cases hy : y.f0 < 1
      · simp [hy]
      · simp [hy]
    refine Ev.step (f := fun k => (api_Slot_60.f s).bind fun ab => (if ab = true then (some 2) else (circ_Check.l0 k p g (g.length : Int) 0 s g x))) (fun k => by simp [circ_Check.j0]) ?_;rw [hs]
    by_cases hb : badS s = true
    · simp only [Option.bind_some, if_pos hb]; exact Ev.now _
    simp only [Option.bind_some, if_neg hb];have hx := circ_check_exits s g x (by omega) hl
    refine up0 (g := fun k i => circ_Check.l0 k p g (g.length : Int) (i : Int) s g x) (R := fun i => if firstE (gateV p s.length) i (g.drop i) = 0 then firstE (fun _ => exitV g.length) 0 x else firstE (gateV p s.length) i (g.drop i)) (n := g.length) ?_ fun i hi h => ?_
    · rw [firstE_end, if_pos rfl]
      refine Ev.step (f := fun k => circ_Check.l1 k x (x.length : Int) 0 s g x) (fun k => ?_) hx;simp only [circ_Check.l0];rw [if_neg (by omega)]
    · rw [firstE_step _ _ _ hi]
      refine Ev.step (f := fun k => (circ_Gate.f k p (s.length : Int) (i : Int) g[i].f0 g[i].f1 g[i].f2 g[i].f3).bind fun aa => (if aa = 0 then (circ_Check.l0 k p g (g.length : Int) ((i + 1 : Nat) : Int) s g x) else (some aa))) (fun k => ?_) (Ev.bind (circ_gate p _ _ g[i] (by omega)) ?_)
      · simp only [circ_Check.l0]
        rw [if_pos (by omega), if_pos (by omega), if_pos (by omega), rdG_get hi, wadd (by omega)]
      · by_cases e : gateV p s.length i g[i] = 0
        · simp only [if_pos e]; exact h
        · simp only [if_neg e]; exact Ev.now _
  · simp only [if_neg hp]; exact Ev.now _
theorem ref_check_exits (s : List S64) (g : List S61) (x : List S66) (hx : (x.length : Int) ≤ 4096) (hl : ∀ e ∈ x, e.f0.length ≤ maxLen) : Ev (fun k => qda.l2 k x (x.length : Int) 0 s g x) (firstE (fun _ => exitV g.length) 0 x) := by
  refine up0 (g := fun k i => qda.l2 k x (x.length : Int) (i : Int) s g x) (R := fun i => firstE (fun _ => exitV g.length) i (x.drop i)) (n := x.length) ?_ fun i hi h => ?_
  · rw [firstE_end]
    refine Ev.fuel 1 fun k => ?_
    simp only [qda.l2];rw [if_neg (by omega)]
  · rw [firstE_step _ _ _ hi]
    refine Ev.step (f := fun k => (qma.f k (g.length : Int) x[i].f0 x[i].f1).bind fun aa => (if aa = 0 then (qda.l2 k x (x.length : Int) ((i + 1 : Nat) : Int) s g x) else (some aa))) (fun k => ?_) (Ev.bind (ref_exit _ x[i] (hl _ (List.getElem_mem hi))) ?_)
    · simp only [qda.l2]
      rw [if_pos (by omega), if_pos (by omega), if_pos (by omega), rdX_at hi, wadd (by omega)]
    · by_cases e : exitV g.length x[i] = 0
      · simp only [if_pos e]; exact h
      · simp only [if_neg e]; exact Ev.now _
theorem ref_check (p : Int) (s : List S64) (g : List S61) (x : List S66) (hl : ∀ e ∈ x, e.f0.length ≤ maxLen) : Ev (fun k => qda.f k p s g x) (checkV p s g x) := by
  unfold qda.f checkV;refine Ev.bind (ref_is p) ?_
  by_cases hp : isP p = true
  · simp only [if_pos hp]
    have hp3 := ((isP_iff p).1 hp).1
    have j0t : Ev (fun k => qda.j0 k p true s g x) 3 := Ev.fuel 1 fun k => by simp [qda.j0]
    by_cases h1 : (s.length : Int) > 256
    · simp only [if_pos h1, if_pos (show (s.length : Int) > 256 ∨ (g.length : Int) > 65536 ∨ (x.length : Int) > 4096 from .inl h1)]; exact j0t
    by_cases h2 : (g.length : Int) > 65536
    · simp only [if_neg h1, if_pos h2, if_pos (show (s.length : Int) > 256 ∨ (g.length : Int) > 65536 ∨ (x.length : Int) > 4096 from .inr (.inl h2))]; exact j0t
    by_cases h3 : (x.length : Int) > 4096
    · simp only [if_neg h1, if_neg h2, qqT h3, if_pos (show (s.length : Int) > 256 ∨ (g.length : Int) > 65536 ∨ (x.length : Int) > 4096 from .inr (.inr h3))]; exact j0t
    simp only [if_neg h1, if_neg h2, qqF h3, if_neg (show ¬ ((s.length : Int) > 256 ∨ (g.length : Int) > 65536 ∨ (x.length : Int) > 4096) by omega)];refine Ev.step (f := fun k => qda.l0 k p s (s.length : Int) 0 s g x) (fun k => by simp [qda.j0]) ?_;have hx := ref_check_exits s g x (by omega) hl
    have hg : Ev (fun k => qda.l1 k p g (g.length : Int) 0 s g x) (if firstE (gateV p s.length) 0 g = 0 then firstE (fun _ => exitV g.length) 0 x else firstE (gateV p s.length) 0 g) := by
      refine up0 (g := fun k i => qda.l1 k p g (g.length : Int) (i : Int) s g x) (R := fun i => if firstE (gateV p s.length) i (g.drop i) = 0 then firstE (fun _ => exitV g.length) 0 x else firstE (gateV p s.length) i (g.drop i)) (n := g.length) ?_ fun i hi h => ?_
      · rw [firstE_end, if_pos rfl]
        refine Ev.step (f := fun k => qda.l2 k x (x.length : Int) 0 s g x) (fun k => ?_) hx;simp only [qda.l1];rw [if_neg (by omega)]
      · rw [firstE_step _ _ _ hi]
        refine Ev.step (f := fun k => (qca.f k p (s.length : Int) (i : Int) g[i].f0 g[i].f1 g[i].f2 g[i].f3).bind fun aa => (if aa = 0 then (qda.l1 k p g (g.length : Int) ((i + 1 : Nat) : Int) s g x) else (some aa))) (fun k => ?_) (Ev.bind (ref_gate p _ _ g[i]) ?_)
        · simp only [qda.l1]
          rw [if_pos (by omega), if_pos (by omega), if_pos (by omega), rdG_get hi, wadd (by omega)]
        · by_cases e : gateV p s.length i g[i] = 0
          · simp only [if_pos e]; exact h
          · simp only [if_neg e]; exact Ev.now _
    refine up0 (g := fun k i => qda.l0 k p s (s.length : Int) (i : Int) s g x) (R := fun i => if badS (s.drop i) = true then 2 else (if firstE (gateV p s.length) 0 g = 0 then firstE (fun _ => exitV g.length) 0 x else firstE (gateV p s.length) 0 g)) (n := s.length) ?_ fun i hi h => ?_
    · rw [List.drop_of_length_le (Nat.le_refl _)]
      refine Ev.step (f := fun k => qda.l1 k p g (g.length : Int) 0 s g x) (fun k => ?_) hg;simp only [qda.l0];rw [if_neg (by omega)]
    · rw [List.drop_eq_getElem_cons hi]
      unfold badS at h ⊢;rw [List.any_cons]
      by_cases a1 : s[i].f0 < 1
      · refine Ev.fuel 1 fun k => ?_
        simp only [qda.l0];rw [if_pos (by omega), if_pos (by omega), if_pos (by omega), rdS_at hi, if_pos a1];simp [a1]
      by_cases a2 : s[i].f0 > 13
      · refine Ev.fuel 1 fun k => ?_
        simp only [qda.l0];rw [if_pos (by omega), if_pos (by omega), if_pos (by omega), rdS_at hi, if_neg a1, if_pos a2];simp [a2]
      · rw [show (decide (s[i].f0 < 1) || decide (s[i].f0 > 13)) = false by simp; omega, Bool.false_or]
        refine Ev.step (f := fun k => qda.l0 k p s (s.length : Int) ((i + 1 : Nat) : Int) s g x) (fun k => ?_) h;simp only [qda.l0];rw [if_pos (by omega), if_pos (by omega), if_pos (by omega), rdS_at hi, if_neg a1, if_neg a2, wadd (by omega)]
  · simp only [if_neg hp]; exact Ev.now _
structure Good (p : Int) (s : List S64) (g : List S61) (x : List S66) : Prop where
  prime : isP p = true
  ls : s.length ≤ 256
  lg : g.length ≤ 65536
  lx : x.length ≤ 4096
  slots : badS s = false
  gates : okL p s.length g
  exits : ∀ e ∈ x, exitV g.length e = 0
theorem good_of {p : Int} {s : List S64} {g : List S61} {x : List S66} (h : checkV p s g x = 0) (h3 : ∀ e ∈ g, 0 ≤ e.f3) : Good p s g x := by
  unfold checkV at h
  split at h
  · rename_i hp
    split at h
    · cases h
    rename_i hl
    split at h
    · cases h
    rename_i hb
    split at h
    · rename_i hg
      refine ⟨hp, by omega, by omega, by omega, by simpa using hb, ?_, ?_⟩
      · intro i y hy
        have := (firstE_zero _ g 0).1 hg i y hy;rw [Nat.zero_add] at this;exact (gateV_ok (h3 y (List.mem_of_getElem? hy))).1 this
      · intro e he
        obtain ⟨j, hj⟩ := List.getElem?_of_mem he;exact (firstE_zero _ x 0).1 h j e hj
    · rename_i hg; exact absurd h hg
  · cases h
theorem Good.check {p : Int} {s : List S64} {g : List S61} {x : List S66} (h : Good p s g x) : checkV p s g x = 0 := by
  have hg : firstE (gateV p s.length) 0 g = 0 := (firstE_zero _ g 0).2 fun j b hb => by
    have := h.gates j b hb;rw [Nat.zero_add];exact (gateV_ok (by unfold okG at this; omega)).2 this
  have hx : firstE (fun _ => exitV g.length) 0 x = 0 := (firstE_zero _ x 0).2 fun j b hb => h.exits b (List.mem_of_getElem? hb)
  unfold checkV;have := h.ls;have := h.lg;have := h.lx;rw [if_pos h.prime, if_neg (by omega), h.slots, hg, hx]
  rfl
theorem Good.pos {p : Int} {s : List S64} {g : List S61} {x : List S66} (h : Good p s g x) : 0 < p := by
  have := (isP_iff p).1 h.prime; omega
theorem Good.small {p : Int} {s : List S64} {g : List S61} {x : List S66} (h : Good p s g x) : p ≤ 65537 := by
  have := (isP_iff p).1 h.prime; omega
theorem exitV_zero {n : Int} {e : S66} (h : exitV n e = 0) : e.f0.length ≤ 13 ∧ e.f1.length ≤ 1024 ∧ ∀ x ∈ e.f1, 0 ≤ x ∧ x < n := by
  unfold exitV at h
  split at h
  · rename_i hr
    split at h
    · cases h
    rename_i hl
    split at h
    · cases h
    rename_i hb;have := rise_len _ _ (by omega) hr;refine ⟨by omega, by omega, fun x hx => ?_⟩;rw [Bool.not_eq_true] at hb;unfold badX at hb;have := List.any_eq_false.1 hb x hx;simp at this
    omega
  · cases h
theorem exitV_map {n n' : Int} {e : S66} {f : Int → Int} (h : exitV n e = 0) (hf : ∀ x, 0 ≤ x → x < n → x ∈ e.f1 → 0 ≤ f x ∧ f x < n') : exitV n' ⟨e.f0, e.f1.map f⟩ = 0 := by
  obtain ⟨h1, h2, h3⟩ := exitV_zero h
  have hr : rise 0 e.f0 = true := by
    unfold exitV at h
    split at h
    · assumption
    · cases h
  unfold exitV;simp only;rw [if_pos hr, List.length_map, if_neg (by omega), if_neg];unfold badX;rw [Bool.not_eq_true, List.any_eq_false];intro y hy;obtain ⟨x, hx, rfl⟩ := List.mem_map.1 hy;have := h3 x hx;have := hf x this.1 this.2 hx;simp; omega
theorem Good.other {p : Int} {s : List S64} {g g' : List S61} {x : List S66} {f : Int → Int} (h : Good p s g x) (hg : okL p s.length g') (hl : g'.length ≤ g.length)
    (hf : ∀ e ∈ x, ∀ y ∈ e.f1, 0 ≤ f y ∧ f y < g'.length) : Good p s g' (x.map fun e => ⟨e.f0, e.f1.map f⟩) :=
  ⟨h.prime, h.ls, by have := h.lg; omega, by rw [List.length_map]; exact h.lx, h.slots, hg, fun e he => by
    obtain ⟨e', he', rfl⟩ := List.mem_map.1 he
    exact exitV_map (h.exits e' he') fun y _ _ hy => hf e' he' y hy⟩
end Go.Proofs.Ytmlbliggbkfjnaa.L
/- Both ways to fold a circuit answer alike, and what they answer; copies of a circuit. -/
namespace Go.Proofs.Ytmlbliggbkfjnaa.L
open Go.RowKit Go.Proofs.YtmlbliggbkfjnaaW.PrintWords Go.Proofs.Ytmlbliggbkfjnaa.J
theorem two_is (a b c d : Int) : qoa.f a b c d = some (decide (a = 3 ∨ a = 4 ∨ a = 5)) := by
  unfold qoa.f
  by_cases h3 : a = 3
  · simp [h3]
  by_cases h4 : a = 4
  · simp [h4]
  by_cases h5 : a = 5
  · simp [h5]
  · simp [h3, h4, h5]
theorem one_is (a b c d : Int) : qsa.f a b c d = some (decide (a = 3 ∨ a = 4 ∨ a = 5 ∨ a = 6)) := by
  unfold qsa.f;rw [two_is, Option.bind_some]
  by_cases h : a = 3 ∨ a = 4 ∨ a = 5
  · have h' : a = 3 ∨ a = 4 ∨ a = 5 ∨ a = 6 := by omega
    simp [h, h']
  · by_cases h6 : a = 6
    · simp [h6]
    · have h' : ¬ (a = 3 ∨ a = 4 ∨ a = 5 ∨ a = 6) := by omega
      simp [h, h', h6]
theorem mul_small {p a b : Int} (hp : p ≤ 65537) (ha : 0 ≤ a) (ha' : a < p) (hb : 0 ≤ b) (hb' : b < p) : 0 ≤ a * b ∧ a * b < 18446744073709551616 := by
  have h1 : a * b ≤ 65537 * 65537 := Int.mul_le_mul (by omega) (by omega) hb (by omega);exact ⟨Int.mul_nonneg ha hb, by omega⟩
theorem times_at {p a b : Int} (h0 : 0 < p) (hp : p ≤ 65537) (ha : 0 ≤ a) (ha' : a < p) (hb : 0 ≤ b) (hb' : b < p) : qua.f p a b = some (a * b % p) := by
  obtain ⟨h1, h2⟩ := mul_small hp ha ha' hb hb';unfold qua.f field_mul.f;simp only [u64_small h1 h2, if_neg (show ¬ p = 0 by omega), Option.bind_some, Int.tmod_eq_emod_of_nonneg h1]
theorem plus_at {p a b : Int} (h0 : 0 < p) (hp : p ≤ 65537) (ha : 0 ≤ a) (ha' : a < p) (hb : 0 ≤ b) (hb' : b < p) : qxa.f p a b = some ((a + b) % p) := by
  unfold qxa.f;rw [u64_small (n := a + b) (by omega) (by omega)]
  by_cases h : a + b ≥ p
  · rw [if_pos h, u64_small (by omega) (by omega)]
    rw [show (a + b) % p = a + b - p by rw [← Int.sub_emod_right, Int.emod_eq_of_lt (by omega) (by omega)]]
  · rw [if_neg h, Int.emod_eq_of_lt (by omega) (by omega)]
theorem minus_at {p a b : Int} (h0 : 0 < p) (hp : p ≤ 65537) (ha : 0 ≤ a) (ha' : a < p) (hb : 0 ≤ b) (hb' : b < p) : qwa.f p a b = some ((a + p - b) % p) := by
  unfold qwa.f;rw [if_neg (show ¬ p = 0 by omega), u64_small (n := p - b) (by omega) (by omega), Int.tmod_eq_emod_of_nonneg (by omega)];rw [plus_at h0 hp ha ha' (Int.emod_nonneg _ (by omega)) (Int.emod_lt_of_pos _ h0), Option.bind_some]
  congr 1
  rw [Int.add_emod_emod]
  congr 1
  omega
theorem of_at {p a b : Int} (k : Int) (h0 : 0 < p) (hp : p ≤ 65537) (ha : 0 ≤ a) (ha' : a < p) (hb : 0 ≤ b) (hb' : b < p) (hk : k = 3 ∨ k = 4 ∨ k = 5) : circ_Of.f p k 0 1 0 [] [a, b] = some (opV p k a b) := by
  have e0 : rd [a, b] 0 = a := rfl;have e1 : rd [a, b] 1 = b := rfl
  rcases hk with rfl | rfl | rfl
  · simp [circ_Of.f, opV, e0, e1, plus_at h0 hp ha ha' hb hb']
  · simp [circ_Of.f, opV, e0, e1, minus_at h0 hp ha ha' hb hb']
  · simp [circ_Of.f, opV, e0, e1, times_at h0 hp ha ha' hb hb']
theorem k_range {p s i : Int} {g : S61} (h : okG p s i g) (hk : g.f0 = 2 ∨ g.f0 = 6) : 0 ≤ g.f3 ∧ g.f3 < p := by
  unfold okG at h; omega
def stepR (o : Option S61) (g : S61) : Int × Int × Int × Int × Bool := match o with
  | some g' => (g'.f0, g'.f1, g'.f2, g'.f3, true)
  | none => (g.f0, g.f1, g.f2, g.f3, false)
theorem folded_at {p s : Int} (h0 : 0 < p) (hp : p ≤ 65537) {D R : List S61} {g : S61} (hD : okL p s D) (hg : okG p s D.length g) : Ev (fun k => tune_folded.f k p (D ++ R) g.f0 g.f1 g.f2 g.f3) (stepR (foldStep p D g) g) := by
  refine Ev.fuel 12 fun k => ?_
  obtain ⟨a, b, c, d⟩ := g
  rcases hg with h | h | h | h
  · obtain rfl : a = 1 := h.1
    simp [tune_folded.f, tune_folded.j0, foldStep, stepR]
  · obtain rfl : a = 2 := h.1
    simp [tune_folded.f, tune_folded.j0, foldStep, stepR]
  · obtain ⟨hk, b0, b1, c0, c1, hd⟩ := h
    simp only at hk b0 b1 c0 c1 hd;subst hd;have hA := okL_at hD b0 b1;have hB := okL_at hD c0 c1;have eA : rd_T61 (D ++ R) b = atG D b := atG_left b1 b0;have eB : rd_T61 (D ++ R) c = atG D c := atG_left c1 c0
    have b2 : b < ((D ++ R).length : Int) := by simp; omega
    have c2 : c < ((D ++ R).length : Int) := by simp; omega
    have kA := k_range hA;have kB := k_range hB
    have hop : (atG D b).f0 = 2 → (atG D c).f0 = 2 → circ_Of.f p a 0 1 0 [] [(atG D b).f3, (atG D c).f3] = some (opV p a (atG D b).f3 (atG D c).f3) := fun h1 h2 =>
      of_at a h0 hp (kA (.inl h1)).1 (kA (.inl h1)).2 (kB (.inl h2)).1 (kB (.inl h2)).2 hk
    unfold foldStep;simp only;generalize atG D b = A at *;generalize atG D c = B at *;generalize D ++ R = E at *
    rcases hk with rfl | rfl | rfl
    · by_cases hA2 : A.f0 = 2 <;> by_cases hB2 : B.f0 = 2 <;> simp [tune_folded.f, tune_folded.j0, tune_folded.j1, tune_folded.j2, tune_folded.j3, tune_folded.j4, tune_folded.j5, tune_folded.j6, tune_folded_1.f, tune_folded_2.f, b0, b2, c0, c2, eA, eB, stepR, hA2, hB2, hop] <;> simp_all [tune_folded_1.f, tune_folded_2.f]
    · by_cases hA2 : A.f0 = 2 <;> by_cases hB2 : B.f0 = 2 <;> by_cases hbc : b = c <;> simp [tune_folded.f, tune_folded.j0, tune_folded.j1, tune_folded.j2, tune_folded.j3, tune_folded.j4, tune_folded.j5, tune_folded.j6, tune_folded_1.f, tune_folded_2.f, b0, b2, c0, c2, eA, eB, stepR, hA2, hB2, hop, hbc] <;> simp_all [tune_folded_1.f, tune_folded_2.f]
    · by_cases hA2 : A.f0 = 2 <;> by_cases hB2 : B.f0 = 2 <;> simp [tune_folded.f, tune_folded.j0, tune_folded.j1, tune_folded.j2, tune_folded.j3, tune_folded.j4, tune_folded.j5, tune_folded.j6, tune_folded_1.f, tune_folded_2.f, b0, b2, c0, c2, eA, eB, stepR, hA2, hB2, hop] <;> simp_all [tune_folded_1.f, tune_folded_2.f]
  · obtain ⟨hk, b0, b1, c0, d0, d1⟩ := h
    simp only at hk b0 b1 c0 d0 d1;subst hk; subst c0;have hA := okL_at hD b0 b1;have eA : rd_T61 (D ++ R) b = atG D b := atG_left b1 b0
    have b2 : b < ((D ++ R).length : Int) := by simp; omega
    have c2 : (0 : Int) < ((D ++ R).length : Int) := by omega
    have kA := k_range hA
    have hop : (atG D b).f0 = 2 ∨ (atG D b).f0 = 6 → qua.f p (atG D b).f3 d = some ((atG D b).f3 * d % p) := fun h1 =>
      times_at h0 hp (kA h1).1 (kA h1).2 d0 d1
    unfold foldStep;simp only;generalize atG D b = A at *;generalize D ++ R = E at *;generalize rd_T61 E 0 = B at *
    have cE : E ≠ [] := by rintro rfl; simp at c2
    by_cases hA2 : A.f0 = 2
    · simp [tune_folded.f, tune_folded.j0, tune_folded.j1, tune_folded.j2, tune_folded_1.f, b0, b2, c2, cE, eA, stepR, hA2, hop (.inl hA2)]
    · by_cases hd : d = 0
      · simp [tune_folded.f, tune_folded.j0, tune_folded.j1, tune_folded.j2, tune_folded.j3, tune_folded.j4, tune_folded.j5, tune_folded_1.f, b0, b2, c2, cE, eA, stepR, hA2, hd]
      · by_cases hA6 : A.f0 = 6
        · simp [tune_folded.f, tune_folded.j0, tune_folded.j1, tune_folded.j2, tune_folded.j3, tune_folded.j4, tune_folded.j5, tune_folded.j6, tune_folded_2.f, b0, b2, c2, cE, eA, stepR, hA2, hd, hA6, hop (.inr hA6)]
        · simp [tune_folded.f, tune_folded.j0, tune_folded.j1, tune_folded.j2, tune_folded.j3, tune_folded.j4, tune_folded.j5, tune_folded.j6, b0, b2, c2, cE, eA, stepR, hA2, hd, hA6]
theorem take_more {α : Type} (l : List α) {i : Nat} (h : i < l.length) : l.take i ++ [l[i]] = l.take (i + 1) := by
  rw [List.take_add_one, List.getElem?_eq_getElem h]; rfl
theorem Good.exit {p : Int} {s : List S64} {g : List S61} {x : List S66} (h : Good p s g x) : ∀ e ∈ x, e.f0.length ≤ 13 ∧ e.f1.length ≤ 1024 := fun e he => by
  have := exitV_zero (h.exits e he); exact ⟨this.1, this.2.1⟩
theorem own_at (s : List S64) (g : List S61) (x : List S66) (hs : s.length ≤ 256) (hg : g.length ≤ 65536) (hx : x.length ≤ 4096) (he : ∀ e ∈ x, e.f0.length ≤ 13 ∧ e.f1.length ≤ 1024) : Ev (fun k => tune_Own.f k s g x) (s, g, x) := by
  unfold tune_Own.f api_Slot_64.f api_Gate_65.f;rw [if_pos (by omega), if_pos (by omega)];simp only [Option.bind_some]
  refine up0 (g := fun k i => tune_Own.l0 k x (x.length : Int) (i : Int) s g (x.take i)) (R := fun _ => (s, g, x)) (n := x.length) ?_ fun i hi h => ?_
  · rw [List.take_length]
    refine Ev.fuel 1 fun k => ?_
    simp only [tune_Own.l0];rw [if_neg (by omega)]
  · refine Ev.step (f := fun k => tune_Own.l0 k x (x.length : Int) ((i + 1 : Nat) : Int) s g (x.take (i + 1))) (fun k => ?_) h
    have := he _ (List.getElem_mem hi);simp only [tune_Own.l0];rw [if_pos (by omega), if_pos (by omega), if_pos (by omega), rdX_at hi];unfold qpa.f;rw [if_pos (by omega), if_pos (by omega)];simp only [Option.bind_some];rw [if_pos (by rw [List.length_take]; omega), wadd (by omega), take_more x hi]
theorem folds_len (p : Int) (l : List S61) : (folds p [] l).length = l.length := by simp [folds, snocs_len]
theorem folds_more (p : Int) (l : List S61) {i : Nat} (h : i < l.length) : folds p [] (l.take (i + 1)) = folds p [] (l.take i) ++ [foldG p (folds p [] (l.take i)) l[i]] := by
  rw [← take_more l h]; exact snocs_snoc _ _ _ _
theorem okL_take {p s : Int} {l : List S61} (h : okL p s l) (n : Nat) : okL p s (l.take n) := by
  have : l = l.take n ++ l.drop n := (List.take_append_drop n l).symm;rw [this] at h; exact okL_app h
theorem okG_nth {p s : Int} {l : List S61} (h : okL p s l) {i : Nat} (hi : i < l.length) : okG p s i l[i] := h i _ (List.getElem?_eq_getElem hi)
theorem set_mid {α : Type} (D : List α) (y z : α) (R : List α) : (D ++ y :: R).set D.length z = D ++ z :: R := by
  rw [List.set_append_right _ _ (Nat.le_refl _), Nat.sub_self]; rfl
theorem fold_inner {p s : Int} (h0 : 0 < p) (hp : p ≤ 65537) (sl : List S64) (x : List S66) (n : Int) {D R : List S61} (hD : okL p s D) {r : (List S64) × (List S61) × (List S66) × Int} : ∀ (m : Nat) (y : S61), meas D.length y < m → okG p s D.length y →
    Ev (fun k => tune_Fold.l1 k p (D.length : Int) false n (D.length : Int) sl (D ++ foldN p D m y :: R) x) r → Ev (fun k => tune_Fold.l1 k p (D.length : Int) true n (D.length : Int) sl (D ++ y :: R) x) r
  | 0, y, hm, _, _ => by omega
  | m + 1, y, hm, hy, h => by
    have hr : rd_T61 (D ++ y :: R) (D.length : Int) = y := by simp [rd_T61, List.getD_eq_getElem?_getD]
    have hl : (D.length : Int) < ((D ++ y :: R).length : Int) := by simp; omega
    have hf := folded_at (R := y :: R) h0 hp hD hy;refine Ev.step (f := fun k => (tune_folded.f k p (D ++ y :: R) y.f0 y.f1 y.f2 y.f3).bind fun aa => (tune_Fold.l1 k p (D.length : Int) aa.2.2.2.2 n (D.length : Int) sl ((D ++ y :: R).set D.length (⟨aa.1, aa.2.1, aa.2.2.1, aa.2.2.2.1⟩ : S61)) x)) (fun k => ?_) (Ev.bind hf ?_)
    · simp only [tune_Fold.l1]
      rw [if_pos trivial, if_pos (by omega), if_pos hl, hr]
      rfl
    · unfold foldN at h
      cases e : foldStep p D y with
      | none =>
        rw [e] at h;simp only [stepR, set_mid];exact h
      | some y' =>
        rw [e] at h;simp only [stepR, set_mid];obtain ⟨o1, o2⟩ := fold_ok h0 hD hy e;exact fold_inner h0 hp sl x n hD m y' (by omega) o1 h
theorem tune_fold {p : Int} {s : List S64} {g : List S61} {x : List S66} (G : Good p s g x) : Ev (fun k => tune_Fold.f k p s g x) (s, folds p [] g, x, 0) := by
  unfold tune_Fold.f;have hlx := G.exit;refine Ev.bind (circ_check p s g x fun e he => by have := (hlx e he).1; simp only [maxLen]; omega) ?_;rw [G.check];simp only [if_true];refine Ev.bind (own_at s g x G.ls G.lg G.lx hlx) ?_;simp only
  refine up0 (g := fun k i => tune_Fold.l0 k p (g.length : Int) (i : Int) s (folds p [] (g.take i) ++ g.drop i) x) (R := fun _ => (s, folds p [] g, x, 0)) (n := g.length) ?_ fun i hi h => ?_
  · rw [List.take_length, List.drop_of_length_le (Nat.le_refl _), List.append_nil]
    refine Ev.fuel 1 fun k => ?_
    simp only [tune_Fold.l0];rw [if_neg (by omega)]
  · have hD : okL p s.length (folds p [] (g.take i)) := folds_ok G.pos _ (okL_take G.gates i)
    have hl : (folds p [] (g.take i)).length = i := by rw [folds_len, List.length_take]; omega
    have hg := okG_nth G.gates hi;rw [folds_more p g hi] at h;rw [List.drop_eq_getElem_cons hi];have hlg := G.lg;refine Ev.step (f := fun k => tune_Fold.l1 k p (i : Int) true (g.length : Int) (i : Int) s (folds p [] (g.take i) ++ g[i] :: g.drop (i + 1)) x) (fun k => ?_) ?_
    · simp only [tune_Fold.l0]
      rw [if_pos (by omega)]
    · have := fold_inner (r := (s, folds p [] g, x, 0)) G.pos G.small s x (g.length : Int) (R := g.drop (i + 1)) hD (i + 2) g[i] (by rw [hl]; exact meas_lt hg) (by rw [hl]; exact hg)
      rw [hl] at this;refine this ?_;refine Ev.step (f := fun k => tune_Fold.l0 k p (g.length : Int) ((i + 1 : Nat) : Int) s (folds p [] (g.take i) ++ foldN p (folds p [] (g.take i)) (i + 2) g[i] :: g.drop (i + 1)) x) (fun k => ?_) ?_
      · simp only [tune_Fold.l1]
        rw [if_neg (by decide), wadd (by omega)]
      · have e : foldG p (folds p [] (g.take i)) g[i] = foldN p (folds p [] (g.take i)) (i + 2) g[i] := by unfold foldG; rw [hl]
        rw [e, List.append_assoc] at h;exact h
end Go.Proofs.Ytmlbliggbkfjnaa.L
/- Gates named by new numbers in the exits: both ways answer alike, and what they answer; gates that stay. -/
namespace Go.Proofs.Ytmlbliggbkfjnaa.L
open Go.RowKit Go.Proofs.YtmlbliggbkfjnaaW.PrintWords Go.Proofs.Ytmlbliggbkfjnaa.J
def mapX (f : Int → Int) (x : List S66) : List S66 := x.map fun e => ⟨e.f0, e.f1.map f⟩
def half {α : Type} (f : α → α) (l : List α) (j : Nat) : List α := (l.take j).map f ++ l.drop j
theorem half_len {α : Type} (f : α → α) (l : List α) (j : Nat) : (half f l j).length = l.length := by
  unfold half; rw [List.length_append, List.length_map, List.length_take, List.length_drop]; omega
theorem half_zero {α : Type} (f : α → α) (l : List α) : half f l 0 = l := by simp [half]
theorem half_end {α : Type} (f : α → α) (l : List α) : half f l l.length = l.map f := by simp [half]
theorem half_at {α : Type} (f : α → α) (l : List α) {j : Nat} (h : j < l.length) : (half f l j)[j]? = some l[j] := by
  unfold half
  have hl : ((l.take j).map f).length = j := by rw [List.length_map, List.length_take]; omega
  rw [List.getElem?_append_right (by omega), hl, Nat.sub_self, List.getElem?_drop];simp [h]
theorem half_set {α : Type} (f : α → α) (l : List α) {j : Nat} (h : j < l.length) : (half f l j).set j (f l[j]) = half f l (j + 1) := by
  unfold half
  have hl : ((l.take j).map f).length = j := by rw [List.length_map, List.length_take]; omega
  rw [List.drop_eq_getElem_cons h, List.set_append_right _ _ (by omega), hl, Nat.sub_self, List.set_cons_zero, ← take_more l h, List.map_append, List.append_assoc]
  rfl
theorem half_same {α : Type} (f : α → α) (l : List α) {j : Nat} (h : j < l.length) : (half f l j).set j l[j] = half f l j := by
  have := half_at f l h
  apply List.ext_getElem?
  intro i;rw [List.getElem?_set]
  split
  · rename_i e
    subst e;rw [if_pos (by rw [half_len]; exact h), this]
  · rfl
def midX (f : Int → Int) (x : List S66) (i : Nat) (h : i < x.length) (j : Nat) : List S66 := (half (fun e : S66 => ⟨e.f0, e.f1.map f⟩) x i).set i ⟨x[i].f0, half f x[i].f1 j⟩
theorem midX_zero (f : Int → Int) (x : List S66) (i : Nat) (h : i < x.length) : midX f x i h 0 = half (fun e : S66 => ⟨e.f0, e.f1.map f⟩) x i := by
  unfold midX; rw [half_zero]; exact half_same _ x h
theorem midX_end (f : Int → Int) (x : List S66) (i : Nat) (h : i < x.length) : midX f x i h x[i].f1.length = half (fun e : S66 => ⟨e.f0, e.f1.map f⟩) x (i + 1) := by
  unfold midX; rw [half_end]; exact half_set (fun e : S66 => (⟨e.f0, e.f1.map f⟩ : S66)) x h
theorem midX_at (f : Int → Int) (x : List S66) (i : Nat) (h : i < x.length) (j : Nat) : rd_T66 (midX f x i h j) (i : Int) = ⟨x[i].f0, half f x[i].f1 j⟩ := by
  unfold midX rd_T66;rw [List.getD_eq_getElem?_getD, Int.toNat_natCast, List.getElem?_set_self (by rw [half_len]; exact h)]
  rfl
theorem midX_len (f : Int → Int) (x : List S66) (i : Nat) (h : i < x.length) (j : Nat) : (midX f x i h j).length = x.length := by
  unfold midX; rw [List.length_set, half_len]
theorem midX_set (f : Int → Int) (x : List S66) (i : Nat) (h : i < x.length) (j : Nat) (hj : j < x[i].f1.length) : (midX f x i h j).set i ⟨x[i].f0, (half f x[i].f1 j).set j (f x[i].f1[j])⟩ = midX f x i h (j + 1) := by
  unfold midX;rw [List.set_set, half_set f x[i].f1 hj]
theorem rd_half (f : Int → Int) (l : List Int) {j : Nat} (h : j < l.length) : rd (half f l j) (j : Int) = l[j] := by
  unfold rd;rw [List.getD_eq_getElem?_getD, Int.toNat_natCast, half_at f l h]
  rfl
theorem rd_pad (D : List Int) (n : Nat) (i : Int) : rd (D ++ List.replicate n 0) i = atI D i := by
  unfold rd atI;rw [List.getD_eq_getElem?_getD, List.getD_eq_getElem?_getD, List.getElem?_append]
  split
  · rfl
  · rename_i h
    rw [List.getElem?_eq_none (l := D) (by omega), List.getElem?_replicate]
    split <;> rfl
theorem pad_set (D : List Int) {n : Nat} (v : Int) : (D ++ List.replicate (n + 1) 0).set D.length v = (D ++ [v]) ++ List.replicate n 0 := by
  rw [List.replicate_succ, set_mid, List.append_assoc]; rfl
theorem mv_more (st : Int → Bool) (t : Int → Int) (g : List S61) {i : Nat} (h : i < g.length) : mvL st t (g.take (i + 1)) = mvStep st t (mvL st t (g.take i)) g[i] := by
  rw [← take_more g h, mvL_snoc]
theorem mvL_few (st : Int → Bool) (t : Int → Int) (gs : List S61) : (mvL st t gs).1.length ≤ gs.length := by
  refine snoc_ind (P := fun gs => (mvL st t gs).1.length ≤ gs.length) (Nat.le_refl _) (fun gs g ih => ?_) gs;rw [mvL_snoc];unfold mvStep
  split <;> simp <;> omega
theorem tune_exits {p : Int} {s : List S64} {g : List S61} {x : List S66} (G : Good p s g x) (l : List S61) (P : List Int) (tto : Int → Option Int) (t : Int → Int) (ht : ∀ e ∈ x, ∀ y ∈ e.f1, tto y = some (t y) ∧ 0 ≤ t y ∧ t y < P.length) :
    Ev (fun k => tune_moved.l1 tto k P (x.length : Int) 0 s l x) (s, l, mapX (fun y => atI P (t y)) x) := by
  have hx := G.lx;have h0 := half_zero (fun e : S66 => (⟨e.f0, e.f1.map (fun y => atI P (t y))⟩ : S66)) x
  have key := up0 (g := fun k i => tune_moved.l1 tto k P (x.length : Int) (i : Int) s l (half (fun e : S66 => ⟨e.f0, e.f1.map (fun y => atI P (t y))⟩) x i)) (R := fun _ => (s, l, mapX (fun y => atI P (t y)) x)) (n := x.length) ?_ fun i hi h => ?_
  · rw [h0] at key; exact key
  · rw [half_end]
    refine Ev.fuel 1 fun k => ?_
    simp only [tune_moved.l1];rw [if_neg (by omega)]
    rfl
  · have he := (G.exit _ (List.getElem_mem hi)).2
    have hy := ht _ (List.getElem_mem hi);refine Ev.step (f := fun k => tune_moved.l2 tto k P (x.length : Int) (i : Int) (x[i].f1.length : Int) 0 s l (midX (fun y => atI P (t y)) x i hi 0)) (fun k => ?_) ?_
    · simp only [tune_moved.l1]
      rw [← midX_zero (fun y => atI P (t y)) x i hi, midX_at, midX_len, if_pos (by omega), if_pos (by omega), if_pos (by omega), half_zero]
    · refine up0 (g := fun k j => tune_moved.l2 tto k P (x.length : Int) (i : Int) (x[i].f1.length : Int) (j : Int) s l (midX (fun y => atI P (t y)) x i hi j)) (R := fun _ => (s, l, mapX (fun y => atI P (t y)) x)) (n := x[i].f1.length) ?_ fun j hj h' => ?_
      · rw [midX_end]
        refine Ev.step (f := fun k => tune_moved.l1 tto k P (x.length : Int) ((i + 1 : Nat) : Int) s l (half (fun e : S66 => ⟨e.f0, e.f1.map (fun y => atI P (t y))⟩) x (i + 1))) (fun k => ?_) h;simp only [tune_moved.l2];rw [if_neg (by omega), wadd (by omega)]
      · refine Ev.step (f := fun k => tune_moved.l2 tto k P (x.length : Int) (i : Int) (x[i].f1.length : Int) ((j + 1 : Nat) : Int) s l (midX (fun y => atI P (t y)) x i hi (j + 1))) (fun k => ?_) h'
        obtain ⟨y1, y2, y3⟩ := hy _ (List.getElem_mem hj);simp only [tune_moved.l2];simp only [midX_at];rw [half_len, rd_half _ _ hj, if_pos (by omega), if_pos (by omega), if_pos (by omega), y1, Option.bind_some, if_pos y2, if_pos y3, wadd (by omega), Int.toNat_natCast, Int.toNat_natCast];rw [show rd P (t x[i].f1[j]) = atI P (t x[i].f1[j]) from rfl, midX_set (fun y => atI P (t y)) _ _ _ _ hj]
theorem tune_moved_at {p : Int} {s : List S64} {g : List S61} {x : List S66} (G : Good p s g x) (st : Int → Int → Int → Int → Int → Option Bool) (tto : Int → Option Int) (sb : Int → Bool) (t : Int → Int)
    (hs : ∀ (i : Int) a b c d, 0 ≤ i → i < g.length → st i a b c d = some (sb i)) (ht : ∀ y : Int, 0 ≤ y → y < g.length → tto y = some (t y) ∧ 0 ≤ t y ∧ t y < g.length) :
    Ev (fun k => tune_moved.f st tto k s g x) (s, (mvL sb t g).1, mapX (fun y => atI (mvL sb t g).2 (t y)) x) := by
  unfold tune_moved.f;have hlg := G.lg;refine Ev.bind (own_at s g x G.ls G.lg G.lx G.exit) ?_;simp only [if_pos (show 0 ≤ (g.length : Int) by omega), Int.toNat_natCast, if_pos (show g.length ≤ 35184372088832 by omega)]
  refine up0 (g := fun k i => tune_moved.l0 st tto k ((mvL sb t (g.take i)).2 ++ List.replicate (g.length - i) 0) g (g.length : Int) (i : Int) s (mvL sb t (g.take i)).1 x) (R := fun _ => (s, (mvL sb t g).1, mapX (fun y => atI (mvL sb t g).2 (t y)) x)) (n := g.length) ?_ fun i hi h => ?_
  · rw [List.take_length, Nat.sub_self, List.replicate_zero, List.append_nil]
    refine Ev.step (f := fun k => tune_moved.l1 tto k (mvL sb t g).2 (x.length : Int) 0 s (mvL sb t g).1 x) (fun k => ?_) (tune_exits G _ _ tto t fun e he y hy => ?_)
    · simp only [tune_moved.l0]
      rw [if_neg (by omega)]
    · have hv := (exitV_zero (G.exits e he)).2.2 y hy
      have := ht y hv.1 hv.2;rw [mvL_len]; exact this
  · have hl : (mvL sb t (g.take i)).2.length = i := by rw [mvL_len, List.length_take]; omega
    have hf := mvL_few sb t (g.take i);rw [List.length_take] at hf;have hg := okG_nth G.gates hi;rw [mv_more sb t g hi] at h;unfold mvStep at h;rw [hl] at h;have hgi : rd_T61 g (i : Int) = g[i] := rdG_get hi;generalize g[i] = y at *;generalize (mvL sb t (g.take i)).1 = l at *;generalize (mvL sb t (g.take i)).2 = P at *
    have hL : ((P ++ List.replicate (g.length - i) 0).length : Int) = g.length := by rw [List.length_append, List.length_replicate]; omega
    have hset : ∀ v : Int, (P ++ List.replicate (g.length - i) 0).set i v = (P ++ [v]) ++ List.replicate (g.length - (i + 1)) 0 := fun v => by
      have := pad_set P (n := g.length - (i + 1)) v;rw [hl, show g.length - (i + 1) + 1 = g.length - i by omega] at this; exact this
    have hst := hs (i : Int) y.f0 y.f1 y.f2 y.f3 (by omega) (by omega)
    by_cases hb : sb (i : Int) = true
    · rw [if_pos hb] at h
      refine Ev.steps (f := fun k => tune_moved.l0 st tto k ((P ++ [(l.length : Int)]) ++ List.replicate (g.length - (i + 1)) 0) g (g.length : Int) ((i + 1 : Nat) : Int) s (l ++ [rnf (fun x => atI P (t x)) y]) x) 2 (fun k => ?_) h;simp only [tune_moved.l0];rw [if_pos (by omega), if_pos (by omega), if_pos (by omega), hgi, hst, Option.bind_some, if_pos hb];obtain ⟨a, b, c, d⟩ := y;simp only
      by_cases h12 : a = 1 ∨ a = 2
      · have e : (if a = 1 then tune_moved.j1 st tto (k + 1) (P ++ List.replicate (g.length - i) 0) (i : Int) g (g.length : Int) (i : Int) false s l x a b c d else tune_moved.j1 st tto (k + 1) (P ++ List.replicate (g.length - i) 0) (i : Int) g (g.length : Int) (i : Int) (a != 2) s l x a b c d) = tune_moved.j1 st tto (k + 1) (P ++ List.replicate (g.length - i) 0) (i : Int) g (g.length : Int) (i : Int) false s l x a b c d := by
          rcases h12 with rfl | rfl <;> rfl
        rw [e];simp only [tune_moved.j1];rw [if_neg (by decide), if_pos (by omega), if_pos (by omega), if_pos (by omega), Int.toNat_natCast, hset, wadd (by omega)];rw [show rnf (fun x => atI P (t x)) ⟨a, b, c, d⟩ = ⟨a, b, c, d⟩ by unfold rnf; rw [if_pos h12]]
      · have h1 : ¬ a = 1 := by omega
        have h2 : (a != 2) = true := by simp; omega
        obtain ⟨o1, o2, o3⟩ := okG_ops hg h1 (by show a ≠ 2; omega);simp only at o1 o2 o3;obtain ⟨t1, t2, t3⟩ := ht b o1 (by omega);rw [if_neg h1, h2];simp only [tune_moved.j1];rw [if_pos trivial, t1, Option.bind_some, if_pos t2, if_pos (by omega), rd_pad]
        by_cases h6 : a = 6
        · rw [if_pos h6, if_pos (by omega), if_pos (by omega), if_pos (by omega), Int.toNat_natCast, hset, wadd (by omega)]
          rw [show rnf (fun x => atI P (t x)) ⟨a, b, c, d⟩ = ⟨a, atI P (t b), c, d⟩ by unfold rnf; rw [if_neg h12, if_pos h6]]
        · obtain ⟨o3, o4⟩ := o3 h6
          obtain ⟨u1, u2, u3⟩ := ht c o3 (by omega);rw [if_neg h6, u1, Option.bind_some, if_pos u2, if_pos (by omega), if_pos (by omega), if_pos (by omega), if_pos (by omega), Int.toNat_natCast, hset, wadd (by omega), rd_pad];rw [show rnf (fun x => atI P (t x)) ⟨a, b, c, d⟩ = ⟨a, atI P (t b), atI P (t c), d⟩ by unfold rnf; rw [if_neg h12, if_neg h6]]
    · rw [if_neg hb] at h
      rw [List.append_assoc] at h
      have e : [(0 : Int)] ++ List.replicate (g.length - (i + 1)) 0 = List.replicate (g.length - i) 0 := by
        rw [show g.length - i = g.length - (i + 1) + 1 by omega, List.replicate_succ]; rfl
      rw [e] at h;refine Ev.step (f := fun k => tune_moved.l0 st tto k (P ++ List.replicate (g.length - i) 0) g (g.length : Int) ((i + 1 : Nat) : Int) s l x) (fun k => ?_) h;simp only [tune_moved.l0];rw [if_pos (by omega), if_pos (by omega), if_pos (by omega), hgi, hst, Option.bind_some, if_neg hb, wadd (by omega)]
end Go.Proofs.Ytmlbliggbkfjnaa.L
/- Both ways to leave out gates that are alike answer alike, and what they answer. -/
namespace Go.Proofs.Ytmlbliggbkfjnaa.L
open Go.RowKit Go.Proofs.YtmlbliggbkfjnaaW.PrintWords Go.Proofs.Ytmlbliggbkfjnaa.J
theorem shL_few (gs : List S61) : (shL gs).1.length ≤ gs.length := by
  refine snoc_ind (P := fun gs => (shL gs).1.length ≤ gs.length) (Nat.le_refl _) (fun gs g ih => ?_) gs;rw [shL_snoc];unfold shStep;simp only
  split <;> simp <;> omega
theorem find_at (y : S61) : ∀ M : List (S61 × Int), tune_Share.find y M = findM y M
  | [] => rfl
  | m :: M => by
    unfold tune_Share.find findM;rw [find_at y M]
    have e : tune_Share.same y m.1 = decide (y = m.1) := by
      unfold tune_Share.same
      by_cases h : y = m.1
      · rw [qqT h, h]; simp
      · rw [qqF h, Bool.eq_false_iff]
        intro hc
        apply h
        rw [S61.ext_iff']
        simpa [Bool.and_eq_true] using hc
    rw [e]
    by_cases h : y = m.1
    · rw [if_pos h, if_pos (qqT h)]
    · rw [if_neg h, if_neg (by rw [qqF h]; decide)]
theorem sp_more (g : List S61) {i : Nat} (h : i < g.length) : spL (g.take (i + 1)) = spStep (spL (g.take i)) g[i] := by rw [← take_more g h, spL_snoc]
theorem tune_share {p : Int} {s : List S64} {g : List S61} {x : List S66} (G : Good p s g x) : Ev (fun k => tune_Share.f k p s g x) (s, (shL g).1, mapX (atI (shL g).2) x, 0) := by
  unfold tune_Share.f;have hlg := G.lg;have hlx := G.exit;refine Ev.bind (circ_check p s g x fun e he => by have := (hlx e he).1; simp only [maxLen]; omega) ?_;rw [G.check];simp only [if_true, if_pos (show 0 ≤ (g.length : Int) by omega), Int.toNat_natCast, if_pos (show g.length ≤ 35184372088832 by omega)]
  refine up0 (g := fun k i => tune_Share.l0 k g (g.length : Int) (i : Int) s g x (spL (g.take i)).2 false ((spL (g.take i)).1 ++ List.replicate (g.length - i) 0)) (R := fun _ => (s, (shL g).1, mapX (atI (shL g).2) x, 0)) (n := g.length) ?_ fun i hi h => ?_
  · rw [List.take_length, Nat.sub_self, List.replicate_zero, List.append_nil]
    obtain ⟨pl, hm, hpl, hat⟩ := share_moved G.gates;have hl := spL_len g
    have mv := tune_moved_at G (tune_Share.st (spL g).1) (tune_Share.tto (spL g).1) (fun i => atI (spL g).1 i == i) (atI (spL g).1) (fun i a b c d i0 i1 => by unfold tune_Share.st; rw [if_pos ⟨i0, by omega⟩]; rfl)
      (fun y y0 y1 => ⟨by unfold tune_Share.tto; rw [if_pos ⟨y0, by omega⟩]; rfl, (hat y y0 y1).1, (hat y y0 y1).2.1⟩)
    rw [hm] at mv
    have e : mapX (fun y => atI pl (atI (spL g).1 y)) x = mapX (atI (shL g).2) x := by
      unfold mapX
      refine List.map_congr_left fun e he => ?_
      congr 1
      refine List.map_congr_left fun y hy => ?_
      have hv := (exitV_zero (G.exits e he)).2.2 y hy;exact (hat y hv.1 hv.2).2.2
    simp only at mv;rw [e] at mv;refine Ev.step (f := fun k => (tune_moved.f (tune_Share.st (spL g).1) (tune_Share.tto (spL g).1) k s g x).bind fun aa => (some (aa.1, aa.2.1, aa.2.2, 0))) (fun k => ?_) (Ev.bind mv (Ev.now _));simp only [tune_Share.l0];rw [if_neg (by omega)]
  · have hl : (spL (g.take i)).1.length = i := by rw [spL_len, List.length_take]; omega
    have hg := okG_nth G.gates hi;rw [sp_more g hi] at h;unfold spStep at h;rw [hl] at h;have hgi : rd_T61 g (i : Int) = g[i] := rdG_get hi;generalize g[i] = y at *;generalize (spL (g.take i)).1 = P at *;generalize (spL (g.take i)).2 = M at *
    have hL : ((P ++ List.replicate (g.length - i) 0).length : Int) = g.length := by rw [List.length_append, List.length_replicate]; omega
    have hset : ∀ v : Int, (P ++ List.replicate (g.length - i) 0).set i v = (P ++ [v]) ++ List.replicate (g.length - (i + 1)) 0 := fun v => by
      have := pad_set P (n := g.length - (i + 1)) v;rw [hl, show g.length - (i + 1) + 1 = g.length - i by omega] at this; exact this
    have last : ∀ (c : S61), c = canon (rnf (atI P) y) → Ev (fun k => tune_Share.j4 k (i : Int) g (g.length : Int) (i : Int) s g x M false (P ++ List.replicate (g.length - i) 0) c.f0 c.f1 c.f2 c.f3) (s, (shL g).1, mapX (atI (shL g).2) x, 0) := by
      intro c hc;rw [← hc] at h
      have hk : tune_Share.look M c.f0 c.f1 c.f2 c.f3 = some (match findM c M with | some i => (i, true) | none => (0, false)) := by
        unfold tune_Share.look; rw [find_at]; rfl
      have hp : tune_Share.put M c.f0 c.f1 c.f2 c.f3 (i : Int) = if findM c M = none then some (M ++ [(c, (i : Int))]) else none := by
        unfold tune_Share.put; rw [find_at]
      cases e : findM c M with
      | some v =>
        rw [e] at h hk;simp only at h hk;refine Ev.step (f := fun k => tune_Share.l0 k g (g.length : Int) ((i + 1 : Nat) : Int) s g x M false ((P ++ [v]) ++ List.replicate (g.length - (i + 1)) 0)) (fun k => ?_) h;simp only [tune_Share.j4];rw [hk, Option.bind_some, if_pos rfl, if_pos (by omega), if_pos (by omega), Int.toNat_natCast, hset, wadd (by omega)]
      | none =>
        rw [e] at h hk hp;simp only at h hk;rw [if_pos rfl] at hp;refine Ev.step (f := fun k => tune_Share.l0 k g (g.length : Int) ((i + 1 : Nat) : Int) s g x (M ++ [(c, (i : Int))]) false ((P ++ [(i : Int)]) ++ List.replicate (g.length - (i + 1)) 0)) (fun k => ?_) h;simp only [tune_Share.j4];rw [hk, Option.bind_some, if_neg (by decide), hp, Option.bind_some, if_pos (by omega), if_pos (by omega), Int.toNat_natCast, hset, wadd (by omega)]
    have mid : ∀ (c : S61), c = rnf (atI P) y → Ev (fun k => tune_Share.j2 k (i : Int) g (g.length : Int) (i : Int) s g x M false (P ++ List.replicate (g.length - i) 0) c.f0 c.f1 c.f2 c.f3) (s, (shL g).1, mapX (atI (shL g).2) x, 0) := by
      intro c hc
      by_cases h35 : c.f0 = 3 ∨ c.f0 = 5
      · by_cases hgt : c.f1 > c.f2
        · have e : canon (rnf (atI P) y) = ⟨c.f0, c.f2, c.f1, c.f3⟩ := by rw [← hc]; unfold canon; rw [if_pos ⟨h35, hgt⟩]
          refine Ev.steps (f := fun k => tune_Share.j4 k (i : Int) g (g.length : Int) (i : Int) s g x M false (P ++ List.replicate (g.length - i) 0) c.f0 c.f2 c.f1 c.f3) 2 (fun k => ?_) (last ⟨c.f0, c.f2, c.f1, c.f3⟩ e.symm)
          rcases h35 with q | q <;> simp [tune_Share.j2, tune_Share.j3, q, hgt]
        · have e : canon (rnf (atI P) y) = c := by rw [← hc]; unfold canon; rw [if_neg (fun h' => hgt h'.2)]
          refine Ev.steps (f := fun k => tune_Share.j4 k (i : Int) g (g.length : Int) (i : Int) s g x M false (P ++ List.replicate (g.length - i) 0) c.f0 c.f1 c.f2 c.f3) 2 (fun k => ?_) (last c e.symm);have hle : ¬ c.f2 < c.f1 := hgt
          rcases h35 with q | q <;> simp [tune_Share.j2, tune_Share.j3, q, hle]
      · have e : canon (rnf (atI P) y) = c := by rw [← hc]; unfold canon; rw [if_neg (fun h' => h35 h'.1)]
        refine Ev.steps (f := fun k => tune_Share.j4 k (i : Int) g (g.length : Int) (i : Int) s g x M false (P ++ List.replicate (g.length - i) 0) c.f0 c.f1 c.f2 c.f3) 2 (fun k => ?_) (last c e.symm)
        have q3 : ¬ c.f0 = 3 := fun q => h35 (.inl q)
        have q5 : ¬ c.f0 = 5 := fun q => h35 (.inr q)
        simp [tune_Share.j2, tune_Share.j3, q3, q5]
    have rdp : ∀ z : Int, rd (P ++ List.replicate (g.length - i) 0) z = atI P z := fun z => rd_pad _ _ _
    obtain ⟨a, b, c, d⟩ := y
    by_cases h12 : a = 1 ∨ a = 2
    · have e : rnf (atI P) ⟨a, b, c, d⟩ = ⟨a, b, c, d⟩ := by unfold rnf; rw [if_pos h12]
      refine Ev.steps (f := fun k => tune_Share.j2 k (i : Int) g (g.length : Int) (i : Int) s g x M false (P ++ List.replicate (g.length - i) 0) a b c d) 2 (fun k => ?_) (mid ⟨a, b, c, d⟩ e.symm);simp only [tune_Share.l0];rw [if_pos (by omega), if_pos (by omega), if_pos (by omega), hgi]
      rcases h12 with rfl | rfl <;> simp [tune_Share.j1]
    · have h1 : ¬ a = 1 := by omega
      have h2 : (a != 2) = true := by simp; omega
      obtain ⟨o1, o2, o3⟩ := okG_ops hg h1 (by show a ≠ 2; omega);simp only at o1 o2 o3
      by_cases h6 : a = 6
      · have e : rnf (atI P) ⟨a, b, c, d⟩ = ⟨a, atI P b, c, d⟩ := by unfold rnf; rw [if_neg h12, if_pos h6]
        refine Ev.steps (f := fun k => tune_Share.j2 k (i : Int) g (g.length : Int) (i : Int) s g x M false (P ++ List.replicate (g.length - i) 0) a (atI P b) c d) 2 (fun k => ?_) (mid ⟨a, atI P b, c, d⟩ e.symm);simp only [tune_Share.l0];rw [if_pos (by omega), if_pos (by omega), if_pos (by omega), hgi];simp only;rw [if_neg h1, h2];simp only [tune_Share.j1];rw [if_pos trivial, if_pos o1, if_pos (by omega), if_pos h6, rdp]
      · obtain ⟨o3, o4⟩ := o3 h6
        have e : rnf (atI P) ⟨a, b, c, d⟩ = ⟨a, atI P b, atI P c, d⟩ := by unfold rnf; rw [if_neg h12, if_neg h6]
        refine Ev.steps (f := fun k => tune_Share.j2 k (i : Int) g (g.length : Int) (i : Int) s g x M false (P ++ List.replicate (g.length - i) 0) a (atI P b) (atI P c) d) 2 (fun k => ?_) (mid ⟨a, atI P b, atI P c, d⟩ e.symm);simp only [tune_Share.l0];rw [if_pos (by omega), if_pos (by omega), if_pos (by omega), hgi];simp only;rw [if_neg h1, h2];simp only [tune_Share.j1];rw [if_pos trivial, if_pos o1, if_pos (by omega), if_neg h6, if_pos o3, if_pos (by omega), rdp, rdp]
theorem Good.shared {p : Int} {s : List S64} {g : List S61} {x : List S66} (G : Good p s g x) : Good p s (shL g).1 (mapX (atI (shL g).2) x) := by
  have h := shL_shr g G.gates
  exact G.other h.ok (shL_few g) fun e he y hy => by
    have hv := (exitV_zero (G.exits e he)).2.2 y hy;exact h.rng y hv.1 hv.2 trivial
theorem mapX_id {f : Int → Int} {x : List S66} (h : ∀ e ∈ x, ∀ y ∈ e.f1, f y = y) : mapX f x = x := by
  unfold mapX
  have e : ∀ e ∈ x, (⟨e.f0, e.f1.map f⟩ : S66) = e := fun e he => by
    have := List.map_congr_left (g := id) fun y hy => h e he y hy
    rw [this, List.map_id]
  have := List.map_congr_left e;rw [this];exact List.map_id x
theorem Good.folded {p : Int} {s : List S64} {g : List S61} {x : List S66} (G : Good p s g x) : Good p s (folds p [] g) x := by
  have h := G.other (f := fun y => y) (folds_ok G.pos g G.gates) (by rw [folds_len]; exact Nat.le_refl _) fun e he y hy => by
    rw [folds_len]; exact (exitV_zero (G.exits e he)).2.2 y hy
  have e := mapX_id (f := fun y => y) (x := x) fun _ _ _ _ => rfl
  unfold mapX at e;rw [e] at h;exact h
end Go.Proofs.Ytmlbliggbkfjnaa.L
/- Both ways to leave out gates that nobody asks for answer alike, and what they answer. -/
namespace Go.Proofs.Ytmlbliggbkfjnaa.L
open Go.RowKit Go.Proofs.YtmlbliggbkfjnaaW.PrintWords Go.Proofs.Ytmlbliggbkfjnaa.J
def markG (a : List Bool) (l : List Int) : List Bool := l.foldl (fun a y => a.set y.toNat true) a
def markX (a : List Bool) (x : List S66) : List Bool := x.foldl (fun a e => markG a e.f1) a
theorem markG_len (l : List Int) : ∀ a, (markG a l).length = a.length := by
  unfold markG
  induction l with
  | nil => intro a; rfl
  | cons y l ih => intro a; rw [List.foldl_cons, ih, List.length_set]
theorem markX_len (x : List S66) : ∀ a, (markX a x).length = a.length := by
  unfold markX
  induction x with
  | nil => intro a; rfl
  | cons e x ih => intro a; rw [List.foldl_cons, ih, markG_len]
def asked (g : List S61) (x : List S66) : List Bool := mkM g g.length (markX (List.replicate g.length false) x)
def named (x : List S66) (i : Int) : Prop := ∃ e ∈ x, i ∈ e.f1
theorem asked_len (g : List S61) (x : List S66) : (asked g x).length = g.length := by
  unfold asked; rw [mkM_len, markX_len, List.length_replicate]
theorem tune_marks {p : Int} {s : List S64} {g : List S61} {x : List S66} (G : Good p s g x) {r : (List S64) × (List S61) × (List S66) × Int}
    (h : Ev (fun k => (tune_Prune.mark (markX (List.replicate g.length false) x) g).bind fun ab => ((tune_moved.f (tune_Prune.st ab) some k s g x).bind fun aa => (some (aa.1, aa.2.1, aa.2.2, 0)))) r) :
    Ev (fun k => tune_Prune.l0 k x (x.length : Int) 0 s g x (List.replicate g.length false)) r := by
  have hx := G.lx
  refine up0 (g := fun k i => tune_Prune.l0 k x (x.length : Int) (i : Int) s g x (markX (List.replicate g.length false) (x.take i))) (R := fun _ => r) (n := x.length) ?_ fun i hi h => ?_
  · rw [List.take_length]
    refine Ev.step (fun k => ?_) h;simp only [tune_Prune.l0];rw [if_neg (by omega)]
  · have he := (G.exit _ (List.getElem_mem hi)).2
    have hy := (exitV_zero (G.exits _ (List.getElem_mem hi))).2.2
    have hm : markX (List.replicate g.length false) (x.take (i + 1)) = markG (markX (List.replicate g.length false) (x.take i)) x[i].f1 := by
      rw [← take_more x hi]; unfold markX; rw [List.foldl_append]; rfl
    rw [hm] at h
    have hml : (markX (List.replicate g.length false) (x.take i)).length = g.length := by rw [markX_len, List.length_replicate]
    generalize markX (List.replicate g.length false) (x.take i) = a at *;refine Ev.step (f := fun k => tune_Prune.l1 k x (x.length : Int) (i : Int) x[i].f1 (x[i].f1.length : Int) 0 s g x a) (fun k => ?_) ?_
    · simp only [tune_Prune.l0]
      rw [if_pos (by omega), if_pos (by omega), if_pos (by omega), rdX_at hi]
    · refine up0 (g := fun k j => tune_Prune.l1 k x (x.length : Int) (i : Int) x[i].f1 (x[i].f1.length : Int) (j : Int) s g x (markG a (x[i].f1.take j))) (R := fun _ => r) (n := x[i].f1.length) ?_ fun j hj h' => ?_
      · rw [List.take_length]
        refine Ev.step (f := fun k => tune_Prune.l0 k x (x.length : Int) ((i + 1 : Nat) : Int) s g x (markG a x[i].f1)) (fun k => ?_) h;simp only [tune_Prune.l1];rw [if_neg (by omega), wadd (by omega)]
      · have hv := hy _ (List.getElem_mem hj)
        have hr : rd x[i].f1 (j : Int) = x[i].f1[j] := by simp [rd, List.getD_eq_getElem?_getD, hj]
        have hl : ((markG a (x[i].f1.take j)).length : Int) = g.length := by rw [markG_len]; omega
        have hm2 : (markG a (x[i].f1.take j)).set (x[i].f1[j]).toNat true = markG a (x[i].f1.take (j + 1)) := by
          rw [← take_more x[i].f1 hj]; unfold markG; rw [List.foldl_append]; rfl
        refine Ev.step (f := fun k => tune_Prune.l1 k x (x.length : Int) (i : Int) x[i].f1 (x[i].f1.length : Int) ((j + 1 : Nat) : Int) s g x (markG a (x[i].f1.take (j + 1)))) (fun k => ?_) h';simp only [tune_Prune.l1];rw [if_pos (by omega), if_pos (by omega), if_pos (by omega), hr, if_pos hv.1, if_pos (by omega), wadd (by omega), hm2]
theorem mk_step (g : List S61) (a : List Bool) (i : Nat) : tune_Prune.step g a i = mkStep g a i := rfl
theorem mk_fold (g : List S61) : ∀ (m : Nat) (a : List Bool), m ≤ g.length → ((List.range m).reverse).foldl (fun a z => tune_Prune.step g a (min z (g.length - 1))) a = mkM g m a
  | 0, a, _ => rfl
  | m + 1, a, h => by
    rw [List.range_succ, List.reverse_append]
    show ((List.range m).reverse).foldl _ (tune_Prune.step g a (min m (g.length - 1))) = _
    rw [show min m (g.length - 1) = m by omega, mk_fold g m _ (by omega), mk_step]
    rfl
theorem range_back (n : Nat) : (List.range n).map (fun k => n - 1 - k) = (List.range n).reverse := by
  apply List.ext_getElem
  · simp
  · intro i h1 h2
    simp at h1;simp [List.getElem_reverse]
theorem mark_at {p s : Int} {g : List S61} (h : okL p s g) (a : List Bool) (ha : a.length = g.length) : tune_Prune.mark a g = some (mkM g g.length a) := by
  unfold tune_Prune.mark
  have hk : tune_Prune.okG g = true := by
    unfold tune_Prune.okG;rw [List.all_eq_true];intro y hy;obtain ⟨i, hi, rfl⟩ := List.getElem_of_mem hy;have hg := okG_nth h hi;rw [decide_eq_true_iff];unfold okG at hg
    omega
  rw [if_pos ⟨ha, hk⟩, range_back, mk_fold g g.length a (Nat.le_refl _)]
theorem tune_prune {p : Int} {s : List S64} {g : List S61} {x : List S66} (G : Good p s g x) : Ev (fun k => tune_Prune.f k p s g x) (s, (prL (asked g x) g).1, mapX (atI (prL (asked g x) g).2) x, 0) := by
  unfold tune_Prune.f;have hlg := G.lg;have hlx := G.exit;refine Ev.bind (circ_check p s g x fun e he => by have := (hlx e he).1; simp only [maxLen]; omega) ?_;rw [G.check];simp only [if_true, if_pos (show 0 ≤ (g.length : Int) by omega), Int.toNat_natCast, if_pos (show g.length ≤ 281474976710656 by omega)];refine tune_marks G ?_;rw [mark_at G.gates _ (by rw [markX_len, List.length_replicate])];simp only [Option.bind_some];have hl := asked_len g x;unfold asked at hl;have mv := tune_moved_at G (tune_Prune.st (asked g x)) some (atB (asked g x)) (fun y => y) (fun i a b c d i0 i1 => by unfold tune_Prune.st; rw [if_pos ⟨i0, by rw [asked_len]; exact i1⟩]; rfl) (fun y y0 y1 => ⟨rfl, y0, y1⟩);exact Ev.bind mv (Ev.now _)
end Go.Proofs.Ytmlbliggbkfjnaa.L
