/- Part 5 of the proof of TunePrunes: what the functions compute as plain Lean functions, that the machine comes to just these answers, and that the answer is true; no conditions. -/
import Derived.Test.YtmlbliggbkfjnaaTunePrunesZ0
import Derived.Test.YtmlbliggbkfjnaaTunePrunesZ1
import Derived.Test.YtmlbliggbkfjnaaTunePrunesZ2
import Derived.Test.YtmlbliggbkfjnaaTunePrunesZ3
import Derived.Test.YtmlbliggbkfjnaaTunePrunesZ4
import Derived.Deep.Slices
import Derived.ChangeArms
import Derived.DataReads
import Derived.SizedLaws
import Derived.WideShapes
import Derived.OpenShut
import Derived.Test.YtmlbliggbkfjnaaRows
import Derived.JoinedOf
import Derived.KernelRfl
set_option linter.unusedSimpArgs false
set_option linter.unusedVariables false
set_option maxHeartbeats 8000000
set_option maxRecDepth 100000
namespace Go.Proofs.Ytmlbliggbkfjnaa.J
open Go.RowKit Go.Proofs.YtmlbliggbkfjnaaW.PrintWords Go.Proofs.YtmlbliggbkfjnaaW.PrintLast Go.Proofs.YtmlbliggbkfjnaaW.PrintMore
attribute [local go_sem] max2_int min2_int max_two min_two max_three min_three max_four min_four
theorem qea.elder_lit {W w1 : World} {b : Nat} {ok : Nat → Prop} {X Y : Value} {xs : List Int} (hX : (Kd.int .i64).R 3 W b ok X xs) (hg : W.grownBy w1 none) (hnew : ∃ b, Y.ownBlock = some b ∧ W.heap.size ≤ b) : (Kd.int .i64).R 3 w1 b (fun k => some k ≠ Y.ownBlock) X xs :=
 Kd.R_mono (Kd.R_grown (Kd.R_bound hX) hg (fun _ _ => by simp)) (fun k hk he => by
  obtain ⟨b, hb, hle⟩ := hnew;rw [hb] at he
  injection he with he
  have := hk.2.2.1
  omega)
theorem qea.other_app {W w1 : World} {b : Nat} {X X' Y : Value} {ys : List Int} (hY : (Kd.int .i64).R 3 W b (fun k => some k ≠ X.ownBlock) Y ys) (hg : W.grownBy w1 X.ownBlock) (hat : X'.ownBlock = X.ownBlock ∨ ∃ b, X'.ownBlock = some b ∧ W.heap.size ≤ b) : (Kd.int .i64).R 3 w1 b (fun k => some k ≠ X'.ownBlock) Y ys :=
 Kd.R_mono (Kd.R_grown (Kd.R_bound hY) hg (fun k hk => hk.1)) (fun k hk he => by
  rcases hat with h | ⟨b, hb, hle⟩
  ·exact hk.1 (he.trans h)
  ·rw [hb] at he
   injection he with he
   have := hk.2.2.1
   omega)
theorem qea.elder2 {W w1 : World} {b : Nat} {ok : Nat → Prop} {v u u' : Value} {xs : List S66} (h : Kd.S k66t 66 W b ok v xs) (hb : Below W.heap.size W w1) (h1 : ∀ k, u.ownBlock = some k → W.heap.size ≤ k) (h2 : ∀ k, u'.ownBlock = some k → W.heap.size ≤ k) : Kd.S k66t 66 w1 b (fun k => (ok k ∧ some k ≠ u.ownBlock) ∧ some k ≠ u'.ownBlock) v xs :=
 Kd.S_mono (Kd.S_below (Kd.S_bound h) hb) (fun k hk => ⟨⟨hk.1, fun e => by have := h1 k e.symm; have := hk.2.2.1; omega⟩, fun e => by have := h2 k e.symm; have := hk.2.2.1; omega⟩)
theorem qea.clone_eq {l r : List Int} (h : qqa.f l = some r) : l = r ∧ l.length < 17592186044416 := by
 unfold qqa.f at h
 by_cases hl : l.length < 17592186044416
 ·rw [if_pos hl] at h
  exact ⟨Option.some.inj h, hl⟩
 rw [if_neg hl] at h;cases h
theorem cellb_ {W w1 : World} {p : Addr} {x : Value} (hb : Below W.heap.size W w1) (h : W.cell? p = some x) : w1.cell? p = some x := (hb.cell (World.block_lt_of_cell? _ _ h)).trans h
def qea.l0 : Nat → List (S66) → Int → Int → List (S64) → List (S66) → Option ((List (S64)) × (List (S61)) × (List (S66)))
 | 0, _, _, _, _, _ => none
 | k + 1, x15, x16, x17, ab, aa => if x17 < x16 then (if 0 ≤ x17 then (if x17 < (x15.length : Int) then ((qqa.f ((rd_T66 x15 x17).f0)).bind fun ad => ((qqa.f ((rd_T66 x15 x17).f1)).bind fun ae => (if aa.length < 2932031007402 then (qea.l0 k x15 x16 (wrap64 (x17 + 1)) ab (aa ++ [(⟨ad, ae⟩ : S66)])) else (none)))) else (none)) else (none)) else (some (ab, ([] : List (S61)), aa))
def qea.g (k : Nat) (aa : List (S64)) (ae : List (S61)) (ab : List (S66)) : Option ((List (S64)) × (List (S61)) × (List (S66))) := (some (([] : List (S64)) : List (S64))).bind fun ad => (if ad.length + aa.length < 8796093022208 then (qea.l0 k ab (ab.length : Int) 0 (ad ++ aa) ([] : List (S66))) else (none))
def qea.T5 : Bool × List (List Nat × List Nat) := (true, [([], []), ([0], [0]), ([], []), ([], []), ([3], [3]), ([2, 4], [2, 4]), ([], []), ([], []), ([7], [7]), ([6, 8, 5], [6, 8]), ([5, 9], [5, 9]), ([10], [10]), ([1, 11, 9], [1, 11]), ([0, 1, 2, 3, 4, 5, 6, 7, 8, 9, 10, 11, 12], []), ([13, 12, 12, 0, 1, 2, 3, 4, 5, 6, 7, 8, 9, 10, 11, 12], [12, 13])])
def qea.B5 : List Nat := [0, 1, 0, 0, 8, 28, 0, 0, 128, 508, 1020, 2044, 4095, 8191, 16383]
theorem qea.tab5 : rtab .any (opsOf Try.f44 5) = qea.T5 := by kernel_rfl
theorem qea.bits5 : waitsOk qea.T5.2 qea.B5 = true := by kernel_rfl
theorem qea.callsG (k : Nat) (bj : Option Addr) (bk : Nat) (au : List (S64)) (bl : Option Addr) (bm : Nat) (aN : List (S61)) (bp : Option Addr) (bn : Nat) (ad : List (S66)) (A1 : Option Addr) (c1 : Nat) (l1 : List (S61)) (r1 : List (S64)) (r2 : List (S61)) (r3 : List (S66)) (w : World) (br : Kd.C k64 w bj au.length au) (bt : au.length ≤ bk) (bu : Kd.C k61 w bl aN.length aN) (bv : aN.length ≤ bm) (bw : Kd.C k66 w bp ad.length ad) (bx : ad.length ≤ bn) (h : qea.g k au aN ad = some (r1, r2, r3)) :
  Calls Try.prog 44 #[.agg #[.slice bj au.length bk, .slice bl aN.length bm, .slice bp ad.length bn], .slice A1 l1.length c1] w fun e w' => ∃ v0_ v2_ : Value, e = .returned (.agg #[v0_, .slice A1 l1.length c1, v2_]) ∧ Kd.R k64 64 w' w.heap.size (fun _ => True) v0_ r1 ∧ Kd.S k66t 66 w' w.heap.size (fun _ => True) v2_ r3 ∧ Below w.heap.size w w' := by
 have hu26 := Try.underlying26;have hu66 := Try.underlying66;have bI := Aside0.mk br;have cl := Aside0.mk bt;clear br bt;have cm := Aside0.mk bu;have cn := Aside0.mk bv;clear bu bv;have bJ := Aside0.mk bw;have co := Aside0.mk bx;clear bw bx;have HB := Aside0.mk (Below.refl w.heap.size w);have H : ((some (([] : List (S64)) : List (S64))).bind fun aQ => (if aQ.length + au.length < 8796093022208 then (qea.l0 k ad (ad.length : Int) 0 (aQ ++ au) ([] : List (S66))) else (none))) = some (r1, r2, r3) := h;clear h;obtain ⟨aQ, aT⟩ : ∃ y_ : List (S64), y_ = (([] : List (S64))) := ⟨_, rfl⟩
 replace H : (if aQ.length + au.length < 8796093022208 then (qea.l0 k ad (ad.length : Int) 0 (aQ ++ au) ([] : List (S66))) else (none)) = some (r1, r2, r3) := by first | (rw [aT]; with_reducible exact H) | (have H2_ := (Option.bind_some _ _).symm.trans H; rw [aT]; with_reducible exact H2_) | (have H2_ := (Option.bind_some _ _).symm.trans H; with_reducible exact H2_) | with_reducible exact H | (rw [aT]; exact H) | exact H
 have bz := Aside0.mk aT;clear aT
 by_cases c2 : aQ.length + au.length < 8796093022208
 rotate_left
 ·rw [if_neg c2] at H
  exact absurd H (by simp)
 rw [if_pos c2] at H;have cg := Aside0.mk c2;clear c2;obtain ⟨av, aU⟩ : ∃ y_ : List (S64), y_ = (aQ ++ au) := ⟨_, rfl⟩
 replace H : (qea.l0 k ad (ad.length : Int) 0 av ([] : List (S66))) = some (r1, r2, r3) := by first | (rw [aU]; with_reducible exact H) | (have H2_ := (Option.bind_some _ _).symm.trans H; rw [aU]; with_reducible exact H2_) | (have H2_ := (Option.bind_some _ _).symm.trans H; with_reducible exact H2_) | with_reducible exact H | (rw [aU]; exact H) | exact H
 have bK := Aside0.mk aU;clear aU;have H' := Aside0.mk H;clear H;go_enter Try.func44, Try.ntmps44;go_wp2_with (first | ((with_reducible refine qga (N := 2) rfl ?_); refine box_event ?hg (N := 2) ?hd (cs := #[.slice bj au.length bk, .slice bl aN.length bm, .slice bp ad.length bn]) (t := 26) ?hr ?_; (case hd => rfl); (case hg => rfl); (case hr => first | (go_simp; done) | (go_simp; rfl)); intro bA hg w3 hbox hb; have ah := am hbox; have cp := kG HB hg; have cq := kG HB hg; replace HB := kH HB hb; clear hb hbox hg) | ((with_reducible refine qga (N := 4) rfl ?_); refine box_event ?hg (N := 4) ?hd (cs := #[.slice none 0 0, .slice none 0 0, .slice none 0 0]) (t := 26) ?hr ?_; (case hd => rfl); (case hg => rfl); (case hr => first | (go_simp; done) | (go_simp; rfl)); intro aw hg w4 hbox hb; have ai := am hbox; have cr := kG HB hg; have ct := kG HB hg; replace HB := kH HB hb; have aE := kP ah hg; have aG := kQ ah hg; replace ah := kU ah hb; clear hb hbox hg) | ((with_reducible refine qga (N := 8) rfl ?_); refine Kd.R_lit k64 _ 64 ?hg (N := 8) ?hd (xs := ([] : List (S64))) (inner := []) (ok := fun _ => True) (okp := fun _ => True) ?hr ?hp (fun _ hk => hk) trivial (Below.refl _ _) (Nat.le_refl _) (by simp) ?_; (case hd => rfl); (case hg => rfl); (case hr => first | (go_simp; done) | (go_simp; rfl)); (case hp => exact (Reps.none _ _)); intro ch w5 ho6 hb hg_ hnew_; clear hg_ hnew_; (first | rw [← bz.out] at ho6 | (simp only [Int.reduceToNat] at ho6; rw [← bz.out] at ho6)); have aY := kLR ho6 HB; replace ah := kU ah hb; replace ai := kU ai hb; replace HB := kH HB hb; clear hb ho6; have cR := aE.out; have cS := aG.out; have Z8 := kz3 ah) | ((with_reducible refine gate_builtin (b := .append) (xs := #[.tmp 8, .tmp 10]) rfl ?_); at_builtin; refine Kd.R_append_rows k64 (w0 := w) w.heap.size rfl (.tmp 8) (.tmp 10) 22 64 (.agg #[(.int .i64 0), (.bool false)]) 16 rfl Try.underlying22 info64 rfl (by decide) (by omega) ch aQ au _ _ _ (fun _ => True) (fun _ => False) rfl rfl ?aO ?aR (fun _ _ h => h) (fun _ h => h.elim) ?aF ?aB ?aS ?aL ?_; (case aR => repeat (first | exact (Kd.C_below bI.out HB.out) | (with_reducible first | refine Kd.C_alloc ?_ _ | refine Kd.C_drewN ?_ _ | refine Kd.C_drew ?_))); (case aB => exact (kh HB)); (case aF => exact (fun _ _ => trivial)); (case aO => exact (krR aY)); (case aS => exact (below_size (kh HB))); (case aL => have := cg.out; omega); intro cT w9 ho hb hg hat; rw [← bK.out] at ho; replace ah := kXR ah aY hg; replace ai := kXR ai aY hg; replace HB := Aside0.mk (hb); have aZ := Aside0.mk (ho); clear aY; clear ho hb hg hat; obtain ⟨aC, aD, ci⟩ := Kd.R_slice aZ.out; subst ci) | ((with_reducible refine qga (N := 5) rfl ?_); refine box_event ?hg (N := 5) ?hd (cs := #[.slice none 0 0, .slice none 0 0, .slice none 0 0]) (t := 26) ?hr ?_; (case hd => rfl); (case hg => rfl); (case hr => first | (go_simp; done) | (go_simp; rfl)); intro ar hg w11 hbox hb; replace aZ := kR aZ hb; have ae := am hbox; have cu := kG HB hg; have cv := kG HB hg; replace HB := kH HB hb; have ax := kP ah hg; have ay := kQ ah hg; replace ah := kU ah hb; have az := kP ai hg; have aA := kQ ai hg; replace ai := kU ai hb; clear hb hbox hg; have cw := ay.out; have cx := ax.out; have cy := aA.out; have cz := az.out; have Z14 := kz3 ae; have Z15 := kz3 ah));go_loopg [17] k (fun kq v17 w' => ∃ (ab : Int) (ak : List (S66)) (al : Value), v17 = .int .i64 ab ∧ Aside0 (qea.l0 kq ad (ad.length : Int) ab av ak = some (r1, r2, r3)) ∧ Aside0 (kq ≤ k) ∧ Aside0 (Kd.R k64 64 w' w.heap.size (fun _ => True) (.slice aC av.length aD) av) ∧ Aside0 (Kd.S k66t 66 w' w.heap.size (fun _ => True) al ak) ∧ Aside0 (w'.heap[bA]? = some (.cells #[(.slice bj au.length bk), (.slice bl aN.length bm), (.slice bp ad.length bn)] 26 (0, 0))) ∧ Aside0 (w'.heap[aw]? = some (.cells #[(.slice none 0 0), (.slice none 0 0), (.slice none 0 0)] 26 (0, 0))) ∧ Aside0 (w'.heap[ar]? = some (.cells #[(.slice aC av.length aD), (.slice A1 l1.length c1), al] 26 (0, 0))) ∧ Aside0 (Below w.heap.size w w'))
 case atStart => exact ⟨(0), (([] : List (S66))), (.slice none 0 0), et, H', ⟨Nat.le_refl _⟩, ⟨by (with_reducible repeat first | apply Kd.R_alloc | apply Kd.R_drewN | apply Kd.R_drew); exact Kd.R_mono (Kd.R_far (p := ⟨ar, 2, none⟩) (Kd.R_far (p := ⟨ar, 1, none⟩) (Kd.R_far (p := ⟨ar, 0, none⟩) (Kd.R_types aZ.out ae.out (by decide)) (fun _ hk => hk.2) (.slice aC av.length aD)) (fun _ hk => hk.2) (.slice A1 l1.length c1)) (fun _ hk => hk.2) (.slice none 0 0)) (fun _ hk => trivial)⟩, ⟨by first | exact Kd.S_nil _ _ _ _ _ | exact Kd.N_nil _ _ _ _ _ | exact Kd.V_nil _ _ _ _ _ | exact Kd.Q_nil _ _ _ _ _ | exact Kd.R_nil _ _ _ _ _⟩, ⟨kg ah⟩, ⟨kg ai⟩, ⟨kg ae⟩, ⟨kh HB⟩⟩
 case round =>
  clear H';(try clear Z14 Z15 Z8);obtain ⟨ab, ak, al, rfl, HA, HK1, ag, aa, ah, ai, ae, HB⟩ := hrel
  cases gk with
  | zero => exact absurd HA.out (by simp [qea.l0])
  | succ k1 =>
   have H := HA.out;clear HA;simp only [qea.l0] at H
   by_cases c16 : ab < (ad.length : Int)
   rotate_left
   ·rw [if_neg c16] at H
    have bL := decide_eq_false c16;clear c16;simp only [Option.some.injEq, Prod.mk.injEq] at H;obtain ⟨rfl, rfl, rfl⟩ := H;have cA := ay.out;have cB := ax.out;have cC := aA.out;have cD := az.out;have Z38 := kz3 ae;have cE := aG.out;have cF := aE.out;have Z40 := kz3 ai;obtain ⟨bC, bD, cj⟩ := Kd.S_slice aa.out;subst cj;go_wp2;refine bodyPost_ret (results_cell_row rfl _ _ aw 26 #[.slice aC av.length aD, .slice A1 l1.length c1, .slice bC ak.length bD] (0, 0) _ rfl (kg ai) Try.underlying26 rfl (by kernel_rfl)) rfl ?_;exact ⟨_, _, er, by (with_reducible repeat first | apply Kd.R_alloc | apply Kd.R_drewN | apply Kd.R_drew); exact Kd.R_mono (Kd.R_far (p := ⟨aw, 2, none⟩) (Kd.R_far (p := ⟨aw, 1, none⟩) (Kd.R_far (p := ⟨aw, 0, none⟩) (Kd.R_types ag.out ai.out (by decide)) (fun _ hk => hk.2) (.slice aC av.length aD)) (fun _ hk => hk.2) (.slice A1 l1.length c1)) (fun _ hk => hk.2) (.slice bC ak.length bD)) (fun _ hk => trivial), by (with_reducible repeat first | apply Kd.S_alloc | apply Kd.S_drewN | apply Kd.S_drew); exact Kd.S_mono (Kd.S_far (p := ⟨aw, 2, none⟩) (Kd.S_far (p := ⟨aw, 1, none⟩) (Kd.S_far (p := ⟨aw, 0, none⟩) (Kd.S_types aa.out ai.out (by decide)) (fun _ hk => hk.2) (.slice aC av.length aD)) (fun _ hk => hk.2) (.slice A1 l1.length c1)) (fun _ hk => hk.2) (.slice bC ak.length bD)) (fun _ hk => trivial), kh HB⟩
   rw [if_pos c16] at H;have bL := decide_eq_true c16;clear c16
   by_cases c17 : 0 ≤ ab
   rotate_left
   ·rw [if_neg c17] at H
    exact absurd H (by simp)
   rw [if_pos c17] at H;have cG := decide_eq_true c17;clear c17
   by_cases c18 : ab < (ad.length : Int)
   rotate_left
   ·rw [if_neg c18] at H
    exact absurd H (by simp)
   rw [if_pos c18] at H;have cH := decide_eq_true c18;clear c18;replace H := Option.bind_eq_some_iff.mp H;obtain ⟨aX, bM, H⟩ := H;(try dsimp only at H);have A19 := Aside0.mk bM;clear bM;replace H := Option.bind_eq_some_iff.mp H;obtain ⟨bd, bN, H⟩ := H;(try dsimp only at H);have A20 := Aside0.mk bN;clear bN
   by_cases c21 : ak.length < 2932031007402
   rotate_left
   ·rw [if_neg c21] at H
    exact absurd H (by simp)
   rw [if_pos c21] at H;have bO := Aside0.mk c21;clear c21;obtain ⟨bo, aV⟩ : ∃ y_ : List (S66), y_ = (ak ++ [(⟨aX, bd⟩ : S66)]) := ⟨_, rfl⟩
   replace H : (qea.l0 k1 ad (ad.length : Int) (wrap64 (ab + 1)) av bo) = some (r1, r2, r3) := by first | (rw [aV]; with_reducible exact H) | (have H2_ := (Option.bind_some _ _).symm.trans H; rw [aV]; with_reducible exact H2_) | (have H2_ := (Option.bind_some _ _).symm.trans H; with_reducible exact H2_) | with_reducible exact H | (rw [aV]; exact H) | exact H
   have bP := Aside0.mk aV;clear aV;have H' := Aside0.mk H;clear H;have bE : 0 ≤ (ab : Int) := od;have bF : ab < (ad.length : Int) := od;obtain ⟨bQ, an, ao, ap, aq, ck, aJ, aK, ba, hi384_0, bb, hi384_1⟩ := at_T66 bJ.out ab bE bF;cases ck;replace aJ := (HB.out.cell (World.block_lt_of_cell? w _ aJ)).trans aJ;replace aK := (HB.out.cell (World.block_lt_of_cell? w _ aK)).trans aK;have aM := Aside0.mk hi384_0;have bY := Aside0.mk ba;clear hi384_0 ba;have bq := Aside0.mk hi384_1;have bZ := Aside0.mk bb;clear hi384_1 bb; replace bE := eq_true bE; replace bF := eq_true bF;(try go_wp2_with (first | ((with_reducible refine qga (N := 7) rfl ?_); refine box_event ?hg (N := 7) ?hd (cs := #[.slice none 0 0, .slice none 0 0]) (t := 66) ?hr ?_; (case hd => rfl); (case hg => rfl); (case hr => first | (go_simp; done) | (go_simp; rfl)); intro af hg w22 hbox hb; replace ag := kR ag hb; replace aa := Aside0.mk (Kd.S_below (Kd.S_elderB (krS aa) af (Nat.le_of_eq hg.symm)) hb); have aj := am hbox; have cI := kG HB hg; have cJ := kG HB hg; replace HB := kH HB hb; have bf := kP ah hg; have bg := kQ ah hg; replace ah := kU ah hb; have bh := kP ai hg; have bi := kQ ai hg; replace ai := kU ai hb; have aH := kP ae hg; have aI := kQ ae hg; replace ae := kU ae hb; clear hb hbox hg; have cK := bg.out; have cL := bf.out; have cM := bi.out; have cN := bh.out; have cO := aI.out; have cP := aH.out; have Z26 := kz2 aj)));have n0_ : Aside0 (Kd.R k64 64 ((w22.setCell ⟨af, 0, none⟩ (.slice an ((rd_T66 ad ab).f0).length ao)).setCell ⟨af, 1, none⟩ (.slice ap ((rd_T66 ad ab).f1).length aq)) w.heap.size (fun _ => True) (.slice aC av.length aD) av) := ⟨by (with_reducible repeat first | apply Kd.R_alloc | apply Kd.R_drewN | apply Kd.R_drew); exact Kd.R_mono (Kd.R_far (p := ⟨af, 1, none⟩) (Kd.R_far (p := ⟨af, 0, none⟩) (Kd.R_types ag.out aj.out (by decide)) (fun _ hk => hk.2) (.slice an ((rd_T66 ad ab).f0).length ao)) (fun _ hk => hk.2) (.slice ap ((rd_T66 ad ab).f1).length aq)) (fun _ hk => trivial)⟩;have n1_ : Aside0 (Kd.S k66t 66 ((w22.setCell ⟨af, 0, none⟩ (.slice an ((rd_T66 ad ab).f0).length ao)).setCell ⟨af, 1, none⟩ (.slice ap ((rd_T66 ad ab).f1).length aq)) w.heap.size (fun k_ => k_ ≠ af) al ak) := ⟨by (with_reducible repeat first | apply Kd.S_alloc | apply Kd.S_drewN | apply Kd.S_drew); exact Kd.S_mono (Kd.S_far (p := ⟨af, 1, none⟩) (Kd.S_far (p := ⟨af, 0, none⟩) (Kd.S_mono aa.out (fun k_ hk => (⟨hk, hk.2⟩ : _ ∧ k_ ≠ af))) (fun _ hk => hk.2) (.slice an ((rd_T66 ad ab).f0).length ao)) (fun _ hk => hk.2) (.slice ap ((rd_T66 ad ab).f1).length aq)) (fun _ hk => hk.1.2)⟩;have n2_ : Aside0 (((w22.setCell ⟨af, 0, none⟩ (.slice an ((rd_T66 ad ab).f0).length ao)).setCell ⟨af, 1, none⟩ (.slice ap ((rd_T66 ad ab).f1).length aq)).heap[bA]? = some (.cells #[.slice bj au.length bk, .slice bl aN.length bm, .slice (some bQ) ad.length bn] 26 (0, 0))) := ⟨kg ah⟩;have n3_ : Aside0 (((w22.setCell ⟨af, 0, none⟩ (.slice an ((rd_T66 ad ab).f0).length ao)).setCell ⟨af, 1, none⟩ (.slice ap ((rd_T66 ad ab).f1).length aq)).heap[aw]? = some (.cells #[.slice none 0 0, .slice none 0 0, .slice none 0 0] 26 (0, 0))) := ⟨kg ai⟩;have n4_ : Aside0 (((w22.setCell ⟨af, 0, none⟩ (.slice an ((rd_T66 ad ab).f0).length ao)).setCell ⟨af, 1, none⟩ (.slice ap ((rd_T66 ad ab).f1).length aq)).heap[ar]? = some (.cells #[.slice aC av.length aD, .slice A1 l1.length c1, al] 26 (0, 0))) := ⟨kg ae⟩;have n5_ : Aside0 (((w22.setCell ⟨af, 0, none⟩ (.slice an ((rd_T66 ad ab).f0).length ao)).setCell ⟨af, 1, none⟩ (.slice ap ((rd_T66 ad ab).f1).length aq)).heap[af]? = some (.cells #[.slice an ((rd_T66 ad ab).f0).length ao, .slice ap ((rd_T66 ad ab).f1).length aq] 66 (0, 0))) := ⟨kg aj⟩;have n6_ : Aside0 (Below w.heap.size w ((w22.setCell ⟨af, 0, none⟩ (.slice an ((rd_T66 ad ab).f0).length ao)).setCell ⟨af, 1, none⟩ (.slice ap ((rd_T66 ad ab).f1).length aq))) := ⟨kh HB⟩;(try clear ag aa ah ai ae aj HB);generalize ((w22.setCell ⟨af, 0, none⟩ (.slice an ((rd_T66 ad ab).f0).length ao)).setCell ⟨af, 1, none⟩ (.slice ap ((rd_T66 ad ab).f1).length aq)) = w27 at n0_ n1_ n2_ n3_ n4_ n5_ n6_ ⊢;have ag := n0_; have aa := n1_; have ah := n2_; have ai := n3_; have ae := n4_; have aj := n5_; have HB := n6_; clear n0_ n1_ n2_ n3_ n4_ n5_ n6_;replace ag := kFR ag; replace aa := kFS aa; replace ah := kD ah; replace ai := kD ai; replace ae := kD ae; replace aj := kD aj; replace HB := kE HB;refine start_ (n := 15) (S := fun w' => w'.cell? ⟨ar, 0, none⟩ = some (.slice aC av.length aD) ∧ w'.cell? ⟨ar, 1, none⟩ = some (.slice A1 l1.length c1) ∧ w'.cell? ⟨ar, 2, none⟩ = some (al) ∧ w'.cell? ⟨af, 0, none⟩ = some (.slice an ((rd_T66 ad ab).f0).length ao) ∧ w'.cell? ⟨af, 1, none⟩ = some (.slice ap ((rd_T66 ad ab).f1).length aq)) (ds := [14]) (bs 15 0) (by kernel_rfl) rfl rfl ⟨kk ae 0, kk ae 1, kk ae 2, kk aj 0, kk aj 1⟩ (fun hHeld => ?_); refine with_tabW qea.tab5 qea.bits5 (fun HT_ HW_ => ?_);generalize w27.drew = w28 at ag aa ah ai ae aj HB hHeld ⊢;refine pu 0 (some 21) (bs 15 1) HT_ ?_;refine pu 3 (some 24) (bs 15 9) HT_ ?_;refine pu 7 (some 28) (bs 15 137) HT_ ?_;refine ta 1 (some 22) (bs 15 139) HT_ HW_ hHeld ?_;refine ta 4 (some 25) (bs 15 155) HT_ HW_ hHeld ?_;refine ta 8 (some 29) (bs 15 411) HT_ HW_ hHeld ?_;have HS0 := Aside0.mk hHeld;have HBN := Aside0.mk (Below.refl w28.heap.size w28);have hcl_ := qea.clone_eq A19.out;have E386 := Aside0.mk hcl_.1;have L386 := Aside0.mk hcl_.2;clear hcl_;have hcl_ := qea.clone_eq A20.out;have E389 := Aside0.mk hcl_.1;have L389 := Aside0.mk hcl_.2;clear hcl_;refine join_ (σ := Value × Value × Value) 6 (bs 15 511) (fun s_ => [(23, s_.1), (26, s_.2.1), (27, s_.2.2)]) (fun s_ w' => (w'.cell? ⟨ar, 0, none⟩ = some (.slice aC av.length aD) ∧ w'.cell? ⟨ar, 1, none⟩ = some (.slice A1 l1.length c1) ∧ w'.cell? ⟨ar, 2, none⟩ = some (al) ∧ w'.cell? ⟨af, 0, none⟩ = some (.slice an ((rd_T66 ad ab).f0).length ao) ∧ w'.cell? ⟨af, 1, none⟩ = some (.slice ap ((rd_T66 ad ab).f1).length aq)) ∧ ((Kd.int .i64).R 3 w' w28.heap.size (fun k_ => some k_ ≠ s_.2.2.ownBlock) s_.2.1 aX) ∧ ((Kd.int .i64).R 3 w' w28.heap.size (fun k_ => some k_ ≠ s_.2.1.ownBlock) s_.2.2 []) ∧ (Below w28.heap.size w28 w')) ?_ ?_
   rotate_left
   ·intro hCont
    refine two_ (i := 2) (j := 6) (Ni := some 23) (Nj := some 27) (bs 15 415) (bs 15 475) rfl rfl rfl rfl (two_of HT_.out (by kernel_rfl)) (by decide) (by decide) (fun K hK => ?_) (fun K hK => ?_)
    ·skip
     refine Kd.R_lit_step (Kd.int .i64) (w0 := w28) w28.heap.size 3 (by rfl) (N := 23) rfl (xs := ([] : List Int)) (inner := []) (ok := fun k_ => True) (okp := fun _ => False) ?hr (Reps.none _ _) (fun _ h_ => h_.elim) trivial HBN.out (HBN.out.size) (by simp) ?_;(case hr => first | (go_simp; done) | (go_simp; rfl));intro v23 we101 ho_ hb_ hg_ hnew_;have q_ := Aside0.mk ho_;clear HBN;have HBN := Aside0.mk hb_;have P23 := q_; clear q_;refine hK.out _ _ ⟨cellb_ hb_ HS0.out.1, cellb_ hb_ HS0.out.2.1, cellb_ hb_ HS0.out.2.2.1, cellb_ hb_ HS0.out.2.2.2.1, cellb_ hb_ HS0.out.2.2.2.2⟩ (fun hHeld => ?_);clear hK K ho_ hb_ hg_ hnew_;refine no (some 23) ?_;refine two_ (i := 5) (j := 6) (Ni := some 26) (Nj := some 27) (bs 15 447) (bs 15 479) rfl rfl rfl rfl (two_of HT_.out (by kernel_rfl)) (by decide) (by decide) (fun K hK => ?_) (fun K hK => ?_)
     ·skip
      refine Kd.R_append_rows_step (Kd.int .i64) (w0 := w28) w28.heap.size (by rfl) (.tmp 23) (.tmp 25) 27 3 (.int .i64 0) 8 rfl Try.underlying27 info3 rfl (by decide) (by omega) v23 ([] : List Int) ((rd_T66 ad ab).f0) _ _ _ (fun k_ => True) (fun _ => False) rfl rfl P23.out ?aR (fun _ _ h_ => h_) (fun _ h_ => h_.elim) (fun _ _ => trivial) HBN.out HBN.out.size ?aL ?_;(case aR => exact Kd.C_below aM.out (below_step HB.out HBN.out));(case aL => have := L386.out; simp only [List.length_nil]; omega);intro v26 we102 ho_ hb_ hg_ hat_;rw [List.nil_append, E386.out] at ho_;have q_ := Aside0.mk ho_;clear HBN P23;have HBN := Aside0.mk hb_;have P26 := q_; clear q_;refine hK.out _ _ ⟨cellb_ hb_ HS0.out.1, cellb_ hb_ HS0.out.2.1, cellb_ hb_ HS0.out.2.2.1, cellb_ hb_ HS0.out.2.2.2.1, cellb_ hb_ HS0.out.2.2.2.2⟩ (fun hHeld => ?_);clear hK K ho_ hb_ hg_ hat_;refine no (some 26) ?_;refine one_ (i := 6) (N := some 27) (bs 15 511) rfl rfl (one_of HT_.out (by kernel_rfl)) (by decide) (fun K hK => ?_);refine Kd.R_lit_step (Kd.int .i64) (w0 := w28) w28.heap.size 3 (by rfl) (N := 27) rfl (xs := ([] : List Int)) (inner := []) (ok := fun k_ => some k_ ≠ (v26 : Value).ownBlock) (okp := fun _ => False) ?hr (Reps.none _ _) (fun _ h_ => h_.elim) (fun e_ => by have := Kd.R_lt P26.out _ e_.symm; omega) HBN.out (HBN.out.size) (by simp) ?_;(case hr => first | (go_simp; done) | (go_simp; rfl));intro v27 we103 ho_ hb_ hg_ hnew_;have q_ := Aside0.mk ho_;have q26_ := Aside0.mk (qea.elder_lit P26.out hg_ hnew_);clear P26; have P26 := q26_; clear q26_ HBN;have HBN := Aside0.mk hb_;have P27 := q_; clear q_;refine hK.out _ _ ⟨cellb_ hb_ HS0.out.1, cellb_ hb_ HS0.out.2.1, cellb_ hb_ HS0.out.2.2.1, cellb_ hb_ HS0.out.2.2.2.1, cellb_ hb_ HS0.out.2.2.2.2⟩ (fun hHeld => ?_);clear hK K ho_ hb_ hg_ hnew_;refine no (some 27) ?_;exact norm_ (by simp only [putAll, Act.put, qS1, qS2, qS3]) (hCont (v23, v26, v27) _ ⟨hHeld, P26.out, P27.out, HBN.out⟩)
     ·skip
      refine Kd.R_lit_step (Kd.int .i64) (w0 := w28) w28.heap.size 3 (by rfl) (N := 27) rfl (xs := ([] : List Int)) (inner := []) (ok := fun k_ => some k_ ≠ (v23 : Value).ownBlock) (okp := fun _ => False) ?hr (Reps.none _ _) (fun _ h_ => h_.elim) (fun e_ => by have := Kd.R_lt P23.out _ e_.symm; omega) HBN.out (HBN.out.size) (by simp) ?_;(case hr => first | (go_simp; done) | (go_simp; rfl));intro v27 we104 ho_ hb_ hg_ hnew_;have q_ := Aside0.mk ho_;have q23_ := Aside0.mk (qea.elder_lit P23.out hg_ hnew_);clear P23; have P23 := q23_; clear q23_ HBN;have HBN := Aside0.mk hb_;have P27 := q_; clear q_;refine hK.out _ _ ⟨cellb_ hb_ HS0.out.1, cellb_ hb_ HS0.out.2.1, cellb_ hb_ HS0.out.2.2.1, cellb_ hb_ HS0.out.2.2.2.1, cellb_ hb_ HS0.out.2.2.2.2⟩ (fun hHeld => ?_);clear hK K ho_ hb_ hg_ hnew_;refine no (some 27) ?_;refine one_ (i := 5) (N := some 26) (bs 15 511) rfl rfl (one_of HT_.out (by kernel_rfl)) (by decide) (fun K hK => ?_);refine Kd.R_append_rows_step (Kd.int .i64) (w0 := w28) w28.heap.size (by rfl) (.tmp 23) (.tmp 25) 27 3 (.int .i64 0) 8 rfl Try.underlying27 info3 rfl (by decide) (by omega) v23 ([] : List Int) ((rd_T66 ad ab).f0) _ _ _ (fun k_ => some k_ ≠ (v27 : Value).ownBlock) (fun _ => False) rfl rfl P23.out ?aR (fun _ _ h_ => h_) (fun _ h_ => h_.elim) (fun k_ hk_ e_ => by have := Kd.R_lt P27.out _ e_.symm; omega) HBN.out HBN.out.size ?aL ?_;(case aR => exact Kd.C_below aM.out (below_step HB.out HBN.out));(case aL => have := L386.out; simp only [List.length_nil]; omega);intro v26 we105 ho_ hb_ hg_ hat_;rw [List.nil_append, E386.out] at ho_;have q_ := Aside0.mk ho_;have q27_ := Aside0.mk (qea.other_app P27.out hg_ hat_);clear P27; have P27 := q27_; clear q27_ HBN P23;have HBN := Aside0.mk hb_;have P26 := q_; clear q_;refine hK.out _ _ ⟨cellb_ hb_ HS0.out.1, cellb_ hb_ HS0.out.2.1, cellb_ hb_ HS0.out.2.2.1, cellb_ hb_ HS0.out.2.2.2.1, cellb_ hb_ HS0.out.2.2.2.2⟩ (fun hHeld => ?_);clear hK K ho_ hb_ hg_ hat_;refine no (some 26) ?_;exact norm_ (by simp only [putAll, Act.put, qS1, qS2, qS3]) (hCont (v23, v26, v27) _ ⟨hHeld, P26.out, P27.out, HBN.out⟩)
    ·skip
     refine Kd.R_lit_step (Kd.int .i64) (w0 := w28) w28.heap.size 3 (by rfl) (N := 27) rfl (xs := ([] : List Int)) (inner := []) (ok := fun k_ => True) (okp := fun _ => False) ?hr (Reps.none _ _) (fun _ h_ => h_.elim) trivial HBN.out (HBN.out.size) (by simp) ?_;(case hr => first | (go_simp; done) | (go_simp; rfl));intro v27 we106 ho_ hb_ hg_ hnew_;have q_ := Aside0.mk ho_;clear HBN;have HBN := Aside0.mk hb_;have P27 := q_; clear q_;refine hK.out _ _ ⟨cellb_ hb_ HS0.out.1, cellb_ hb_ HS0.out.2.1, cellb_ hb_ HS0.out.2.2.1, cellb_ hb_ HS0.out.2.2.2.1, cellb_ hb_ HS0.out.2.2.2.2⟩ (fun hHeld => ?_);clear hK K ho_ hb_ hg_ hnew_;refine no (some 27) ?_;refine one_ (i := 2) (N := some 23) (bs 15 479) rfl rfl (one_of HT_.out (by kernel_rfl)) (by decide) (fun K hK => ?_);refine Kd.R_lit_step (Kd.int .i64) (w0 := w28) w28.heap.size 3 (by rfl) (N := 23) rfl (xs := ([] : List Int)) (inner := []) (ok := fun k_ => some k_ ≠ (v27 : Value).ownBlock) (okp := fun _ => False) ?hr (Reps.none _ _) (fun _ h_ => h_.elim) (fun e_ => by have := Kd.R_lt P27.out _ e_.symm; omega) HBN.out (HBN.out.size) (by simp) ?_;(case hr => first | (go_simp; done) | (go_simp; rfl));intro v23 we107 ho_ hb_ hg_ hnew_;have q_ := Aside0.mk ho_;have q27_ := Aside0.mk (qea.elder_lit P27.out hg_ hnew_);clear P27; have P27 := q27_; clear q27_ HBN;have HBN := Aside0.mk hb_;have P23 := q_; clear q_;refine hK.out _ _ ⟨cellb_ hb_ HS0.out.1, cellb_ hb_ HS0.out.2.1, cellb_ hb_ HS0.out.2.2.1, cellb_ hb_ HS0.out.2.2.2.1, cellb_ hb_ HS0.out.2.2.2.2⟩ (fun hHeld => ?_);clear hK K ho_ hb_ hg_ hnew_;refine no (some 23) ?_;refine one_ (i := 5) (N := some 26) (bs 15 511) rfl rfl (one_of HT_.out (by kernel_rfl)) (by decide) (fun K hK => ?_);refine Kd.R_append_rows_step (Kd.int .i64) (w0 := w28) w28.heap.size (by rfl) (.tmp 23) (.tmp 25) 27 3 (.int .i64 0) 8 rfl Try.underlying27 info3 rfl (by decide) (by omega) v23 ([] : List Int) ((rd_T66 ad ab).f0) _ _ _ (fun k_ => some k_ ≠ (v27 : Value).ownBlock) (fun _ => False) rfl rfl P23.out ?aR (fun _ _ h_ => h_) (fun _ h_ => h_.elim) (fun k_ hk_ e_ => by have := Kd.R_lt P27.out _ e_.symm; omega) HBN.out HBN.out.size ?aL ?_;(case aR => exact Kd.C_below aM.out (below_step HB.out HBN.out));(case aL => have := L386.out; simp only [List.length_nil]; omega);intro v26 we108 ho_ hb_ hg_ hat_;rw [List.nil_append, E386.out] at ho_;have q_ := Aside0.mk ho_;have q27_ := Aside0.mk (qea.other_app P27.out hg_ hat_);clear P27; have P27 := q27_; clear q27_ HBN P23;have HBN := Aside0.mk hb_;have P26 := q_; clear q_;refine hK.out _ _ ⟨cellb_ hb_ HS0.out.1, cellb_ hb_ HS0.out.2.1, cellb_ hb_ HS0.out.2.2.1, cellb_ hb_ HS0.out.2.2.2.1, cellb_ hb_ HS0.out.2.2.2.2⟩ (fun hHeld => ?_);clear hK K ho_ hb_ hg_ hat_;refine no (some 26) ?_;exact norm_ (by simp only [putAll, Act.put, qS1, qS2, qS3]) (hCont (v23, v26, v27) _ ⟨hHeld, P26.out, P27.out, HBN.out⟩)
   rintro ⟨v23, v26, v27⟩ we90 ⟨hHeld, h26_, h27_, hbn_⟩;have P26 := Aside0.mk h26_;have P27 := Aside0.mk h27_;clear HBN;have HBN := Aside0.mk hbn_;clear h26_ h27_ hbn_;refine norm_ (a' := ?_) ?_ ?_
   rotate_left
   ·simp only [putAll, Act.put, qS1, qS2, qS3]
    rfl
   refine one_ (i := 9) (N := some 30) (bs 15 1023) rfl rfl (one_of HT_.out (by kernel_rfl)) (by decide) (fun K hK => ?_);refine Kd.R_append_rows_step (Kd.int .i64) (w0 := w28) w28.heap.size (by rfl) (.tmp 27) (.tmp 29) 27 3 (.int .i64 0) 8 rfl Try.underlying27 info3 rfl (by decide) (by omega) v27 ([] : List Int) ((rd_T66 ad ab).f1) _ _ _ (fun k_ => some k_ ≠ v26.ownBlock) (fun _ => False) rfl rfl P27.out ?aR (fun _ _ h_ => h_) (fun _ h_ => h_.elim) (fun k_ hk_ e_ => by have := Kd.R_lt P26.out _ e_.symm; omega) HBN.out HBN.out.size ?aL ?_;(case aR => exact Kd.C_below bq.out (below_step HB.out HBN.out));(case aL => have := L389.out; simp only [List.length_nil]; omega);intro v30 we91 ho_ hb hg_ hat_;rw [List.nil_append, E389.out] at ho_;have q_ := Aside0.mk (qea.other_app P26.out hg_ hat_);clear P26 P27 HBN; have P26 := q_;have P27 := Aside0.mk ho_;clear q_ ho_ hg_ hat_; have hb_ := hb;replace ag := kR ag hb; replace aa := Aside0.mk (qea.elder2 aa.out hb (Kd.R_base P26.out) (Kd.R_base P27.out)); have aW : Aside0 (Kd.R (Kd.int .i64) 3 we91 w.heap.size (fun k_ => True ∧ some k_ ≠ v30.ownBlock) v26 aX) := ⟨Kd.R_mono (Kd.R_lower P26.out (below_size HB.out)) (fun _ hk => ⟨trivial, hk⟩)⟩; have bc : Aside0 (Kd.R (Kd.int .i64) 3 we91 w.heap.size (fun k_ => True ∧ some k_ ≠ v26.ownBlock) v30 bd) := ⟨Kd.R_mono (Kd.R_lower P27.out (below_size HB.out)) (fun _ hk => ⟨trivial, hk⟩)⟩; replace ah := kU ah hb; replace ai := kU ai hb; replace ae := kU ae hb; replace aj := kU aj hb; replace HB := kH HB hb;(try clear hb);obtain ⟨bR, bS, bT⟩ := Kd.R_slice bc.out;(first | subst bT | (injection bT with f1_ f2_ f3_; have f4_ := f1_.symm; have f5_ := f3_.symm; clear f1_ f2_ f3_; subst f4_; subst f5_));obtain ⟨bU, bV, bW⟩ := Kd.R_slice aW.out;(first | subst bW | (injection bW with f1_ f2_ f3_; have f4_ := f1_.symm; have f5_ := f3_.symm; clear f1_ f2_ f3_; subst f4_; subst f5_));refine hK.out _ _ ⟨kk ae 0, kk ae 1, kk ae 2, kk aj 0, kk aj 1⟩ (fun hHeld => ?_);clear hK K;refine no (some 30) ?_;refine pu 10 (some 31) (bs 15 2047) HT_ ?_;refine one_ (i := 11) (N := some 32) (bs 15 4095) rfl rfl (one_of HT_.out (by kernel_rfl)) (by decide) (fun K hK => ?_);refine value_ (w1 := ?_) (v := ?_) (by rfl) rfl ?_ ?_
   rotate_left 2
   ·go_simp
    constructor
    ·rfl
    ·rfl
   refine hK.out _ _ ⟨(blk_cell (blk_alloc ae.out _) 0).trans rfl, (blk_cell (blk_alloc ae.out _) 1).trans rfl, (blk_cell (blk_alloc ae.out _) 2).trans rfl, (blk_cell (blk_alloc aj.out _) 0).trans rfl, (blk_cell (blk_alloc aj.out _) 1).trans rfl⟩ (fun hHeld => ?_);clear hK K;refine no (some 32) ?_;refine one_ (i := 12) (N := some 33) (bs 15 8191) rfl rfl (one_of HT_.out (by kernel_rfl)) (by decide) (fun K hK => ?_);refine Kd.S_append_step k66t (w0 := w) w.heap.size (by rfl) (.tmp 22) (.tmp 32) 24 66 (.agg #[(.slice none 0 0), (.slice none 0 0)]) 48 rfl Try.underlying24 info66 rfl (by decide) (by omega) al ak (⟨aX, bd⟩ : S66) [.slice bU aX.length bV, .slice bR bd.length bS] (fun k_ => k_ ≠ af) (fun k_ => some k_ = (.slice bU aX.length bV : Value).ownBlock ∨ some k_ = (.slice bR bd.length bS : Value).ownBlock) rfl rfl ?aP (fun k_ hk_ => hk_.elim (fun h_ => ((Kd.R_mono (ok' := fun k_ => ((fun k_ => k_ ≠ af)) k_ ∧ some k_ ≠ (al : Value).ownBlock) (Kd.R_types (Kd.R_apart' (aW.out) (Kd.S_typed aa.out) (by decide)) aj.out (by decide)) (fun k_ hk => ⟨hk.2, hk.1.2⟩))).1 k_ h_.symm) (fun h_ => ((Kd.R_mono (ok' := fun k_ => ((fun k_ => k_ ≠ af)) k_ ∧ some k_ ≠ (al : Value).ownBlock) (Kd.R_types (Kd.R_apart' (bc.out) (Kd.S_typed aa.out) (by decide)) aj.out (by decide)) (fun k_ hk => ⟨hk.2, hk.1.2⟩))).1 k_ h_.symm)) ?aF ?aO ?aB ?aS ?aL ?_;(case aP => exact k66t_mkM _ _ _ (⟨aX, bd⟩ : S66) (fun k_ h_ h2_ => (aW.out.1 k_ h_).2 h2_.symm) (Kd.R_mono (Kd.R_tight rfl (Kd.R_mono (ok' := fun k_ => ((fun k_ => k_ ≠ af)) k_ ∧ some k_ ≠ (al : Value).ownBlock) (Kd.R_types (Kd.R_apart' (aW.out) (Kd.S_typed aa.out) (by decide)) aj.out (by decide)) (fun k_ hk => ⟨hk.2, hk.1.2⟩))) (fun _ h_ => Or.inl h_)) (Kd.R_mono (Kd.R_tight rfl (Kd.R_mono (ok' := fun k_ => ((fun k_ => k_ ≠ af)) k_ ∧ some k_ ≠ (al : Value).ownBlock) (Kd.R_types (Kd.R_apart' (bc.out) (Kd.S_typed aa.out) (by decide)) aj.out (by decide)) (fun k_ hk => ⟨hk.2, hk.1.2⟩))) (fun _ h_ => Or.inr (h_))));(case aB => exact (kh HB));(case aF => exact (fun k_ hk => Kd.freshB (g := af) (o := .cells #[.slice an ((rd_T66 ad ab).f0).length ao, .slice ap ((rd_T66 ad ab).f1).length aq] 66 (0, 0)) (kb aj) k_ hk));(case aO => exact (by (with_reducible repeat first | apply Kd.S_alloc | apply Kd.S_drewN | apply Kd.S_drew); exact Kd.S_mono aa.out (fun k_ hk => ⟨hk.1.1, fun e_ => e_.elim (fun h_ => hk.1.2 h_) (fun h_ => hk.2 h_)⟩)));(case aS => exact (below_size (kh HB)));(case aL => have := bO.out; omega);intro cU w33 ho hb hg hat;rw [← bP.out] at ho;replace ag := Aside0.mk (Kd.R_over' (krR ag) (Kd.S_typed (krS aa)) (by decide) hg); replace ah := kXS ah aa hg; replace ai := kXS ai aa hg; replace ae := kXS ae aa hg; replace aj := Aside0.mk (blk_grown (g := af) (o := .cells #[.slice an ((rd_T66 ad ab).f0).length ao, .slice ap ((rd_T66 ad ab).f1).length aq] 66 (0, 0)) (kb aj) hg (Kd.S_away aa.out (fun _ hk => hk.1.1))); replace HB := Aside0.mk (hb); have bB := Aside0.mk (ho); clear aW bc aa;clear ho hb hg hat;obtain ⟨bG, bH, bX⟩ := Kd.S_slice bB.out;(first | subst bX | (injection bX with f1_ f2_ f3_; have f4_ := f1_.symm; have f5_ := f3_.symm; clear f1_ f2_ f3_; subst f4_; subst f5_));refine hK.out _ _ ⟨kk ae 0, kk ae 1, kk ae 2, kk aj 0, kk aj 1⟩ (fun hHeld => ?_);clear hK K;refine no (some 33) ?_;refine pu 13 (some 34) (bs 15 16383) HT_ ?_;refine last_ (i := 14) (N := none) (bs 15 32767) rfl rfl (one_of HT_.out (by kernel_rfl)) (by decide) (fun K hK => ?_);have cV : w33.cell? ⟨ar, 2, none⟩ = some (al) := kk ae 2;have cQ := blk_frozen ae.out 2;have ca := ax.out;have cb := az.out;have cc := aI.out;have cd := ay.out;have ce := aA.out;have cf := aH.out;refine skip_ (w1 := ?_) (by rfl) rfl ?_ ?_
   rotate_left
   ·go_simp
    rfl
   refine hK.out _ _ ?_;clear hK K;refine done_ (done_of HT_.out (by kernel_rfl)) ?_;(try go_wp2);go_roundg k1
   case measure => have := HK1.out; omega
   case rel => exact ⟨(wrap64 (ab + 1)), (bo), (.slice bG bo.length bH), et, H', ⟨by have := HK1.out; omega⟩, ⟨by (with_reducible repeat first | apply Kd.R_alloc | apply Kd.R_drewN | apply Kd.R_drew); exact Kd.R_mono (Kd.R_far (p := ⟨ar, 2, none⟩) (Kd.R_types ag.out ae.out (by decide)) (fun _ hk => hk.2) (.slice bG bo.length bH)) (fun _ hk => trivial)⟩, ⟨by (with_reducible repeat first | apply Kd.S_alloc | apply Kd.S_drewN | apply Kd.S_drew); exact Kd.S_mono (Kd.S_far (p := ⟨ar, 2, none⟩) (Kd.S_types bB.out ae.out (by decide)) (fun _ hk => hk.2) (.slice bG bo.length bH)) (fun _ hk => trivial)⟩, ⟨kg ah⟩, ⟨kg ai⟩, ⟨kg ae⟩, ⟨kh HB⟩⟩
def qea.f (k : Nat) (aa : List (S64)) (ab : List (S61)) (ad : List (S66)) (l1 : List (S61)) : Option ((List (S64)) × (List (S61)) × (List (S66))) := (qea.g k aa ab ad).bind fun r => some (r.1, l1, r.2.2)
theorem qea.calls (k : Nat) (ae : Option Addr) (af : Nat) (aa : List (S64)) (ag : Option Addr) (ah : Nat) (ab : List (S61)) (ai : Option Addr) (aj : Nat) (ad : List (S66)) (A1 : Option Addr) (c1 : Nat) (l1 : List (S61)) (r1 : List (S64)) (r2 : List (S61)) (r3 : List (S66)) (w : World) (ak : Kd.C k64 w ae aa.length aa) (al : aa.length ≤ af) (an : Kd.C k61 w ag ab.length ab) (ao : ab.length ≤ ah) (ap : Kd.C k66 w ai ad.length ad) (aq : ad.length ≤ aj) {b0 : Nat} {ok0 : Nat → Prop} (hr1 : Kd.R k61 61 w b0 ok0 (.slice A1 l1.length c1) l1) (hb0 : b0 ≤ w.heap.size) (h : qea.f k aa ab ad l1 = some (r1, r2, r3)) :
  Calls Try.prog 44 #[.agg #[.slice ae aa.length af, .slice ag ab.length ah, .slice ai ad.length aj], .slice A1 l1.length c1] w fun e w' => ∃ v0_ v2_ : Value, e = .returned (.agg #[v0_, .slice A1 r2.length c1, v2_]) ∧ Kd.R k64 64 w' b0 (fun k_ => w.heap.size ≤ k_) v0_ r1 ∧ Kd.R k61 61 w' b0 ok0 (.slice A1 r2.length c1) r2 ∧ Kd.S k66t 66 w' b0 (fun k_ => w.heap.size ≤ k_) v2_ r3 ∧ Below w.heap.size w w' := by
 obtain ⟨⟨g1, g2, g3⟩, hg, he⟩ := Option.bind_eq_some_iff.mp h;simp only [Option.some.injEq, Prod.mk.injEq] at he;obtain ⟨rfl, rfl, rfl⟩ := he
 exact (qea.callsG k ae af aa ag ah ab ai aj ad A1 c1 l1 g1 g2 g3 w ak al an ao ap aq hg).mono fun e w' ⟨v0, v2, h0, h1, h2, h3⟩ => ⟨v0, v2, h0, Kd.R_lower (Kd.R_mono (Kd.R_bound h1) (fun _ hk => hk.2.1)) hb0, Kd.R_below hr1 h3, (let ⟨f_, q_⟩ := h2; ⟨f_, Kd.R_lower (Kd.R_mono (Kd.R_bound q_) (fun _ hk => hk.2.1)) hb0⟩), h3⟩
theorem qea.callsN (k : Nat) (ae : Option Addr) (af : Nat) (aa : List (S64)) (ag : Option Addr) (ah : Nat) (ab : List (S61)) (ai : Option Addr) (aj : Nat) (ad : List (S66)) (A1 : Option Addr) (c1 : Nat) (l1 : List (S61)) (r1 : List (S64)) (r2 : List (S61)) (r3 : List (S66)) (w : World) (ak : Kd.C k64 w ae aa.length aa) (al : aa.length ≤ af) (an : Kd.C k61 w ag ab.length ab) (ao : ab.length ≤ ah) (ap : Kd.C k66 w ai ad.length ad) (aq : ad.length ≤ aj) {b0 : Nat} (hr1 : Kd.R k61 61 w b0 (fun _ => True) (.slice A1 l1.length c1) l1) (hb0 : b0 ≤ w.heap.size) (h : qea.f k aa ab ad l1 = some (r1, r2, r3)) :
  Calls Try.prog 44 #[.agg #[.slice ae aa.length af, .slice ag ab.length ah, .slice ai ad.length aj], .slice A1 l1.length c1] w fun e w' => ∃ v0_ v1_ v2_ : Value, e = .returned (.agg #[v0_, v1_, v2_]) ∧ Kd.R k64 64 w' b0 (fun _ => True) v0_ r1 ∧ Kd.R k61 61 w' b0 (fun _ => True) v1_ r2 ∧ Kd.S k66 66 w' b0 (fun _ => True) v2_ r3 ∧ Below w.heap.size w w' :=
 (qea.calls k ae af aa ag ah ab ai aj ad A1 c1 l1 r1 r2 r3 w ak al an ao ap aq hr1 hb0 h).mono fun e w' ⟨v0, v2, he, h0, h1, h2, h3⟩ => ⟨v0, _, v2, he, Kd.R_mono h0 (fun _ _ => trivial), h1, k66t_S (Kd.S_mono h2 (fun _ _ => trivial)), h3⟩
end Go.Proofs.Ytmlbliggbkfjnaa.J
namespace Go.Proofs.Ytmlbliggbkfjnaa.J
open Go.RowKit Go.Proofs.YtmlbliggbkfjnaaW.PrintWords Go.Proofs.YtmlbliggbkfjnaaW.PrintLast Go.Proofs.YtmlbliggbkfjnaaW.PrintMore
attribute [local go_sem] max2_int min2_int max_two min_two max_three min_three max_four min_four
attribute [local go_sem high] eqA61
def qta.f (ad : Int) (ab : Int) (aa : Int) (ae : Int) (l1 : List Int) : Option (Int × Int × Int × Int) := (qua.f ad ab aa ae).bind fun af => (if af = true then (if 0 ≤ ab then (if ab < (l1.length : Int) then ((qna.f ad (rd l1 ab) aa ae).bind fun ag => (if ag = true then (if 0 ≤ aa then (if aa < (l1.length : Int) then (some (ad, rd l1 ab, rd l1 aa, ae)) else (none)) else (none)) else (some (ad, rd l1 ab, aa, ae)))) else (none)) else (none)) else ((qna.f ad ab aa ae).bind fun ah => (if ah = true then (if 0 ≤ aa then (if aa < (l1.length : Int) then (some (ad, ab, rd l1 aa, ae)) else (none)) else (none)) else (some (ad, ab, aa, ae)))))
theorem qta.calls (af : Int) (ad : Int) (ab : Int) (ag : Int) (A1 : Option Addr) (c1 : Nat) (l1 : List Int) (r1 : Int) (r2 : Int) (r3 : Int) (r4 : Int) (w : World) (hr1 : Kd.C (Kd.int .i64) w A1 l1.length l1) (hc1 : l1.length ≤ c1) (h : qta.f af ad ab ag l1 = some (r1, r2, r3, r4)) :
  Calls Try.prog 48 #[.agg #[.int .i64 af, .int .i64 ad, .int .i64 ab, .int .u64 ag], .slice A1 l1.length c1] w fun e w' => e = .returned (.agg #[.int .i64 r1, .int .i64 r2, .int .i64 r3, .int .u64 r4]) ∧ Below w.heap.size w w' := by
 have hu61 := Try.underlying61;have HR1 := Aside0.mk hr1;have HC1 := Aside0.mk hc1;clear hr1 hc1;have HB := Aside0.mk (Below.refl w.heap.size w);have H : ((qua.f af ad ab ag).bind fun ay => (if ay = true then (if 0 ≤ ad then (if ad < (l1.length : Int) then ((qna.f af (rd l1 ad) ab ag).bind fun az => (if az = true then (if 0 ≤ ab then (if ab < (l1.length : Int) then (some (af, rd l1 ad, rd l1 ab, ag)) else (none)) else (none)) else (some (af, rd l1 ad, ab, ag)))) else (none)) else (none)) else ((qna.f af ad ab ag).bind fun aA => (if aA = true then (if 0 ≤ ab then (if ab < (l1.length : Int) then (some (af, ad, rd l1 ab, ag)) else (none)) else (none)) else (some (af, ad, ab, ag)))))) = some (r1, r2, r3, r4) := h;clear h;replace H := Option.bind_eq_some_iff.mp H;obtain ⟨ay, A30, H⟩ := H;(try dsimp only at H);have A3 := Aside0.mk A30;clear A30
 by_cases c4 : ay = true
 rotate_left
 ·replace c4 := Bool.eq_false_iff.mpr c4
  subst c4;replace H := ifF H;replace H := Option.bind_eq_some_iff.mp H;obtain ⟨aA, aI, H⟩ := H;(try dsimp only at H);have A29 := Aside0.mk aI;clear aI
  by_cases c30 : aA = true
  rotate_left
  ·replace c30 := Bool.eq_false_iff.mpr c30
   subst c30;replace H := ifF H;simp only [Option.some.injEq, Prod.mk.injEq] at H;obtain ⟨rfl, rfl, rfl, rfl⟩ := H;go_enter Try.func48, Try.ntmps48;go_wp2_with (first | ((with_reducible refine qga (N := 2) rfl ?_); refine box_event ?hg (N := 2) ?hd (cs := #[.int .i64 af, .int .i64 ad, .int .i64 ab, .int .u64 ag]) (t := 61) ?hr ?_; (case hd => rfl); (case hg => rfl); (case hr => first | (go_simp; done) | (go_simp; rfl)); intro aq hg w42 hbox hb; have aa := am hbox; have ar := kG HB hg; have au := kG HB hg; replace HB := kH HB hb; clear hb hbox hg) | ((with_reducible refine qga (N := 4) rfl ?_); refine box_event ?hg (N := 4) ?hd (cs := #[.int .i64 0, .int .i64 0, .int .i64 0, .int .u64 0]) (t := 61) ?hr ?_; (case hd => rfl); (case hg => rfl); (case hr => first | (go_simp; done) | (go_simp; rfl)); intro ak hg w43 hbox hb; have ae := am hbox; have av := kG HB hg; have aw := kG HB hg; replace HB := kH HB hb; have ah := kP aa hg; have ai := kQ aa hg; replace aa := kU aa hb; clear hb hbox hg; have aN := ah.out; have aQ := ai.out; have Z45 := kz4 aa) | ((with_reducible refine gate_callee (f := 35) rfl ?_); refine goesL_ (some 6) rfl rfl Try.func35 (by kernel_rfl) rfl #[.agg #[.int .i64 af, .int .i64 ad, .int .i64 ab, .int .u64 ag]] rfl (by (try simp only [qM1, qM2, qM3]); first | done | rfl) ?_; (with_reducible refine (qua.calls af ad ab ag false _ A3.out).mono ?_); rintro e w46 ⟨rfl, hb⟩; refine ⟨_, rfl, ?_⟩; replace aa := kU aa hb; replace ae := kU ae hb; replace HB := kH HB hb; (try clear hb); (try clear hb2); (try clear hk); (try clear hi); have Z47 := kz4 aa) | ((with_reducible refine gate_callee (f := 36) rfl ?_); refine goesL_ (some 14) rfl rfl Try.func36 (by kernel_rfl) rfl #[.agg #[.int .i64 af, .int .i64 ad, .int .i64 ab, .int .u64 ag]] rfl (by (try simp only [qM1, qM2, qM3]); first | done | rfl) ?_; (with_reducible refine (qna.calls af ad ab ag false _ A29.out).mono ?_); rintro e w48 ⟨rfl, hb⟩; refine ⟨_, rfl, ?_⟩; replace aa := kU aa hb; replace ae := kU ae hb; replace HB := kH HB hb; (try clear hb); (try clear hb2); (try clear hk); (try clear hi); have Z49 := kz4 aa; have Z50 := kz4 ae));refine bodyPost_ret (results_cell_row rfl _ _ ak 61 #[.int .i64 af, .int .i64 ad, .int .i64 ab, .int .u64 ag] (0, 0) _ rfl (kg ae) Try.underlying61 rfl (by kernel_rfl)) rfl ?_;exact ⟨er, kh HB⟩
  subst c30;replace H := ifT H
  by_cases c31 : 0 ≤ ab
  rotate_left
  ·rw [if_neg c31] at H
   exact absurd H (by simp)
  rw [if_pos c31] at H;have aT := decide_eq_true c31;clear c31
  by_cases c32 : ab < (l1.length : Int)
  rotate_left
  ·rw [if_neg c32] at H
   exact absurd H (by simp)
  rw [if_pos c32] at H;have aU := decide_eq_true c32;clear c32;simp only [Option.some.injEq, Prod.mk.injEq] at H;obtain ⟨rfl, rfl, rfl, rfl⟩ := H;go_enter Try.func48, Try.ntmps48;go_wp2_with (first | ((with_reducible refine qga (N := 2) rfl ?_); refine box_event ?hg (N := 2) ?hd (cs := #[.int .i64 af, .int .i64 ad, .int .i64 ab, .int .u64 ag]) (t := 61) ?hr ?_; (case hd => rfl); (case hg => rfl); (case hr => first | (go_simp; done) | (go_simp; rfl)); intro aq hg w33 hbox hb; have aa := am hbox; have ar := kG HB hg; have au := kG HB hg; replace HB := kH HB hb; clear hb hbox hg) | ((with_reducible refine qga (N := 4) rfl ?_); refine box_event ?hg (N := 4) ?hd (cs := #[.int .i64 0, .int .i64 0, .int .i64 0, .int .u64 0]) (t := 61) ?hr ?_; (case hd => rfl); (case hg => rfl); (case hr => first | (go_simp; done) | (go_simp; rfl)); intro ak hg w34 hbox hb; have ae := am hbox; have av := kG HB hg; have aw := kG HB hg; replace HB := kH HB hb; have ah := kP aa hg; have ai := kQ aa hg; replace aa := kU aa hb; clear hb hbox hg; have aV := ah.out; have aW := ai.out; have Z36 := kz4 aa) | ((with_reducible refine gate_callee (f := 35) rfl ?_); refine goesL_ (some 6) rfl rfl Try.func35 (by kernel_rfl) rfl #[.agg #[.int .i64 af, .int .i64 ad, .int .i64 ab, .int .u64 ag]] rfl (by (try simp only [qM1, qM2, qM3]); first | done | rfl) ?_; (with_reducible refine (qua.calls af ad ab ag false _ A3.out).mono ?_); rintro e w37 ⟨rfl, hb⟩; refine ⟨_, rfl, ?_⟩; replace aa := kU aa hb; replace ae := kU ae hb; replace HB := kH HB hb; (try clear hb); (try clear hb2); (try clear hk); (try clear hi); have Z38 := kz4 aa) | ((with_reducible refine gate_callee (f := 36) rfl ?_); refine goesL_ (some 14) rfl rfl Try.func36 (by kernel_rfl) rfl #[.agg #[.int .i64 af, .int .i64 ad, .int .i64 ab, .int .u64 ag]] rfl (by (try simp only [qM1, qM2, qM3]); first | done | rfl) ?_; (with_reducible refine (qna.calls af ad ab ag true _ A29.out).mono ?_); rintro e w39 ⟨rfl, hb⟩; refine ⟨_, rfl, ?_⟩; replace aa := kU aa hb; replace ae := kU ae hb; replace HB := kH HB hb; (try clear hb); (try clear hb2); (try clear hk); (try clear hi); have Z40 := kz4 aa; have aC : 0 ≤ (ab : Int) := od; have aD : ab < (l1.length : Int) := od; obtain ⟨aX, aK, al⟩ := Kd.at_int HR1.out ab aC aD; cases aK; replace al := (HB.out.cell (World.block_lt_of_cell? w _ al)).trans al; replace aC := eq_true aC; replace aD := eq_true aD; have Z41 := kz4 ae));refine bodyPost_ret (results_cell_row rfl _ _ ak 61 #[.int .i64 af, .int .i64 ad, .int .i64 (rd l1 ab), .int .u64 ag] (0, 0) _ rfl (kg ae) Try.underlying61 rfl (by kernel_rfl)) rfl ?_;exact ⟨er, kh HB⟩
 subst c4;replace H := ifT H
 by_cases c5 : 0 ≤ ad
 rotate_left
 ·rw [if_neg c5] at H
  exact absurd H (by simp)
 rw [if_pos c5] at H;have bd := decide_eq_true c5;clear c5
 by_cases c6 : ad < (l1.length : Int)
 rotate_left
 ·rw [if_neg c6] at H
  exact absurd H (by simp)
 rw [if_pos c6] at H;have bf := decide_eq_true c6;clear c6;replace H := Option.bind_eq_some_iff.mp H;obtain ⟨az, A70, H⟩ := H;(try dsimp only at H);have A7 := Aside0.mk A70;clear A70
 by_cases c8 : az = true
 rotate_left
 ·replace c8 := Bool.eq_false_iff.mpr c8
  subst c8;replace H := ifF H;simp only [Option.some.injEq, Prod.mk.injEq] at H;obtain ⟨rfl, rfl, rfl, rfl⟩ := H;go_enter Try.func48, Try.ntmps48;go_wp2_with (first | ((with_reducible refine qga (N := 2) rfl ?_); refine box_event ?hg (N := 2) ?hd (cs := #[.int .i64 af, .int .i64 ad, .int .i64 ab, .int .u64 ag]) (t := 61) ?hr ?_; (case hd => rfl); (case hg => rfl); (case hr => first | (go_simp; done) | (go_simp; rfl)); intro aq hg w20 hbox hb; have aa := am hbox; have ar := kG HB hg; have au := kG HB hg; replace HB := kH HB hb; clear hb hbox hg) | ((with_reducible refine qga (N := 4) rfl ?_); refine box_event ?hg (N := 4) ?hd (cs := #[.int .i64 0, .int .i64 0, .int .i64 0, .int .u64 0]) (t := 61) ?hr ?_; (case hd => rfl); (case hg => rfl); (case hr => first | (go_simp; done) | (go_simp; rfl)); intro ak hg w21 hbox hb; have ae := am hbox; have av := kG HB hg; have aw := kG HB hg; replace HB := kH HB hb; have ah := kP aa hg; have ai := kQ aa hg; replace aa := kU aa hb; clear hb hbox hg; have aY := ah.out; have aZ := ai.out; have Z23 := kz4 aa) | ((with_reducible refine gate_callee (f := 35) rfl ?_); refine goesL_ (some 6) rfl rfl Try.func35 (by kernel_rfl) rfl #[.agg #[.int .i64 af, .int .i64 ad, .int .i64 ab, .int .u64 ag]] rfl (by (try simp only [qM1, qM2, qM3]); first | done | rfl) ?_; (with_reducible refine (qua.calls af ad ab ag true _ A3.out).mono ?_); rintro e w24 ⟨rfl, hb⟩; refine ⟨_, rfl, ?_⟩; replace aa := kU aa hb; replace ae := kU ae hb; replace HB := kH HB hb; (try clear hb); (try clear hb2); (try clear hk); (try clear hi); have Z25 := kz4 aa; have ao : 0 ≤ (ad : Int) := od; have ap : ad < (l1.length : Int) := od; obtain ⟨ax, aE, aj⟩ := Kd.at_int HR1.out ad ao ap; cases aE; replace aj := (HB.out.cell (World.block_lt_of_cell? w _ aj)).trans aj; replace ao := eq_true ao; replace ap := eq_true ap) | ((with_reducible refine gate_callee (f := 36) rfl ?_); refine goesL_ (some 14) rfl rfl Try.func36 (by kernel_rfl) rfl #[.agg #[.int .i64 af, .int .i64 (rd l1 ad), .int .i64 ab, .int .u64 ag]] rfl (by (try simp only [qM1, qM2, qM3]); first | done | rfl) ?_; (with_reducible refine (qna.calls af (rd l1 ad) ab ag false _ A7.out).mono ?_); rintro e w26 ⟨rfl, hb⟩; refine ⟨_, rfl, ?_⟩; replace aa := kO (o' := .cells #[.int .i64 af, .int .i64 (rd l1 ad), .int .i64 ab, .int .u64 ag] 61 (0, 0)) aa hb; replace ae := kU ae hb; replace HB := kH HB hb; (try clear hb); (try clear hb2); (try clear hk); (try clear hi); have Z27 := kz4 aa; have Z28 := kz4 ae));refine bodyPost_ret (results_cell_row rfl _ _ ak 61 #[.int .i64 af, .int .i64 (rd l1 ad), .int .i64 ab, .int .u64 ag] (0, 0) _ rfl (kg ae) Try.underlying61 rfl (by kernel_rfl)) rfl ?_;exact ⟨er, kh HB⟩
 subst c8;replace H := ifT H
 by_cases c9 : 0 ≤ ab
 rotate_left
 ·rw [if_neg c9] at H
  exact absurd H (by simp)
 rw [if_pos c9] at H;have bg := decide_eq_true c9;clear c9
 by_cases c10 : ab < (l1.length : Int)
 rotate_left
 ·rw [if_neg c10] at H
  exact absurd H (by simp)
 rw [if_pos c10] at H;have ba := decide_eq_true c10;clear c10;simp only [Option.some.injEq, Prod.mk.injEq] at H;obtain ⟨rfl, rfl, rfl, rfl⟩ := H;go_enter Try.func48, Try.ntmps48;go_wp2_with (first | ((with_reducible refine qga (N := 2) rfl ?_); refine box_event ?hg (N := 2) ?hd (cs := #[.int .i64 af, .int .i64 ad, .int .i64 ab, .int .u64 ag]) (t := 61) ?hr ?_; (case hd => rfl); (case hg => rfl); (case hr => first | (go_simp; done) | (go_simp; rfl)); intro aq hg w11 hbox hb; have aa := am hbox; have ar := kG HB hg; have au := kG HB hg; replace HB := kH HB hb; clear hb hbox hg) | ((with_reducible refine qga (N := 4) rfl ?_); refine box_event ?hg (N := 4) ?hd (cs := #[.int .i64 0, .int .i64 0, .int .i64 0, .int .u64 0]) (t := 61) ?hr ?_; (case hd => rfl); (case hg => rfl); (case hr => first | (go_simp; done) | (go_simp; rfl)); intro ak hg w12 hbox hb; have ae := am hbox; have av := kG HB hg; have aw := kG HB hg; replace HB := kH HB hb; have ah := kP aa hg; have ai := kQ aa hg; replace aa := kU aa hb; clear hb hbox hg; have bb := ah.out; have bc := ai.out; have Z14 := kz4 aa) | ((with_reducible refine gate_callee (f := 35) rfl ?_); refine goesL_ (some 6) rfl rfl Try.func35 (by kernel_rfl) rfl #[.agg #[.int .i64 af, .int .i64 ad, .int .i64 ab, .int .u64 ag]] rfl (by (try simp only [qM1, qM2, qM3]); first | done | rfl) ?_; (with_reducible refine (qua.calls af ad ab ag true _ A3.out).mono ?_); rintro e w15 ⟨rfl, hb⟩; refine ⟨_, rfl, ?_⟩; replace aa := kU aa hb; replace ae := kU ae hb; replace HB := kH HB hb; (try clear hb); (try clear hb2); (try clear hk); (try clear hi); have Z16 := kz4 aa; have ao : 0 ≤ (ad : Int) := od; have ap : ad < (l1.length : Int) := od; obtain ⟨ax, aE, aj⟩ := Kd.at_int HR1.out ad ao ap; cases aE; replace aj := (HB.out.cell (World.block_lt_of_cell? w _ aj)).trans aj; replace ao := eq_true ao; replace ap := eq_true ap) | ((with_reducible refine gate_callee (f := 36) rfl ?_); refine goesL_ (some 14) rfl rfl Try.func36 (by kernel_rfl) rfl #[.agg #[.int .i64 af, .int .i64 (rd l1 ad), .int .i64 ab, .int .u64 ag]] rfl (by (try simp only [qM1, qM2, qM3]); first | done | rfl) ?_; (with_reducible refine (qna.calls af (rd l1 ad) ab ag true _ A7.out).mono ?_); rintro e w17 ⟨rfl, hb⟩; refine ⟨_, rfl, ?_⟩; replace aa := kO (o' := .cells #[.int .i64 af, .int .i64 (rd l1 ad), .int .i64 ab, .int .u64 ag] 61 (0, 0)) aa hb; replace ae := kU ae hb; replace HB := kH HB hb; (try clear hb); (try clear hb2); (try clear hk); (try clear hi); have Z18 := kz4 aa; have aG : 0 ≤ (ab : Int) := od; have aH : ab < (l1.length : Int) := od; obtain ⟨aJ, aM, an⟩ := Kd.at_int HR1.out ab aG aH; obtain rfl : ax = aJ := (by injection aM); replace an := (HB.out.cell (World.block_lt_of_cell? w _ an)).trans an; replace aG := eq_true aG; replace aH := eq_true aH; have Z19 := kz4 ae));refine bodyPost_ret (results_cell_row rfl _ _ ak 61 #[.int .i64 af, .int .i64 (rd l1 ad), .int .i64 (rd l1 ab), .int .u64 ag] (0, 0) _ rfl (kg ae) Try.underlying61 rfl (by kernel_rfl)) rfl ?_;exact ⟨er, kh HB⟩
end Go.Proofs.Ytmlbliggbkfjnaa.J
namespace Go.Proofs.Ytmlbliggbkfjnaa.J
open Go.RowKit Go.Proofs.YtmlbliggbkfjnaaW.PrintWords Go.Proofs.YtmlbliggbkfjnaaW.PrintLast Go.Proofs.YtmlbliggbkfjnaaW.PrintMore
attribute [local go_sem] max2_int min2_int max_two min_two max_three min_three max_four min_four
theorem qea.gates_eq {k : Nat} {a : List S64} {b : List S61} {c : List S66} {l : List S61} {r1 : List S64} {r2 : List S61} {r3 : List S66} (h : qea.f k a b c l = some (r1, r2, r3)) : r2 = l := by
 obtain ⟨_, _, he⟩ := Option.bind_eq_some_iff.mp h;simp only [Option.some.injEq, Prod.mk.injEq] at he;exact he.2.1.symm
mutual
def qia.l0 : Nat → List Int → Int → Int → List (S64) → List (S61) → List (S66) → Option ((List (S64)) × (List (S61)) × (List (S66)))
 | 0, _, _, _, _, _, _ => none
 | k + 1, x2, x17, x18, a, b, cur => if x18 < x17 then (if 0 ≤ x18 then (if x18 < (cur.length : Int) then (qia.l1 k x2 x17 x18 (((rd_T66 cur x18).f1).length : Int) 0 a b cur) else (none)) else (none)) else (some (a, b, cur))
def qia.l1 : Nat → List Int → Int → Int → Int → Int → List (S64) → List (S61) → List (S66) → Option ((List (S64)) × (List (S61)) × (List (S66)))
 | 0, _, _, _, _, _, _, _, _ => none
 | k + 1, x2, x17, x18, x24, x25, a, b, cur => if x25 < x24 then (if 0 ≤ x25 then (if x25 < (((rd_T66 cur x18).f1).length : Int) then (if 0 ≤ (rd ((rd_T66 cur x18).f1) x25) then (if (rd ((rd_T66 cur x18).f1) x25) < (x2.length : Int) then (qia.l1 k x2 x17 x18 x24 (wrap64 (x25 + 1)) a b (cur.set x18.toNat ⟨(rd_T66 cur x18).f0, ((rd_T66 cur x18).f1).set x25.toNat (rd x2 (rd ((rd_T66 cur x18).f1) x25))⟩)) else (none)) else (none)) else (none)) else (none)) else (qia.l0 k x2 x17 (wrap64 (x18 + 1)) a b cur)
end
def qia.f (k : Nat) (ab : List (S64)) (ad : List (S61)) (ae : List (S66)) (l1 : List (S61)) (l2 : List Int) : Option ((List (S64)) × (List (S61)) × (List (S66))) := (qea.f k ab ad ae l1).bind fun aa => (qia.l0 k l2 (aa.2.2.length : Int) 0 aa.1 aa.2.1 aa.2.2)
def qia.T8 : Bool × List (List Nat × List Nat) := (true, [([], []), ([0], [0]), ([], []), ([], []), ([], []), ([3, 4], [3, 4]), ([5], [5]), ([1, 2, 0, 1, 2, 3, 4, 5, 6], [1, 2]), ([7, 6, 0, 1, 2, 3, 4, 5, 6], [6, 7])])
def qia.B8 : List Nat := [0, 1, 0, 0, 0, 24, 56, 127, 255]
theorem qia.tab8 : rtab .any (opsOf Try.f50 8) = qia.T8 := by kernel_rfl
theorem qia.bits8 : waitsOk qia.T8.2 qia.B8 = true := by kernel_rfl
theorem qia.calls (k : Nat) (aY : Option Addr) (aZ : Nat) (aG : List (S64)) (ba : Option Addr) (bb : Nat) (aH : List (S61)) (bc : Option Addr) (bd : Nat) (aI : List (S66)) (A1 : Option Addr) (c1 : Nat) (l1 : List (S61)) (A2 : Option Addr) (c2 : Nat) (l2 : List Int) (r1 : List (S64)) (r2 : List (S61)) (r3 : List (S66)) (w : World) (bj : Kd.C k64 w aY aG.length aG) (bk : aG.length ≤ aZ) (bl : Kd.C k61 w ba aH.length aH) (bm : aH.length ≤ bb) (bn : Kd.C k66 w bc aI.length aI) (bo : aI.length ≤ bd) {b0 : Nat} {ok0 : Nat → Prop} (hr1 : Kd.R k61 61 w b0 ok0 (.slice A1 l1.length c1) l1) (hc1 : b0 ≤ w.heap.size) (hr2 : Kd.C (Kd.int .i64) w A2 l2.length l2) (hc2 : l2.length ≤ c2) (h : qia.f k aG aH aI l1 l2 = some (r1, r2, r3)) :
  Calls Try.prog 50 #[.agg #[.slice aY aG.length aZ, .slice ba aH.length bb, .slice bc aI.length bd], .slice A1 l1.length c1, .slice A2 l2.length c2] w fun e w' => ∃ v0_ v2_ : Value, e = .returned (.agg #[v0_, .slice A1 r2.length c1, v2_]) ∧ Kd.R k64 64 w' b0 (fun k_ => w.heap.size ≤ k_) v0_ r1 ∧ Kd.R k61 61 w' b0 ok0 (.slice A1 r2.length c1) r2 ∧ Kd.S k66t 66 w' b0 (fun k_ => w.heap.size ≤ k_) v2_ r3 ∧ Below w.heap.size w w' := by
 have hu26 := Try.underlying26;have hu66 := Try.underlying66;have bu := Aside0.mk bj;have bv := Aside0.mk bk;clear bj bk;have bw := Aside0.mk bl;have bx := Aside0.mk bm;clear bl bm;have bz := Aside0.mk bn;have bA := Aside0.mk bo;clear bn bo;have HR1 := Aside0.mk hr1;have HC1 := Aside0.mk hc1;clear hr1 hc1;have HR2 := Aside0.mk hr2;have HC2 := Aside0.mk hc2;clear hr2 hc2;have HB := Aside0.mk (Below.refl w.heap.size w);obtain ⟨⟨ag, ah, al⟩, A40, H⟩ := Option.bind_eq_some_iff.mp h;clear h;(try dsimp only at H);have A4 := Aside0.mk A40;clear A40;have H' := Aside0.mk H;clear H;have hl1 : ah.length = l1.length := congrArg List.length (qea.gates_eq A4.out);have HL1 := Aside0.mk hl1;clear hl1;go_enter Try.func50, Try.ntmps50;go_wp2_with (first | ((with_reducible refine qga (N := 3) rfl ?_); refine box_event ?hg (N := 3) ?hd (cs := #[.slice aY aG.length aZ, .slice ba aH.length bb, .slice bc aI.length bd]) (t := 26) ?hr ?_; (case hd => rfl); (case hg => rfl); (case hr => first | (go_simp; done) | (go_simp; rfl)); intro aW hg w5 hbox hb; have ai := am hbox; have bT := kG HB hg; have bU := kG HB hg; replace HB := kH HB hb; clear hb hbox hg) | ((with_reducible refine qga (N := 6) rfl ?_); refine box_event ?hg (N := 6) ?hd (cs := #[.slice none 0 0, .slice none 0 0, .slice none 0 0]) (t := 26) ?hr ?_; (case hd => rfl); (case hg => rfl); (case hr => first | (go_simp; done) | (go_simp; rfl)); intro af hg w6 hbox hb; have aA := am hbox; have bV := kG HB hg; have bB := kG HB hg; replace HB := kH HB hb; have aJ := kP ai hg; have aK := kQ ai hg; replace ai := kU ai hb; clear hb hbox hg; have bL := aJ.out; have bM := aK.out; have Z8 := kz3 ai) | (go_at_call 44; (with_reducible refine (qea.calls (b0 := b0) (ok0 := ok0) k _ _ aG _ _ aH _ _ aI _ _ l1 ag ah al _ ?side1 ?side2 ?side3 ?side4 ?side5 ?side6 ?side7 ?side8 A4.out).mono ?_); (case side1 => repeat (first | exact (Kd.C_below bu.out HB.out) | (with_reducible first | refine Kd.C_alloc ?_ _ | refine Kd.C_drewN ?_ _ | refine Kd.C_drew ?_))); (case side2 => exact bv.out); (case side3 => repeat (first | exact (Kd.C_below bw.out HB.out) | (with_reducible first | refine Kd.C_alloc ?_ _ | refine Kd.C_drewN ?_ _ | refine Kd.C_drew ?_))); (case side4 => exact bx.out); (case side5 => repeat (first | exact (Kd.C_below bz.out HB.out) | (with_reducible first | refine Kd.C_alloc ?_ _ | refine Kd.C_drewN ?_ _ | refine Kd.C_drew ?_))); (case side6 => exact bA.out); (case side7 => exact (Kd.R_below HR1.out HB.out)); (case side8 => exact Nat.le_trans HC1.out (below_size HB.out)); rintro e w9 ⟨cc, cd, rfl, ho0, ho1, ho2, hb⟩; have aU := Aside0.mk (Kd.R_mono ho0 (fun _ hk => Nat.le_trans (below_size HB.out) hk)); have aX := Aside0.mk (ho1); have aV := Aside0.mk (Kd.S_mono ho2 (fun _ hk => Nat.le_trans (below_size HB.out) hk)); replace ai := kU ai hb; replace aA := kU aA hb; replace HB := kH HB hb; (try clear hb); (try clear hb2); (try clear hk); (try clear hi); (try clear ho0); (try clear ho1); (try clear ho2)) | ((with_reducible refine qga (N := 7) rfl ?_); refine box_event ?hg (N := 7) ?hd (cs := #[.slice none 0 0, .slice none 0 0, .slice none 0 0]) (t := 26) ?hr ?_; (case hd => rfl); (case hg => rfl); (case hr => first | (go_simp; done) | (go_simp; rfl)); intro aj hg w10 hbox hb; replace aU := kR aU hb; replace aX := kR aX hb; replace aV := kS aV hb; have aM := am hbox; have bW := kG HB hg; have bC := kG HB hg; replace HB := kH HB hb; have an := kP ai hg; have bf := kQ ai hg; replace ai := kU ai hb; have ak := kP aA hg; have aN := kQ aA hg; replace aA := kU aA hb; clear hb hbox hg; obtain ⟨ap, aq, bN⟩ := Kd.R_slice aU.out; subst bN; have bD := bf.out; have bE := an.out; have bF := aN.out; have bG := ak.out; have Z14 := kz3 aM; obtain ⟨aQ, aC, bO⟩ := Kd.S_slice aV.out; subst bO));go_loopg [18] k (fun kq v18 w' => ∃ (aa : Int) (cur : List (S66)), v18 = .int .i64 aa ∧ Aside0 (qia.l0 kq l2 (al.length : Int) aa ag ah cur = some (r1, r2, r3)) ∧ Aside0 (cur.length = al.length) ∧ Aside0 (kq ≤ k) ∧ Aside0 (Kd.R k64 64 w' b0 (fun k_ => w.heap.size ≤ k_) (.slice ap ag.length aq) ag) ∧ Aside0 (Kd.R k61 61 w' b0 ok0 (.slice A1 ah.length c1) ah) ∧ Aside0 (Kd.S k66t 66 w' b0 (fun k_ => w.heap.size ≤ k_) (.slice aQ al.length aC) cur) ∧ Aside0 (w'.heap[aW]? = some (.cells #[.slice aY aG.length aZ, .slice ba aH.length bb, .slice bc aI.length bd] 26 (0, 0))) ∧ Aside0 (w'.heap[af]? = some (.cells #[.slice none 0 0, .slice none 0 0, .slice none 0 0] 26 (0, 0))) ∧ Aside0 (w'.heap[aj]? = some (.cells #[.slice ap ag.length aq, .slice A1 ah.length c1, .slice aQ al.length aC] 26 (0, 0))) ∧ Aside0 (Below w.heap.size w w'))
 case atStart => exact ⟨(0), al, rfl, H', ⟨rfl⟩, ⟨Nat.le_refl _⟩, ⟨Kd.R_mono (Kd.R_far (p := ⟨aj, 2, none⟩) (Kd.R_far (p := ⟨aj, 1, none⟩) (Kd.R_far (p := ⟨aj, 0, none⟩) (Kd.R_types aU.out aM.out (by decide)) (fun _ hk => hk.2) (.slice ap ag.length aq)) (fun _ hk => hk.2) (.slice A1 ah.length c1)) (fun _ hk => hk.2) (.slice aQ al.length aC)) (fun _ hk => hk.1)⟩, ⟨Kd.R_mono (Kd.R_far (p := ⟨aj, 2, none⟩) (Kd.R_far (p := ⟨aj, 1, none⟩) (Kd.R_far (p := ⟨aj, 0, none⟩) (Kd.R_types aX.out aM.out (by decide)) (fun _ hk => hk.2) (.slice ap ag.length aq)) (fun _ hk => hk.2) (.slice A1 ah.length c1)) (fun _ hk => hk.2) (.slice aQ al.length aC)) (fun _ hk => hk.1)⟩, ⟨Kd.S_mono (Kd.S_far (p := ⟨aj, 2, none⟩) (Kd.S_far (p := ⟨aj, 1, none⟩) (Kd.S_far (p := ⟨aj, 0, none⟩) (Kd.S_types aV.out aM.out (by decide)) (fun _ hk => hk.2) (.slice ap ag.length aq)) (fun _ hk => hk.2) (.slice A1 ah.length c1)) (fun _ hk => hk.2) (.slice aQ al.length aC)) (fun _ hk => hk.1)⟩, ⟨(blk_far (blk_far (blk_far ai.out an.out _) an.out _) an.out _)⟩, ⟨(blk_far (blk_far (blk_far aA.out ak.out _) ak.out _) ak.out _)⟩, ⟨(blk_put (cs := #[.slice ap ag.length aq, .slice A1 ah.length c1, .slice none 0 0]) (blk_put (cs := #[.slice ap ag.length aq, .slice none 0 0, .slice none 0 0]) (blk_put (cs := #[.slice none 0 0, .slice none 0 0, .slice none 0 0]) aM.out 0 _ rfl) 1 _ rfl) 2 _ rfl)⟩, ⟨by repeat (first | (with_reducible first | exact HB.out | refine below_set ?_ bC.out) | exact HB.out)⟩⟩
 case round =>
  clear H';(try clear bL bM Z8 bD bE bF bG Z14 aU aX aV ai aA aM);obtain ⟨aa, cur, rfl, HA, HCL, HK1, au, av, ar, BKC, BKR, BKO, HB⟩ := hrel
  cases gk with
  | zero => exact absurd HA.out (by simp [qia.l0])
  | succ k1 =>
   have H := HA.out;clear HA;simp only [qia.l0] at H
   by_cases c17 : aa < (al.length : Int)
   rotate_left
   ·rw [if_neg c17] at H
    have bH := decide_eq_false c17;clear c17;simp only [Option.some.injEq, Prod.mk.injEq] at H;obtain ⟨rfl, rfl, rfl⟩ := H;have bX := aK.out;have bY := aJ.out;have bZ := aN.out;have ca := ak.out;have Z37 := kz3 BKO;have Z39 := kz3 BKR;go_wp2;refine bodyPost_ret (results_cell_row rfl _ _ af 26 #[(.slice ap ag.length aq), (.slice A1 ah.length c1), (.slice aQ al.length aC)] (0, 0) _ rfl ((blk_put (cs := #[.slice ap ag.length aq, .slice A1 ah.length c1, .slice none 0 0]) (blk_put (cs := #[.slice ap ag.length aq, .slice none 0 0, .slice none 0 0]) (blk_put (cs := #[.slice none 0 0, .slice none 0 0, .slice none 0 0]) BKR.out 0 _ rfl) 1 _ rfl) 2 _ rfl)) Try.underlying26 rfl (by kernel_rfl)) rfl ?_;exact ⟨_, _, er, Kd.R_mono (Kd.R_far (p := ⟨af, 2, none⟩) (Kd.R_far (p := ⟨af, 1, none⟩) (Kd.R_far (p := ⟨af, 0, none⟩) (Kd.R_types au.out BKR.out (by decide)) (fun _ hk => hk.2) (.slice ap ag.length aq)) (fun _ hk => hk.2) (.slice A1 ah.length c1)) (fun _ hk => hk.2) (.slice aQ al.length aC)) (fun _ hk => hk.1), Kd.R_mono (Kd.R_far (p := ⟨af, 2, none⟩) (Kd.R_far (p := ⟨af, 1, none⟩) (Kd.R_far (p := ⟨af, 0, none⟩) (Kd.R_types av.out BKR.out (by decide)) (fun _ hk => hk.2) (.slice ap ag.length aq)) (fun _ hk => hk.2) (.slice A1 ah.length c1)) (fun _ hk => hk.2) (.slice aQ al.length aC)) (fun _ hk => hk.1), Kd.S_mono (Kd.S_far (p := ⟨af, 2, none⟩) (Kd.S_far (p := ⟨af, 1, none⟩) (Kd.S_far (p := ⟨af, 0, none⟩) (Kd.S_types ar.out BKR.out (by decide)) (fun _ hk => hk.2) (.slice ap ag.length aq)) (fun _ hk => hk.2) (.slice A1 ah.length c1)) (fun _ hk => hk.2) (.slice aQ al.length aC)) (fun _ hk => hk.1), by repeat (first | (with_reducible first | exact HB.out | refine below_set ?_ bB.out) | exact HB.out)⟩
   rw [if_pos c17] at H;have bH := decide_eq_true c17
   by_cases c18 : 0 ≤ aa
   rotate_left
   ·rw [if_neg c18] at H
    exact absurd H (by simp)
   rw [if_pos c18] at H;have cb := decide_eq_true c18
   have c19 : aa < (cur.length : Int) := by rw [HCL.out]; exact c17
   rw [if_pos c19] at H;have HP := Aside0.mk c18;have HQ := Aside0.mk c17;have H433 := Aside0.mk c19;clear c17 c18 c19;have H' := Aside0.mk H;clear H;obtain ⟨aw, ax, ay, aE, az, bP, aD, ao, bh, hi444_0, bi, hi444_1⟩ := at_T66 (k66t_C (Kd.S_reads' ar.out).2.2) aa HP.out H433.out;cases bP;clear bh hi444_0 bi hi444_1;have ce := eq_true HP.out;have cf := eq_true HQ.out;have HXC := Aside0.mk ao;have HLT_ := Aside0.mk (World.block_lt_of_cell? wr _ ao);go_wp2_with (first | ((with_reducible refine qga (N := 9) rfl ?_); refine box_event ?hg (N := 9) ?hd (cs := #[.slice none 0 0, .slice none 0 0]) (t := 66) ?hr ?_; (case hd => rfl); (case hg => rfl); (case hr => first | (go_simp; done) | (go_simp; rfl)); intro ad hg w20 hbox hb; have n0_ := Aside0.mk (Kd.R_below au.out hb); have n2_ := Aside0.mk (Kd.R_below av.out hb); have n4_ := Aside0.mk (Kd.S_below (Kd.S_elderB ar.out ad (Nat.le_of_eq hg.symm)) hb); have n7_ := Aside0.mk (blk_below (g := aW) (o := .cells #[.slice aY aG.length aZ, .slice ba aH.length bb, .slice bc aI.length bd] 26 (0, 0)) BKC.out hb); have n8_ := Aside0.mk (blk_below (g := af) (o := .cells #[.slice none 0 0, .slice none 0 0, .slice none 0 0] 26 (0, 0)) BKR.out hb); have n9_ := Aside0.mk (blk_below (g := aj) (o := .cells #[.slice ap ag.length aq, .slice A1 ah.length c1, .slice (some aw) al.length aC] 26 (0, 0)) BKO.out hb); have n10_ := Aside0.mk ((hb.cell (World.block_lt_of_cell? _ _ HXC.out)).trans HXC.out); have n11_ := Aside0.mk (below_step HB.out hb); have n12_ := Aside0.mk (show (⟨(aw.add (aa.toNat * 2)).block, (aw.add (aa.toNat * 2)).off + 1, none⟩ : Addr).block ≠ ad from by rw [hg]; exact Nat.ne_of_lt HLT_.out); have g0_ := Aside0.mk ((by rw [hg]; exact below_size HB.out) : w.heap.size ≤ ad); have g1_ := Aside0.mk ((by rw [hg]; exact Nat.ne_of_lt (blk_lt BKC.out)) : aW ≠ ad); have g2_ := Aside0.mk ((by rw [hg]; exact Nat.ne_of_lt (blk_lt BKR.out)) : af ≠ ad); have g3_ := Aside0.mk ((by rw [hg]; exact Nat.ne_of_lt (blk_lt BKO.out)) : aj ≠ ad); have b0_ := Aside0.mk hbox; replace aD := (hb.cell (World.block_lt_of_cell? _ _ aD)).trans aD; replace ao := (hb.cell (World.block_lt_of_cell? _ _ ao)).trans ao; clear au av ar BKC BKR BKO HXC HB; have au := n0_; have av := n2_; have ar := n4_; have BKC := n7_; have BKR := n8_; have BKO := n9_; have HXC := n10_; have HB := n11_; have HXN := n12_; have bI := g0_; have NBC := g1_; have NBR := g2_; have NBO := g3_; have ae := b0_; clear n0_ n2_ n4_ n7_ n8_ n9_ n10_ n11_ n12_ g0_ g1_ g2_ g3_ b0_ hg hbox hb; have bp : w20.cell? ⟨ad, 0, none⟩ = some (.slice none 0 0) := kk ae 0; have bq := blk_frozen ae.out 0; have br : w20.cell? ⟨ad, 1, none⟩ = some (.slice none 0 0) := kk ae 1; have bt := blk_frozen ae.out 1));go_loopg [25] k1 (fun kq v25 w' => ∃ (ab : Int) (cur2 : List (S66)), v25 = .int .i64 ab ∧ Aside0 (qia.l1 kq l2 (al.length : Int) aa (((rd_T66 cur aa).f1).length : Int) ab ag ah cur2 = some (r1, r2, r3)) ∧ Aside0 (cur2.length = al.length) ∧ Aside0 (((rd_T66 cur2 aa).f1).length = ((rd_T66 cur aa).f1).length) ∧ Aside0 (kq ≤ k1) ∧ Aside0 (Kd.R k64 64 w' b0 (fun k_ => w.heap.size ≤ k_) (.slice ap ag.length aq) ag) ∧ Aside0 (Kd.R k61 61 w' b0 ok0 (.slice A1 ah.length c1) ah) ∧ Aside0 (Kd.S k66t 66 w' b0 (fun k_ => w.heap.size ≤ k_ ∧ k_ ≠ ad) (.slice (some aw) al.length aC) cur2) ∧ Aside0 (w'.heap[aW]? = some (.cells #[.slice aY aG.length aZ, .slice ba aH.length bb, .slice bc aI.length bd] 26 (0, 0))) ∧ Aside0 (w'.heap[af]? = some (.cells #[.slice none 0 0, .slice none 0 0, .slice none 0 0] 26 (0, 0))) ∧ Aside0 (w'.heap[aj]? = some (.cells #[.slice ap ag.length aq, .slice A1 ah.length c1, .slice (some aw) al.length aC] 26 (0, 0))) ∧ Aside0 (w'.heap[ad]? = some (.cells #[(.slice ax ((rd_T66 cur aa).f0).length ay), (.slice aE ((rd_T66 cur aa).f1).length az)] 66 (0, 0))) ∧ Aside0 (w'.cell? ⟨(aw.add (aa.toNat * 2)).block, (aw.add (aa.toNat * 2)).off + 1, none⟩ = some (.slice aE ((rd_T66 cur aa).f1).length az)) ∧ Aside0 (Below w.heap.size w w'))
   case atStart => exact ⟨(0), cur, rfl, H', HCL, ⟨rfl⟩, ⟨Nat.le_refl _⟩, ⟨Kd.R_mono (Kd.R_far (p := ⟨ad, 1, none⟩) (Kd.R_far (p := ⟨ad, 0, none⟩) (Kd.R_types au.out ae.out (by decide)) (fun _ hk => hk.2) (.slice ax ((rd_T66 cur aa).f0).length ay)) (fun _ hk => hk.2) (.slice aE ((rd_T66 cur aa).f1).length az)) (fun _ hk => hk.1)⟩, ⟨Kd.R_mono (Kd.R_far (p := ⟨ad, 1, none⟩) (Kd.R_far (p := ⟨ad, 0, none⟩) (Kd.R_types av.out ae.out (by decide)) (fun _ hk => hk.2) (.slice ax ((rd_T66 cur aa).f0).length ay)) (fun _ hk => hk.2) (.slice aE ((rd_T66 cur aa).f1).length az)) (fun _ hk => hk.1)⟩, ⟨Kd.S_mono (Kd.S_far (p := ⟨ad, 1, none⟩) (Kd.S_far (p := ⟨ad, 0, none⟩) (Kd.S_mono ar.out (fun k_ hk => (⟨hk, hk.2⟩ : _ ∧ k_ ≠ ad))) (fun _ hk => hk.2) (.slice ax ((rd_T66 cur aa).f0).length ay)) (fun _ hk => hk.2) (.slice aE ((rd_T66 cur aa).f1).length az)) (fun _ hk => hk.1)⟩, ⟨blk_far (blk_far BKC.out NBC.out _) NBC.out _⟩, ⟨blk_far (blk_far BKR.out NBR.out _) NBR.out _⟩, ⟨blk_far (blk_far BKO.out NBO.out _) NBO.out _⟩, ⟨blk_put (cs := #[.slice ax ((rd_T66 cur aa).f0).length ay, .slice none 0 0]) (blk_put (cs := #[.slice none 0 0, .slice none 0 0]) ae.out 0 _ rfl) 1 _ rfl⟩, ⟨cell_far2 HXC.out HXN.out⟩, ⟨by repeat (first | (with_reducible first | exact HB.out | refine below_set ?_ bI.out) | exact HB.out)⟩⟩
   case round =>
    clear H';(try clear aD ao);(try clear bp br bq bt);(try clear au av ar BKC BKR BKO ae HXC HB);obtain ⟨ab, cur2, rfl, HA, HCL2, HGL, HK2, au, av, ar, BKC, BKR, BKO, ae, HXC, HB⟩ := hrel
    cases gk with
    | zero => exact absurd HA.out (by simp [qia.l1])
    | succ k2 =>
     have H := HA.out;clear HA;simp only [qia.l1] at H
     by_cases c25 : ab < (((rd_T66 cur aa).f1).length : Int)
     rotate_left
     ·rw [if_neg c25] at H
      have bJ := decide_eq_false c25;clear c25;have H' := Aside0.mk H;clear H;go_wp2;go_roundg k2
      case measure => have := HK1.out; have := HK2.out; omega
      case rel => exact ⟨(wrap64 (aa + 1)), cur2, et, H', HCL2, ⟨by have := HK1.out; have := HK2.out; omega⟩, au, av, ⟨Kd.S_mono ar.out (fun _ hk => hk.1)⟩, BKC, BKR, BKO, HB⟩
     rw [if_pos c25] at H;have bJ := decide_eq_true c25
     by_cases c26 : 0 ≤ ab
     rotate_left
     ·rw [if_neg c26] at H
      exact absurd H (by simp)
     rw [if_pos c26] at H
     have c27 : ab < (((rd_T66 cur2 aa).f1).length : Int) := by rw [HGL.out]; exact c25
     rw [if_pos c27] at H;have HP3 := Aside0.mk c26;have H443 := Aside0.mk c27;have cg := eq_true c26;have ch := eq_true c25;clear c25 c26 c27
     by_cases c28 : 0 ≤ (rd ((rd_T66 cur2 aa).f1) ab)
     rotate_left
     ·rw [if_neg c28] at H
      exact absurd H (by simp)
     rw [if_pos c28] at H
     by_cases c29 : (rd ((rd_T66 cur2 aa).f1) ab) < (l2.length : Int)
     rotate_left
     ·rw [if_neg c29] at H
      exact absurd H (by simp)
     rw [if_pos c29] at H;have HP5 := Aside0.mk c28;have HQ5 := Aside0.mk c29;have ci := eq_true c28;have cj := eq_true c29;clear c28 c29;have H' := Aside0.mk H;clear H;obtain ⟨bg, bQ, hn446, hx446, hf446, hb446, hlt446, hok446, hce446, hpt446⟩ := exits_put ar.out aa HP.out HQ.out HXC.out ab HP3.out H443.out;cases bQ;clear hn446 hf446 hb446 hlt446 hok446 hce446 hpt446;(try go_wp2);clear hx446;have n0_ := Aside0.mk (Kd.R_drew au.out);have n2_ := Aside0.mk (Kd.R_drew av.out);have n4_ := Aside0.mk (Kd.S_drew ar.out);have n5_ := Aside0.mk (blk_drew BKC.out);have n6_ := Aside0.mk (blk_drew BKR.out);have n7_ := Aside0.mk (blk_drew BKO.out);have n8_ := Aside0.mk (blk_drew ae.out);have n10_ : Aside0 (wr.drew.cell? ⟨(aw.add (aa.toNat * 2)).block, (aw.add (aa.toNat * 2)).off + 1, none⟩ = _) := Aside0.mk HXC.out;have n11_ := Aside0.mk (below_drew1 HB.out);clear au av ar BKC BKR BKO ae HXC HB; have au := n0_; have av := n2_; have ar := n4_; have BKC := n5_; have BKR := n6_; have BKO := n7_; have ae := n8_; have HXC := n10_; have HB := n11_; clear n0_ n2_ n4_ n5_ n6_ n7_ n8_ n10_ n11_;obtain ⟨bK, bR, aT⟩ := Kd.at_int (Kd.C_below HR2.out HB.out) (rd ((rd_T66 cur2 aa).f1) ab) HP5.out HQ5.out;cases bR;refine start_ (n := 9) (S := fun w' => w'.cell? ⟨ad, 0, none⟩ = some (.slice ax ((rd_T66 cur aa).f0).length ay) ∧ w'.cell? ⟨ad, 1, none⟩ = some (.slice (some ⟨bg, 0, none⟩) ((rd_T66 cur aa).f1).length az) ∧ w'.cell? (bK.add (rd ((rd_T66 cur2 aa).f1) ab).toNat) = some (.int .i64 (rd l2 (rd ((rd_T66 cur2 aa).f1) ab)))) (ds := [8]) (bs 9 0) (by kernel_rfl) rfl rfl ⟨kk ae 0, kk ae 1, aT⟩ (fun hHeld => ?_); refine with_tabW qia.tab8 qia.bits8 (fun HT_ HW_ => ?_);generalize wr.drew = bS at au av ar BKC BKR BKO ae HXC HB aT hHeld ⊢;refine pu 0 (some 30) (bs 9 1) HT_ ?_;refine pu 2 (some 32) (bs 9 5) HT_ ?_;refine pu 3 (some 33) (bs 9 13) HT_ ?_;refine pu 4 (some 34) (bs 9 29) HT_ ?_;refine ta 1 (some 31) (bs 9 31) HT_ HW_ hHeld ?_;refine pu 5 (some 35) (bs 9 63) HT_ ?_;refine ta 6 (some 36) (bs 9 127) HT_ HW_ hHeld ?_;refine pu 7 (some 37) (bs 9 255) HT_ ?_;obtain ⟨b_, e_, hn_, hx446, hf446, hb446, hlt446, hok446, hce446, hpt446⟩ := exits_put ar.out aa HP.out HQ.out HXC.out ab HP3.out H443.out;cases e_;have HPT := Aside0.mk hpt446;have HCE := Aside0.mk hce446;have HOK := Aside0.mk hok446;clear hpt446 hce446 hok446 hb446 hn_;refine last_ (i := 8) (N := none) (bs 9 511) rfl rfl (one_of HT_.out (by kernel_rfl)) (by decide) (fun K hK => ?_);refine skip_ (w1 := ?_) (by rfl) rfl ?_ ?_
     rotate_left
     ·go_simp
      rfl
     refine hK.out _ _ ?_;clear hK K hx446 hf446;refine done_ (done_of HT_.out (by kernel_rfl)) ?_;obtain ⟨cb_, hcb_⟩ := HCE.out;have n0_ := Aside0.mk (Kd.R_set au.out hcb_ (by decide) ab.toNat (.int .i64 (rd l2 (rd ((rd_T66 cur2 aa).f1) ab))));have n2_ := Aside0.mk (Kd.R_set av.out hcb_ (by decide) ab.toNat (.int .i64 (rd l2 (rd ((rd_T66 cur2 aa).f1) ab))));have n4_ := Aside0.mk (HPT.out (rd l2 (rd ((rd_T66 cur2 aa).f1) ab))).1;have n5_ := Aside0.mk (blk_far (p := ⟨bg, ab.toNat, none⟩) BKC.out (blk_ne3 hcb_ BKC.out (by decide)) (.int .i64 (rd l2 (rd ((rd_T66 cur2 aa).f1) ab))));have n6_ := Aside0.mk (blk_far (p := ⟨bg, ab.toNat, none⟩) BKR.out (blk_ne3 hcb_ BKR.out (by decide)) (.int .i64 (rd l2 (rd ((rd_T66 cur2 aa).f1) ab))));have n7_ := Aside0.mk (blk_far (p := ⟨bg, ab.toNat, none⟩) BKO.out (blk_ne3 hcb_ BKO.out (by decide)) (.int .i64 (rd l2 (rd ((rd_T66 cur2 aa).f1) ab))));have n8_ := Aside0.mk (blk_far (p := ⟨bg, ab.toNat, none⟩) ae.out (blk_ne3 hcb_ ae.out (by decide)) (.int .i64 (rd l2 (rd ((rd_T66 cur2 aa).f1) ab))));have n10_ := Aside0.mk (HPT.out (rd l2 (rd ((rd_T66 cur2 aa).f1) ab))).2;have n11_ := Aside0.mk (below_set (j := ab.toNat) (v := .int .i64 (rd l2 (rd ((rd_T66 cur2 aa).f1) ab))) HB.out HOK.out.1);clear hcb_ cb_ au av ar BKC BKR BKO ae HXC HB HPT HCE HOK hHeld aT;generalize (bS.setCell ⟨bg, ab.toNat, none⟩ (.int .i64 (rd l2 (rd ((rd_T66 cur2 aa).f1) ab)))) = ck at n0_ n2_ n4_ n5_ n6_ n7_ n8_ n10_ n11_ ⊢;(try go_wp2);go_roundg k2
     case measure => have := HK1.out; have := HK2.out; omega
     case rel => exact ⟨(wrap64 (ab + 1)), _, et, H', ⟨by rw [List.length_set]; exact HCL2.out⟩, ⟨by rw [exits_len _ _ _ _ HP.out (by rw [HCL2.out]; exact HQ.out), List.length_set]; exact HGL.out⟩, ⟨by have := HK1.out; have := HK2.out; omega⟩, n0_, n2_, n4_, n5_, n6_, n7_, n8_, n10_, n11_⟩
theorem qia.callsN (k : Nat) (ae : Option Addr) (af : Nat) (aa : List (S64)) (ag : Option Addr) (ah : Nat) (ab : List (S61)) (ai : Option Addr) (aj : Nat) (ad : List (S66)) (A1 : Option Addr) (c1 : Nat) (l1 : List (S61)) (A2 : Option Addr) (c2 : Nat) (l2 : List Int) (r1 : List (S64)) (r2 : List (S61)) (r3 : List (S66)) (w : World) (ak : Kd.C k64 w ae aa.length aa) (al : aa.length ≤ af) (an : Kd.C k61 w ag ab.length ab) (ao : ab.length ≤ ah) (ap : Kd.C k66 w ai ad.length ad) (aq : ad.length ≤ aj) {b0 : Nat} (hr1 : Kd.R k61 61 w b0 (fun _ => True) (.slice A1 l1.length c1) l1) (hb0 : b0 ≤ w.heap.size) (hr2 : Kd.C (Kd.int .i64) w A2 l2.length l2) (hc2 : l2.length ≤ c2) (h : qia.f k aa ab ad l1 l2 = some (r1, r2, r3)) :
  Calls Try.prog 50 #[.agg #[.slice ae aa.length af, .slice ag ab.length ah, .slice ai ad.length aj], .slice A1 l1.length c1, .slice A2 l2.length c2] w fun e w' => ∃ v0_ v1_ v2_ : Value, e = .returned (.agg #[v0_, v1_, v2_]) ∧ Kd.R k64 64 w' b0 (fun _ => True) v0_ r1 ∧ Kd.R k61 61 w' b0 (fun _ => True) v1_ r2 ∧ Kd.S k66 66 w' b0 (fun _ => True) v2_ r3 ∧ Below w.heap.size w w' :=
 (qia.calls k ae af aa ag ah ab ai aj ad A1 c1 l1 A2 c2 l2 r1 r2 r3 w ak al an ao ap aq hr1 hb0 hr2 hc2 h).mono fun e w' ⟨v0, v2, he, h0, h1, h2, h3⟩ => ⟨v0, _, v2, he, Kd.R_mono h0 (fun _ _ => trivial), h1, k66t_S (Kd.S_mono h2 (fun _ _ => trivial)), h3⟩
mutual
def qca.l0 : Nat → List Bool → List (S66) → Int → Int → List (S64) → List (S61) → List (S66) → Option ((List (S64)) × (List (S61)) × (List (S66)))
 | 0, _, _, _, _, _, _, _ => none
 | k + 1, x3, x18, x19, x20, ab, aa, ad => if x20 < x19 then (if 0 ≤ x20 then (if x20 < (x18.length : Int) then (qca.l1 k x3 x18 x19 x20 ((rd_T66 x18 x20).f1) (((rd_T66 x18 x20).f1).length : Int) 0 ab aa ad) else (none)) else (none)) else (qca.l2 k x3 (wrap64 ((aa.length : Int) - 1)) ab aa ad)
def qca.l1 : Nat → List Bool → List (S66) → Int → Int → List Int → Int → Int → List (S64) → List (S61) → List (S66) → Option ((List (S64)) × (List (S61)) × (List (S66)))
 | 0, _, _, _, _, _, _, _, _, _, _ => none
 | k + 1, x3, x18, x19, x20, x25, x26, x27, ab, aa, ad => if x27 < x26 then (if 0 ≤ x27 then (if x27 < (x25.length : Int) then (if 0 ≤ (rd x25 x27) then (if (rd x25 x27) < (x3.length : Int) then (qca.l1 k (x3.set ((rd x25 x27) : Int).toNat true) x18 x19 x20 x25 x26 (wrap64 (x27 + 1)) ab aa ad) else (none)) else (none)) else (none)) else (none)) else (qca.l0 k x3 x18 x19 (wrap64 (x20 + 1)) ab aa ad)
def qca.l2 : Nat → List Bool → Int → List (S64) → List (S61) → List (S66) → Option ((List (S64)) × (List (S61)) × (List (S66)))
 | 0, _, _, _, _, _ => none
 | k + 1, x3, x8, ab, aa, ad => if x8 ≥ 0 then (if 0 ≤ x8 then (if x8 < (x3.length : Int) then (if rdOf false x3 x8 = true then (if x8 < (aa.length : Int) then ((qua.f ((rd_T61 aa x8).f0) ((rd_T61 aa x8).f1) ((rd_T61 aa x8).f2) ((rd_T61 aa x8).f3)).bind fun ai => (qca.j3 k x3 x8 ai ab aa ad)) else (none)) else (qca.j3 k x3 x8 false ab aa ad)) else (none)) else (none)) else (if 0 ≤ (aa.length : Int) then (if ((aa.length : Int) : Int).toNat ≤ 35184372088832 then (qca.l3 k x3 ([] : List (S61)) (List.replicate ((aa.length : Int) : Int).toNat 0) aa (aa.length : Int) 0 ab aa ad) else (none)) else (none))
def qca.j3 : Nat → List Bool → Int → Bool → List (S64) → List (S61) → List (S66) → Option ((List (S64)) × (List (S61)) × (List (S66)))
 | 0, _, _, _, _, _, _ => none
 | k + 1, x3, x8, x55, ab, aa, ad => if x55 = true then (if 0 ≤ x8 then (if x8 < (aa.length : Int) then (if 0 ≤ ((rd_T61 aa x8).f1) then (if ((rd_T61 aa x8).f1) < (x3.length : Int) then ((some (x3.set (((rd_T61 aa x8).f1) : Int).toNat true : List Bool)).bind fun ag => (if x8 < (x3.length : Int) then (if rdOf false ag x8 = true then ((qna.f ((rd_T61 aa x8).f0) ((rd_T61 aa x8).f1) ((rd_T61 aa x8).f2) ((rd_T61 aa x8).f3)).bind fun aj => (if aj = true then (if 0 ≤ ((rd_T61 aa x8).f2) then (if ((rd_T61 aa x8).f2) < (x3.length : Int) then (qca.l2 k (ag.set (((rd_T61 aa x8).f2) : Int).toNat true) (wrap64 (x8 - 1)) ab aa ad) else (none)) else (none)) else (qca.l2 k ag (wrap64 (x8 - 1)) ab aa ad))) else (qca.l2 k ag (wrap64 (x8 - 1)) ab aa ad)) else (none))) else (none)) else (none)) else (none)) else (none)) else (if 0 ≤ x8 then (if x8 < (x3.length : Int) then (if rdOf false x3 x8 = true then (if x8 < (aa.length : Int) then ((qna.f ((rd_T61 aa x8).f0) ((rd_T61 aa x8).f1) ((rd_T61 aa x8).f2) ((rd_T61 aa x8).f3)).bind fun ak => (if ak = true then (if 0 ≤ ((rd_T61 aa x8).f2) then (if ((rd_T61 aa x8).f2) < (x3.length : Int) then (qca.l2 k (x3.set (((rd_T61 aa x8).f2) : Int).toNat true) (wrap64 (x8 - 1)) ab aa ad) else (none)) else (none)) else (qca.l2 k x3 (wrap64 (x8 - 1)) ab aa ad))) else (none)) else (qca.l2 k x3 (wrap64 (x8 - 1)) ab aa ad)) else (none)) else (none))
def qca.l3 : Nat → List Bool → List (S61) → List Int → List (S61) → Int → Int → List (S64) → List (S61) → List (S66) → Option ((List (S64)) × (List (S61)) × (List (S66)))
 | 0, _, _, _, _, _, _, _, _, _ => none
 | k + 1, x3, x9, x10, x89, x90, x91, ab, aa, ad => if x91 < x90 then (if 0 ≤ x91 then (if x91 < (x89.length : Int) then (if x91 < (x3.length : Int) then (if rdOf false x3 x91 = true then (if x91 < (x10.length : Int) then ((some (x10.set (x91 : Int).toNat (x9.length : Int) : List Int)).bind fun ah => ((qta.f ((rd_T61 x89 x91).f0) ((rd_T61 x89 x91).f1) ((rd_T61 x89 x91).f2) ((rd_T61 x89 x91).f3) ah).bind fun ae => (if x9.length < 4398046511104 then (qca.l3 k x3 (x9 ++ [(⟨ae.1, ae.2.1, ae.2.2.1, ae.2.2.2⟩ : S61)]) ah x89 x90 (wrap64 (x91 + 1)) ab aa ad) else (none)))) else (none)) else (qca.l3 k x3 x9 x10 x89 x90 (wrap64 (x91 + 1)) ab aa ad)) else (none)) else (none)) else (none)) else ((qia.f k ab aa ad x9 x10).bind fun af => (some (af.1, af.2.1, af.2.2)))
end
def qca.f (k : Nat) (ad : List (S64)) (aa : List (S61)) (ab : List (S66)) : Option ((List (S64)) × (List (S61)) × (List (S66))) := if 0 ≤ (aa.length : Int) then (if ((aa.length : Int) : Int).toNat ≤ 281474976710656 then (qca.l0 k (List.replicate ((aa.length : Int) : Int).toNat false) ab (ab.length : Int) 0 ad aa ab) else (none)) else (none)
theorem qca.calls (k : Nat) (bu : Option Addr) (bv : Nat) (an : List (S64)) (bC : Option Addr) (bw : Nat) (aa : List (S61)) (bD : Option Addr) (bx : Nat) (ah : List (S66)) (r1 : List (S64)) (r2 : List (S61)) (r3 : List (S66)) (w : World) (dr : Kd.C k64 w bu an.length an) (dt : an.length ≤ bv) (du : Kd.C k61 w bC aa.length aa) (dv : aa.length ≤ bw) (dw : Kd.C k66 w bD ah.length ah) (dx : ah.length ≤ bx) (h : qca.f k an aa ah = some (r1, r2, r3)) :
  Calls Try.prog 23 #[.agg #[.slice bu an.length bv, .slice bC aa.length bw, .slice bD ah.length bx]] w fun e w' => ∃ v0_ v1_ v2_ : Value, e = .returned (.agg #[v0_, v1_, v2_]) ∧ Kd.R k64 64 w' w.heap.size (fun _ => True) v0_ r1 ∧ Kd.R k61 61 w' w.heap.size (fun _ => True) v1_ r2 ∧ Kd.S k66 66 w' w.heap.size (fun _ => True) v2_ r3 ∧ Below w.heap.size w w' := by
 have hu26 := Try.underlying26;have hu66 := Try.underlying66;have hu61 := Try.underlying61;have eu := Aside0.mk dr;have ev := Aside0.mk dt;clear dr dt;have aE := Aside0.mk du;have ew := Aside0.mk dv;clear du dv;have dy := Aside0.mk dw;have ex := Aside0.mk dx;clear dw dx;have HB := Aside0.mk (Below.refl w.heap.size w);have H : (if 0 ≤ (aa.length : Int) then (if ((aa.length : Int) : Int).toNat ≤ 281474976710656 then (qca.l0 k (List.replicate ((aa.length : Int) : Int).toNat false) ah (ah.length : Int) 0 an aa ah) else (none)) else (none)) = some (r1, r2, r3) := h;clear h
 by_cases c2 : 0 ≤ (aa.length : Int)
 rotate_left
 ·rw [if_neg c2] at H
  exact absurd H (by simp)
 rw [if_pos c2] at H;have fA := eq_true c2;have fB := decide_eq_true c2;clear c2
 by_cases c3 : ((aa.length : Int) : Int).toNat ≤ 281474976710656
 rotate_left
 ·rw [if_neg c3] at H
  exact absurd H (by simp)
 rw [if_pos c3] at H;have fC := eq_true c3;have fD := decide_eq_true c3;clear c3;obtain ⟨ey, bU⟩ : ∃ y_ : List Bool, y_ = (List.replicate ((aa.length : Int) : Int).toNat false) := ⟨_, rfl⟩
 replace H : (qca.l0 k ey ah (ah.length : Int) 0 an aa ah) = some (r1, r2, r3) := by first | (rw [bU]; with_reducible exact H) | (have H2_ := (Option.bind_some _ _).symm.trans H; rw [bU]; with_reducible exact H2_) | (have H2_ := (Option.bind_some _ _).symm.trans H; with_reducible exact H2_) | with_reducible exact H | (rw [bU]; exact H) | exact H
 have dz := Aside0.mk bU;clear bU;have H' := Aside0.mk H;clear H;go_enter Try.func23, Try.ntmps23;go_wp2_with (first | ((with_reducible refine qga (N := 1) rfl ?_); refine box_event ?hg (N := 1) ?hd (cs := #[.slice bu an.length bv, .slice bC aa.length bw, .slice bD ah.length bx]) (t := 26) ?hr ?_; (case hd => rfl); (case hg => rfl); (case hr => first | (go_simp; done) | (go_simp; rfl)); intro bz hg w4 hbox hb; have ae := am hbox; have gu := kG HB hg; have gv := kG HB hg; replace HB := kH HB hb; clear hb hbox hg) | ((with_reducible refine qga (N := 2) rfl ?_); refine box_event ?hg (N := 2) ?hd (cs := #[.slice none 0 0, .slice none 0 0, .slice none 0 0]) (t := 26) ?hr ?_; (case hd => rfl); (case hg => rfl); (case hr => first | (go_simp; done) | (go_simp; rfl)); intro aC hg w5 hbox hb; have af := am hbox; have gw := kG HB hg; have gx := kG HB hg; replace HB := kH HB hb; have ao := kP ae hg; have ap := kQ ae hg; replace ae := kU ae hb; clear hb hbox hg; have ib := ao.out; have ic := ap.out; have Z7 := kz3 ae) | ((with_reducible refine qga (N := 16) rfl ?_); refine Kd.R_make Kd.bool _ 4 rfl (N := 16) rfl 81 _ _ rfl (aa.length : Int) rfl rfl Try.underlying81 (.bool false) 1 info4 rfl (by decide) (by omega) false (ok := fun _ => True) (okp := fun _ => True) rfl (fun _ hk => hk) trivial od (Nat.le_trans (Nat.mul_le_mul_right _ (od : (aa.length : Int).toNat ≤ 281474976710656)) (by omega)) (Below.refl _ _) (Nat.le_refl _) ?_; intro cB w8 ho9 hb hg_ hnew_; clear hg_ hnew_; (first | rw [← dz.out] at ho9 | (simp only [Int.reduceToNat] at ho9; rw [← dz.out] at ho9)); have ez := kLR ho9 HB; replace ae := kU ae hb; replace af := kU af hb; replace HB := kH HB hb; clear hb ho9; have Z10 := kz3 ae));go_loopg [20] k (fun kq v20 w' => ∃ (cJ : List Bool) (ak : Int), v20 = .int .i64 ak ∧ Aside0 (qca.l0 kq cJ ah (ah.length : Int) ak an aa ah = some (r1, r2, r3)) ∧ Aside0 (kq ≤ k) ∧ Aside0 (Kd.R Kd.bool 4 w' w.heap.size (fun _ => True) cB cJ) ∧ Aside0 (w'.heap[bz]? = some (.cells #[(.slice bu an.length bv), (.slice bC aa.length bw), (.slice bD ah.length bx)] 26 (0, 0))) ∧ Aside0 (w'.heap[aC]? = some (.cells #[(.slice none 0 0), (.slice none 0 0), (.slice none 0 0)] 26 (0, 0))) ∧ Aside0 (Below w.heap.size w w'))
 case atStart => exact ⟨(ey), (0), et, H', ⟨Nat.le_refl _⟩, ⟨krR ez⟩, ⟨kg ae⟩, ⟨kg af⟩, ⟨kh HB⟩⟩
 case round =>
  clear H';(try clear fA fB fC fD Z10 Z7);obtain ⟨cJ, ak, rfl, HA, HK1, ag, ae, af, HB⟩ := hrel
  cases gk with
  | zero => exact absurd HA.out (by simp [qca.l0])
  | succ k1 =>
   have H := HA.out;clear HA;simp only [qca.l0] at H
   by_cases c11 : ak < (ah.length : Int)
   ·rw [if_pos c11] at H
    have cK := decide_eq_true c11;clear c11
    by_cases c12 : 0 ≤ ak
    rotate_left
    ·rw [if_neg c12] at H
     exact absurd H (by simp)
    rw [if_pos c12] at H;have eA := decide_eq_true c12;clear c12
    by_cases c13 : ak < (ah.length : Int)
    rotate_left
    ·rw [if_neg c13] at H
     exact absurd H (by simp)
    rw [if_pos c13] at H;have eB := decide_eq_true c13;clear c13;have H' := Aside0.mk H;clear H;have dg : 0 ≤ (ak : Int) := od;have dh : ak < (ah.length : Int) := od;obtain ⟨eC, cL, cM, cN, cO, fE, bk, bl, cr, hi542_0, ct, hi542_1⟩ := at_T66 dy.out ak dg dh;cases fE;replace bk := (HB.out.cell (World.block_lt_of_cell? w _ bk)).trans bk;replace bl := (HB.out.cell (World.block_lt_of_cell? w _ bl)).trans bl;have fv := Aside0.mk hi542_0;have fw := Aside0.mk cr;clear hi542_0 cr;have di := Aside0.mk hi542_1;have fx := Aside0.mk ct;clear hi542_1 ct; replace dg := eq_true dg; replace dh := eq_true dh;go_wp2_with (first | ((with_reducible refine qga (N := 5) rfl ?_); refine box_event ?hg (N := 5) ?hd (cs := #[.slice none 0 0, .slice none 0 0]) (t := 66) ?hr ?_; (case hd => rfl); (case hg => rfl); (case hr => first | (go_simp; done) | (go_simp; rfl)); intro cP hg w14 hbox hb; replace ag := kR ag hb; have bm := am hbox; have gy := kG HB hg; have gz := kG HB hg; replace HB := kH HB hb; have cC := kP ae hg; have cD := kQ ae hg; replace ae := kU ae hb; have cE := kP af hg; have cF := kQ af hg; replace af := kU af hb; clear hb hbox hg; have gA := cD.out; have gB := cC.out; have gC := cF.out; have gD := cE.out; have Z17 := kz2 bm));go_loopg [27] k1 (fun kq v27 w' => ∃ (aj : List Bool) (au : Int), v27 = .int .i64 au ∧ Aside0 (qca.l1 kq aj ah (ah.length : Int) ak ((rd_T66 ah ak).f1) (((rd_T66 ah ak).f1).length : Int) au an aa ah = some (r1, r2, r3)) ∧ Aside0 (kq ≤ k1) ∧ Aside0 (Kd.R Kd.bool 4 w' w.heap.size (fun _ => True) cB aj) ∧ Aside0 (w'.heap[bz]? = some (.cells #[(.slice bu an.length bv), (.slice bC aa.length bw), (.slice (some eC) ah.length bx)] 26 (0, 0))) ∧ Aside0 (w'.heap[aC]? = some (.cells #[(.slice none 0 0), (.slice none 0 0), (.slice none 0 0)] 26 (0, 0))) ∧ Aside0 (w'.heap[cP]? = some (.cells #[(.slice cL ((rd_T66 ah ak).f0).length cM), (.slice cN ((rd_T66 ah ak).f1).length cO)] 66 (0, 0))) ∧ Aside0 (Below w.heap.size w w'))
    case atStart => exact ⟨(cJ), (0), et, H', ⟨Nat.le_refl _⟩, ⟨by (with_reducible repeat first | apply Kd.R_alloc | apply Kd.R_drewN | apply Kd.R_drew); exact Kd.R_mono (Kd.R_far (p := ⟨cP, 1, none⟩) (Kd.R_far (p := ⟨cP, 0, none⟩) (Kd.R_types ag.out bm.out (by decide)) (fun _ hk => hk.2) (.slice cL ((rd_T66 ah ak).f0).length cM)) (fun _ hk => hk.2) (.slice cN ((rd_T66 ah ak).f1).length cO)) (fun _ hk => trivial)⟩, ⟨kg ae⟩, ⟨kg af⟩, ⟨kg bm⟩, ⟨kh HB⟩⟩
    case round =>
     clear H';(try clear cK eA eB Z17 bk bl dg dh);obtain ⟨aj, au, rfl, HA, HK2, ag, ae, af, bm, HB⟩ := hrel
     cases gk with
     | zero => exact absurd HA.out (by simp [qca.l1])
     | succ k2 =>
      have H := HA.out;clear HA;simp only [qca.l1] at H
      by_cases c18 : au < (((rd_T66 ah ak).f1).length : Int)
      rotate_left
      ·rw [if_neg c18] at H
       have eD := decide_eq_false c18;clear c18;have H' := Aside0.mk H;clear H;go_wp2;go_roundg k2
       case measure => have := HK1.out; have := HK2.out; omega
       case rel => exact ⟨(aj), (wrap64 (ak + 1)), et, H', ⟨by have := HK1.out; have := HK2.out; omega⟩, ⟨krR ag⟩, ⟨kg ae⟩, ⟨kg af⟩, ⟨kh HB⟩⟩
      rw [if_pos c18] at H;have eD := decide_eq_true c18;clear c18
      by_cases c19 : 0 ≤ au
      rotate_left
      ·rw [if_neg c19] at H
       exact absurd H (by simp)
      rw [if_pos c19] at H;have gE := decide_eq_true c19;clear c19
      by_cases c20 : au < (((rd_T66 ah ak).f1).length : Int)
      rotate_left
      ·rw [if_neg c20] at H
       exact absurd H (by simp)
      rw [if_pos c20] at H;have gF := decide_eq_true c20;clear c20
      by_cases c21 : 0 ≤ (rd ((rd_T66 ah ak).f1) au)
      rotate_left
      ·rw [if_neg c21] at H
       exact absurd H (by simp)
      rw [if_pos c21] at H;have gG := decide_eq_true c21;clear c21
      by_cases c22 : (rd ((rd_T66 ah ak).f1) au) < (aj.length : Int)
      rotate_left
      ·rw [if_neg c22] at H
       exact absurd H (by simp)
      rw [if_pos c22] at H;have gH := decide_eq_true c22;clear c22;obtain ⟨dN, bV⟩ : ∃ y_ : List Bool, y_ = (aj.set ((rd ((rd_T66 ah ak).f1) au) : Int).toNat true) := ⟨_, rfl⟩
      replace H : (qca.l1 k2 dN ah (ah.length : Int) ak ((rd_T66 ah ak).f1) (((rd_T66 ah ak).f1).length : Int) (wrap64 (au + 1)) an aa ah) = some (r1, r2, r3) := by first | (rw [bV]; with_reducible exact H) | (have H2_ := (Option.bind_some _ _).symm.trans H; rw [bV]; with_reducible exact H2_) | (have H2_ := (Option.bind_some _ _).symm.trans H; with_reducible exact H2_) | with_reducible exact H | (rw [bV]; exact H) | exact H
      have eE := Aside0.mk bV;clear bV;have H' := Aside0.mk H;clear H;have dO : 0 ≤ (au : Int) := od;have dP : au < (((rd_T66 ah ak).f1).length : Int) := od;obtain ⟨gI, fF, bE⟩ := Kd.at_int di.out au dO dP;cases fF;replace bE := (HB.out.cell (World.block_lt_of_cell? w _ bE)).trans bE;replace dO := eq_true dO; replace dP := eq_true dP;have p23 : 0 ≤ ((rd ((rd_T66 ah ak).f1) au) : Int) := od;have q23 : ((rd ((rd_T66 ah ak).f1) au) : Int) < ((aj.length : Int) : Int) := od;obtain ⟨dQ, fG, eF, eG, gl23, cl23, HG23⟩ := Kd.R_form ag.out (by omega);(first | cases eF | (injection eF with ea_ en_ ec_; (first | subst ea_ | (injection ea_ with ea_; subst ea_)); subst ec_; clear en_));have fH := Aside0.mk eG;have ie := Aside0.mk HG23;clear eG gl23 HG23;obtain ⟨fI, fJ⟩ := Kd.R_celln false ag.out ((rd ((rd_T66 ah ak).f1) au) : Int) p23 q23;replace p23 := eq_true p23; replace q23 := eq_true q23;have dR := Kd.R_putg ag.out ((rd ((rd_T66 ah ak).f1) au) : Int) true;go_wp2_with (first | ((with_reducible refine gate_store (t := 4) (p := 33) rfl ?_); refine store_event (t := 4) (p := 33) (v := ?vo_w25) (w1 := (wr.setCell ⟨dQ, ((rd ((rd_T66 ah ak).f1) au) : Int).toNat, none⟩ (.bool true))) ?hg ?ho ?hn ?hr ?_; (case ho => rfl); (case hg => rfl); (case hn => rfl); (case hr => first | (go_simp; done) | (go_simp; rfl)); intro w25 hw; have hg : wr.grownBy w25 (some dQ) := (by rw [hw]; exact dR.2); have hp_ : Kd.R Kd.bool 4 w25 w.heap.size (fun _ => True) (.slice (some ⟨dQ, 0, none⟩) aj.length fG) dN := (by rw [hw, eE.out]; exact dR.1); clear dR; replace ae := kXR ae ag hg; replace af := kXR af ag hg; replace bm := kXR bm ag hg; replace ag := Aside0.mk (hp_); replace HB := Aside0.mk ((by rw [hw]; exact below_set (HB.out) fH.out : Below w.heap.size w w25)); clear hg hw hp_));go_roundg k2
      case measure => have := HK1.out; have := HK2.out; omega
      case rel => exact ⟨(dN), (wrap64 (au + 1)), et, H', ⟨by have := HK1.out; have := HK2.out; omega⟩, ⟨krR ag⟩, ⟨kg ae⟩, ⟨kg af⟩, ⟨kg bm⟩, ⟨kh HB⟩⟩
   rw [if_neg c11] at H;have cK := decide_eq_false c11;clear c11;have H' := Aside0.mk H;clear H;have gJ := ao.out;have gK := ap.out;have Z27 := kz3 ae;go_wp2;go_loopg [8] k1 (fun kq v8 w' => ∃ (aj : List Bool) (ab : Int), v8 = .int .i64 ab ∧ Aside0 (qca.l2 kq aj ab an aa ah = some (r1, r2, r3)) ∧ Aside0 (kq ≤ k1) ∧ Aside0 (Kd.R Kd.bool 4 w' w.heap.size (fun _ => True) cB aj) ∧ Aside0 (w'.heap[bz]? = some (.cells #[(.slice bu an.length bv), (.slice bC aa.length bw), (.slice bD ah.length bx)] 26 (0, 0))) ∧ Aside0 (w'.heap[aC]? = some (.cells #[(.slice none 0 0), (.slice none 0 0), (.slice none 0 0)] 26 (0, 0))) ∧ Aside0 (Below w.heap.size w w'))
   case atStart => exact ⟨(cJ), (wrap64 ((aa.length : Int) - 1)), et, H', ⟨Nat.le_refl _⟩, ⟨krR ag⟩, ⟨kg ae⟩, ⟨kg af⟩, ⟨kh HB⟩⟩
   case round =>
    clear H';(try clear cK c12 Z27);obtain ⟨aj, ab, rfl, HA, HK2, ag, ae, af, HB⟩ := hrel
    cases gk with
    | zero => exact absurd HA.out (by simp [qca.l2])
    | succ k2 =>
     have H := HA.out;clear HA;simp only [qca.l2] at H
     by_cases c28 : ab ≥ 0
     rotate_left
     ·rw [if_neg c28] at H
      have cQ := decide_eq_false c28;clear c28
      by_cases c96 : 0 ≤ (aa.length : Int)
      rotate_left
      ·rw [if_neg c96] at H
       exact absurd H (by simp)
      rw [if_pos c96] at H;have eH := eq_true c96;have eI := decide_eq_true c96;clear c96
      by_cases c97 : ((aa.length : Int) : Int).toNat ≤ 35184372088832
      rotate_left
      ·rw [if_neg c97] at H
       exact absurd H (by simp)
      rw [if_pos c97] at H;have eJ := eq_true c97;have eK := decide_eq_true c97;clear c97;obtain ⟨eL, bW⟩ : ∃ y_ : List Int, y_ = (List.replicate ((aa.length : Int) : Int).toNat 0) := ⟨_, rfl⟩
      replace H : (qca.l3 k2 aj ([] : List (S61)) eL aa (aa.length : Int) 0 an aa ah) = some (r1, r2, r3) := by first | (rw [bW]; with_reducible exact H) | (have H2_ := (Option.bind_some _ _).symm.trans H; rw [bW]; with_reducible exact H2_) | (have H2_ := (Option.bind_some _ _).symm.trans H; with_reducible exact H2_) | with_reducible exact H | (rw [bW]; exact H) | exact H
      have dA := Aside0.mk bW;clear bW;have H' := Aside0.mk H;clear H;have gL := ao.out;have gM := ap.out;have Z99 := kz3 ae;go_wp2_with (first | ((with_reducible refine qga (N := 87) rfl ?_); refine Kd.R_make (Kd.int .i64) _ 3 rfl (N := 87) rfl 27 _ _ rfl (aa.length : Int) rfl rfl Try.underlying27 (.int .i64 0) 8 info3 rfl (by decide) (by omega) 0 (ok := fun _ => True) (okp := fun _ => True) rfl (fun _ hk => hk) trivial od (Nat.le_trans (Nat.mul_le_mul_right _ (od : (aa.length : Int).toNat ≤ 35184372088832)) (by omega)) (Below.refl _ _) (Nat.le_refl _) ?_; intro eM ig ho101 hb hg_ hnew_; clear hg_ hnew_; (first | rw [← dA.out] at ho101 | (simp only [Int.reduceToNat] at ho101; rw [← dA.out] at ho101)); replace ag := kR ag hb; have eN := kLR ho101 HB; replace ae := kU ae hb; replace af := kU af hb; replace HB := kH HB hb; clear hb ho101; have fK := kz3 ae));go_loopg [9, 91] k2 (fun kq v9 v91 w' => ∃ (aG : List (S61)) (aA : List Int) (ad : Int), v91 = .int .i64 ad ∧ Aside0 (qca.l3 kq aj aG aA aa (aa.length : Int) ad an aa ah = some (r1, r2, r3)) ∧ Aside0 (kq ≤ k2) ∧ Aside0 (Kd.R Kd.bool 4 w' w.heap.size (fun _ => True) cB aj) ∧ Aside0 (Kd.R k61 61 w' w.heap.size (fun _ => True) v9 aG) ∧ Aside0 (Kd.R (Kd.int .i64) 3 w' w.heap.size (fun _ => True) eM aA) ∧ Aside0 (w'.heap[bz]? = some (.cells #[(.slice bu an.length bv), (.slice bC aa.length bw), (.slice bD ah.length bx)] 26 (0, 0))) ∧ Aside0 (w'.heap[aC]? = some (.cells #[(.slice none 0 0), (.slice none 0 0), (.slice none 0 0)] 26 (0, 0))) ∧ Aside0 (Below w.heap.size w w'))
      case atStart => exact ⟨(([] : List (S61))), (eL), (0), et, H', ⟨Nat.le_refl _⟩, ⟨krR ag⟩, ⟨by first | exact Kd.R_nil _ _ _ _ _ | exact Kd.N_nil _ _ _ _ _ | exact Kd.V_nil _ _ _ _ _ | exact Kd.Q_nil _ _ _ _ _ | exact Kd.S_nil _ _ _ _ _⟩, ⟨krR eN⟩, ⟨kg ae⟩, ⟨kg af⟩, ⟨kh HB⟩⟩
      case round =>
       clear H';(try clear cQ eH eI eJ eK fK Z99);obtain ⟨aG, aA, ad, rfl, HA, HK3, ag, aD, al, ae, af, HB⟩ := hrel
       cases gk with
       | zero => exact absurd HA.out (by simp [qca.l3])
       | succ k3 =>
        have H := HA.out;clear HA;simp only [qca.l3] at H
        by_cases cG : ad < (aa.length : Int)
        rotate_left
        ·rw [if_neg cG] at H
         have dS := decide_eq_false cG;clear cG;replace H := Option.bind_eq_some_iff.mp H;obtain ⟨⟨cR, cS, cT⟩, dB, H⟩ := H;(try dsimp only at H);have fL := Aside0.mk dB;clear dB;simp only [Option.some.injEq, Prod.mk.injEq] at H;obtain ⟨rfl, rfl, rfl⟩ := H;have fM := ao.out;have fN := ap.out;have ii := kz3 ae;obtain ⟨eO, eP, eQ⟩ := Kd.R_slice aD.out;subst eQ;obtain ⟨eR, eS, eT⟩ := Kd.R_slice al.out;subst eT;go_wp2_with (first | ((with_reducible refine gate_callee (f := 50) rfl ?_); refine goesL_ (some 115) rfl rfl Try.func50 (by kernel_rfl) rfl #[.agg #[.slice bu an.length bv, .slice bC aa.length bw, .slice bD ah.length bx], .slice eO aG.length eP, .slice eR aA.length eS] rfl (by (try simp only [qM1, qM2, qM3]); first | done | rfl) ?_; (with_reducible refine (qia.callsN (b0 := w.heap.size) k3 _ _ an _ _ aa _ _ ah _ _ aG _ _ aA cR cS cT _ ?side1 ?side2 ?side3 ?side4 ?side5 ?side6 ?side7 ?side8 ?side9 ?side10 fL.out).mono ?_); (case side1 => repeat (first | exact (Kd.C_below eu.out HB.out) | (with_reducible first | refine Kd.C_alloc ?_ _ | refine Kd.C_drewN ?_ _ | refine Kd.C_drew ?_))); (case side2 => exact ev.out); (case side3 => repeat (first | exact (Kd.C_below aE.out HB.out) | (with_reducible first | refine Kd.C_alloc ?_ _ | refine Kd.C_drewN ?_ _ | refine Kd.C_drew ?_))); (case side4 => exact ew.out); (case side5 => repeat (first | exact (Kd.C_below dy.out HB.out) | (with_reducible first | refine Kd.C_alloc ?_ _ | refine Kd.C_drewN ?_ _ | refine Kd.C_drew ?_))); (case side6 => exact ex.out); (case side7 => exact Kd.R_mono (krR aD) (fun _ _ => trivial)); (case side8 => exact (below_size (by repeat (first | exact HB.out | apply below_alloc | apply pw_below_drewN | apply below_drew1)))); (case side9 => repeat (first | exact (Kd.R_reads' al.out).2.2 | (with_reducible first | refine Kd.C_alloc ?_ _ | refine Kd.C_drewN ?_ _ | refine Kd.C_drew ?_))); (case side10 => exact (Kd.R_reads' al.out).2.1); rintro e ik ⟨il, im, io, rfl, ho0, ho1, ho2, hb⟩; refine ⟨_, rfl, ?_⟩; replace ag := kR ag hb; replace aD := kR aD hb; replace al := kR al hb; have dC := Aside0.mk (ho0); have dD := Aside0.mk (ho1); have dE := Aside0.mk (ho2); replace ae := kU ae hb; replace af := kU af hb; replace HB := kH HB hb; (try clear hb); (try clear hb2); (try clear hk); (try clear hi); (try clear ho0); (try clear ho1); (try clear ho2); obtain ⟨cu, cv, eU⟩ := Kd.R_slice dC.out; subst eU; have ip := kz3 af; obtain ⟨cw, cx, eV⟩ := Kd.R_slice dD.out; subst eV; obtain ⟨cy, cz, eW⟩ := Kd.S_slice dE.out; subst eW));refine bodyPost_ret (results_cell_row rfl _ _ aC 26 #[.slice cu cR.length cv, .slice cw cS.length cx, .slice cy cT.length cz] (0, 0) _ rfl (kg af) Try.underlying26 rfl (by kernel_rfl)) rfl ?_;exact ⟨_, _, _, er, by (with_reducible repeat first | apply Kd.R_alloc | apply Kd.R_drewN | apply Kd.R_drew); exact Kd.R_mono (Kd.R_far (p := ⟨aC, 2, none⟩) (Kd.R_far (p := ⟨aC, 1, none⟩) (Kd.R_far (p := ⟨aC, 0, none⟩) (Kd.R_types dC.out af.out (by decide)) (fun _ hk => hk.2) (.slice cu cR.length cv)) (fun _ hk => hk.2) (.slice cw cS.length cx)) (fun _ hk => hk.2) (.slice cy cT.length cz)) (fun _ hk => trivial), by (with_reducible repeat first | apply Kd.R_alloc | apply Kd.R_drewN | apply Kd.R_drew); exact Kd.R_mono (Kd.R_far (p := ⟨aC, 2, none⟩) (Kd.R_far (p := ⟨aC, 1, none⟩) (Kd.R_far (p := ⟨aC, 0, none⟩) (Kd.R_types dD.out af.out (by decide)) (fun _ hk => hk.2) (.slice cu cR.length cv)) (fun _ hk => hk.2) (.slice cw cS.length cx)) (fun _ hk => hk.2) (.slice cy cT.length cz)) (fun _ hk => trivial), by (with_reducible repeat first | apply Kd.S_alloc | apply Kd.S_drewN | apply Kd.S_drew); exact Kd.S_mono (Kd.S_far (p := ⟨aC, 2, none⟩) (Kd.S_far (p := ⟨aC, 1, none⟩) (Kd.S_far (p := ⟨aC, 0, none⟩) (Kd.S_types dE.out af.out (by decide)) (fun _ hk => hk.2) (.slice cu cR.length cv)) (fun _ hk => hk.2) (.slice cw cS.length cx)) (fun _ hk => hk.2) (.slice cy cT.length cz)) (fun _ hk => trivial), kh HB⟩
        rw [if_pos cG] at H;have dS := decide_eq_true cG;clear cG
        by_cases dj : 0 ≤ ad
        rotate_left
        ·rw [if_neg dj] at H
         exact absurd H (by simp)
        rw [if_pos dj] at H;have fO := decide_eq_true dj;clear dj
        by_cases dk : ad < (aa.length : Int)
        rotate_left
        ·rw [if_neg dk] at H
         exact absurd H (by simp)
        rw [if_pos dk] at H;have fP := decide_eq_true dk;clear dk
        by_cases dl : ad < (aj.length : Int)
        rotate_left
        ·rw [if_neg dl] at H
         exact absurd H (by simp)
        rw [if_pos dl] at H;have fQ := decide_eq_true dl;clear dl;obtain ⟨dF, hbq107⟩ : ∃ b_ : Bool, b_ = (rdOf false aj ad) := ⟨_, rfl⟩
        replace H : (if dF = true then (if ad < (aA.length : Int) then ((some (aA.set (ad : Int).toNat (aG.length : Int) : List Int)).bind fun bi => ((qta.f ((rd_T61 aa ad).f0) ((rd_T61 aa ad).f1) ((rd_T61 aa ad).f2) ((rd_T61 aa ad).f3) bi).bind fun bc => (if aG.length < 4398046511104 then (qca.l3 k3 aj (aG ++ [(⟨bc.1, bc.2.1, bc.2.2.1, bc.2.2.2⟩ : S61)]) bi aa (aa.length : Int) (wrap64 (ad + 1)) an aa ah) else (none)))) else (none)) else (qca.l3 k3 aj aG aA aa (aa.length : Int) (wrap64 (ad + 1)) an aa ah)) = some (r1, r2, r3) := by rw [← hbq107] at H; exact H
        have Nbq107 := Aside0.mk hbq107;clear hbq107
        by_cases dm : dF = true
        rotate_left
        ·replace dm := Bool.eq_false_iff.mpr dm
         subst dm;replace H := ifF H;have H' := Aside0.mk H;clear H;have ch : 0 ≤ (ad : Int) := od;have ci : ad < (aa.length : Int) := od;obtain ⟨dG, dT, aH, aI, aJ, aK⟩ := at_T61 aE.out ad ch ci;cases dT;replace aH := (HB.out.cell (World.block_lt_of_cell? w _ aH)).trans aH;replace aI := (HB.out.cell (World.block_lt_of_cell? w _ aI)).trans aI;replace aJ := (HB.out.cell (World.block_lt_of_cell? w _ aJ)).trans aJ;replace aK := (HB.out.cell (World.block_lt_of_cell? w _ aK)).trans aK;replace ch := eq_true ch; replace ci := eq_true ci;go_wp2_with (first | ((with_reducible refine qga (N := 12) rfl ?_); refine box_event ?hg (N := 12) ?hd (cs := #[.int .i64 0, .int .i64 0, .int .i64 0, .int .u64 0]) (t := 61) ?hr ?_; (case hd => rfl); (case hg => rfl); (case hr => first | (go_simp; done) | (go_simp; rfl)); intro ai hg iq hbox hb; replace ag := kR ag hb; replace aD := Aside0.mk (Kd.R_below (Kd.R_elderB (krR aD) ai (Nat.le_of_eq hg.symm)) hb); replace al := kR al hb; have ar := am hbox; have eX := kG HB hg; have eY := kG HB hg; replace HB := kH HB hb; have bd := kP ae hg; have bf := kQ ae hg; replace ae := kU ae hb; have bg := kP af hg; have bh := kQ af hg; replace af := kU af hb; clear hb hbox hg; have fR := bf.out; have fS := bd.out; have fT := bh.out; have fU := bg.out; have ir := kz4 ar; obtain ⟨gN, gO, eZ⟩ := Kd.R_slice ag.out; subst eZ; have cj : 0 ≤ (ad : Int) := od; have ck : ad < (aj.length : Int) := od; obtain ⟨bX, dU, av⟩ := Kd.at_bool (Kd.R_reads' ag.out).2.2 ad cj ck; (try rw [← Nbq107.out] at av); cases dU; have hn566_0 : bX.block ≠ ai := Kd.own_blk (Kd.R_ne ag.out ar.out (by decide)); have hn566_1 : bX.block ≠ ai := Kd.own_blk (Kd.R_ne ag.out ar.out (by decide)); have hn566_2 : bX.block ≠ ai := Kd.own_blk (Kd.R_ne ag.out ar.out (by decide)); have hn566_3 : bX.block ≠ ai := Kd.own_blk (Kd.R_ne ag.out ar.out (by decide)); replace av := (cell_far (p := ⟨ai, 0, none⟩) (by first | (rw [add_block]; exact hn566_0) | (show (Addr.add _ _).block ≠ _; rw [add_block]; exact hn566_0) | exact hn566_0) (.int .i64 ((rd_T61 aa ad).f0))).trans av; replace av := (cell_far (p := ⟨ai, 1, none⟩) (by first | (rw [add_block]; exact hn566_1) | (show (Addr.add _ _).block ≠ _; rw [add_block]; exact hn566_1) | exact hn566_1) (.int .i64 ((rd_T61 aa ad).f1))).trans av; replace av := (cell_far (p := ⟨ai, 2, none⟩) (by first | (rw [add_block]; exact hn566_2) | (show (Addr.add _ _).block ≠ _; rw [add_block]; exact hn566_2) | exact hn566_2) (.int .i64 ((rd_T61 aa ad).f2))).trans av; replace av := (cell_far (p := ⟨ai, 3, none⟩) (by first | (rw [add_block]; exact hn566_3) | (show (Addr.add _ _).block ≠ _; rw [add_block]; exact hn566_3) | exact hn566_3) (.int .u64 ((rd_T61 aa ad).f3))).trans av; clear hn566_0; clear hn566_1; clear hn566_2; clear hn566_3; replace cj := eq_true cj; replace ck := eq_true ck));go_roundg k3
         case measure => have := HK1.out; have := HK2.out; have := HK3.out; omega
         case rel => exact ⟨(aG), (aA), (wrap64 (ad + 1)), et, H', ⟨by have := HK1.out; have := HK2.out; have := HK3.out; omega⟩, ⟨by (with_reducible repeat first | apply Kd.R_alloc | apply Kd.R_drewN | apply Kd.R_drew); exact Kd.R_mono (Kd.R_far (p := ⟨ai, 3, none⟩) (Kd.R_far (p := ⟨ai, 2, none⟩) (Kd.R_far (p := ⟨ai, 1, none⟩) (Kd.R_far (p := ⟨ai, 0, none⟩) (Kd.R_types ag.out ar.out (by decide)) (fun _ hk => hk.2) (.int .i64 ((rd_T61 aa ad).f0))) (fun _ hk => hk.2) (.int .i64 ((rd_T61 aa ad).f1))) (fun _ hk => hk.2) (.int .i64 ((rd_T61 aa ad).f2))) (fun _ hk => hk.2) (.int .u64 ((rd_T61 aa ad).f3))) (fun _ hk => trivial)⟩, ⟨by (with_reducible repeat first | apply Kd.R_alloc | apply Kd.R_drewN | apply Kd.R_drew); exact Kd.R_mono (Kd.R_far (p := ⟨ai, 3, none⟩) (Kd.R_far (p := ⟨ai, 2, none⟩) (Kd.R_far (p := ⟨ai, 1, none⟩) (Kd.R_far (p := ⟨ai, 0, none⟩) (Kd.R_mono aD.out (fun k_ hk => (⟨hk, hk.2⟩ : _ ∧ k_ ≠ ai))) (fun _ hk => hk.2) (.int .i64 ((rd_T61 aa ad).f0))) (fun _ hk => hk.2) (.int .i64 ((rd_T61 aa ad).f1))) (fun _ hk => hk.2) (.int .i64 ((rd_T61 aa ad).f2))) (fun _ hk => hk.2) (.int .u64 ((rd_T61 aa ad).f3))) (fun _ hk => trivial)⟩, ⟨by (with_reducible repeat first | apply Kd.R_alloc | apply Kd.R_drewN | apply Kd.R_drew); exact Kd.R_mono (Kd.R_far (p := ⟨ai, 3, none⟩) (Kd.R_far (p := ⟨ai, 2, none⟩) (Kd.R_far (p := ⟨ai, 1, none⟩) (Kd.R_far (p := ⟨ai, 0, none⟩) (Kd.R_types al.out ar.out (by decide)) (fun _ hk => hk.2) (.int .i64 ((rd_T61 aa ad).f0))) (fun _ hk => hk.2) (.int .i64 ((rd_T61 aa ad).f1))) (fun _ hk => hk.2) (.int .i64 ((rd_T61 aa ad).f2))) (fun _ hk => hk.2) (.int .u64 ((rd_T61 aa ad).f3))) (fun _ hk => trivial)⟩, ⟨kg ae⟩, ⟨kg af⟩, ⟨kh HB⟩⟩
        subst dm;replace H := ifT H
        by_cases dn : ad < (aA.length : Int)
        rotate_left
        ·rw [if_neg dn] at H
         exact absurd H (by simp)
        rw [if_pos dn] at H;have fV := decide_eq_true dn;clear dn;obtain ⟨bi, bY⟩ : ∃ y_ : List Int, y_ = (aA.set (ad : Int).toNat (aG.length : Int)) := ⟨_, rfl⟩
        replace H : ((qta.f ((rd_T61 aa ad).f0) ((rd_T61 aa ad).f1) ((rd_T61 aa ad).f2) ((rd_T61 aa ad).f3) bi).bind fun bc => (if aG.length < 4398046511104 then (qca.l3 k3 aj (aG ++ [(⟨bc.1, bc.2.1, bc.2.2.1, bc.2.2.2⟩ : S61)]) bi aa (aa.length : Int) (wrap64 (ad + 1)) an aa ah) else (none))) = some (r1, r2, r3) := by first | (rw [bY]; with_reducible exact H) | (have H2_ := (Option.bind_some _ _).symm.trans H; rw [bY]; with_reducible exact H2_) | (have H2_ := (Option.bind_some _ _).symm.trans H; with_reducible exact H2_) | with_reducible exact H | (rw [bY]; exact H) | exact H
        have fa := Aside0.mk bY;clear bY;replace H := Option.bind_eq_some_iff.mp H;obtain ⟨⟨cU, cV, cW, cX⟩, dH, H⟩ := H;(try dsimp only at H);have fW := Aside0.mk dH;clear dH
        by_cases dp : aG.length < 4398046511104
        rotate_left
        ·rw [if_neg dp] at H
         exact absurd H (by simp)
        rw [if_pos dp] at H;have dV := Aside0.mk dp;clear dp;obtain ⟨fb, bZ⟩ : ∃ y_ : List (S61), y_ = (aG ++ [(⟨cU, cV, cW, cX⟩ : S61)]) := ⟨_, rfl⟩
        replace H : (qca.l3 k3 aj fb bi aa (aa.length : Int) (wrap64 (ad + 1)) an aa ah) = some (r1, r2, r3) := by first | (rw [bZ]; with_reducible exact H) | (have H2_ := (Option.bind_some _ _).symm.trans H; rw [bZ]; with_reducible exact H2_) | (have H2_ := (Option.bind_some _ _).symm.trans H; with_reducible exact H2_) | with_reducible exact H | (rw [bZ]; exact H) | exact H
        have fc := Aside0.mk bZ;clear bZ;have H' := Aside0.mk H;clear H;have ch : 0 ≤ (ad : Int) := od;have ci : ad < (aa.length : Int) := od;obtain ⟨dG, dT, aH, aI, aJ, aK⟩ := at_T61 aE.out ad ch ci;cases dT;replace aH := (HB.out.cell (World.block_lt_of_cell? w _ aH)).trans aH;replace aI := (HB.out.cell (World.block_lt_of_cell? w _ aI)).trans aI;replace aJ := (HB.out.cell (World.block_lt_of_cell? w _ aJ)).trans aJ;replace aK := (HB.out.cell (World.block_lt_of_cell? w _ aK)).trans aK;replace ch := eq_true ch; replace ci := eq_true ci;go_wp2_with (first | ((with_reducible refine qga (N := 12) rfl ?_); refine box_event ?hg (N := 12) ?hd (cs := #[.int .i64 0, .int .i64 0, .int .i64 0, .int .u64 0]) (t := 61) ?hr ?_; (case hd => rfl); (case hg => rfl); (case hr => first | (go_simp; done) | (go_simp; rfl)); intro ai hg fX hbox hb; replace ag := kR ag hb; replace aD := Aside0.mk (Kd.R_below (Kd.R_elderB (krR aD) ai (Nat.le_of_eq hg.symm)) hb); replace al := kR al hb; have ar := am hbox; have eX := kG HB hg; have eY := kG HB hg; replace HB := kH HB hb; have bd := kP ae hg; have bf := kQ ae hg; replace ae := kU ae hb; have bg := kP af hg; have bh := kQ af hg; replace af := kU af hb; clear hb hbox hg; have fY := bf.out; have fZ := bd.out; have ga := bh.out; have gb := bg.out; have it := kz4 ar) | ((with_reducible refine gate_store (t := 61) (p := 12) rfl ?_); refine store_event (t := 61) (p := 12) (v := ?vo_w117) (w1 := ((((fX.setCell ⟨ai, 0, none⟩ (.int .i64 ((rd_T61 aa ad).f0))).setCell ⟨ai, 1, none⟩ (.int .i64 ((rd_T61 aa ad).f1))).setCell ⟨ai, 2, none⟩ (.int .i64 ((rd_T61 aa ad).f2))).setCell ⟨ai, 3, none⟩ (.int .u64 ((rd_T61 aa ad).f3)))) ?hg ?ho ?hn ?hr ?_; (case ho => rfl); (case hg => rfl); (case hn => rfl); (case hr => first | (go_simp; done) | (go_simp; rfl)); intro bF hw; replace ag : Aside0 (Kd.R Kd.bool 4 bF w.heap.size (fun _ => True) cB aj) := ⟨(by rw [hw]; exact (by (with_reducible repeat first | apply Kd.R_alloc | apply Kd.R_drewN | apply Kd.R_drew); exact Kd.R_mono (Kd.R_far (p := ⟨ai, 3, none⟩) (Kd.R_far (p := ⟨ai, 2, none⟩) (Kd.R_far (p := ⟨ai, 1, none⟩) (Kd.R_far (p := ⟨ai, 0, none⟩) (Kd.R_types ag.out ar.out (by decide)) (fun _ hk => hk.2) (.int .i64 ((rd_T61 aa ad).f0))) (fun _ hk => hk.2) (.int .i64 ((rd_T61 aa ad).f1))) (fun _ hk => hk.2) (.int .i64 ((rd_T61 aa ad).f2))) (fun _ hk => hk.2) (.int .u64 ((rd_T61 aa ad).f3))) (fun _ hk => trivial)))⟩; replace aD : Aside0 (Kd.R k61 61 bF w.heap.size (fun k_ => k_ ≠ ai) u9 aG) := ⟨(by rw [hw]; exact (by (with_reducible repeat first | apply Kd.R_alloc | apply Kd.R_drewN | apply Kd.R_drew); exact Kd.R_mono (Kd.R_far (p := ⟨ai, 3, none⟩) (Kd.R_far (p := ⟨ai, 2, none⟩) (Kd.R_far (p := ⟨ai, 1, none⟩) (Kd.R_far (p := ⟨ai, 0, none⟩) (Kd.R_mono aD.out (fun k_ hk => (⟨hk, hk.2⟩ : _ ∧ k_ ≠ ai))) (fun _ hk => hk.2) (.int .i64 ((rd_T61 aa ad).f0))) (fun _ hk => hk.2) (.int .i64 ((rd_T61 aa ad).f1))) (fun _ hk => hk.2) (.int .i64 ((rd_T61 aa ad).f2))) (fun _ hk => hk.2) (.int .u64 ((rd_T61 aa ad).f3))) (fun _ hk => hk.1.2)))⟩; replace al : Aside0 (Kd.R (Kd.int .i64) 3 bF w.heap.size (fun _ => True) eM aA) := ⟨(by rw [hw]; exact (by (with_reducible repeat first | apply Kd.R_alloc | apply Kd.R_drewN | apply Kd.R_drew); exact Kd.R_mono (Kd.R_far (p := ⟨ai, 3, none⟩) (Kd.R_far (p := ⟨ai, 2, none⟩) (Kd.R_far (p := ⟨ai, 1, none⟩) (Kd.R_far (p := ⟨ai, 0, none⟩) (Kd.R_types al.out ar.out (by decide)) (fun _ hk => hk.2) (.int .i64 ((rd_T61 aa ad).f0))) (fun _ hk => hk.2) (.int .i64 ((rd_T61 aa ad).f1))) (fun _ hk => hk.2) (.int .i64 ((rd_T61 aa ad).f2))) (fun _ hk => hk.2) (.int .u64 ((rd_T61 aa ad).f3))) (fun _ hk => trivial)))⟩; replace ae : Aside0 (bF.heap[bz]? = some (.cells #[.slice bu an.length bv, .slice (some dG) aa.length bw, .slice bD ah.length bx] 26 (0, 0))) := ⟨(by rw [hw]; exact (kg ae))⟩; replace af : Aside0 (bF.heap[aC]? = some (.cells #[.slice none 0 0, .slice none 0 0, .slice none 0 0] 26 (0, 0))) := ⟨(by rw [hw]; exact (kg af))⟩; replace ar : Aside0 (bF.heap[ai]? = some (.cells #[.int .i64 ((rd_T61 aa ad).f0), .int .i64 ((rd_T61 aa ad).f1), .int .i64 ((rd_T61 aa ad).f2), .int .u64 ((rd_T61 aa ad).f3)] 61 (0, 0))) := ⟨(by rw [hw]; exact (kg ar))⟩; replace HB : Aside0 (Below w.heap.size w bF) := ⟨(by rw [hw]; exact (kh HB))⟩; clear hw; obtain ⟨gP, gQ, fd⟩ := Kd.R_slice ag.out; subst fd; have cj : 0 ≤ (ad : Int) := od; have ck : ad < (aj.length : Int) := od; obtain ⟨bX, dU, av⟩ := Kd.at_bool (Kd.R_reads' ag.out).2.2 ad cj ck; (try rw [← Nbq107.out] at av); cases dU; replace cj := eq_true cj; replace ck := eq_true ck; obtain ⟨fe, ff, fg⟩ := Kd.R_slice aD.out; subst fg; have dW : 0 ≤ (ad : Int) := od; have dX : (ad : Int) < ((aA.length : Int) : Int) := od; obtain ⟨bA, cA, dI, dJ, gl110, cl110, HG110⟩ := Kd.R_form al.out (by omega); (first | cases dI | (injection dI with ea_ en_ ec_; (first | subst ea_ | (injection ea_ with ea_; subst ea_)); subst ec_; clear en_)); have fh := Aside0.mk dJ; have gR := Aside0.mk HG110; clear dJ gl110 HG110; obtain ⟨fy, fz⟩ := Kd.R_celln 0 al.out (ad : Int) dW dX; replace dW := eq_true dW; replace dX := eq_true dX; obtain ⟨gc, gd⟩ := Kd.R_celln 0 al.out (ad : Int) od od; have cY := Kd.R_putg al.out (ad : Int) (aG.length : Int)) | ((with_reducible refine gate_store (t := 3) (p := 104) rfl ?_); refine store_event (t := 3) (p := 104) (v := ?vo_w121) (w1 := (bF.setCell ⟨bA, (ad : Int).toNat, none⟩ (.int .i64 (aG.length : Int)))) ?hg ?ho ?hn ?hr ?_; (case ho => rfl); (case hg => rfl); (case hn => rfl); (case hr => first | (go_simp; done) | (go_simp; rfl)); intro dY hw; have hg : bF.grownBy dY (some bA) := (by rw [hw]; exact cY.2); have hp_ : Kd.R (Kd.int .i64) 3 dY w.heap.size (fun _ => True) (.slice (some ⟨bA, 0, none⟩) aA.length cA) bi := (by rw [hw, fa.out]; exact cY.1); clear cY; replace ag := Aside0.mk (Kd.R_over' (v := (.slice (some ⟨bA, 0, none⟩) aA.length cA)) (krR ag) (Kd.R_typed al.out) (by decide) hg); replace aD := Aside0.mk (Kd.R_over' (v := (.slice (some ⟨bA, 0, none⟩) aA.length cA)) (krR aD) (Kd.R_typed al.out) (by decide) hg); replace ae := kXR ae al hg; replace af := kXR af al hg; replace ar := kXR ar al hg; replace al := Aside0.mk (hp_); replace HB := Aside0.mk ((by rw [hw]; exact below_set (HB.out) fh.out : Below w.heap.size w dY)); clear hg hw hp_; have iu := kz4 ar) | ((with_reducible refine gate_callee (f := 48) rfl ?_); refine goesL_ (some 108) rfl rfl Try.func48 (by kernel_rfl) rfl #[.agg #[.int .i64 ((rd_T61 aa ad).f0), .int .i64 ((rd_T61 aa ad).f1), .int .i64 ((rd_T61 aa ad).f2), .int .u64 ((rd_T61 aa ad).f3)], .slice (some ⟨bA, 0, none⟩) bi.length cA] rfl (by (try simp only [qM1, qM2, qM3]); first | done | (rw [show bi.length = aA.length from (Kd.R_reads' al.out).1.symm] <;> rfl) | rfl | (simp only [List.length_drop, List.length_take]; rfl)) ?_; (with_reducible refine (qta.calls ((rd_T61 aa ad).f0) ((rd_T61 aa ad).f1) ((rd_T61 aa ad).f2) ((rd_T61 aa ad).f3) _ _ bi cU cV cW cX _ ?side1 ?side2 fW.out).mono ?_); (case side1 => repeat (first | exact (Kd.R_reads' al.out).2.2 | (with_reducible first | refine Kd.C_alloc ?_ _ | refine Kd.C_drewN ?_ _ | refine Kd.C_drew ?_))); (case side2 => rw [show bi.length = aA.length from (Kd.R_reads' al.out).1.symm]; exact (Kd.R_reads' al.out).2.1); rintro e iv ⟨rfl, hb⟩; refine ⟨_, rfl, ?_⟩; replace ag := kR ag hb; replace aD := kR aD hb; replace al := kR al hb; replace ae := kU ae hb; replace af := kU af hb; replace ar := kU ar hb; replace HB := kH HB hb; (try clear hb); (try clear hb2); (try clear hk); (try clear hi)) | ((with_reducible refine gate_builtin (b := .append) (xs := #[.tmp 105, .tmp 109]) rfl ?_); at_builtin; refine Kd.R_append k61 (w0 := w) w.heap.size rfl (.tmp 105) (.tmp 109) 23 61 (.agg #[(.int .i64 0), (.int .i64 0), (.int .i64 0), (.int .u64 0)]) 32 rfl Try.underlying23 info61 rfl (by decide) (by omega) (.slice fe aG.length ff) aG (⟨cU, cV, cW, cX⟩ : S61) [.int .i64 cU, .int .i64 cV, .int .i64 cW, .int .u64 cX] (fun k_ => k_ ≠ ai) (fun _ => False) rfl rfl ?aP (fun _ hk => hk.elim) ?aF ?aO ?aB ?aS ?aL ?_; (case aP => exact k61_mkM _ _ _ (⟨cU, cV, cW, cX⟩ : S61)); (case aB => exact (kh HB)); (case aF => exact (fun k_ hk => Kd.freshB (g := ai) (o := .cells #[.int .i64 ((rd_T61 aa ad).f0), .int .i64 ((rd_T61 aa ad).f1), .int .i64 ((rd_T61 aa ad).f2), .int .u64 ((rd_T61 aa ad).f3)] 61 (0, 0)) (kb ar) k_ hk)); (case aO => exact (krR aD)); (case aS => exact (below_size (kh HB))); (case aL => have := dV.out; omega); intro iw ix ho hb hg hat; rw [← fc.out] at ho; replace ag := Aside0.mk (Kd.R_over' (krR ag) (Kd.R_typed (krR aD)) (by decide) hg); replace al := Aside0.mk (Kd.R_over' (krR al) (Kd.R_typed (krR aD)) (by decide) hg); replace ae := kXR ae aD hg; replace af := kXR af aD hg; replace ar := Aside0.mk (blk_grown (g := ai) (o := .cells #[.int .i64 ((rd_T61 aa ad).f0), .int .i64 ((rd_T61 aa ad).f1), .int .i64 ((rd_T61 aa ad).f2), .int .u64 ((rd_T61 aa ad).f3)] 61 (0, 0)) (kb ar) hg (Kd.R_away aD.out (fun _ hk => hk))); replace HB := Aside0.mk (hb); have fi := Aside0.mk (ho); clear aD; clear ho hb hg hat));go_roundg k3
        case measure => have := HK1.out; have := HK2.out; have := HK3.out; omega
        case rel => exact ⟨(fb), (bi), (wrap64 (ad + 1)), et, H', ⟨by have := HK1.out; have := HK2.out; have := HK3.out; omega⟩, ⟨krR ag⟩, ⟨by (with_reducible repeat first | apply Kd.R_alloc | apply Kd.R_drewN | apply Kd.R_drew); exact Kd.R_mono fi.out (fun _ hk => trivial)⟩, ⟨krR al⟩, ⟨kg ae⟩, ⟨kg af⟩, ⟨kh HB⟩⟩
     rw [if_pos c28] at H;have cQ := decide_eq_true c28;clear c28;have dZ := Aside0.mk H;clear H;go_upto_region 14 with (fail);go_cut [55] (fun v55 wc => ∃ (kq : Nat) (bG : Bool), v55 = .bool bG ∧ Aside0 (qca.j3 kq aj ab bG an aa ah = some (r1, r2, r3)) ∧ Aside0 (kq ≤ k2) ∧ Aside0 (Kd.R Kd.bool 4 wc w.heap.size (fun _ => True) cB aj) ∧ Aside0 (wc.heap[bz]? = some (.cells #[(.slice bu an.length bv), (.slice bC aa.length bw), (.slice bD ah.length bx)] 26 (0, 0))) ∧ Aside0 (wc.heap[aC]? = some (.cells #[(.slice none 0 0), (.slice none 0 0), (.slice none 0 0)] 26 (0, 0))) ∧ Aside0 (Below w.heap.size w wc))
     case first =>
      have H := dZ.out;clear dZ
      by_cases c30 : 0 ≤ ab
      rotate_left
      ·rw [if_neg c30] at H
       exact absurd H (by simp)
      rw [if_pos c30] at H;have dK := decide_eq_true c30;clear c30;(first | rw [dK] | (simp only [i64_w, i32_w]; rw [dK]) | skip)
      by_cases c31 : ab < (aj.length : Int)
      rotate_left
      ·rw [if_neg c31] at H
       exact absurd H (by simp)
      rw [if_pos c31] at H;have gS := decide_eq_true c31;clear c31;obtain ⟨bq32, hbq32⟩ : ∃ b_ : Bool, b_ = (rdOf false aj ab) := ⟨_, rfl⟩
      replace H : (if bq32 = true then (if ab < (aa.length : Int) then ((qua.f ((rd_T61 aa ab).f0) ((rd_T61 aa ab).f1) ((rd_T61 aa ab).f2) ((rd_T61 aa ab).f3)).bind fun dq => (qca.j3 k2 aj ab dq an aa ah)) else (none)) else (qca.j3 k2 aj ab false an aa ah)) = some (r1, r2, r3) := by rw [← hbq32] at H; exact H
      have Nbq32 := Aside0.mk hbq32;clear hbq32
      by_cases c33 : bq32 = true
      rotate_left
      ·replace c33 := Bool.eq_false_iff.mpr c33
       subst c33;replace H := ifF H;have H' := Aside0.mk H;clear H;obtain ⟨iy, iz, ge⟩ := Kd.R_slice ag.out;subst ge;have cl : 0 ≤ (ab : Int) := od;have cm : ab < (aj.length : Int) := od;obtain ⟨fj, ea, bH⟩ := Kd.at_bool (Kd.R_reads' ag.out).2.2 ab cl cm;(try rw [← Nbq32.out] at bH);cases ea;replace cl := eq_true cl; replace cm := eq_true cm;go_wp2;go_meet
       case rel => exact ⟨_, (false), et, H', ⟨by have := HK1.out; have := HK2.out; first | omega | exact Nat.le_refl _⟩, ⟨krR ag⟩, ⟨kg ae⟩, ⟨kg af⟩, ⟨kh HB⟩⟩
      subst c33;replace H := ifT H
      by_cases c34 : ab < (aa.length : Int)
      rotate_left
      ·rw [if_neg c34] at H
       exact absurd H (by simp)
      rw [if_pos c34] at H;have gT := decide_eq_true c34;clear c34;replace H := Option.bind_eq_some_iff.mp H;obtain ⟨dq, fk, H⟩ := H;(try dsimp only at H);have A35 := Aside0.mk fk;clear fk;have H' := Aside0.mk H;clear H;obtain ⟨iA, iB, gf⟩ := Kd.R_slice ag.out;subst gf;have cl : 0 ≤ (ab : Int) := od;have cm : ab < (aj.length : Int) := od;obtain ⟨fj, ea, bH⟩ := Kd.at_bool (Kd.R_reads' ag.out).2.2 ab cl cm;(try rw [← Nbq32.out] at bH);cases ea;replace cl := eq_true cl; replace cm := eq_true cm;have gU := ao.out;have gV := ap.out;have Z38 := kz3 ae;have eb : 0 ≤ (ab : Int) := od;have ec : ab < (aa.length : Int) := od;obtain ⟨gW, gg, bI, bJ, bK, bL⟩ := at_T61 aE.out ab eb ec;cases gg;replace bI := (HB.out.cell (World.block_lt_of_cell? w _ bI)).trans bI;replace bJ := (HB.out.cell (World.block_lt_of_cell? w _ bJ)).trans bJ;replace bK := (HB.out.cell (World.block_lt_of_cell? w _ bK)).trans bK;replace bL := (HB.out.cell (World.block_lt_of_cell? w _ bL)).trans bL;replace eb := eq_true eb; replace ec := eq_true ec;go_wp2_with (first | (go_at_call 35; (with_reducible refine (qua.calls ((rd_T61 aa ab).f0) ((rd_T61 aa ab).f1) ((rd_T61 aa ab).f2) ((rd_T61 aa ab).f3) dq _ A35.out).mono ?_); rintro e w39 ⟨rfl, hb⟩; replace ag := kR ag hb; replace ae := kU ae hb; replace af := kU af hb; replace HB := kH HB hb; (try clear hb); (try clear hb2); (try clear hk); (try clear hi)));go_meet
      case rel => exact ⟨_, (dq), et, H', ⟨by have := HK1.out; have := HK2.out; first | omega | exact Nat.le_refl _⟩, ⟨krR ag⟩, ⟨kg ae⟩, ⟨kg af⟩, ⟨kh HB⟩⟩
     clear dZ; (try clear cQ);obtain ⟨kq, bG, rfl, HA, bj, ag, ae, af, HB⟩ := hcut
     cases kq with
     | zero => exact absurd HA.out (by simp [qca.j3])
     | succ aY =>
      have H := HA.out;clear HA;simp only [qca.j3] at H
      by_cases c41 : bG = true
      rotate_left
      ·replace c41 := Bool.eq_false_iff.mpr c41
       subst c41;replace H := ifF H
       by_cases c74 : 0 ≤ ab
       rotate_left
       ·rw [if_neg c74] at H
        exact absurd H (by simp)
       rw [if_pos c74] at H;have gX := decide_eq_true c74;clear c74
       by_cases c75 : ab < (aj.length : Int)
       rotate_left
       ·rw [if_neg c75] at H
        exact absurd H (by simp)
       rw [if_pos c75] at H;have gY := decide_eq_true c75;clear c75;obtain ⟨bq76, hbq76⟩ : ∃ b_ : Bool, b_ = (rdOf false aj ab) := ⟨_, rfl⟩
       replace H : (if bq76 = true then (if ab < (aa.length : Int) then ((qna.f ((rd_T61 aa ab).f0) ((rd_T61 aa ab).f1) ((rd_T61 aa ab).f2) ((rd_T61 aa ab).f3)).bind fun ed => (if ed = true then (if 0 ≤ ((rd_T61 aa ab).f2) then (if ((rd_T61 aa ab).f2) < (aj.length : Int) then (qca.l2 aY (aj.set (((rd_T61 aa ab).f2) : Int).toNat true) (wrap64 (ab - 1)) an aa ah) else (none)) else (none)) else (qca.l2 aY aj (wrap64 (ab - 1)) an aa ah))) else (none)) else (qca.l2 aY aj (wrap64 (ab - 1)) an aa ah)) = some (r1, r2, r3) := by rw [← hbq76] at H; exact H
       have Nbq76 := Aside0.mk hbq76;clear hbq76
       by_cases c77 : bq76 = true
       rotate_left
       ·replace c77 := Bool.eq_false_iff.mpr c77
        subst c77;replace H := ifF H;have H' := Aside0.mk H;clear H;obtain ⟨iC, iD, gh⟩ := Kd.R_slice ag.out;subst gh;have bn : 0 ≤ (ab : Int) := od;have bo : ab < (aj.length : Int) := od;obtain ⟨dL, cZ, bb⟩ := Kd.at_bool (Kd.R_reads' ag.out).2.2 ab bn bo;(try rw [← Nbq76.out] at bb);cases cZ;replace bn := eq_true bn; replace bo := eq_true bo;go_wp2;go_roundg aY
        case measure => have := HK1.out; have := HK2.out; have := bj.out; omega
        case rel => exact ⟨(aj), (wrap64 (ab - 1)), et, H', ⟨by have := HK1.out; have := HK2.out; have := bj.out; omega⟩, ⟨krR ag⟩, ⟨kg ae⟩, ⟨kg af⟩, ⟨kh HB⟩⟩
       subst c77;replace H := ifT H
       by_cases c78 : ab < (aa.length : Int)
       rotate_left
       ·rw [if_neg c78] at H
        exact absurd H (by simp)
       rw [if_pos c78] at H;have gZ := decide_eq_true c78;clear c78;replace H := Option.bind_eq_some_iff.mp H;obtain ⟨ed, fl, H⟩ := H;(try dsimp only at H);have A79 := Aside0.mk fl;clear fl
       by_cases c80 : ed = true
       rotate_left
       ·replace c80 := Bool.eq_false_iff.mpr c80
        subst c80;replace H := ifF H;have H' := Aside0.mk H;clear H;obtain ⟨iE, iF, gi⟩ := Kd.R_slice ag.out;subst gi;have bn : 0 ≤ (ab : Int) := od;have bo : ab < (aj.length : Int) := od;obtain ⟨dL, cZ, bb⟩ := Kd.at_bool (Kd.R_reads' ag.out).2.2 ab bn bo;(try rw [← Nbq76.out] at bb);cases cZ;replace bn := eq_true bn; replace bo := eq_true bo;have hh := ao.out;have hz := ap.out;have Z93 := kz3 ae;have cn : 0 ≤ (ab : Int) := od;have co : ab < (aa.length : Int) := od;obtain ⟨dM, ee, aM, aN, aQ, aT⟩ := at_T61 aE.out ab cn co;cases ee;replace aM := (HB.out.cell (World.block_lt_of_cell? w _ aM)).trans aM;replace aN := (HB.out.cell (World.block_lt_of_cell? w _ aN)).trans aN;replace aQ := (HB.out.cell (World.block_lt_of_cell? w _ aQ)).trans aQ;replace aT := (HB.out.cell (World.block_lt_of_cell? w _ aT)).trans aT;replace cn := eq_true cn; replace co := eq_true co;go_wp2_with (first | (go_at_call 36; (with_reducible refine (qna.calls ((rd_T61 aa ab).f0) ((rd_T61 aa ab).f1) ((rd_T61 aa ab).f2) ((rd_T61 aa ab).f3) false _ A79.out).mono ?_); rintro e w94 ⟨rfl, hb⟩; replace ag := kR ag hb; replace ae := kU ae hb; replace af := kU af hb; replace HB := kH HB hb; (try clear hb); (try clear hb2); (try clear hk); (try clear hi)));go_roundg aY
        case measure => have := HK1.out; have := HK2.out; have := bj.out; omega
        case rel => exact ⟨(aj), (wrap64 (ab - 1)), et, H', ⟨by have := HK1.out; have := HK2.out; have := bj.out; omega⟩, ⟨krR ag⟩, ⟨kg ae⟩, ⟨kg af⟩, ⟨kh HB⟩⟩
       subst c80;replace H := ifT H
       by_cases c81 : 0 ≤ ((rd_T61 aa ab).f2)
       rotate_left
       ·rw [if_neg c81] at H
        exact absurd H (by simp)
       rw [if_pos c81] at H;have hC := decide_eq_true c81;clear c81
       by_cases c82 : ((rd_T61 aa ab).f2) < (aj.length : Int)
       rotate_left
       ·rw [if_neg c82] at H
        exact absurd H (by simp)
       rw [if_pos c82] at H;have hD := decide_eq_true c82;clear c82;obtain ⟨ef, ca⟩ : ∃ y_ : List Bool, y_ = (aj.set (((rd_T61 aa ab).f2) : Int).toNat true) := ⟨_, rfl⟩
       replace H : (qca.l2 aY ef (wrap64 (ab - 1)) an aa ah) = some (r1, r2, r3) := by first | (rw [ca]; with_reducible exact H) | (have H2_ := (Option.bind_some _ _).symm.trans H; rw [ca]; with_reducible exact H2_) | (have H2_ := (Option.bind_some _ _).symm.trans H; with_reducible exact H2_) | with_reducible exact H | (rw [ca]; exact H) | exact H
       have fm := Aside0.mk ca;clear ca;have H' := Aside0.mk H;clear H;obtain ⟨iG, gj, gl⟩ := Kd.R_slice ag.out;subst gl;have bn : 0 ≤ (ab : Int) := od;have bo : ab < (aj.length : Int) := od;obtain ⟨dL, cZ, bb⟩ := Kd.at_bool (Kd.R_reads' ag.out).2.2 ab bn bo;(try rw [← Nbq76.out] at bb);cases cZ;replace bn := eq_true bn; replace bo := eq_true bo;have hE := ao.out;have hF := ap.out;have Z86 := kz3 ae;have cn : 0 ≤ (ab : Int) := od;have co : ab < (aa.length : Int) := od;obtain ⟨dM, ee, aM, aN, aQ, aT⟩ := at_T61 aE.out ab cn co;cases ee;replace aM := (HB.out.cell (World.block_lt_of_cell? w _ aM)).trans aM;replace aN := (HB.out.cell (World.block_lt_of_cell? w _ aN)).trans aN;replace aQ := (HB.out.cell (World.block_lt_of_cell? w _ aQ)).trans aQ;replace aT := (HB.out.cell (World.block_lt_of_cell? w _ aT)).trans aT;replace cn := eq_true cn; replace co := eq_true co;go_wp2_with (first | (go_at_call 36; (with_reducible refine (qna.calls ((rd_T61 aa ab).f0) ((rd_T61 aa ab).f1) ((rd_T61 aa ab).f2) ((rd_T61 aa ab).f3) true _ A79.out).mono ?_); rintro e w87 ⟨rfl, hb⟩; replace ag := kR ag hb; replace ae := kU ae hb; replace af := kU af hb; replace HB := kH HB hb; (try clear hb); (try clear hb2); (try clear hk); (try clear hi); have Z88 := kz3 ae; have eg : 0 ≤ (ab : Int) := od; have eh : ab < (aa.length : Int) := od; obtain ⟨fn, gm, bM, bN, bO, bP⟩ := at_T61 aE.out ab eg eh; obtain rfl : dM = fn := (by injection gm); replace bM := (HB.out.cell (World.block_lt_of_cell? w _ bM)).trans bM; replace bN := (HB.out.cell (World.block_lt_of_cell? w _ bN)).trans bN; replace bO := (HB.out.cell (World.block_lt_of_cell? w _ bO)).trans bO; replace bP := (HB.out.cell (World.block_lt_of_cell? w _ bP)).trans bP; replace eg := eq_true eg; replace eh := eq_true eh; have p83 : 0 ≤ (((rd_T61 aa ab).f2) : Int) := od; have q83 : (((rd_T61 aa ab).f2) : Int) < ((aj.length : Int) : Int) := od; obtain ⟨ei, iH, fo, fp, gl83, cl83, HG83⟩ := Kd.R_form ag.out (by omega); (first | cases fo | (injection fo with ea_ en_ ec_; (first | subst ea_ | (injection ea_ with ea_; subst ea_)); subst ec_; clear en_)); have gn := Aside0.mk fp; have iI := Aside0.mk HG83; clear fp gl83 HG83; (first | simp only [add_plain] at bb | skip); obtain ⟨go, gp⟩ := Kd.R_celln false ag.out (((rd_T61 aa ab).f2) : Int) p83 q83; replace p83 := eq_true p83; replace q83 := eq_true q83; obtain ⟨hG, hH⟩ := Kd.R_celln false ag.out (((rd_T61 aa ab).f2) : Int) od od; have ej := Kd.R_putg ag.out (((rd_T61 aa ab).f2) : Int) true) | ((with_reducible refine gate_store (t := 4) (p := 83) rfl ?_); refine store_event (t := 4) (p := 83) (v := ?vo_w90) (w1 := (w87.setCell ⟨ei, (((rd_T61 aa ab).f2) : Int).toNat, none⟩ (.bool true))) ?hg ?ho ?hn ?hr ?_; (case ho => rfl); (case hg => rfl); (case hn => rfl); (case hr => first | (go_simp; done) | (go_simp; rfl)); intro w90 hw; have hg : w87.grownBy w90 (some ei) := (by rw [hw]; exact ej.2); have hp_ : Kd.R Kd.bool 4 w90 w.heap.size (fun _ => True) (.slice (some ⟨ei, 0, none⟩) aj.length gj) ef := (by rw [hw, fm.out]; exact ej.1); clear ej; replace ae := kXR ae ag hg; replace af := kXR af ag hg; replace ag := Aside0.mk (hp_); replace HB := Aside0.mk ((by rw [hw]; exact below_set (HB.out) gn.out : Below w.heap.size w w90)); clear hg hw hp_));go_roundg aY
       case measure => have := HK1.out; have := HK2.out; have := bj.out; omega
       case rel => exact ⟨(ef), (wrap64 (ab - 1)), et, H', ⟨by have := HK1.out; have := HK2.out; have := bj.out; omega⟩, ⟨krR ag⟩, ⟨kg ae⟩, ⟨kg af⟩, ⟨kh HB⟩⟩
      subst c41;replace H := ifT H
      by_cases c42 : 0 ≤ ab
      rotate_left
      ·rw [if_neg c42] at H
       exact absurd H (by simp)
      rw [if_pos c42] at H;have hI := decide_eq_true c42;clear c42
      by_cases c43 : ab < (aa.length : Int)
      rotate_left
      ·rw [if_neg c43] at H
       exact absurd H (by simp)
      rw [if_pos c43] at H;have hJ := decide_eq_true c43;clear c43
      by_cases c44 : 0 ≤ ((rd_T61 aa ab).f1)
      rotate_left
      ·rw [if_neg c44] at H
       exact absurd H (by simp)
      rw [if_pos c44] at H;have hL := decide_eq_true c44;clear c44
      by_cases c45 : ((rd_T61 aa ab).f1) < (aj.length : Int)
      rotate_left
      ·rw [if_neg c45] at H
       exact absurd H (by simp)
      rw [if_pos c45] at H;have hM := decide_eq_true c45;clear c45;obtain ⟨aZ, cb⟩ : ∃ y_ : List Bool, y_ = (aj.set (((rd_T61 aa ab).f1) : Int).toNat true) := ⟨_, rfl⟩
      replace H : (if ab < (aj.length : Int) then (if rdOf false aZ ab = true then ((qna.f ((rd_T61 aa ab).f0) ((rd_T61 aa ab).f1) ((rd_T61 aa ab).f2) ((rd_T61 aa ab).f3)).bind fun da => (if da = true then (if 0 ≤ ((rd_T61 aa ab).f2) then (if ((rd_T61 aa ab).f2) < (aj.length : Int) then (qca.l2 aY (aZ.set (((rd_T61 aa ab).f2) : Int).toNat true) (wrap64 (ab - 1)) an aa ah) else (none)) else (none)) else (qca.l2 aY aZ (wrap64 (ab - 1)) an aa ah))) else (qca.l2 aY aZ (wrap64 (ab - 1)) an aa ah)) else (none)) = some (r1, r2, r3) := by first | (rw [cb]; with_reducible exact H) | (have H2_ := (Option.bind_some _ _).symm.trans H; rw [cb]; with_reducible exact H2_) | (have H2_ := (Option.bind_some _ _).symm.trans H; with_reducible exact H2_) | with_reducible exact H | (rw [cb]; exact H) | exact H
      have bB := Aside0.mk cb;clear cb
      by_cases c47 : ab < (aj.length : Int)
      rotate_left
      ·rw [if_neg c47] at H
       exact absurd H (by simp)
      rw [if_pos c47] at H;have hO := decide_eq_true c47;clear c47;obtain ⟨bq48, hbq48⟩ : ∃ b_ : Bool, b_ = (rdOf false aZ ab) := ⟨_, rfl⟩
      replace H : (if bq48 = true then ((qna.f ((rd_T61 aa ab).f0) ((rd_T61 aa ab).f1) ((rd_T61 aa ab).f2) ((rd_T61 aa ab).f3)).bind fun da => (if da = true then (if 0 ≤ ((rd_T61 aa ab).f2) then (if ((rd_T61 aa ab).f2) < (aj.length : Int) then (qca.l2 aY (aZ.set (((rd_T61 aa ab).f2) : Int).toNat true) (wrap64 (ab - 1)) an aa ah) else (none)) else (none)) else (qca.l2 aY aZ (wrap64 (ab - 1)) an aa ah))) else (qca.l2 aY aZ (wrap64 (ab - 1)) an aa ah)) = some (r1, r2, r3) := by rw [← hbq48] at H; exact H
      have Nbq48 := Aside0.mk hbq48;clear hbq48
      by_cases c49 : bq48 = true
      rotate_left
      ·replace c49 := Bool.eq_false_iff.mpr c49
       subst c49;replace H := ifF H;have H' := Aside0.mk H;clear H;have hP := ao.out;have hQ := ap.out;have Z71 := kz3 ae;have bp : 0 ≤ (ab : Int) := od;have bq : ab < (aa.length : Int) := od;obtain ⟨cc, db, aw, ax, ay, az⟩ := at_T61 aE.out ab bp bq;cases db;replace aw := (HB.out.cell (World.block_lt_of_cell? w _ aw)).trans aw;replace ax := (HB.out.cell (World.block_lt_of_cell? w _ ax)).trans ax;replace ay := (HB.out.cell (World.block_lt_of_cell? w _ ay)).trans ay;replace az := (HB.out.cell (World.block_lt_of_cell? w _ az)).trans az;replace bp := eq_true bp; replace bq := eq_true bq;have p46 : 0 ≤ (((rd_T61 aa ab).f1) : Int) := od;have q46 : (((rd_T61 aa ab).f1) : Int) < ((aj.length : Int) : Int) := od;obtain ⟨ba, cH, cd, ce, gl46, cl46, HG46⟩ := Kd.R_form ag.out (by omega);(first | cases cd | (injection cd with ea_ en_ ec_; (first | subst ea_ | (injection ea_ with ea_; subst ea_)); subst ec_; clear en_));have cI := Aside0.mk ce;have fq := Aside0.mk HG46;clear ce gl46 HG46;obtain ⟨dc, dd⟩ := Kd.R_celln false ag.out (((rd_T61 aa ab).f1) : Int) p46 q46;replace p46 := eq_true p46; replace q46 := eq_true q46;have ek := Kd.R_putg ag.out (((rd_T61 aa ab).f1) : Int) true;go_wp2_with (first | ((with_reducible refine gate_store (t := 4) (p := 63) rfl ?_); refine store_event (t := 4) (p := 63) (v := ?vo_w73) (w1 := (wc.setCell ⟨ba, (((rd_T61 aa ab).f1) : Int).toNat, none⟩ (.bool true))) ?hg ?ho ?hn ?hr ?_; (case ho => rfl); (case hg => rfl); (case hn => rfl); (case hr => first | (go_simp; done) | (go_simp; rfl)); intro w73 hw; have hg : wc.grownBy w73 (some ba) := (by rw [hw]; exact ek.2); have hp_ : Kd.R Kd.bool 4 w73 w.heap.size (fun _ => True) (.slice (some ⟨ba, 0, none⟩) aj.length cH) aZ := (by rw [hw, bB.out]; exact ek.1); clear ek; replace ae := kXR ae ag hg; replace af := kXR af ag hg; replace ag := Aside0.mk (hp_); replace HB := Aside0.mk ((by rw [hw]; exact below_set (HB.out) cI.out : Below w.heap.size w w73)); clear hg hw hp_; have br : 0 ≤ (ab : Int) := od; have bt : ab < (aZ.length : Int) := (by have h_ : (ab : Int) < ((aj.length : Int) : Int) := od; first | (have e_ := (Kd.R_reads' ag.out).1; omega) | simpa only [bB.out, List.length_set] using h_); have ql551 : ((ab : Int) < ((aj.length : Int) : Int)) = True := eq_true od; obtain ⟨cf, de, aq⟩ := Kd.at_bool (Kd.R_reads' ag.out).2.2 ab br bt; (try rw [← Nbq48.out] at aq); obtain rfl : (⟨ba, 0, none⟩ : Addr) = cf := (by injection de); (first | simp only [add_plain] at aq | simp only [add_at] at aq | simp only [Addr.add, Nat.zero_add] at aq | skip); replace br := eq_true br; replace bt := eq_true bt));go_roundg aY
       case measure => have := HK1.out; have := HK2.out; have := bj.out; omega
       case rel => exact ⟨(aZ), (wrap64 (ab - 1)), et, H', ⟨by have := HK1.out; have := HK2.out; have := bj.out; omega⟩, ⟨krR ag⟩, ⟨kg ae⟩, ⟨kg af⟩, ⟨kh HB⟩⟩
      subst c49;replace H := ifT H;replace H := Option.bind_eq_some_iff.mp H;obtain ⟨da, fr, H⟩ := H;(try dsimp only at H);have A50 := Aside0.mk fr;clear fr
      by_cases c51 : da = true
      rotate_left
      ·replace c51 := Bool.eq_false_iff.mpr c51
       subst c51;replace H := ifF H;have H' := Aside0.mk H;clear H;have hR := ao.out;have hS := ap.out;have Z65 := kz3 ae;have bp : 0 ≤ (ab : Int) := od;have bq : ab < (aa.length : Int) := od;obtain ⟨cc, db, aw, ax, ay, az⟩ := at_T61 aE.out ab bp bq;cases db;replace aw := (HB.out.cell (World.block_lt_of_cell? w _ aw)).trans aw;replace ax := (HB.out.cell (World.block_lt_of_cell? w _ ax)).trans ax;replace ay := (HB.out.cell (World.block_lt_of_cell? w _ ay)).trans ay;replace az := (HB.out.cell (World.block_lt_of_cell? w _ az)).trans az;replace bp := eq_true bp; replace bq := eq_true bq;have p46 : 0 ≤ (((rd_T61 aa ab).f1) : Int) := od;have q46 : (((rd_T61 aa ab).f1) : Int) < ((aj.length : Int) : Int) := od;obtain ⟨ba, cH, cd, ce, gl46, cl46, HG46⟩ := Kd.R_form ag.out (by omega);(first | cases cd | (injection cd with ea_ en_ ec_; (first | subst ea_ | (injection ea_ with ea_; subst ea_)); subst ec_; clear en_));have cI := Aside0.mk ce;have fq := Aside0.mk HG46;clear ce gl46 HG46;obtain ⟨dc, dd⟩ := Kd.R_celln false ag.out (((rd_T61 aa ab).f1) : Int) p46 q46;replace p46 := eq_true p46; replace q46 := eq_true q46;have el := Kd.R_putg ag.out (((rd_T61 aa ab).f1) : Int) true;go_wp2_with (first | ((with_reducible refine gate_store (t := 4) (p := 63) rfl ?_); refine store_event (t := 4) (p := 63) (v := ?vo_w67) (w1 := (wc.setCell ⟨ba, (((rd_T61 aa ab).f1) : Int).toNat, none⟩ (.bool true))) ?hg ?ho ?hn ?hr ?_; (case ho => rfl); (case hg => rfl); (case hn => rfl); (case hr => first | (go_simp; done) | (go_simp; rfl)); intro w67 hw; have hg : wc.grownBy w67 (some ba) := (by rw [hw]; exact el.2); have hp_ : Kd.R Kd.bool 4 w67 w.heap.size (fun _ => True) (.slice (some ⟨ba, 0, none⟩) aj.length cH) aZ := (by rw [hw, bB.out]; exact el.1); clear el; replace ae := kXR ae ag hg; replace af := kXR af ag hg; replace ag := Aside0.mk (hp_); replace HB := Aside0.mk ((by rw [hw]; exact below_set (HB.out) cI.out : Below w.heap.size w w67)); clear hg hw hp_; have br : 0 ≤ (ab : Int) := od; have bt : ab < (aZ.length : Int) := (by have h_ : (ab : Int) < ((aj.length : Int) : Int) := od; first | (have e_ := (Kd.R_reads' ag.out).1; omega) | simpa only [bB.out, List.length_set] using h_); have ql551 : ((ab : Int) < ((aj.length : Int) : Int)) = True := eq_true od; obtain ⟨cf, de, aq⟩ := Kd.at_bool (Kd.R_reads' ag.out).2.2 ab br bt; (try rw [← Nbq48.out] at aq); obtain rfl : (⟨ba, 0, none⟩ : Addr) = cf := (by injection de); (first | simp only [add_plain] at aq | simp only [add_at] at aq | simp only [Addr.add, Nat.zero_add] at aq | skip); replace br := eq_true br; replace bt := eq_true bt; have Z68 := kz3 ae; have cp : 0 ≤ (ab : Int) := od; have cq : ab < (aa.length : Int) := od; obtain ⟨df, em, aU, aV, aW, aX⟩ := at_T61 aE.out ab cp cq; obtain rfl : cc = df := (by injection em); replace aU := (HB.out.cell (World.block_lt_of_cell? w _ aU)).trans aU; replace aV := (HB.out.cell (World.block_lt_of_cell? w _ aV)).trans aV; replace aW := (HB.out.cell (World.block_lt_of_cell? w _ aW)).trans aW; replace aX := (HB.out.cell (World.block_lt_of_cell? w _ aX)).trans aX; replace cp := eq_true cp; replace cq := eq_true cq) | (go_at_call 36; (with_reducible refine (qna.calls ((rd_T61 aa ab).f0) ((rd_T61 aa ab).f1) ((rd_T61 aa ab).f2) ((rd_T61 aa ab).f3) false _ A50.out).mono ?_); rintro e w69 ⟨rfl, hb⟩; replace ag := kR ag hb; replace ae := kU ae hb; replace af := kU af hb; replace HB := kH HB hb; (try clear hb); (try clear hb2); (try clear hk); (try clear hi)));go_roundg aY
       case measure => have := HK1.out; have := HK2.out; have := bj.out; omega
       case rel => exact ⟨(aZ), (wrap64 (ab - 1)), et, H', ⟨by have := HK1.out; have := HK2.out; have := bj.out; omega⟩, ⟨krR ag⟩, ⟨kg ae⟩, ⟨kg af⟩, ⟨kh HB⟩⟩
      subst c51;replace H := ifT H
      by_cases c52 : 0 ≤ ((rd_T61 aa ab).f2)
      rotate_left
      ·rw [if_neg c52] at H
       exact absurd H (by simp)
      rw [if_pos c52] at H;have hT := decide_eq_true c52;clear c52
      by_cases c53 : ((rd_T61 aa ab).f2) < (aj.length : Int)
      rotate_left
      ·rw [if_neg c53] at H
       exact absurd H (by simp)
      rw [if_pos c53] at H;have hU := decide_eq_true c53;clear c53;obtain ⟨en, cg⟩ : ∃ y_ : List Bool, y_ = (aZ.set (((rd_T61 aa ab).f2) : Int).toNat true) := ⟨_, rfl⟩
      replace H : (qca.l2 aY en (wrap64 (ab - 1)) an aa ah) = some (r1, r2, r3) := by first | (rw [cg]; with_reducible exact H) | (have H2_ := (Option.bind_some _ _).symm.trans H; rw [cg]; with_reducible exact H2_) | (have H2_ := (Option.bind_some _ _).symm.trans H; with_reducible exact H2_) | with_reducible exact H | (rw [cg]; exact H) | exact H
      have ft := Aside0.mk cg;clear cg;have H' := Aside0.mk H;clear H;have hV := ao.out;have hW := ap.out;have Z56 := kz3 ae;have bp : 0 ≤ (ab : Int) := od;have bq : ab < (aa.length : Int) := od;obtain ⟨cc, db, aw, ax, ay, az⟩ := at_T61 aE.out ab bp bq;cases db;replace aw := (HB.out.cell (World.block_lt_of_cell? w _ aw)).trans aw;replace ax := (HB.out.cell (World.block_lt_of_cell? w _ ax)).trans ax;replace ay := (HB.out.cell (World.block_lt_of_cell? w _ ay)).trans ay;replace az := (HB.out.cell (World.block_lt_of_cell? w _ az)).trans az;replace bp := eq_true bp; replace bq := eq_true bq;have p46 : 0 ≤ (((rd_T61 aa ab).f1) : Int) := od;have q46 : (((rd_T61 aa ab).f1) : Int) < ((aj.length : Int) : Int) := od;obtain ⟨ba, cH, cd, ce, gl46, cl46, HG46⟩ := Kd.R_form ag.out (by omega);(first | cases cd | (injection cd with ea_ en_ ec_; (first | subst ea_ | (injection ea_ with ea_; subst ea_)); subst ec_; clear en_));have cI := Aside0.mk ce;have fq := Aside0.mk HG46;clear ce gl46 HG46;obtain ⟨dc, dd⟩ := Kd.R_celln false ag.out (((rd_T61 aa ab).f1) : Int) p46 q46;replace p46 := eq_true p46; replace q46 := eq_true q46;have eo := Kd.R_putg ag.out (((rd_T61 aa ab).f1) : Int) true;go_wp2_with (first | ((with_reducible refine gate_store (t := 4) (p := 63) rfl ?_); refine store_event (t := 4) (p := 63) (v := ?vo_w58) (w1 := (wc.setCell ⟨ba, (((rd_T61 aa ab).f1) : Int).toNat, none⟩ (.bool true))) ?hg ?ho ?hn ?hr ?_; (case ho => rfl); (case hg => rfl); (case hn => rfl); (case hr => first | (go_simp; done) | (go_simp; rfl)); intro w58 hw; have hg : wc.grownBy w58 (some ba) := (by rw [hw]; exact eo.2); have hp_ : Kd.R Kd.bool 4 w58 w.heap.size (fun _ => True) (.slice (some ⟨ba, 0, none⟩) aj.length cH) aZ := (by rw [hw, bB.out]; exact eo.1); clear eo; replace ae := kXR ae ag hg; replace af := kXR af ag hg; replace ag := Aside0.mk (hp_); replace HB := Aside0.mk ((by rw [hw]; exact below_set (HB.out) cI.out : Below w.heap.size w w58)); clear hg hw hp_; have br : 0 ≤ (ab : Int) := od; have bt : ab < (aZ.length : Int) := (by have h_ : (ab : Int) < ((aj.length : Int) : Int) := od; first | (have e_ := (Kd.R_reads' ag.out).1; omega) | simpa only [bB.out, List.length_set] using h_); have ql551 : ((ab : Int) < ((aj.length : Int) : Int)) = True := eq_true od; obtain ⟨cf, de, aq⟩ := Kd.at_bool (Kd.R_reads' ag.out).2.2 ab br bt; (try rw [← Nbq48.out] at aq); obtain rfl : (⟨ba, 0, none⟩ : Addr) = cf := (by injection de); (first | simp only [add_plain] at aq | simp only [add_at] at aq | simp only [Addr.add, Nat.zero_add] at aq | skip); replace br := eq_true br; replace bt := eq_true bt; have Z59 := kz3 ae; have cp : 0 ≤ (ab : Int) := od; have cq : ab < (aa.length : Int) := od; obtain ⟨df, em, aU, aV, aW, aX⟩ := at_T61 aE.out ab cp cq; obtain rfl : cc = df := (by injection em); replace aU := (HB.out.cell (World.block_lt_of_cell? w _ aU)).trans aU; replace aV := (HB.out.cell (World.block_lt_of_cell? w _ aV)).trans aV; replace aW := (HB.out.cell (World.block_lt_of_cell? w _ aW)).trans aW; replace aX := (HB.out.cell (World.block_lt_of_cell? w _ aX)).trans aX; replace cp := eq_true cp; replace cq := eq_true cq) | (go_at_call 36; (with_reducible refine (qna.calls ((rd_T61 aa ab).f0) ((rd_T61 aa ab).f1) ((rd_T61 aa ab).f2) ((rd_T61 aa ab).f3) true _ A50.out).mono ?_); rintro e w60 ⟨rfl, hb⟩; replace ag := kR ag hb; replace ae := kU ae hb; replace af := kU af hb; replace HB := kH HB hb; (try clear hb); (try clear hb2); (try clear hk); (try clear hi); have Z61 := kz3 ae; have ep : 0 ≤ (ab : Int) := od; have eq : ab < (aa.length : Int) := od; obtain ⟨fu, gq, bQ, bR, bS, bT⟩ := at_T61 aE.out ab ep eq; obtain rfl : cc = fu := (by injection gq); replace bQ := (HB.out.cell (World.block_lt_of_cell? w _ bQ)).trans bQ; replace bR := (HB.out.cell (World.block_lt_of_cell? w _ bR)).trans bR; replace bS := (HB.out.cell (World.block_lt_of_cell? w _ bS)).trans bS; replace bT := (HB.out.cell (World.block_lt_of_cell? w _ bT)).trans bT; replace ep := eq_true ep; replace eq := eq_true eq; have p54 : 0 ≤ (((rd_T61 aa ab).f2) : Int) := od; have q54 : (((rd_T61 aa ab).f2) : Int) < ((aj.length : Int) : Int) := od; obtain ⟨gr, gt⟩ := Kd.R_celln false ag.out (((rd_T61 aa ab).f2) : Int) p54 q54; replace p54 := eq_true p54; replace q54 := eq_true q54; obtain ⟨hZ, ia⟩ := Kd.R_celln false ag.out (((rd_T61 aa ab).f2) : Int) od od; have es := Kd.R_putg ag.out (((rd_T61 aa ab).f2) : Int) true) | ((with_reducible refine gate_store (t := 4) (p := 83) rfl ?_); refine store_event (t := 4) (p := 83) (v := ?vo_w63) (w1 := (w60.setCell ⟨ba, (((rd_T61 aa ab).f2) : Int).toNat, none⟩ (.bool true))) ?hg ?ho ?hn ?hr ?_; (case ho => rfl); (case hg => rfl); (case hn => rfl); (case hr => first | (go_simp; done) | (go_simp; rfl)); intro w63 hw; have hg : w60.grownBy w63 (some ba) := (by rw [hw]; exact es.2); have hp_ : Kd.R Kd.bool 4 w63 w.heap.size (fun _ => True) (.slice (some ⟨ba, 0, none⟩) aj.length cH) en := (by rw [hw, ft.out]; exact es.1); clear es; replace ae := kXR ae ag hg; replace af := kXR af ag hg; replace ag := Aside0.mk (hp_); replace HB := Aside0.mk ((by rw [hw]; exact below_set (HB.out) cI.out : Below w.heap.size w w63)); clear hg hw hp_));go_roundg aY
      case measure => have := HK1.out; have := HK2.out; have := bj.out; omega
      case rel => exact ⟨(en), (wrap64 (ab - 1)), et, H', ⟨by have := HK1.out; have := HK2.out; have := bj.out; omega⟩, ⟨krR ag⟩, ⟨kg ae⟩, ⟨kg af⟩, ⟨kh HB⟩⟩
def qma.f (k : Nat) (a0 : Int) (ad : List (S64)) (ae : List (S61)) (af : List (S66)) : Option (Bool) := (tune_Prune.f k a0 ad ae af).bind fun aa => ((qfa.f k a0 ad ae af).bind fun ag => (if ag = 0 then ((qca.f k ad ae af).bind fun ab => ((qwa.f k aa.1 aa.2.1 aa.2.2.1 aa.2.2.2 ab.1 ab.2.1 ab.2.2 0).bind fun ah => (if ah = true then ((qsa.f k).bind fun ai => (some ai)) else (some false)))) else ((qwa.f k aa.1 aa.2.1 aa.2.2.1 aa.2.2.2 ([] : List (S64)) ([] : List (S61)) ([] : List (S66)) ag).bind fun aj => (if aj = true then ((qsa.f k).bind fun ak => (some ak)) else (some false)))))
def qma.T5 : Bool × List (List Nat × List Nat) := (true, [([], []), ([], []), ([], []), ([2], [2]), ([0, 1, 3, 3], [0, 1, 3]), ([4, 4], [4]), ([5, 5], [5]), ([5, 6], [5, 6]), ([7, 6, 0, 1, 2, 3, 4, 5, 6, 7], [7])])
def qma.B5 : List Nat := [0, 0, 0, 4, 15, 31, 63, 127, 255]
theorem qma.tab5 : rtab .any (opsOf Try.f6 5) = qma.T5 := by kernel_rfl
theorem qma.bits5 : waitsOk qma.T5.2 qma.B5 = true := by kernel_rfl
theorem qma.calls (k : Nat) (a0 : Int) (aq : Option Addr) (ar : Nat) (ag : List (S64)) (au : Option Addr) (av : Nat) (ah : List (S61)) (aw : Option Addr) (ax : Nat) (ai : List (S66)) (r : Bool) (w : World) (aT : Kd.C k64 w aq ag.length ag) (aU : ag.length ≤ ar) (aV : Kd.C k61 w au ah.length ah) (aW : ah.length ≤ av) (aX : Kd.C k66 w aw ai.length ai) (aY : ai.length ≤ ax) (h : qma.f k a0 ag ah ai = some r) (hrt : r = true := by rfl) :
  Calls Try.prog 6 #[.int .u64 a0, .agg #[.slice aq ag.length ar, .slice au ah.length av, .slice aw ai.length ax]] w fun e w' => e = .returned (.bool r) ∧ Below w.heap.size w w' := by
 have HRT := Aside0.mk hrt;clear hrt;have hu26 := Try.underlying26;have aC := Aside0.mk aT;have aD := Aside0.mk aU;clear aT aU;have aE := Aside0.mk aV;have aG := Aside0.mk aW;clear aV aW;have aH := Aside0.mk aX;have aI := Aside0.mk aY;clear aX aY;have HB := Aside0.mk (Below.refl w.heap.size w);have H : ((tune_Prune.f k a0 ag ah ai).bind fun al => ((qfa.f k a0 ag ah ai).bind fun aJ => (if aJ = 0 then ((qca.f k ag ah ai).bind fun aQ => ((qwa.f k al.1 al.2.1 al.2.2.1 al.2.2.2 aQ.1 aQ.2.1 aQ.2.2 0).bind fun aZ => (if aZ = true then ((qsa.f k).bind fun ba => (some ba)) else (some false)))) else ((qwa.f k al.1 al.2.1 al.2.2.1 al.2.2.2 ([] : List (S64)) ([] : List (S61)) ([] : List (S66)) aJ).bind fun bb => (if bb = true then ((qsa.f k).bind fun bc => (some bc)) else (some false)))))) = some r := h;clear h;replace H := Option.bind_eq_some_iff.mp H;obtain ⟨⟨ay, az, aA, aN⟩, A30, H⟩ := H;(try dsimp only at H);have A3 := Aside0.mk A30;clear A30;replace H := Option.bind_eq_some_iff.mp H;obtain ⟨aJ, A40, H⟩ := H;(try dsimp only at H);have A4 := Aside0.mk A40;clear A40
 by_cases c5 : aJ = 0
 rotate_left
 ·rw [if_neg c5] at H
  have bE := beq_eq_false_iff_ne.mpr c5;have bF := bne_iff_ne.mpr c5;replace H := Option.bind_eq_some_iff.mp H;obtain ⟨bb, bn, H⟩ := H;(try dsimp only at H);have A28 := Aside0.mk bn;clear bn
  by_cases c29 : bb = true
  rotate_left
  ·replace c29 := Bool.eq_false_iff.mpr c29
   subst c29;replace H := ifF H;exact absurd ((Option.some.inj H).trans HRT.out) (by decide)
  subst c29;replace H := ifT H;replace H := Option.bind_eq_some_iff.mp H;obtain ⟨bc, bo, H⟩ := H;(try dsimp only at H);have A30 := Aside0.mk bo;clear bo;obtain rfl := Option.some.inj H;go_enter Try.func6, Try.ntmps6;go_wp2_with (first | ((with_reducible refine qga (N := 3) rfl ?_); refine box_event ?hg (N := 3) ?hd (cs := #[.slice aq ag.length ar, .slice au ah.length av, .slice aw ai.length ax]) (t := 26) ?hr ?_; (case hd => rfl); (case hg => rfl); (case hr => first | (go_simp; done) | (go_simp; rfl)); intro aK hg w31 hbox hb; have aa := am hbox; have bp := kG HB hg; have bq := kG HB hg; replace HB := kH HB hb; clear hb hbox hg; have Z32 := kz3 aa) | ((with_reducible refine gate_callee (f := 22) rfl ?_); refine goesL_ (some 11) rfl rfl Try.func22 (by kernel_rfl) rfl #[.int .u64 a0, .agg #[.slice aq ag.length ar, .slice au ah.length av, .slice aw ai.length ax]] rfl (by (try simp only [qM1, qM2, qM3]); first | done | rfl) ?_; (with_reducible refine (tune_Prune.calls k a0 _ _ ag _ _ ah _ _ ai ay az aA aN _ ?side1 ?side2 ?side3 ?side4 ?side5 ?side6 A3.out).mono ?_); (case side1 => repeat (first | exact (Kd.C_below aC.out HB.out) | (with_reducible first | refine Kd.C_alloc ?_ _ | refine Kd.C_drewN ?_ _ | refine Kd.C_drew ?_))); (case side2 => exact aD.out); (case side3 => repeat (first | exact (Kd.C_below aE.out HB.out) | (with_reducible first | refine Kd.C_alloc ?_ _ | refine Kd.C_drewN ?_ _ | refine Kd.C_drew ?_))); (case side4 => exact aG.out); (case side5 => repeat (first | exact (Kd.C_below aH.out HB.out) | (with_reducible first | refine Kd.C_alloc ?_ _ | refine Kd.C_drewN ?_ _ | refine Kd.C_drew ?_))); (case side6 => exact aI.out); rintro e w33 ⟨bG, bH, bI, rfl, ho0, ho1, ho2, hb⟩; refine ⟨_, rfl, ?_⟩; have ad := kLR ho0 HB; have ae := kLR ho1 HB; have af := kLS ho2 HB; replace aa := kU aa hb; replace HB := kH HB hb; (try clear hb); (try clear hb2); (try clear hk); (try clear hi); (try clear ho0); (try clear ho1); (try clear ho2)) | ((with_reducible refine qga (N := 5) rfl ?_); refine box_event ?hg (N := 5) ?hd (cs := #[.slice none 0 0, .slice none 0 0, .slice none 0 0]) (t := 26) ?hr ?_; (case hd => rfl); (case hg => rfl); (case hr => first | (go_simp; done) | (go_simp; rfl)); intro aM hg w34 hbox hb; replace ad := kR ad hb; replace ae := kR ae hb; replace af := kS af hb; have ab := am hbox; have br := kG HB hg; have bt := kG HB hg; replace HB := kH HB hb; have aj := kP aa hg; have ak := kQ aa hg; replace aa := kU aa hb; clear hb hbox hg; obtain ⟨bu, bv, bJ⟩ := Kd.R_slice ad.out; subst bJ; have bV := ak.out; have bW := aj.out; have Z37 := kz3 ab; obtain ⟨bw, bx, bK⟩ := Kd.R_slice ae.out; subst bK; obtain ⟨bz, bA, bL⟩ := Kd.S_slice af.out; subst bL; have Z40 := kz3 aa) | ((with_reducible refine gate_callee (f := 17) rfl ?_); refine goesL_ (some 16) rfl rfl Try.func17 (by kernel_rfl) rfl #[.int .u64 a0, .agg #[.slice aq ag.length ar, .slice au ah.length av, .slice aw ai.length ax]] rfl (by (try simp only [qM1, qM2, qM3]); first | done | rfl) ?_; (with_reducible refine (qfa.calls k a0 _ _ ag _ _ ah _ _ ai aJ _ ?side1 ?side2 ?side3 ?side4 ?side5 ?side6 A4.out).mono ?_); (case side1 => exact Kd.C_below aC.out (kh HB)); (case side2 => exact aD.out); (case side3 => exact Kd.C_below aE.out (kh HB)); (case side4 => exact aG.out); (case side5 => exact Kd.C_below aH.out (kh HB)); (case side6 => exact aI.out); rintro e w41 ⟨rfl, hb⟩; refine ⟨_, rfl, ?_⟩; replace ad := Aside0.mk (Kd.R_below (kt ad ab) hb); replace ae := Aside0.mk (Kd.R_below (kt ae ab) hb); replace af := Aside0.mk (Kd.S_below (ks af ab) hb); replace aa := kU aa hb; replace ab := kO (o' := .cells #[.slice bu ay.length bv, .slice bw az.length bx, .slice bz aA.length bA] 26 (0, 0)) ab hb; replace HB := kH HB hb; (try clear hb); (try clear hb2); (try clear hk); (try clear hi); have Z42 := kz3 ab) | ((with_reducible refine gate_callee (f := 18) rfl ?_); refine goesL_ (some 23) rfl rfl Try.func18 (by kernel_rfl) rfl #[.agg #[.slice bu ay.length bv, .slice bw az.length bx, .slice bz aA.length bA], .int .i64 aN, .agg #[.slice none 0 0, .slice none 0 0, .slice none 0 0], .int .i64 aJ] rfl (by (try simp only [qM1, qM2, qM3]); first | done | rfl) ?_; (refine (qwa.calls k _ _ ay _ _ az _ _ aA aN _ _ ([] : List (S64)) _ _ ([] : List (S61)) _ _ ([] : List (S66)) aJ true _ ?side1 ?side2 ?side3 ?side4 ?side5 ?side6 ?side7 ?side8 ?side9 ?side10 ?side11 ?side12 A28.out).mono ?_); (case side1 => repeat (first | exact (Kd.R_reads' ad.out).2.2 | (with_reducible first | refine Kd.C_alloc ?_ _ | refine Kd.C_drewN ?_ _ | refine Kd.C_drew ?_))); (case side2 => exact (Kd.R_reads' ad.out).2.1); (case side3 => repeat (first | exact (Kd.R_reads' ae.out).2.2 | (with_reducible first | refine Kd.C_alloc ?_ _ | refine Kd.C_drewN ?_ _ | refine Kd.C_drew ?_))); (case side4 => exact (Kd.R_reads' ae.out).2.1); (case side5 => repeat (first | exact (Kd.S_reads' af.out).2.2 | (with_reducible first | refine Kd.C_alloc ?_ _ | refine Kd.C_drewN ?_ _ | refine Kd.C_drew ?_))); (case side6 => exact (Kd.S_reads' af.out).2.1); (case side7 => exact Kd.C_nil _ _); (case side8 => exact Nat.le_refl _); (case side9 => exact Kd.C_nil _ _); (case side10 => exact Nat.le_refl _); (case side11 => exact Kd.C_nil _ _); (case side12 => exact Nat.le_refl _); rintro e w43 ⟨rfl, hb⟩; refine ⟨_, rfl, ?_⟩; replace ad := kR ad hb; replace ae := kR ae hb; replace af := kS af hb; replace aa := kU aa hb; replace ab := kU ab hb; replace HB := kH HB hb; (try clear hb); (try clear hb2); (try clear hk); (try clear hi)) | (go_at_call 15; (with_reducible refine (qsa.calls k  bc _ A30.out (by first | rfl | exact HRT.out)).mono ?_); rintro e w44 ⟨rfl, hb⟩; replace ad := kR ad hb; replace ae := kR ae hb; replace af := kS af hb; replace aa := kU aa hb; replace ab := kU ab hb; replace HB := kH HB hb; (try clear hb); (try clear hb2); (try clear hk); (try clear hi)));go_ret;exact ⟨er, kh HB⟩
 rw [if_pos c5] at H;have bE := beq_iff_eq.mpr c5;have bF := bne_eq_false_iff_eq.mpr c5;clear c5;replace H := Option.bind_eq_some_iff.mp H;obtain ⟨⟨bd, bf, bg⟩, A60, H⟩ := H;(try dsimp only at H);have A6 := Aside0.mk A60;clear A60;replace H := Option.bind_eq_some_iff.mp H;obtain ⟨aZ, A70, H⟩ := H;(try dsimp only at H);have A7 := Aside0.mk A70;clear A70
 by_cases c8 : aZ = true
 rotate_left
 ·replace c8 := Bool.eq_false_iff.mpr c8
  subst c8;replace H := ifF H;exact absurd ((Option.some.inj H).trans HRT.out) (by decide)
 subst c8;replace H := ifT H;replace H := Option.bind_eq_some_iff.mp H;obtain ⟨ba, A90, H⟩ := H;(try dsimp only at H);have A9 := Aside0.mk A90;clear A90;obtain rfl := Option.some.inj H;go_enter Try.func6, Try.ntmps6;(try go_wp2_with (first | ((with_reducible refine qga (N := 3) rfl ?_); refine box_event ?hg (N := 3) ?hd (cs := #[.slice aq ag.length ar, .slice au ah.length av, .slice aw ai.length ax]) (t := 26) ?hr ?_; (case hd => rfl); (case hg => rfl); (case hr => first | (go_simp; done) | (go_simp; rfl)); intro aK hg w10 hbox hb; have aa := am hbox; have bp := kG HB hg; have bq := kG HB hg; replace HB := kH HB hb; clear hb hbox hg; have Z11 := kz3 aa) | ((with_reducible refine gate_callee (f := 22) rfl ?_); refine goesL_ (some 11) rfl rfl Try.func22 (by kernel_rfl) rfl #[.int .u64 a0, .agg #[.slice aq ag.length ar, .slice au ah.length av, .slice aw ai.length ax]] rfl (by (try simp only [qM1, qM2, qM3]); first | done | rfl) ?_; (with_reducible refine (tune_Prune.calls k a0 _ _ ag _ _ ah _ _ ai ay az aA aN _ ?side1 ?side2 ?side3 ?side4 ?side5 ?side6 A3.out).mono ?_); (case side1 => repeat (first | exact (Kd.C_below aC.out HB.out) | (with_reducible first | refine Kd.C_alloc ?_ _ | refine Kd.C_drewN ?_ _ | refine Kd.C_drew ?_))); (case side2 => exact aD.out); (case side3 => repeat (first | exact (Kd.C_below aE.out HB.out) | (with_reducible first | refine Kd.C_alloc ?_ _ | refine Kd.C_drewN ?_ _ | refine Kd.C_drew ?_))); (case side4 => exact aG.out); (case side5 => repeat (first | exact (Kd.C_below aH.out HB.out) | (with_reducible first | refine Kd.C_alloc ?_ _ | refine Kd.C_drewN ?_ _ | refine Kd.C_drew ?_))); (case side6 => exact aI.out); rintro e w12 ⟨bG, bH, bI, rfl, ho0, ho1, ho2, hb⟩; refine ⟨_, rfl, ?_⟩; have ad := kLR ho0 HB; have ae := kLR ho1 HB; have af := kLS ho2 HB; replace aa := kU aa hb; replace HB := kH HB hb; (try clear hb); (try clear hb2); (try clear hk); (try clear hi); (try clear ho0); (try clear ho1); (try clear ho2)) | ((with_reducible refine qga (N := 5) rfl ?_); refine box_event ?hg (N := 5) ?hd (cs := #[.slice none 0 0, .slice none 0 0, .slice none 0 0]) (t := 26) ?hr ?_; (case hd => rfl); (case hg => rfl); (case hr => first | (go_simp; done) | (go_simp; rfl)); intro aM hg w13 hbox hb; replace ad := kR ad hb; replace ae := kR ae hb; replace af := kS af hb; have ab := am hbox; have br := kG HB hg; have bt := kG HB hg; replace HB := kH HB hb; have aj := kP aa hg; have ak := kQ aa hg; replace aa := kU aa hb; clear hb hbox hg; obtain ⟨bh, bi, bM⟩ := Kd.R_slice ad.out; subst bM; have bX := ak.out; have bY := aj.out; have Z16 := kz3 ab; obtain ⟨bj, bk, bN⟩ := Kd.R_slice ae.out; subst bN; obtain ⟨bl, bm, bO⟩ := Kd.S_slice af.out; subst bO; have Z19 := kz3 aa) | ((with_reducible refine gate_callee (f := 17) rfl ?_); refine goesL_ (some 16) rfl rfl Try.func17 (by kernel_rfl) rfl #[.int .u64 a0, .agg #[.slice aq ag.length ar, .slice au ah.length av, .slice aw ai.length ax]] rfl (by (try simp only [qM1, qM2, qM3]); first | done | rfl) ?_; (with_reducible refine (qfa.calls k a0 _ _ ag _ _ ah _ _ ai aJ _ ?side1 ?side2 ?side3 ?side4 ?side5 ?side6 A4.out).mono ?_); (case side1 => exact Kd.C_below aC.out (kh HB)); (case side2 => exact aD.out); (case side3 => exact Kd.C_below aE.out (kh HB)); (case side4 => exact aG.out); (case side5 => exact Kd.C_below aH.out (kh HB)); (case side6 => exact aI.out); rintro e w20 ⟨rfl, hb⟩; refine ⟨_, rfl, ?_⟩; replace ad := Aside0.mk (Kd.R_below (kt ad ab) hb); replace ae := Aside0.mk (Kd.R_below (kt ae ab) hb); replace af := Aside0.mk (Kd.S_below (ks af ab) hb); replace aa := kU aa hb; replace ab := kO (o' := .cells #[.slice bh ay.length bi, .slice bj az.length bk, .slice bl aA.length bm] 26 (0, 0)) ab hb; replace HB := kH HB hb; (try clear hb); (try clear hb2); (try clear hk); (try clear hi))));replace ad := kFR ad; replace ae := kFR ae; replace af := kFS af; replace aa := kD aa; replace ab := kD ab; replace HB := kE HB;refine start_ (n := 9) (S := fun w' => w'.cell? ⟨aM, 0, none⟩ = some (.slice bh ay.length bi) ∧ w'.cell? ⟨aM, 1, none⟩ = some (.slice bj az.length bk) ∧ w'.cell? ⟨aM, 2, none⟩ = some (.slice bl aA.length bm) ∧ w'.cell? ⟨aK, 0, none⟩ = some (.slice aq ag.length ar) ∧ w'.cell? ⟨aK, 1, none⟩ = some (.slice au ah.length av) ∧ w'.cell? ⟨aK, 2, none⟩ = some (.slice aw ai.length ax)) (ds := []) (bs 9 0) (by kernel_rfl) rfl rfl ⟨kk ab 0, kk ab 1, kk ab 2, kk aa 0, kk aa 1, kk aa 2⟩ (fun hHeld => ?_); refine with_tabW qma.tab5 qma.bits5 (fun HT_ HW_ => ?_);generalize w20.drew = w21 at ad ae af aa ab HB hHeld ⊢;refine pu 1 (some 28) (bs 9 2) HT_ ?_;refine ta 0 (some 27) (bs 9 3) HT_ HW_ hHeld ?_;refine ta 2 (some 29) (bs 9 7) HT_ HW_ hHeld ?_;refine one_ (i := 3) (N := some 30) (bs 9 15) rfl rfl (one_of HT_.out (by kernel_rfl)) (by decide) (fun K hK => ?_);refine goes_ Try.func23 (by kernel_rfl) rfl #[.agg #[.slice aq ag.length ar, .slice au ah.length av, .slice aw ai.length ax]] (by rfl) rfl rfl (by (try simp only [qM1, qM2, qM3]); first | done | rfl) ?_;(with_reducible refine (qca.calls k _ _ ag _ _ ah _ _ ai bd bf bg _ ?side1 ?side2 ?side3 ?side4 ?side5 ?side6 A6.out).mono ?_);(case side1 => repeat (first | exact (Kd.C_below aC.out HB.out) | (with_reducible first | refine Kd.C_alloc ?_ _ | refine Kd.C_drewN ?_ _ | refine Kd.C_drew ?_)));(case side2 => exact aD.out);(case side3 => repeat (first | exact (Kd.C_below aE.out HB.out) | (with_reducible first | refine Kd.C_alloc ?_ _ | refine Kd.C_drewN ?_ _ | refine Kd.C_drew ?_)));(case side4 => exact aG.out);(case side5 => repeat (first | exact (Kd.C_below aH.out HB.out) | (with_reducible first | refine Kd.C_alloc ?_ _ | refine Kd.C_drewN ?_ _ | refine Kd.C_drew ?_)));(case side6 => exact aI.out);rintro e w22 ⟨bZ, ca, cb, rfl, ho0, ho1, ho2, hb⟩;refine ⟨_, rfl, ?_⟩;have an := Aside0.mk (Kd.R_lower (Kd.R_new' ho0 (Kd.R_lt (krR ad))) (below_size (kh HB))); replace ad := Aside0.mk (Kd.R_elder' (krR ad) (Kd.R_base ho0) hb); have ao := Aside0.mk (Kd.R_lower (Kd.R_new' ho1 (Kd.R_lt (krR ae))) (below_size (kh HB))); replace ae := Aside0.mk (Kd.R_elder' (krR ae) (Kd.R_base ho1) hb); have ap := Aside0.mk (Kd.S_lower (Kd.S_new' ho2 (Kd.S_lt (krS af))) (below_size (kh HB))); replace af := Aside0.mk (Kd.S_elder' (krS af) (Kd.S_base ho2) hb); replace aa := kU aa hb; replace ab := kU ab hb; replace HB := kH HB hb;(try clear hb ho0 ho1 ho2);obtain ⟨bP, bQ, bB⟩ := Kd.R_slice an.out;(first | subst bB | (injection bB with f1_ f2_ f3_; have f4_ := f1_.symm; have f5_ := f3_.symm; clear f1_ f2_ f3_; subst f4_; subst f5_));obtain ⟨bR, bS, bC⟩ := Kd.R_slice ao.out;(first | subst bC | (injection bC with f1_ f2_ f3_; have f4_ := f1_.symm; have f5_ := f3_.symm; clear f1_ f2_ f3_; subst f4_; subst f5_));obtain ⟨bT, bU, bD⟩ := Kd.S_slice ap.out;(first | subst bD | (injection bD with f1_ f2_ f3_; have f4_ := f1_.symm; have f5_ := f3_.symm; clear f1_ f2_ f3_; subst f4_; subst f5_));refine hK.out _ _ ⟨kk ab 0, kk ab 1, kk ab 2, kk aa 0, kk aa 1, kk aa 2⟩ (fun hHeld => ?_);clear hK K;refine no (some 30) ?_;refine one_ (i := 4) (N := some 31) (bs 9 31) rfl rfl (one_of HT_.out (by kernel_rfl)) (by decide) (fun K hK => ?_);refine goes_ Try.func18 (by kernel_rfl) rfl #[.agg #[.slice bh ay.length bi, .slice bj az.length bk, .slice bl aA.length bm], .int .i64 aN, .agg #[.slice bP bd.length bQ, .slice bR bf.length bS, .slice bT bg.length bU], .int .i64 0] (by rfl) rfl rfl (by (try simp only [qM1, qM2, qM3]); first | done | rfl) ?_;(with_reducible refine (qwa.calls k _ _ ay _ _ az _ _ aA aN _ _ bd _ _ bf _ _ bg 0 true _ ?side1 ?side2 ?side3 ?side4 ?side5 ?side6 ?side7 ?side8 ?side9 ?side10 ?side11 ?side12 A7.out).mono ?_);(case side1 => repeat (first | exact (Kd.R_reads' ad.out).2.2 | (with_reducible first | refine Kd.C_alloc ?_ _ | refine Kd.C_drewN ?_ _ | refine Kd.C_drew ?_)));(case side2 => exact (Kd.R_reads' ad.out).2.1);(case side3 => repeat (first | exact (Kd.R_reads' ae.out).2.2 | (with_reducible first | refine Kd.C_alloc ?_ _ | refine Kd.C_drewN ?_ _ | refine Kd.C_drew ?_)));(case side4 => exact (Kd.R_reads' ae.out).2.1);(case side5 => repeat (first | exact (Kd.S_reads' af.out).2.2 | (with_reducible first | refine Kd.C_alloc ?_ _ | refine Kd.C_drewN ?_ _ | refine Kd.C_drew ?_)));(case side6 => exact (Kd.S_reads' af.out).2.1);(case side7 => repeat (first | exact (Kd.R_reads' an.out).2.2 | (with_reducible first | refine Kd.C_alloc ?_ _ | refine Kd.C_drewN ?_ _ | refine Kd.C_drew ?_)));(case side8 => exact (Kd.R_reads' an.out).2.1);(case side9 => repeat (first | exact (Kd.R_reads' ao.out).2.2 | (with_reducible first | refine Kd.C_alloc ?_ _ | refine Kd.C_drewN ?_ _ | refine Kd.C_drew ?_)));(case side10 => exact (Kd.R_reads' ao.out).2.1);(case side11 => repeat (first | exact (Kd.S_reads' ap.out).2.2 | (with_reducible first | refine Kd.C_alloc ?_ _ | refine Kd.C_drewN ?_ _ | refine Kd.C_drew ?_)));(case side12 => exact (Kd.S_reads' ap.out).2.1);rintro e w26 ⟨rfl, hb⟩;refine ⟨_, rfl, ?_⟩;replace ad := kR ad hb; replace ae := kR ae hb; replace af := kS af hb; replace an := kR an hb; replace ao := kR ao hb; replace ap := kS ap hb; replace aa := kU aa hb; replace ab := kU ab hb; replace HB := kH HB hb;(try clear hb);refine hK.out _ _ ⟨kk ab 0, kk ab 1, kk ab 2, kk aa 0, kk aa 1, kk aa 2⟩ (fun hHeld => ?_);clear hK K;refine no (some 31) ?_;refine pu 5 (some 32) (bs 9 63) HT_ ?_;refine one_ (i := 6) (N := some 33) (bs 9 127) rfl rfl (one_of HT_.out (by kernel_rfl)) (by decide) (fun K hK => ?_);refine goes_ Try.func15 (by kernel_rfl) rfl #[] (by rfl) rfl rfl (by (try simp only [qM1, qM2, qM3]); first | done | rfl) ?_;(with_reducible refine (qsa.calls k  ba _ A9.out (by first | rfl | exact HRT.out)).mono ?_);rintro e w27 ⟨rfl, hb⟩;refine ⟨_, rfl, ?_⟩;replace ad := kR ad hb; replace ae := kR ae hb; replace af := kS af hb; replace an := kR an hb; replace ao := kR ao hb; replace ap := kS ap hb; replace aa := kU aa hb; replace ab := kU ab hb; replace HB := kH HB hb;(try clear hb);refine hK.out _ _ ⟨kk ab 0, kk ab 1, kk ab 2, kk aa 0, kk aa 1, kk aa 2⟩ (fun hHeld => ?_);clear hK K;refine no (some 33) ?_;refine pu 7 (some 34) (bs 9 255) HT_ ?_;refine pu 8 (some 4) (bs 9 511) HT_ ?_;refine done_ (done_of HT_.out (by kernel_rfl)) ?_;(try go_wp2);go_ret;exact ⟨er, kh HB⟩
end Go.Proofs.Ytmlbliggbkfjnaa.J
/- What comes in laid out as a type says is a value of a kind, within the bounds that its weights leave: once for every type. -/
namespace Go.Proofs.Ytmlbliggbkfjnaa.Op
open Go.RowKit Go.Proofs.YtmlbliggbkfjnaaW.PrintWords Go.Proofs.YtmlbliggbkfjnaaW.PrintLast Go.Proofs.YtmlbliggbkfjnaaW.PrintMore
def Opens {α : Type} (P : Program) (d : Kd α) (t : TypeId) (wf : α → Prop) : Prop :=
  ∀ (H : Type) (enc : TypeId × Value → H) (w : World) (base fuel : Nat) (spare : Nat → Bool) (held : Bool) (cs : List Value) (x : DataW H × List MemPlace), cs.length = d.sz →
    DataW.trod enc P w base spare held fuel t cs = some x → (x.1.weights P t).all (· ≤ reachBytes) = true → ∃ a, d.K w a cs ∧ wf a
theorem op_int {P : Program} {t : TypeId} {k : IntKind} (ht : P.underlying t = some (.int k)) : Opens P (Kd.int k) t (fun n => (Lit.int k n).wf = true) := by
  intro H enc w base fuel spare held cs x _ h _;obtain ⟨n, rfl, _, hw⟩ := DataW.trod_int ht h;exact ⟨n, rfl, hw⟩
theorem op_bool {P : Program} {t : TypeId} (ht : P.underlying t = some .bool) : Opens P Kd.bool t (fun _ => True) := by
  intro H enc w base fuel spare held cs x _ h _;obtain ⟨n, rfl, _⟩ := DataW.trod_bool ht h;exact ⟨n, rfl, trivial⟩
theorem all_weights {H : Type} {P : Program} {e : TypeId} {p : Nat → Bool} : ∀ (ds : List (DataW H)), (DataW.weightsAll P e ds).all p = true → ∀ d ∈ ds, (d.weights P e).all p = true
  | [], _, d, hd => by simp at hd
  | a :: r, h, d, hd => by
    unfold DataW.weightsAll at h;rw [List.all_append, Bool.and_eq_true] at h
    rcases List.mem_cons.1 hd with rfl | hd
    · exact h.1
    · exact all_weights r h.2 d hd
theorem add_add_ (a : Addr) (i j : Nat) : a.add (i + j) = (a.add i).add j := by
  cases a
  unfold Addr.add
  rcases Nat.eq_zero_or_pos i with hi | hi <;> rcases Nat.eq_zero_or_pos j with hj | hj
  · simp [hi, hj]
  · simp [hi, show j ≠ 0 by omega]
  · simp [hj, show i ≠ 0 by omega]
  · simp [show i ≠ 0 by omega, show j ≠ 0 by omega, Nat.add_assoc]
theorem pick {β : Type} {p : Nat → β → Prop} : ∀ n, (∀ i : Nat, i < n → ∃ q, p i q) → ∃ l : List β, l.length = n ∧ ∀ (i : Nat) (q : β), l[i]? = some q → p i q
  | 0, _ => ⟨[], rfl, fun i q h => by simp at h⟩
  | n + 1, h => by
    obtain ⟨l, hl, hp⟩ := pick n (fun i hi => h i (by omega));obtain ⟨q, hq⟩ := h n (by omega);refine ⟨l ++ [q], by simp [hl], fun i r hr => ?_⟩
    rcases Nat.lt_or_ge i l.length with hi | hi
    · rw [List.getElem?_append_left hi] at hr
      exact hp i r hr
    · rw [List.getElem?_append_right hi] at hr
      have h0 : i - l.length = 0 := by
        rcases Nat.eq_zero_or_pos (i - l.length) with h' | h'
        · exact h'
        · rw [List.getElem?_eq_none (by simp; omega)] at hr; cases hr
      rw [h0] at hr
      obtain rfl : q = r := by simpa using hr
      have : i = n := by omega
      rw [this]; exact hq
theorem weights_at {H : Type} {P : Program} {p : Nat → Bool} : ∀ (ts : List TypeId) (ds : List (DataW H)) (j : Nat) {t : TypeId} {d : DataW H}, (DataW.weightsEach P ts ds).all p = true → ts[j]? = some t → ds[j]? = some d → (d.weights P t).all p = true
  | [], _, _, _, _, _, ht, _ => by simp at ht
  | _ :: _, [], _, _, _, _, _, hd => by simp at hd
  | t :: ts, d :: ds, j, t', d', h, ht, hd => by
    unfold DataW.weightsEach at h;rw [List.all_append, Bool.and_eq_true] at h
    match j, ht, hd with
    | 0, ht, hd =>
      obtain rfl : t = t' := by simpa using ht
      obtain rfl : d = d' := by simpa using hd
      exact h.1
    | j + 1, ht, hd => exact weights_at ts ds j h.2 (by simpa using ht) (by simpa using hd)
theorem op_slice {α : Type} {P : Program} {d : Kd α} {t e : TypeId} {B : Nat} {wf : α → Prop} (ht : P.underlying t = some (.slice e)) (hB : P.bytesOf e = B) (hsz : P.cellsOf e = d.sz) (he : Opens P d e wf) :
    Opens P (Kd.slice e d) t (fun l => l.length ≤ maxLen ∧ l.length * B ≤ 140737488351232 ∧ ∀ a ∈ l, wf a) := by
  intro H enc w base fuel spare held cs x _ h hw
  rcases Go.Deep.open_slice ht h with ⟨rfl, _⟩ | ⟨a, len, cap, m, n, D, Pl, rfl, hb, hl, hm, hmm, rfl, hx⟩
  · exact ⟨[], ⟨none, 0, rfl, Nat.le_refl _, rfl, Nat.zero_le _, fun h0 => absurd h0 (by simp)⟩, by simp, by simp, fun a ha => by simp at ha⟩
  · have hlm : len ≤ m := by rw [hmm]; split <;> omega
    simp only [DataW.weights, ht, List.all_cons, List.all_append, Bool.and_eq_true, List.length_map, List.length_range] at hw;obtain ⟨hw0, hw1, _⟩ := hw
    have each : ∀ i : Nat, i < len → ∃ q : α, wf q ∧ ∃ c : List Value, c.length = d.sz ∧ d.K w q c ∧ ∀ j u, c[j]? = some u → w.cell? (a.add (i * d.sz + j)) = some u := by
      intro i hi;obtain ⟨cs', h1, h2⟩ := hx i (by omega);rw [hsz] at h1;obtain ⟨_, hlen, hcell⟩ := World.cells?_some h1;obtain ⟨y, hK, hwf⟩ := he H enc w base n spare held cs' _ hlen h2 (all_weights _ hw1 _ (List.mem_map.2 ⟨i, List.mem_range.2 hi, rfl⟩));refine ⟨y, hwf, cs', hlen, hK, fun j u hu => ?_⟩
      have hj : j < d.sz := by
        rw [← hlen]
        rcases Nat.lt_or_ge j cs'.length with h' | h'
        · exact h'
        · rw [List.getElem?_eq_none h'] at hu; cases hu
      have := hcell j hj;rw [hu] at this;rw [show a.add (i * d.sz + j) = (a.add (i * d.sz)).add j from add_add_ _ _ _];exact this
    obtain ⟨l, rfl, hl2⟩ := pick len each;refine ⟨l, ⟨some a, cap, rfl, hl, rfl, Nat.le_trans hl hm, fun _ => ⟨a, rfl, fun j p hj => (hl2 j p hj).2⟩⟩, Nat.le_trans hl hm, ?_, ?_⟩
    · have hw2 := of_decide_eq_true hw0
      rw [hB] at hw2;exact Nat.le_trans (Nat.mul_le_mul_right _ (by omega)) hw2
    · intro y hy
      obtain ⟨j, hj⟩ := List.mem_iff_getElem?.1 hy;exact (hl2 j y hj).1
def OpL {β : Type} (P : Program) (d : Kd β) (fs : List Field) (o : Nat) (wf : β → Prop) : Prop :=
  ∀ (H : Type) (enc : TypeId × Value → H) (w : World) (base n : Nat) (spare : Nat → Bool) (held : Bool) (cs : List Value) (xs : List (DataW H × List MemPlace)), cs.length = d.sz → xs.length = fs.length →
    (∀ (i : Nat) (f : Field), fs[i]? = some f → DataW.trod enc P w base spare held n f.type ((cs.drop (f.offset - o)).take (P.cellsOf f.type)) = xs[i]?) →
    (DataW.weightsEach P (fs.map (·.type)) (xs.map (·.1))).all (· ≤ reachBytes) = true → ∃ a, d.K w a cs ∧ wf a
theorem opL_one {β : Type} {P : Program} {d : Kd β} {f : Field} {o : Nat} {wf : β → Prop} (ho : f.offset = o) (hc : P.cellsOf f.type = d.sz) (h : Opens P d f.type wf) : OpL P d [f] o wf := by
  intro H enc w base n spare held cs xs hl hx hf hw
  match xs, hx with
  | [y], _ =>
    have h0 := hf 0 f rfl;rw [ho, Nat.sub_self, List.drop_zero, hc, ← hl, List.take_length] at h0;simp only [List.map_cons, List.map_nil, DataW.weightsEach, List.append_nil] at hw;exact h H enc w base n spare held cs y hl h0 hw
theorem opL_cons {α β : Type} {P : Program} {d1 : Kd α} {d : Kd β} {f : Field} {fs : List Field} {o : Nat} {wf1 : α → Prop} {wf : β → Prop} (ho : f.offset = o) (hc : P.cellsOf f.type = d1.sz) (h1 : Opens P d1 f.type wf1)
    (aa : (fs.all fun g => decide (o + d1.sz ≤ g.offset)) = true) (h : OpL P d fs (o + d1.sz) wf) : OpL P (Kd.pair d1 d) (f :: fs) o (fun x => wf1 x.1 ∧ wf x.2) := by
  have hfs : ∀ g ∈ fs, o + d1.sz ≤ g.offset := fun g hg => of_decide_eq_true (List.all_eq_true.1 aa g hg)
  intro H enc w base n spare held cs xs hl hx hf hw;have hl' : cs.length = d1.sz + d.sz := hl
  match xs, hx with
  | y :: ys, hx =>
    have h0 := hf 0 f rfl;rw [ho, Nat.sub_self, List.drop_zero, hc] at h0;simp only [List.map_cons, DataW.weightsEach, List.all_append, Bool.and_eq_true] at hw;obtain ⟨a, ka, wa⟩ := h1 H enc w base n spare held (cs.take d1.sz) y (by rw [List.length_take]; omega) h0 hw.1
    obtain ⟨b, kb, wb⟩ := h H enc w base n spare held (cs.drop d1.sz) ys (by rw [List.length_drop]; omega) (by simpa using hx) (fun i g hg => by
      have := hf (i + 1) g (by simpa using hg);rw [List.drop_drop];have hg2 := hfs g (List.mem_of_getElem? hg);rw [show d1.sz + (g.offset - (o + d1.sz)) = g.offset - o by omega, this]
      simp) hw.2
    exact ⟨(a, b), ⟨cs.take d1.sz, cs.drop d1.sz, (List.take_append_drop _ _).symm, ka, kb⟩, wa, wb⟩
theorem op_struct {α β : Type} {P : Program} {d : Kd α} {t : TypeId} {fs : Array Field} {wf : α → Prop} {p : β → α} (g : α → β) (hg : ∀ a, p (g a) = a) (ht : P.underlying t = some (.struct fs)) (h : OpL P d fs.toList 0 wf) :
    Opens P (Kd.iso d p) t (fun b => wf (p b)) := by
  intro H enc w base fuel spare held cs x hl hx hw;obtain ⟨xs, n, rfl, rfl, _, hxl, hf⟩ := DataW.trod_struct ht hx;simp only [DataW.weights, ht] at hw
  obtain ⟨a, ka, wa⟩ := h H enc w base n spare held cs xs hl (by simpa using hxl) (fun i f hi => by
    rw [Nat.sub_zero]
    exact hf i f (by simpa using hi)) hw
  refine ⟨g a, ?_, ?_⟩
  · show d.K w (p (g a)) cs
    rw [hg]; exact ka
  · show wf (p (g a))
    rw [hg]; exact wa
theorem op_agg {α : Type} {P : Program} {d : Kd α} {t : TypeId} {fs : Array Field} {wf : α → Prop} (ht : P.underlying t = some (.struct fs)) (h : OpL P d fs.toList 0 wf) : Opens P d t wf :=
  op_struct (d := d) (p := fun a => a) (fun a => a) (fun _ => rfl) ht h
theorem op_array2 {α : Type} {P : Program} {d : Kd α} {t e : TypeId} {wf : α → Prop} (ht : P.underlying t = some (.array 2 e)) (hc : P.cellsOf e = d.sz) (h : Opens P d e wf) : Opens P (Kd.pair d d) t (fun x => wf x.1 ∧ wf x.2) := by
  intro H enc w base fuel spare held cs x hl hx hw;obtain ⟨xs, m, rfl, rfl, _, hxl, hf⟩ := DataW.trod_array ht hx;simp only [DataW.weights, ht] at hw;have hl' : cs.length = d.sz + d.sz := hl
  match xs, hxl with
  | [y, z], _ =>
    have h0 := hf 0 (by omega);have h1 := hf 1 (by omega);rw [Nat.zero_mul, List.drop_zero, hc] at h0;rw [Nat.one_mul, hc, List.take_of_length_le (by rw [List.length_drop]; omega)] at h1;simp only [List.map_cons, List.map_nil, DataW.weightsAll, List.all_append, Bool.and_eq_true] at hw;obtain ⟨a, ka, wa⟩ := h H enc w base m spare held (cs.take d.sz) y (by rw [List.length_take]; omega) h0 hw.1;obtain ⟨b, kb, wb⟩ := h H enc w base m spare held (cs.drop d.sz) z (by rw [List.length_drop]; omega) h1 hw.2.1;exact ⟨(a, b), ⟨cs.take d.sz, cs.drop d.sz, (List.take_append_drop _ _).symm, ka, kb⟩, wa, wb⟩
theorem okWide_arr {P : Program} {W : World} {r : Reach} {b0 : Nat} {t e : TypeId} {n : Nat} {v : Value} (ht : P.underlying t = some (.array n e)) (h : Value.okWide P W r b0 t v) : ∃ cs, v = .agg cs ∧ cs.size = P.cellsOf t := by
  simp only [Value.okWide, ht] at h;obtain ⟨cs, h1, h2, _⟩ := h;exact ⟨cs, h1, h2⟩
theorem okWide_agg {P : Program} {W : World} {r : Reach} {b0 : Nat} {t : TypeId} {fs : Array Field} {v : Value} (ht : P.underlying t = some (.struct fs)) (h : Value.okWide P W r b0 t v) : ∃ cs, v = .agg cs ∧ cs.size = P.cellsOf t := by
  simp only [Value.okWide, ht] at h;obtain ⟨cs, h1, h2, _⟩ := h;exact ⟨cs, h1, h2⟩
theorem arg {α H : Type} {enc : TypeId × Value → H} {P : Program} {d : Kd α} {t : TypeId} {wf : α → Prop} (h : Opens P d t wf) {w : World} {base : Nat} {spare : Nat → Bool} {held : Bool} {v : Value} {x : DataW H} {ps : List MemPlace}
    (hl : v.cells.toList.length = d.sz) (hv : DataW.Trod enc P w base spare held t v x ps) {ts : List TypeId} {ds : List (DataW H)} {j : Nat} (hsz : (DataW.weightsEach P ts ds).all (· ≤ reachBytes) = true) (ht : ts[j]? = some t) (hd : ds[j]? = some x) :
    ∃ a, d.K w a v.cells.toList ∧ wf a := by
  obtain ⟨fuel, hf⟩ := hv;exact h H enc w base fuel spare held _ _ hl hf (weights_at ts ds j hsz ht hd)
end Go.Proofs.Ytmlbliggbkfjnaa.Op
/- Three closed facts over the whole program, with its header's words as numbers. -/
namespace Go.Proofs.Ytmlbliggbkfjnaa.Facts
theorem toList_of (s : String) (l : List Char) (h : s = String.ofList l) : s.toList = l := by rw [h, String.toList_ofList]
def glue : List (List Char) → List Char
  | [] => []
  | [w] => w
  | w :: v :: r => w ++ Char.ofNat 32 :: glue (v :: r)
theorem signs_space (r : List Char) : wordsSigns (Char.ofNat 32 :: r) = [] :: wordsSigns r := rfl
theorem signs_cons (c : Char) (r : List Char) (h : c ≠ Char.ofNat 32) (w : List Char) (ws : List (List Char)) (e : wordsSigns r = w :: ws) : wordsSigns (c :: r) = (c :: w) :: ws := by
  rw [wordsSigns]
  · rw [e]
  · exact h
theorem signs_one : ∀ (w : List Char), (∀ c ∈ w, c ≠ Char.ofNat 32) → wordsSigns w = [w]
  | [], _ => rfl
  | c :: w, h => signs_cons c w (h c (List.mem_cons_self ..)) _ _ (signs_one w (fun d hd => h d (List.mem_cons_of_mem _ hd)))
theorem signs_more (r : List Char) : ∀ (w : List Char), (∀ c ∈ w, c ≠ Char.ofNat 32) → wordsSigns (w ++ Char.ofNat 32 :: r) = w :: wordsSigns r
  | [], _ => signs_space r
  | c :: w, h => signs_cons c _ (h c (List.mem_cons_self ..)) _ _ (signs_more r w (fun d hd => h d (List.mem_cons_of_mem _ hd)))
theorem signs_glue : ∀ (ws : List (List Char)), ws ≠ [] → (∀ w ∈ ws, ∀ c ∈ w, c ≠ Char.ofNat 32) → wordsSigns (glue ws) = ws
  | [], h, _ => absurd rfl h
  | [w], _, h => signs_one w (h w (List.mem_cons_self ..))
  | w :: v :: r, _, h => by
    rw [glue, signs_more _ w (h w (List.mem_cons_self ..)), signs_glue (v :: r) (by simp) (fun u hu => h u (List.mem_cons_of_mem _ hu))]
def W : List (List Char) := (List.map (List.map Char.ofNat) [[104, 97, 114, 110, 101, 115, 115],
  [57, 102, 101, 51, 102, 100, 99, 53, 49, 100, 57, 100, 102, 56, 54, 48, 56, 53, 55, 52, 52, 48, 57, 101, 56, 99, 100, 99, 99, 53, 54, 99, 49, 98, 57, 102, 57, 51, 54, 97, 99, 99, 57, 99, 48, 98, 56, 53, 101, 98, 53, 56, 55, 54, 48, 97, 49, 50, 51, 51, 54, 99, 50, 99],
  [99, 117, 116],
  [97, 116],
  [106, 117, 110, 116, 111, 47, 106, 117, 110, 116, 111, 108, 97, 119, 49, 54, 46, 84, 117, 110, 101, 76, 101, 118, 101, 108, 115],
  [106, 117, 110, 116, 111, 47, 106, 117, 110, 116, 111, 108, 97, 119, 49, 54, 46, 84, 117, 110, 101, 70, 111, 108, 100, 115],
  [106, 117, 110, 116, 111, 47, 106, 117, 110, 116, 111, 108, 97, 119, 49, 54, 46, 84, 117, 110, 101, 83, 104, 97, 114, 101, 115],
  [106, 117, 110, 116, 111, 47, 106, 117, 110, 116, 111, 108, 97, 119, 49, 54, 46, 84, 117, 110, 101, 80, 114, 117, 110, 101, 115],
  [106, 117, 110, 116, 111, 47, 106, 117, 110, 116, 111, 108, 97, 119, 49, 54, 46, 84, 117, 110, 101, 84, 117, 110, 101, 115],
  [106, 117, 110, 116, 111, 47, 106, 117, 110, 116, 111, 108, 97, 119, 49, 54, 46, 84, 117, 110, 101, 83, 97, 109, 101],
  [106, 117, 110, 116, 111, 47, 106, 117, 110, 116, 111, 108, 97, 119, 49, 54, 46, 84, 117, 110, 101, 76, 101, 115, 115],
  [106, 117, 110, 116, 111, 47, 106, 117, 110, 116, 111, 108, 97, 119, 49, 54, 46, 84, 117, 110, 101, 68, 111, 110, 101],
  [106, 117, 110, 116, 111, 47, 106, 117, 110, 116, 111, 108, 97, 119, 49, 54, 46, 84, 117, 110, 101, 82, 111, 117, 110, 100, 115]])
theorem head : Try.pinned.checked.prog.initOrder.toList = glue W := toList_of _ _ (by kernel_rfl)
theorem plain : (W.all fun w => w.all fun c => c.toNat != 32) = true := by kernel_rfl
theorem signs : wordsSigns Try.pinned.checked.prog.initOrder.toList = W := by
  rw [head]
  refine signs_glue W (by simp [W]) fun w hw c hc e => ?_
  have h := List.all_eq_true.1 (List.all_eq_true.1 plain w hw) c hc;rw [e] at h;cases h
theorem words : behindMainWord (wordsSigns Try.pinned.checked.prog.initOrder.toList) = W.drop 2 := by
  rw [signs]
  kernel_rfl
theorem lifts : Try.pinned.checked.prog.headLifts = [] := by
  unfold Program.headLifts;rw [words]
  kernel_rfl
theorem final : Try.pinned.checked.prog.liftsFinal = false := by
  unfold Program.liftsFinal;rw [words, lifts]
  kernel_rfl
theorem made_of (P : Program) (rest : List (List Char)) (h : behindMainWord (wordsSigns P.initOrder.toList) = [Char.ofNat 99, Char.ofNat 117, Char.ofNat 116] :: rest) : P.make = some .cut := by
  unfold Program.make;rw [h]
  kernel_rfl
theorem enters_of (P : Program) (rest : List (List Char)) (h : behindMainWord (wordsSigns P.initOrder.toList) = [Char.ofNat 99, Char.ofNat 117, Char.ofNat 116] :: rest) (hl : P.laysLater = false) (hb : P.bearsReflect = false) (hd : P.doorFits [] = true)
    (hs : stripLifts liftWords ([Char.ofNat 99, Char.ofNat 117, Char.ofNat 116] :: rest) = ([], [Char.ofNat 99, Char.ofNat 117, Char.ofNat 116] :: rest)) : P.mayEnter = true := by
  unfold Program.mayEnter;rw [h];simp only [hs, hl, hb, hd]
  kernel_rfl
theorem made : Try.pinned.checked.prog.make = some .cut := made_of _ (W.drop 3) (words.trans (by kernel_rfl))
theorem enters : Try.pinned.checked.prog.mayEnter = true := enters_of _ (W.drop 3) (words.trans (by kernel_rfl)) (by kernel_rfl) (by kernel_rfl) (by kernel_rfl) (by kernel_rfl)
end Go.Proofs.Ytmlbliggbkfjnaa.Facts
/- Gates: what they may be, what they mean, and their folding. -/
namespace Go.Proofs.Ytmlbliggbkfjnaa.L
open Go.RowKit Go.Proofs.YtmlbliggbkfjnaaW.PrintWords Go.Proofs.Ytmlbliggbkfjnaa.J
def atI (l : List Int) (i : Int) : Int := l.getD i.toNat 0
def atG (l : List S61) (i : Int) : S61 := l.getD i.toNat ⟨0, 0, 0, 0⟩
def okG (p s i : Int) (g : S61) : Prop :=
  (g.f0 = 1 ∧ 0 ≤ g.f1 ∧ g.f1 < s ∧ g.f2 = 0 ∧ g.f3 = 0) ∨
  (g.f0 = 2 ∧ g.f1 = 0 ∧ g.f2 = 0 ∧ 0 ≤ g.f3 ∧ g.f3 < p) ∨
  ((g.f0 = 3 ∨ g.f0 = 4 ∨ g.f0 = 5) ∧ 0 ≤ g.f1 ∧ g.f1 < i ∧ 0 ≤ g.f2 ∧ g.f2 < i ∧ g.f3 = 0) ∨
  (g.f0 = 6 ∧ 0 ≤ g.f1 ∧ g.f1 < i ∧ g.f2 = 0 ∧ 0 ≤ g.f3 ∧ g.f3 < p)
def okL (p s : Int) (l : List S61) : Prop := ∀ (i : Nat) (g : S61), l[i]? = some g → okG p s i g
theorem okL_nil (p s : Int) : okL p s [] := fun i g h => by simp at h
theorem okL_snoc {p s : Int} {l : List S61} {g : S61} (h : okL p s l) (hg : okG p s l.length g) : okL p s (l ++ [g]) := by
  intro i x hx;rw [List.getElem?_append] at hx
  split at hx
  · exact h i x hx
  · rename_i hi
    rw [List.getElem?_singleton] at hx
    split at hx
    · rename_i h0
      obtain rfl := Option.some.inj hx;rw [show i = l.length by omega]; exact hg
    · cases hx
theorem okL_cut {p s : Int} {l : List S61} {g : S61} (h : okL p s (l ++ [g])) : okL p s l ∧ okG p s l.length g := by
  constructor
  · intro i x hx
    refine h i x ?_;rw [List.getElem?_append_left (List.getElem?_eq_some_iff.1 hx).1]; exact hx
  · exact h l.length g (by simp)
theorem okL_at {p s : Int} {l : List S61} (h : okL p s l) {i : Int} (h0 : 0 ≤ i) (h1 : i < l.length) : okG p s i (atG l i) := by
  have hi : i.toNat < l.length := by omega
  have := h i.toNat l[i.toNat] (List.getElem?_eq_getElem hi);unfold atG;rw [List.getD_eq_getElem?_getD, List.getElem?_eq_getElem hi]
  simpa [Int.toNat_of_nonneg h0] using this
theorem atG_left {l m : List S61} {i : Int} (h1 : i < l.length) (h0 : 0 ≤ i) : atG (l ++ m) i = atG l i := by
  unfold atG;rw [List.getD_eq_getElem?_getD, List.getD_eq_getElem?_getD, List.getElem?_append_left (by omega)]
theorem atI_left {l m : List Int} {i : Int} (h1 : i < l.length) (h0 : 0 ≤ i) : atI (l ++ m) i = atI l i := by
  unfold atI;rw [List.getD_eq_getElem?_getD, List.getD_eq_getElem?_getD, List.getElem?_append_left (by omega)]
theorem atI_last (l : List Int) (x : Int) : atI (l ++ [x]) l.length = x := by
  simp [atI, List.getD_eq_getElem?_getD]
theorem atG_last (l : List S61) (x : S61) : atG (l ++ [x]) l.length = x := by
  simp [atG, List.getD_eq_getElem?_getD]
structure Alg where
  inp : Int → Int
  con : Int → Int
  scl : Int → Int → Int
  two : Int → Int → Int → Int
def app (A : Alg) (v : List Int) (g : S61) : Int :=
  if g.f0 = 1 then A.inp g.f1 else if g.f0 = 2 then A.con g.f3 else if g.f0 = 6 then A.scl g.f3 (atI v g.f1) else A.two g.f0 (atI v g.f1) (atI v g.f2)
def snocs {α β : Type} (f : List α → β → α) : List α → List β → List α
  | d, [] => d
  | d, b :: bs => snocs f (d ++ [f d b]) bs
theorem snocs_snoc {α β : Type} (f : List α → β → α) (b : β) : ∀ (bs : List β) (d : List α), snocs f d (bs ++ [b]) = snocs f d bs ++ [f (snocs f d bs) b]
  | [], d => rfl
  | c :: bs, d => by simp only [List.cons_append, snocs]; exact snocs_snoc f b bs _
theorem snocs_len {α β : Type} (f : List α → β → α) : ∀ (bs : List β) (d : List α), (snocs f d bs).length = d.length + bs.length
  | [], d => rfl
  | c :: bs, d => by simp only [snocs, snocs_len f bs, List.length_append, List.length_cons, List.length_nil]; omega
def vals (A : Alg) (l : List S61) : List Int := snocs (app A) [] l
theorem vals_snoc (A : Alg) (l : List S61) (g : S61) : vals A (l ++ [g]) = vals A l ++ [app A (vals A l) g] := snocs_snoc _ _ _ _
theorem vals_len (A : Alg) (l : List S61) : (vals A l).length = l.length := by simp [vals, snocs_len]
theorem app_congr {A : Alg} {p s i : Int} {g : S61} {v v' : List Int} (h : okG p s i g) (e : ∀ x, 0 ≤ x → x < i → atI v x = atI v' x) : app A v g = app A v' g := by
  unfold app;unfold okG at h
  split
  · rfl
  split
  · rfl
  split
  · rw [e g.f1 (by omega) (by omega)]
  · rw [e g.f1 (by omega) (by omega), e g.f2 (by omega) (by omega)]
theorem snoc_ind {α : Type} {P : List α → Prop} (h0 : P []) (h1 : ∀ l x, P l → P (l ++ [x])) (l : List α) : P l := by
  rw [← List.reverse_reverse l]
  induction l.reverse with
  | nil => exact h0
  | cons x r ih => rw [List.reverse_cons]; exact h1 _ _ ih
theorem vals_at (A : Alg) {p s : Int} (l : List S61) : okL p s l → ∀ i : Int, 0 ≤ i → i < l.length → atI (vals A l) i = app A (vals A l) (atG l i) := by
  refine snoc_ind (P := fun l => okL p s l → ∀ i : Int, 0 ≤ i → i < l.length → atI (vals A l) i = app A (vals A l) (atG l i)) ?_ ?_ l
  · intro _ i h0 h1; simp at h1; omega
  · intro l g ih hok i h0 h1
    obtain ⟨hl, hg⟩ := okL_cut hok;have hlen := vals_len A l;rw [vals_snoc]
    by_cases h : i < l.length
    · rw [atI_left (by omega) h0, atG_left h h0, ih hl i h0 h]
      exact app_congr (okL_at hl h0 h) (fun x x0 x1 => (atI_left (by omega) x0).symm)
    · have hi : i = l.length := by simp at h1; omega
      rw [hi, atG_last];rw [show (l.length : Int) = ((vals A l).length : Nat) by rw [hlen], atI_last];exact app_congr hg (fun x x0 x1 => (atI_left (by omega) x0).symm)
end Go.Proofs.Ytmlbliggbkfjnaa.L
/- Gates left out and others named in their place; gates that are alike. -/
namespace Go.Proofs.Ytmlbliggbkfjnaa.L
open Go.RowKit Go.Proofs.YtmlbliggbkfjnaaW.PrintWords Go.Proofs.Ytmlbliggbkfjnaa.J
def rnf (t : Int → Int) (g : S61) : S61 :=
  if g.f0 = 1 ∨ g.f0 = 2 then g else if g.f0 = 6 then ⟨g.f0, t g.f1, g.f2, g.f3⟩ else ⟨g.f0, t g.f1, t g.f2, g.f3⟩
theorem rnf_congr {p s i : Int} {g : S61} {t t' : Int → Int} (h : okG p s i g) (e : ∀ x, 0 ≤ x → x < i → t x = t' x) : rnf t g = rnf t' g := by
  unfold rnf; unfold okG at h
  split
  · rfl
  split
  · rw [e g.f1 (by omega) (by omega)]
  · rw [e g.f1 (by omega) (by omega), e g.f2 (by omega) (by omega)]
theorem rnf_ok {p s i j : Int} {g : S61} {t : Int → Int} (h : okG p s i g)
    (e : g.f0 ≠ 1 → g.f0 ≠ 2 → 0 ≤ t g.f1 ∧ t g.f1 < j ∧ (g.f0 ≠ 6 → 0 ≤ t g.f2 ∧ t g.f2 < j)) : okG p s j (rnf t g) := by
  unfold rnf
  rcases h with h | h | h | h
  · rw [if_pos (.inl h.1)]; exact .inl h
  · rw [if_pos (.inr h.1)]; exact .inr (.inl h)
  · have h12 : ¬ (g.f0 = 1 ∨ g.f0 = 2) := by omega
    have h6 : ¬ g.f0 = 6 := by omega
    obtain ⟨a, b, c⟩ := e (by omega) (by omega);obtain ⟨c, d⟩ := c h6;rw [if_neg h12, if_neg h6];exact .inr (.inr (.inl ⟨h.1, a, b, c, d, h.2.2.2.2.2⟩))
  · obtain ⟨a, b, c⟩ := e (by omega) (by omega)
    rw [if_neg (by omega), if_pos h.1];exact .inr (.inr (.inr ⟨h.1, a, b, h.2.2.2.1, h.2.2.2.2⟩))
theorem okG_ops {p s i : Int} {g : S61} (h : okG p s i g) (h1 : g.f0 ≠ 1) (h2 : g.f0 ≠ 2) : 0 ≤ g.f1 ∧ g.f1 < i ∧ (g.f0 ≠ 6 → 0 ≤ g.f2 ∧ g.f2 < i) := by
  rcases h with h | h | h | h
  · exact absurd h.1 h1
  · exact absurd h.1 h2
  · exact ⟨h.2.1, h.2.2.1, fun _ => ⟨h.2.2.2.1, h.2.2.2.2.1⟩⟩
  · exact ⟨h.2.1, h.2.2.1, fun h6 => absurd h.1 h6⟩
def Comm (A : Alg) : Prop := ∀ a b, A.two 3 a b = A.two 3 b a ∧ A.two 5 a b = A.two 5 b a
def sameG (x y : S61) : Prop := x = y ∨ ((⟨x.f0, x.f2, x.f1, x.f3⟩ : S61) = y ∧ (x.f0 = 3 ∨ x.f0 = 5))
theorem S61.ext_iff' (x y : S61) : x = y ↔ x.f0 = y.f0 ∧ x.f1 = y.f1 ∧ x.f2 = y.f2 ∧ x.f3 = y.f3 := by
  cases x; cases y; simp
instance (x y : S61) : Decidable (x = y) := decidable_of_iff _ (S61.ext_iff' x y).symm
instance (x y : S61) : Decidable (sameG x y) := by unfold sameG; infer_instance
theorem app_same {A : Alg} (hA : Comm A) {x y : S61} (v : List Int) (h : sameG x y) : app A v x = app A v y := by
  rcases h with rfl | ⟨rfl, h⟩
  · rfl
  · unfold app
    rcases h with h | h
    · simp [h, (hA (atI v x.f1) (atI v x.f2)).1]
    · simp [h, (hA (atI v x.f1) (atI v x.f2)).2]
theorem app_rnf {A : Alg} {p s i : Int} {g : S61} {t : Int → Int} {v v' : List Int} (h : okG p s i g) (e : ∀ x, 0 ≤ x → x < i → x = g.f1 ∨ (g.f0 ≠ 6 ∧ x = g.f2) → g.f0 ≠ 1 → g.f0 ≠ 2 → atI v' (t x) = atI v x) : app A v' (rnf t g) = app A v g := by
  unfold rnf; unfold okG at h
  split
  · rename_i h1
    unfold app
    rcases h1 with h1 | h1 <;> simp [h1]
  split
  · rename_i h1 h6
    unfold app;simp only [h6, if_neg (show ¬ (6 : Int) = 1 by decide), if_neg (show ¬ (6 : Int) = 2 by decide), if_true];rw [e g.f1 (by omega) (by omega) (.inl rfl) (by omega) (by omega)]
  · rename_i h1 h6
    unfold app;simp only [if_neg (show ¬ g.f0 = 1 by omega), if_neg (show ¬ g.f0 = 2 by omega), if_neg h6];rw [e g.f1 (by omega) (by omega) (.inl rfl) (by omega) (by omega), e g.f2 (by omega) (by omega) (.inr ⟨h6, rfl⟩) (by omega) (by omega)]
structure Shr (p s : Int) (gs l : List S61) (t : Int → Int) (N : Int → Prop) : Prop where
  rng : ∀ i : Int, 0 ≤ i → i < gs.length → N i → 0 ≤ t i ∧ t i < l.length
  onto : ∀ j : Int, 0 ≤ j → j < l.length → ∃ i : Int, 0 ≤ i ∧ i < gs.length ∧ N i ∧ t i = j
  vals : ∀ A, Comm A → ∀ i : Int, 0 ≤ i → i < gs.length → N i → atI (L.vals A l) (t i) = atI (L.vals A gs) i
  ok : okL p s l
  cnt : ∀ f : S61 → Bool, (∀ g t, f (rnf t g) = f g) → (l.filter f).length ≤ (gs.filter f).length
theorem Shr.nil (p s : Int) (t : Int → Int) (N : Int → Prop) : Shr p s [] [] t N :=
  ⟨fun i h0 h1 => by simp at h1; omega, fun i h0 h1 => by simp at h1; omega, fun _ _ i h0 h1 => by simp at h1; omega, okL_nil p s, fun _ _ => Nat.le_refl _⟩
theorem vals_left (A : Alg) {l : List S61} {g : S61} {i : Int} (h0 : 0 ≤ i) (h1 : i < l.length) : atI (vals A (l ++ [g])) i = atI (vals A l) i := by
  rw [vals_snoc]; exact atI_left (by rw [vals_len]; exact h1) h0
theorem vals_last (A : Alg) (l : List S61) (g : S61) : atI (vals A (l ++ [g])) l.length = app A (vals A l) g := by
  rw [vals_snoc, show (l.length : Int) = ((vals A l).length : Nat) by rw [vals_len], atI_last]
def uses (g : S61) (x : Int) : Prop := g.f0 ≠ 1 ∧ g.f0 ≠ 2 ∧ (x = g.f1 ∨ (g.f0 ≠ 6 ∧ x = g.f2))
theorem uses_lt {p s i : Int} {g : S61} (h : okG p s i g) {x : Int} (hx : uses g x) : 0 ≤ x ∧ x < i := by
  obtain ⟨h1, h2, h3⟩ := hx;obtain ⟨a, b, c⟩ := okG_ops h h1 h2
  rcases h3 with rfl | ⟨h6, rfl⟩
  · exact ⟨a, b⟩
  · exact c h6
theorem Shr.new_ok {p s : Int} {gs l : List S61} {t : Int → Int} {N : Int → Prop} (h : Shr p s gs l t N) {g : S61} (hg : okG p s gs.length g)
    (hN : ∀ x, uses g x → N x) : okG p s l.length (rnf t g) := by
  refine rnf_ok hg fun h1 h2 => ?_
  have u1 : uses g g.f1 := ⟨h1, h2, .inl rfl⟩;obtain ⟨a, b⟩ := uses_lt hg u1;obtain ⟨c, d⟩ := h.rng _ a b (hN _ u1);refine ⟨c, d, fun h6 => ?_⟩;have u2 : uses g g.f2 := ⟨h1, h2, .inr ⟨h6, rfl⟩⟩;obtain ⟨a, b⟩ := uses_lt hg u2;exact h.rng _ a b (hN _ u2)
theorem Shr.new_val {p s : Int} {gs l : List S61} {t : Int → Int} {N : Int → Prop} (h : Shr p s gs l t N) {g : S61} (hg : okG p s gs.length g)
    (hN : ∀ x, uses g x → N x) {A : Alg} (hA : Comm A) : app A (L.vals A l) (rnf t g) = app A (L.vals A gs) g :=
  app_rnf hg fun x x0 x1 xe h1 h2 => h.vals A hA x x0 x1 (hN x ⟨h1, h2, xe⟩)
theorem Shr.stay {p s : Int} {gs l : List S61} {t t' : Int → Int} {N : Int → Prop} (h : Shr p s gs l t N) {g : S61} (hg : okG p s gs.length g)
    (ht : ∀ x : Int, 0 ≤ x → x < gs.length → t' x = t x) (hl : t' gs.length = l.length)
    (hN : ∀ x, uses g x → N x) (hN' : N gs.length) : Shr p s (gs ++ [g]) (l ++ [rnf t g]) t' N := by
  refine ⟨?_, ?_, ?_, okL_snoc h.ok (h.new_ok hg hN), ?_⟩
  · intro i i0 i1 iN
    simp only [List.length_append, List.length_cons, List.length_nil] at i1 ⊢
    by_cases e : i < gs.length
    · rw [ht i i0 e]; have := h.rng i i0 e iN; omega
    · rw [show i = gs.length by omega, hl]; omega
  · intro j j0 j1
    simp only [List.length_append, List.length_cons, List.length_nil] at j1 ⊢
    by_cases e : j < l.length
    · obtain ⟨i, i0, i1, iN, ij⟩ := h.onto j j0 e
      exact ⟨i, i0, by omega, iN, by rw [ht i i0 i1]; exact ij⟩
    · exact ⟨gs.length, by omega, by omega, hN', by rw [hl]; omega⟩
  · intro A hA i i0 i1 iN
    simp only [List.length_append, List.length_cons, List.length_nil] at i1
    by_cases e : i < gs.length
    · have r := h.rng i i0 e iN
      rw [ht i i0 e, vals_left A r.1 r.2, vals_left A i0 e];exact h.vals A hA i i0 e iN
    · rw [show i = gs.length by omega, hl, vals_last, vals_last]
      exact h.new_val hg hN hA
  · intro f hf
    have := h.cnt f hf;rw [List.filter_append, List.filter_append, List.length_append, List.length_append]
    have e : ([rnf t g].filter f).length = ([g].filter f).length := by
      simp only [List.filter_cons, hf, List.filter_nil]
      split <;> rfl
    omega
theorem Shr.other {p s : Int} {gs l : List S61} {t t' : Int → Int} {N : Int → Prop} (h : Shr p s gs l t N) {g : S61} (hg : okG p s gs.length g)
    (ht : ∀ x : Int, 0 ≤ x → x < gs.length → t' x = t x) (hN : N gs.length → (∀ x, uses g x → N x) ∧ 0 ≤ t' gs.length ∧ t' gs.length < l.length ∧ sameG (atG l (t' gs.length)) (rnf t g)) : Shr p s (gs ++ [g]) l t' N := by
  refine ⟨?_, ?_, ?_, h.ok, ?_⟩
  · intro i i0 i1 iN
    simp only [List.length_append, List.length_cons, List.length_nil] at i1 ⊢
    by_cases e : i < gs.length
    · rw [ht i i0 e]; exact h.rng i i0 e iN
    · have hi : i = gs.length := by omega
      subst hi;exact ⟨(hN iN).2.1, (hN iN).2.2.1⟩
  · intro j j0 j1
    obtain ⟨i, i0, i1, iN, ij⟩ := h.onto j j0 j1;exact ⟨i, i0, by simp; omega, iN, by rw [ht i i0 i1]; exact ij⟩
  · intro A hA i i0 i1 iN
    simp only [List.length_append, List.length_cons, List.length_nil] at i1
    by_cases e : i < gs.length
    · rw [ht i i0 e, vals_left A i0 e]
      exact h.vals A hA i i0 e iN
    · have hi : i = gs.length := by omega
      subst hi;obtain ⟨n1, n2, n3, n4⟩ := hN iN;rw [vals_last, vals_at A l h.ok _ n2 n3, app_same hA _ n4];exact h.new_val hg n1 hA
  · intro f hf
    have := h.cnt f hf;rw [List.filter_append, List.length_append]
    omega
def apart (l : List S61) : Prop := l.Pairwise fun x y => ¬ sameG x y
end Go.Proofs.Ytmlbliggbkfjnaa.L
/- Gates that nobody asks for; levels. -/
namespace Go.Proofs.Ytmlbliggbkfjnaa.L
open Go.RowKit Go.Proofs.YtmlbliggbkfjnaaW.PrintWords Go.Proofs.Ytmlbliggbkfjnaa.J
def atB (l : List Bool) (i : Int) : Bool := l.getD i.toNat false
theorem atB_set {l : List Bool} {x : Int} (x0 : 0 ≤ x) (x1 : x < l.length) {i : Int} (i0 : 0 ≤ i) : atB (l.set x.toNat true) i = true ↔ atB l i = true ∨ i = x := by
  unfold atB;rw [List.getD_eq_getElem?_getD, List.getD_eq_getElem?_getD, List.getElem?_set]
  by_cases e : i = x
  · subst e
    rw [if_pos rfl, if_pos (by omega)];simp
  · rw [if_neg (by omega)]
    simp [e]
def mkStep (gs : List S61) (a : List Bool) (i : Nat) : List Bool :=
  if atB a i = true ∧ (atG gs i).f0 ≠ 1 ∧ (atG gs i).f0 ≠ 2 then
    (if (atG gs i).f0 = 6 then a.set (atG gs i).f1.toNat true else (a.set (atG gs i).f1.toNat true).set (atG gs i).f2.toNat true)
  else a
def mkM (gs : List S61) : Nat → List Bool → List Bool
  | 0, a => a
  | m + 1, a => mkM gs m (mkStep gs a m)
theorem mkStep_len (gs : List S61) (a : List Bool) (i : Nat) : (mkStep gs a i).length = a.length := by
  unfold mkStep
  split
  · split <;> simp
  · rfl
theorem mkM_len (gs : List S61) : ∀ (m : Nat) (a : List Bool), (mkM gs m a).length = a.length
  | 0, a => rfl
  | m + 1, a => by unfold mkM; rw [mkM_len gs m, mkStep_len]
inductive Live (gs : List S61) (N0 : Int → Prop) : Int → Prop
  | base (x : Int) : N0 x → Live gs N0 x
  | use (i x : Int) : Live gs N0 i → 0 ≤ i → i < gs.length → uses (atG gs i) x → Live gs N0 x
theorem mkStep_iff {p s : Int} {gs : List S61} (hok : okL p s gs) {a : List Bool} (ha : a.length = gs.length) {m : Nat} (hm : m < gs.length) {x : Int} (x0 : 0 ≤ x) :
    atB (mkStep gs a m) x = true ↔ atB a x = true ∨ (atB a m = true ∧ uses (atG gs m) x) := by
  have hg := okL_at hok (i := m) (by omega) (by omega);unfold mkStep
  split
  · rename_i c
    obtain ⟨c1, c2, c3⟩ := c;obtain ⟨o1, o2, o3⟩ := okG_ops hg c2 c3
    split
    · rename_i c6
      rw [atB_set o1 (by omega) x0]
      constructor
      · rintro (h | rfl)
        · exact .inl h
        · exact .inr ⟨c1, c2, c3, .inl rfl⟩
      · rintro (h | ⟨_, _, _, h | ⟨h6, _⟩⟩)
        · exact .inl h
        · exact .inr h
        · exact absurd c6 h6
    · rename_i c6
      obtain ⟨o3, o4⟩ := o3 c6;rw [atB_set o3 (by simp; omega) x0, atB_set o1 (by omega) x0]
      constructor
      · rintro ((h | rfl) | rfl)
        · exact .inl h
        · exact .inr ⟨c1, c2, c3, .inl rfl⟩
        · exact .inr ⟨c1, c2, c3, .inr ⟨c6, rfl⟩⟩
      · rintro (h | ⟨_, _, _, h | ⟨_, h⟩⟩)
        · exact .inl (.inl h)
        · exact .inl (.inr h)
        · exact .inr h
  · rename_i c
    constructor
    · exact .inl
    · rintro (h | ⟨h1, h2, h3, _⟩)
      · exact h
      · exact absurd ⟨h1, h2, h3⟩ c
theorem mkM_live {p s : Int} {gs : List S61} (hok : okL p s gs) {N0 : Int → Prop} (h0 : ∀ x, N0 x → 0 ≤ x ∧ x < gs.length) : ∀ (m : Nat) (a : List Bool), m ≤ gs.length → a.length = gs.length →
    (∀ x, 0 ≤ x → atB a x = true → Live gs N0 x) → (∀ x, N0 x → atB a x = true) → (∀ i : Int, m ≤ i → i < gs.length → atB a i = true → ∀ x, uses (atG gs i) x → atB a x = true) →
    ∀ x, 0 ≤ x → (atB (mkM gs m a) x = true ↔ Live gs N0 x)
  | 0, a, _, ha, h1, h2, h3 => by
    intro x x0
    constructor
    · exact h1 x x0
    · intro hl
      clear x0
      have : 0 ≤ x ∧ atB a x = true := by
        induction hl with
        | base x hx => exact ⟨(h0 x hx).1, h2 x hx⟩
        | use i x _ i0 i1 hu ih => exact ⟨(uses_lt (okL_at hok i0 i1) hu).1, h3 i (by omega) i1 ih.2 x hu⟩
      exact this.2
  | m + 1, a, hm, ha, h1, h2, h3 => by
    unfold mkM
    have hs := fun {x : Int} x0 => mkStep_iff hok ha (m := m) (by omega) (x := x) x0
    refine mkM_live hok h0 m _ (by omega) (by rw [mkStep_len]; exact ha) ?_ ?_ ?_
    · intro x x0 hx
      rcases (hs x0).1 hx with h | ⟨h, hu⟩
      · exact h1 x x0 h
      · exact .use m x (h1 m (by omega) h) (by omega) (by omega) hu
    · intro x hx
      exact (hs (h0 x hx).1).2 (.inl (h2 x hx))
    · intro i i0 i1 hi x hu
      have hux := uses_lt (okL_at hok (by omega) i1) hu
      by_cases e : i = m
      · subst e
        have : atB a m = true := by
          rcases (hs (by omega)).1 hi with h | ⟨h, _⟩
          · exact h
          · exact h
        exact (hs hux.1).2 (.inr ⟨this, hu⟩)
      · have : atB a i = true := by
          rcases (hs (by omega)).1 hi with h | ⟨h, hu'⟩
          · exact h
          · have := uses_lt (okL_at hok (by omega) (by omega)) hu'
            omega
        exact (hs hux.1).2 (.inl (h3 i (by omega) i1 this x hu))
def prStep (a : List Bool) (st : List S61 × List Int) (g : S61) : List S61 × List Int :=
  if atB a st.2.length = true then (st.1 ++ [rnf (atI st.2) g], st.2 ++ [(st.1.length : Int)]) else (st.1, st.2 ++ [0])
def prL (a : List Bool) (gs : List S61) : List S61 × List Int := gs.foldl (prStep a) ([], [])
theorem prL_snoc (a : List Bool) (gs : List S61) (g : S61) : prL a (gs ++ [g]) = prStep a (prL a gs) g := by simp [prL, List.foldl_append]
theorem prL_len (a : List Bool) (gs : List S61) : (prL a gs).2.length = gs.length := by
  refine snoc_ind (P := fun gs => (prL a gs).2.length = gs.length) rfl (fun gs g ih => ?_) gs;rw [prL_snoc]; unfold prStep; split <;> simp [ih]
theorem prL_shr {p s : Int} {a : List Bool} (gs : List S61) : okL p s gs → (∀ i : Int, 0 ≤ i → i < gs.length → atB a i = true → ∀ x, uses (atG gs i) x → atB a x = true) →
    Shr p s gs (prL a gs).1 (atI (prL a gs).2) (fun i => atB a i = true) := by
  refine snoc_ind (P := fun gs => okL p s gs → (∀ i : Int, 0 ≤ i → i < gs.length → atB a i = true → ∀ x, uses (atG gs i) x → atB a x = true) → Shr p s gs (prL a gs).1 (atI (prL a gs).2) (fun i => atB a i = true)) (fun _ _ => Shr.nil p s _ _) (fun gs g ih h hc => ?_) gs;obtain ⟨h1, h2⟩ := okL_cut h;have hlen := prL_len a gs
  have ht : ∀ (k x : Int), 0 ≤ x → x < gs.length → atI ((prL a gs).2 ++ [k]) x = atI (prL a gs).2 x := fun k x x0 x1 => atI_left (by omega) x0
  have hk : ∀ k : Int, atI ((prL a gs).2 ++ [k]) gs.length = k := fun k => by rw [← hlen]; exact atI_last _ _
  have hc1 : ∀ i : Int, 0 ≤ i → i < gs.length → atB a i = true → ∀ x, uses (atG gs i) x → atB a x = true := fun i i0 i1 hi x hu => hc i i0 (by simp; omega) hi x (by rw [atG_left i1 i0]; exact hu)
  rw [prL_snoc];unfold prStep;rw [hlen]
  split
  · rename_i e
    refine (ih h1 hc1).stay h2 (ht _) (hk _) (fun x hu => hc gs.length (by omega) (by simp; omega) e x ?_) e;rw [atG_last]; exact hu
  · rename_i e
    exact (ih h1 hc1).other h2 (ht _) fun he => absurd he e
end Go.Proofs.Ytmlbliggbkfjnaa.L
/- The program's way to leave out gates that are alike comes to the reference's. -/
namespace Go.Proofs.Ytmlbliggbkfjnaa.L
open Go.RowKit Go.Proofs.YtmlbliggbkfjnaaW.PrintWords Go.Proofs.Ytmlbliggbkfjnaa.J
def mvStep (st : Int → Bool) (t : Int → Int) (z : List S61 × List Int) (g : S61) : List S61 × List Int :=
  if st z.2.length = true then (z.1 ++ [rnf (fun x => atI z.2 (t x)) g], z.2 ++ [(z.1.length : Int)]) else (z.1, z.2 ++ [0])
def mvL (st : Int → Bool) (t : Int → Int) (gs : List S61) : List S61 × List Int := gs.foldl (mvStep st t) ([], [])
theorem mvL_snoc (st : Int → Bool) (t : Int → Int) (gs : List S61) (g : S61) : mvL st t (gs ++ [g]) = mvStep st t (mvL st t gs) g := by simp [mvL, List.foldl_append]
theorem mvL_len (st : Int → Bool) (t : Int → Int) (gs : List S61) : (mvL st t gs).2.length = gs.length := by
  refine snoc_ind (P := fun gs => (mvL st t gs).2.length = gs.length) rfl (fun gs g ih => ?_) gs;rw [mvL_snoc]; unfold mvStep; split <;> simp [ih]
end Go.Proofs.Ytmlbliggbkfjnaa.L
/- Both tests of a prime answer alike, and what they answer; loops. -/
namespace Go.Proofs.Ytmlbliggbkfjnaa.L
open Go.RowKit Go.Proofs.YtmlbliggbkfjnaaW.PrintWords Go.Proofs.Ytmlbliggbkfjnaa.J
theorem u64_small {n : Int} (h0 : 0 ≤ n) (h1 : n < 18446744073709551616) : IntKind.u64.wrap n = n := by
  simp [IntKind.wrap, IntKind.signed, IntKind.bits]
  omega
theorem w64_small {n : Int} (h0 : -9223372036854775808 ≤ n) (h1 : n < 9223372036854775808) : wrap64 n = n := by
  unfold wrap64
  omega
def free (a : Int) : Prop := ∀ y : Fin 257, 2 ≤ y.val → ((y.val : Int) * (y.val : Int)) ≤ a → a % (y.val : Int) ≠ 0
def isP (a : Int) : Bool := decide (3 ≤ a ∧ a ≤ 65537 ∧ ∀ y : Fin 257, 2 ≤ y.val → ((y.val : Int) * (y.val : Int)) ≤ a → a % (y.val : Int) ≠ 0)
theorem free_of {a : Int} (h : a ≤ 65537) (hf : ∀ y : Fin 257, 2 ≤ y.val → ((y.val : Int) * (y.val : Int)) ≤ a → a % (y.val : Int) ≠ 0) (y : Int) (h2 : 2 ≤ y) (hy : y * y ≤ a) : a % y ≠ 0 := by
  have hb : y < 257 := by
    rcases Int.lt_or_le y 257 with h' | h'
    · exact h'
    · have : 257 * 257 ≤ y * y := Int.mul_le_mul h' h' (by omega) (by omega)
      omega
  have := hf ⟨y.toNat, by omega⟩ (show 2 ≤ y.toNat by omega);simp only at this;rw [show ((y.toNat : Nat) : Int) = y by omega] at this;exact this hy
theorem isP_iff (a : Int) : isP a = true ↔ 3 ≤ a ∧ a ≤ 65537 ∧ ∀ y : Int, 2 ≤ y → y * y ≤ a → a % y ≠ 0 := by
  unfold isP;rw [decide_eq_true_iff]
  constructor
  · rintro ⟨h1, h2, h3⟩
    exact ⟨h1, h2, fun y hy => free_of h2 h3 y hy⟩
  · rintro ⟨h1, h2, h3⟩
    exact ⟨h1, h2, fun y hy hq => h3 y.val (by omega) hq⟩
theorem sq_small {x : Int} (h0 : 0 ≤ x) (h1 : x ≤ 300) : 0 ≤ x * x ∧ x * x ≤ 90000 :=
  ⟨Int.mul_nonneg h0 h0, Int.mul_le_mul h1 h1 h0 (by omega)⟩
theorem ref_loop (a : Int) (h3 : 3 ≤ a) (ha : a ≤ 65537) : ∀ (m : Nat) (x : Int), 2 ≤ x → x + m = 258 → (∀ y : Int, 2 ≤ y → y < x → y * y ≤ a → a % y ≠ 0) → Ev (fun k => qla.l0 k a x) (isP a)
  | 0, x, h2, hx, hy => by
    have hb : isP a = true := (isP_iff a).2 ⟨h3, ha, fun y y2 yq => hy y y2 (by
      rcases Int.lt_or_le y x with h' | h'
      · exact h'
      · have : 257 * 257 ≤ y * y := Int.mul_le_mul (by omega) (by omega) (by omega) (by omega)
        omega) yq⟩
    rw [hb];refine Ev.step (f := fun k => some true) (fun k => ?_) (Ev.now _);have hq := sq_small (x := x) (by omega) (by omega)
    have : ¬ (x * x ≤ a) := by
      have : 257 * 257 ≤ x * x := Int.mul_le_mul (by omega) (by omega) (by omega) (by omega)
      omega
    simp only [qla.l0];rw [u64_small hq.1 (by omega), if_neg this]
  | m + 1, x, h2, hx, hy => by
    have hq := sq_small (x := x) (by omega) (by omega)
    by_cases hle : x * x ≤ a
    · by_cases hd : a % x = 0
      · have hb : isP a = false := by
          rw [Bool.eq_false_iff];intro h';exact ((isP_iff a).1 h').2.2 x h2 hle hd
        rw [hb];refine Ev.step (f := fun k => some false) (fun k => ?_) (Ev.now _);simp only [qla.l0];rw [u64_small hq.1 (by omega), if_pos hle, if_neg (show ¬ x = 0 by omega), if_pos (by rw [Int.tmod_eq_emod_of_nonneg (by omega)]; exact hd)]
      · refine Ev.step (f := fun k => qla.l0 k a (x + 1)) (fun k => ?_) (ref_loop a h3 ha m (x + 1) (by omega) (by omega) fun y y2 yx yq => ?_)
        · conv => lhs; simp only [qla.l0]
          rw [u64_small hq.1 (by omega), if_pos hle, if_neg (show ¬ x = 0 by omega), if_neg (by rw [Int.tmod_eq_emod_of_nonneg (by omega)]; exact hd), u64_small (show 0 ≤ x + 1 by omega) (by omega)]
        · rcases Int.lt_or_le y x with h' | h'
          · exact hy y y2 h' yq
          · obtain rfl : y = x := by omega
            exact hd
    · have hb : isP a = true := (isP_iff a).2 ⟨h3, ha, fun y y2 yq => hy y y2 (by
        rcases Int.lt_or_le y x with h' | h'
        · exact h'
        · have : x * x ≤ y * y := Int.mul_le_mul h' h' (by omega) (by omega)
          omega) yq⟩
      rw [hb];refine Ev.step (f := fun k => some true) (fun k => ?_) (Ev.now _);simp only [qla.l0];rw [u64_small hq.1 (by omega), if_neg hle]
theorem odd_loop (a : Int) (h3 : 3 ≤ a) (ha : a ≤ 65537) (hodd : a % 2 = 1) : ∀ (m : Nat) (x : Int), 3 ≤ x → x % 2 = 1 → x + 2 * m = 259 → (∀ y : Int, 2 ≤ y → y < x → y * y ≤ a → a % y ≠ 0) → Ev (fun k => qpa.l0 k a x) (isP a)
  | 0, x, h2, hxo, hx, hy => by
    have hb : isP a = true := (isP_iff a).2 ⟨h3, ha, fun y y2 yq => hy y y2 (by
      rcases Int.lt_or_le y x with h' | h'
      · exact h'
      · have : 257 * 257 ≤ y * y := Int.mul_le_mul (by omega) (by omega) (by omega) (by omega)
        omega) yq⟩
    rw [hb];refine Ev.step (f := fun k => some true) (fun k => ?_) (Ev.now _);have hq := sq_small (x := x) (by omega) (by omega)
    have : ¬ (x * x ≤ a) := by
      have : 257 * 257 ≤ x * x := Int.mul_le_mul (by omega) (by omega) (by omega) (by omega)
      omega
    simp only [qpa.l0];rw [u64_small hq.1 (by omega), if_neg this]
  | m + 1, x, h2, hxo, hx, hy => by
    have hq := sq_small (x := x) (by omega) (by omega)
    by_cases hle : x * x ≤ a
    · by_cases hd : a % x = 0
      · have hb : isP a = false := by
          rw [Bool.eq_false_iff];intro h';exact ((isP_iff a).1 h').2.2 x (by omega) hle hd
        rw [hb];refine Ev.step (f := fun k => some false) (fun k => ?_) (Ev.now _);simp only [qpa.l0];rw [u64_small hq.1 (by omega), if_pos hle, if_neg (show ¬ x = 0 by omega), if_pos (by rw [Int.tmod_eq_emod_of_nonneg (by omega)]; exact hd)]
      · refine Ev.step (f := fun k => qpa.l0 k a (x + 2)) (fun k => ?_) (odd_loop a h3 ha hodd m (x + 2) (by omega) (by omega) (by omega) fun y y2 yx yq => ?_)
        · conv => lhs; simp only [qpa.l0]
          rw [u64_small hq.1 (by omega), if_pos hle, if_neg (show ¬ x = 0 by omega), if_neg (by rw [Int.tmod_eq_emod_of_nonneg (by omega)]; exact hd), u64_small (show 0 ≤ x + 2 by omega) (by omega)]
        · rcases Int.lt_or_le y x with h' | h'
          · exact hy y y2 h' yq
          · rcases Int.lt_or_le x y with h'' | h''
            · obtain rfl : y = x + 1 := by omega
              intro h0;have h1 : (2 : Int) ∣ a := Int.dvd_trans (Int.dvd_of_emod_eq_zero (by omega)) (Int.dvd_of_emod_eq_zero h0);have := Int.emod_eq_zero_of_dvd h1
              omega
            · obtain rfl : y = x := by omega
              exact hd
    · have hb : isP a = true := (isP_iff a).2 ⟨h3, ha, fun y y2 yq => hy y y2 (by
        rcases Int.lt_or_le y x with h' | h'
        · exact h'
        · have : x * x ≤ y * y := Int.mul_le_mul h' h' (by omega) (by omega)
          omega) yq⟩
      rw [hb];refine Ev.step (f := fun k => some true) (fun k => ?_) (Ev.now _);simp only [qpa.l0];rw [u64_small hq.1 (by omega), if_neg hle]
theorem not_isP {a : Int} (h : ¬ (3 ≤ a ∧ a ≤ 65537)) : isP a = false := by
  rw [Bool.eq_false_iff];intro h';have := (isP_iff a).1 h';exact h ⟨this.1, this.2.1⟩
theorem ref_is (a : Int) : Ev (fun k => qla.f k a) (isP a) := by
  by_cases h3 : a < 3
  · rw [not_isP (by omega)]
    refine Ev.step (f := fun k => some false) (fun k => ?_) (Ev.now _);simp [qla.f, qla.j0, h3]
  · by_cases hb : a > 65537
    · rw [not_isP (by omega)]
      refine Ev.step (f := fun k => some false) (fun k => ?_) (Ev.now _);simp [qla.f, qla.j0, h3, hb]
    · refine Ev.step (f := fun k => qla.l0 k a 2) (fun k => ?_) (ref_loop a (by omega) (by omega) 256 2 (by omega) (by omega) fun y y2 yx => by omega)
      simp [qla.f, qla.j0, h3, hb]
theorem field_is (a : Int) : Ev (fun k => qpa.f k a) (isP a) := by
  by_cases h3 : a < 3
  · rw [not_isP (by omega)]
    refine Ev.step (f := fun k => some false) (fun k => ?_) (Ev.now _);simp [qpa.f, qpa.j0, h3]
  · by_cases hb : a > 65537
    · rw [not_isP (by omega)]
      refine Ev.step (f := fun k => some false) (fun k => ?_) (Ev.now _);simp [qpa.f, qpa.j0, h3, hb]
    · by_cases ho : a % 2 = 0
      · have hp : isP a = false := by
          rw [Bool.eq_false_iff];intro h';exact ((isP_iff a).1 h').2.2 2 (by omega) (by omega) ho
        rw [hp];refine Ev.step (f := fun k => some false) (fun k => ?_) (Ev.now _)
        have ht : Int.tmod a 2 = 0 := by rw [Int.tmod_eq_emod_of_nonneg (by omega)]; exact ho
        simp [qpa.f, qpa.j0, h3, hb, ht]
      · refine Ev.step (f := fun k => qpa.l0 k a 3) (fun k => ?_) (odd_loop a (by omega) (by omega) (by omega) 128 3 (by omega) (by omega) (by omega) fun y y2 yx yq => ?_)
        · have ht : ¬ Int.tmod a 2 = 0 := by rw [Int.tmod_eq_emod_of_nonneg (by omega)]; exact ho
          simp [qpa.f, qpa.j0, h3, hb, ht]
        · obtain rfl : y = 2 := by omega
          exact ho
theorem Ev.fuel {α : Type} {g : Nat → Option α} {r : α} (n : Nat) (h : ∀ k, g (k + n) = some r) : Ev g r :=
  ⟨n, fun k hk => by obtain ⟨m, rfl⟩ := Nat.exists_eq_add_of_le hk; rw [Nat.add_comm]; exact h m⟩
theorem Ev.steps {α : Type} {g f : Nat → Option α} {r : α} (n : Nat) (h : ∀ k, g (k + n) = f k) (hf : Ev f r) : Ev g r := by
  obtain ⟨K, hK⟩ := hf;exact ⟨K + n, fun k hk => by obtain ⟨m, rfl⟩ := Nat.exists_eq_add_of_le hk; rw [show K + n + m = (K + m) + n by omega, h]; exact hK _ (by omega)⟩
theorem up {α : Type} {g : Nat → Nat → Option α} {R : Nat → α} {n : Nat} (last : Ev (fun k => g k n) (R n)) (step : ∀ i, i < n → Ev (fun k => g k (i + 1)) (R (i + 1)) → Ev (fun k => g k i) (R i)) : ∀ m i : Nat, i + m = n → Ev (fun k => g k i) (R i)
  | 0, i, h => by obtain rfl : i = n := by omega
                  exact last
  | m + 1, i, h => step i (by omega) (up last step m (i + 1) (by omega))
theorem up0 {α : Type} {g : Nat → Nat → Option α} {R : Nat → α} {n : Nat} (last : Ev (fun k => g k n) (R n)) (step : ∀ i, i < n → Ev (fun k => g k (i + 1)) (R (i + 1)) → Ev (fun k => g k i) (R i)) : Ev (fun k => g k 0) (R 0) := up last step n 0 (by omega)
theorem wadd {i : Nat} (h : i < 9223372036854775807) : wrap64 ((i : Int) + 1) = ((i + 1 : Nat) : Int) := by rw [w64_small (by omega) (by omega)]; omega
theorem u64_wf {n : Int} (h : (Lit.int .u64 n).wf = true) : 0 ≤ n ∧ n < 18446744073709551616 := by
  simp [Lit.wf, IntKind.min, IntKind.max, IntKind.signed, IntKind.bits] at h
  omega
end Go.Proofs.Ytmlbliggbkfjnaa.L
