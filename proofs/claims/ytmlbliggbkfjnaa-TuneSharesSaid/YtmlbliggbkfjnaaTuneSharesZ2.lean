/- Part 2 of the proof of TuneShares: what the functions compute as plain Lean functions, that the machine comes to just these answers, and that the answer is true; no conditions. -/
import Derived.Test.YtmlbliggbkfjnaaTuneSharesZ0
import Derived.Test.YtmlbliggbkfjnaaTuneSharesZ1
import Derived.Laws.EntriesVeiled
import Derived.RangeFuncRecord
import Derived.RangeFuncBox
import Derived.RangeFuncCalls
import Derived.Shelf.Abstract
set_option linter.unusedSimpArgs false
set_option linter.unusedVariables false
set_option maxHeartbeats 8000000
set_option maxRecDepth 100000
namespace Go.Proofs.Ytmlbliggbkfjnaa.J
open Go.RowKit Go.Proofs.YtmlbliggbkfjnaaW.PrintWords Go.Proofs.YtmlbliggbkfjnaaW.PrintLast Go.Proofs.YtmlbliggbkfjnaaW.PrintMore
attribute [local go_sem] max2_int min2_int max_two min_two max_three min_three max_four min_four
theorem blk_ne3 {w : World} {b g t : Nat} {c1 c2 : Array Value} (h1 : w.heap[b]? = some (.cells c1 3 (0, 0))) (h2 : w.heap[g]? = some (.cells c2 t (0, 0))) (ht : t ≠ 3) : g ≠ b := by
 rintro rfl;rw [h1] at h2
 injection h2 with h2
 injection h2 with _ h2
 exact ht h2.symm
theorem cell_far2 {w : World} {p : Addr} {g : Nat} {u v x : Value} (h : w.cell? p = some x) (hp : p.block ≠ g) : ((w.setCell ⟨g, 0, none⟩ u).setCell ⟨g, 1, none⟩ v).cell? p = some x := by
 rw [← h];unfold World.cell?;rw [Below.heap_setCell _ _ _ _ hp, Below.heap_setCell _ _ _ _ hp]
theorem exits_len (xs : List S66) (i : Int) (a b : List Int) (h0 : 0 ≤ i) (hi : i < xs.length) : ((rd_T66 (xs.set i.toNat ⟨a, b⟩) i).f1).length = b.length := by
 unfold rd_T66;rw [List.getD_eq_getElem?_getD, List.getElem?_set_self (by omega)]
 rfl
mutual
def tune_moved.l1 (tto : Int → Option Int) : Nat → List Int → Int → Int → List (S64) → List (S61) → List (S66) → Option ((List (S64)) × (List (S61)) × (List (S66)))
 | 0, _, _, _, _, _, _ => none
 | k + 1, x8, x77, x78, a, b, cur => if x78 < x77 then (if 0 ≤ x78 then (if x78 < (cur.length : Int) then (tune_moved.l2 tto k x8 x77 x78 (((rd_T66 cur x78).f1).length : Int) 0 a b cur) else (none)) else (none)) else (some (a, b, cur))
def tune_moved.l2 (tto : Int → Option Int) : Nat → List Int → Int → Int → Int → Int → List (S64) → List (S61) → List (S66) → Option ((List (S64)) × (List (S61)) × (List (S66)))
 | 0, _, _, _, _, _, _, _, _ => none
 | k + 1, x8, x77, x78, x84, x85, a, b, cur => if x85 < x84 then (if 0 ≤ x85 then (if x85 < (((rd_T66 cur x78).f1).length : Int) then ((tto (rd ((rd_T66 cur x78).f1) x85)).bind fun aa => (if 0 ≤ aa then (if aa < (x8.length : Int) then (tune_moved.l2 tto k x8 x77 x78 x84 (wrap64 (x85 + 1)) a b (cur.set x78.toNat ⟨(rd_T66 cur x78).f0, ((rd_T66 cur x78).f1).set x85.toNat (rd x8 aa)⟩)) else (none)) else (none))) else (none)) else (none)) else (tune_moved.l1 tto k x8 x77 (wrap64 (x78 + 1)) a b cur)
end
mutual
def tune_moved.l0 (st : Int → Int → Int → Int → Int → Option Bool) (tto : Int → Option Int) : Nat → List Int → List (S61) → Int → Int → List (S64) → List (S61) → List (S66) → Option ((List (S64)) × (List (S61)) × (List (S66)))
 | 0, _, _, _, _, _, _, _ => none
 | k + 1, x8, x23, x24, x25, ae, aa, ab => if x25 < x24 then (if 0 ≤ x25 then (if x25 < (x23.length : Int) then ((st x25 ((rd_T61 x23 x25).f0) ((rd_T61 x23 x25).f1) ((rd_T61 x23 x25).f2) ((rd_T61 x23 x25).f3)).bind fun al => (if al = true then (if ((rd_T61 x23 x25).f0) = 1 then (tune_moved.j1 st tto k x8 x25 x23 x24 x25 false ae aa ab ((rd_T61 x23 x25).f0) ((rd_T61 x23 x25).f1) ((rd_T61 x23 x25).f2) ((rd_T61 x23 x25).f3)) else (tune_moved.j1 st tto k x8 x25 x23 x24 x25 (((rd_T61 x23 x25).f0) != 2) ae aa ab ((rd_T61 x23 x25).f0) ((rd_T61 x23 x25).f1) ((rd_T61 x23 x25).f2) ((rd_T61 x23 x25).f3))) else (tune_moved.l0 st tto k x8 x23 x24 (wrap64 (x25 + 1)) ae aa ab))) else (none)) else (none)) else (tune_moved.l1 tto k x8 (ab.length : Int) 0 ae aa ab)
def tune_moved.j1 (st : Int → Int → Int → Int → Int → Option Bool) (tto : Int → Option Int) : Nat → List Int → Int → List (S61) → Int → Int → Bool → List (S64) → List (S61) → List (S66) → Int → Int → Int → Int → Option ((List (S64)) × (List (S61)) × (List (S66)))
 | 0, _, _, _, _, _, _, _, _, _, _, _, _, _ => none
 | k + 1, x8, x9, x23, x24, x25, x42, ae, aa, ab, af, ai, ag, ah => if x42 = true then ((tto ai).bind fun aj => (if 0 ≤ aj then (if aj < (x8.length : Int) then (if af = 6 then (if 0 ≤ x9 then (if x9 < (x8.length : Int) then (if aa.length < 4398046511104 then (tune_moved.l0 st tto k (x8.set (x9 : Int).toNat (aa.length : Int)) x23 x24 (wrap64 (x25 + 1)) ae (aa ++ [(⟨af, rd x8 aj, ag, ah⟩ : S61)]) ab) else (none)) else (none)) else (none)) else ((tto ag).bind fun ak => (if 0 ≤ ak then (if ak < (x8.length : Int) then (if 0 ≤ x9 then (if x9 < (x8.length : Int) then (if aa.length < 4398046511104 then (tune_moved.l0 st tto k (x8.set (x9 : Int).toNat (aa.length : Int)) x23 x24 (wrap64 (x25 + 1)) ae (aa ++ [(⟨af, rd x8 aj, rd x8 ak, ah⟩ : S61)]) ab) else (none)) else (none)) else (none)) else (none)) else (none)))) else (none)) else (none))) else (if 0 ≤ x9 then (if x9 < (x8.length : Int) then (if aa.length < 4398046511104 then (tune_moved.l0 st tto k (x8.set (x9 : Int).toNat (aa.length : Int)) x23 x24 (wrap64 (x25 + 1)) ae (aa ++ [(⟨af, ai, ag, ah⟩ : S61)]) ab) else (none)) else (none)) else (none))
end
def tune_moved.f (st : Int → Int → Int → Int → Int → Option Bool) (tto : Int → Option Int) (k : Nat) (ae : List (S64)) (aa : List (S61)) (af : List (S66)) : Option ((List (S64)) × (List (S61)) × (List (S66))) := (tune_Own.f k ae aa af).bind fun ab => (if 0 ≤ (aa.length : Int) then (if ((aa.length : Int) : Int).toNat ≤ 35184372088832 then (tune_moved.l0 st tto k (List.replicate ((aa.length : Int) : Int).toNat 0) aa (aa.length : Int) 0 ab.1 ([] : List (S61)) ab.2.2) else (none)) else (none))
theorem tune_moved.mono_x (tto : Int → Option Int) : ∀ k, (∀ y0 y1 y2 y3 y4 y5, LeO (tune_moved.l1 tto k y0 y1 y2 y3 y4 y5) (tune_moved.l1 tto (k + 1) y0 y1 y2 y3 y4 y5)) ∧ (∀ y0 y1 y2 y3 y4 y5 y6 y7, LeO (tune_moved.l2 tto k y0 y1 y2 y3 y4 y5 y6 y7) (tune_moved.l2 tto (k + 1) y0 y1 y2 y3 y4 y5 y6 y7))
 | 0 => ⟨fun _ _ _ _ _ _ r h => by simp [tune_moved.l1] at h, fun _ _ _ _ _ _ _ _ r h => by simp [tune_moved.l2] at h⟩
 | k + 1 => by
  obtain ⟨ih1, ih2⟩ := tune_moved.mono_x tto k;refine ⟨?_, ?_⟩
  ·intro y0 y1 y2 y3 y4 y5
   unfold tune_moved.l1
   repeat' first
   | (with_reducible exact ih1 _ _ _ _ _ _)
   | (with_reducible exact ih2 _ _ _ _ _ _ _ _)
   | (with_reducible exact LeO.refl _)
   | (with_reducible exact LeO.none _)
   | (with_reducible refine LeO.ite ?_ ?_)
   | (with_reducible refine LeO.bind ?_ (fun _ => ?_))
   | exact ih1 _ _ _ _ _ _
   | exact ih2 _ _ _ _ _ _ _ _
   | exact LeO.none _
   | refine LeO.ite ?_ ?_
   | refine LeO.bind ?_ (fun _ => ?_)
  ·intro y0 y1 y2 y3 y4 y5 y6 y7
   unfold tune_moved.l2
   repeat' first
   | (with_reducible exact ih1 _ _ _ _ _ _)
   | (with_reducible exact ih2 _ _ _ _ _ _ _ _)
   | (with_reducible exact LeO.refl _)
   | (with_reducible exact LeO.none _)
   | (with_reducible refine LeO.ite ?_ ?_)
   | (with_reducible refine LeO.bind ?_ (fun _ => ?_))
   | exact ih1 _ _ _ _ _ _
   | exact ih2 _ _ _ _ _ _ _ _
   | exact LeO.none _
   | refine LeO.ite ?_ ?_
   | refine LeO.bind ?_ (fun _ => ?_)
theorem tune_moved.mono_l (st : Int → Int → Int → Int → Int → Option Bool) (tto : Int → Option Int) : ∀ k, (∀ y0 y1 y2 y3 y4 y5 y6, LeO (tune_moved.l0 st tto k y0 y1 y2 y3 y4 y5 y6) (tune_moved.l0 st tto (k + 1) y0 y1 y2 y3 y4 y5 y6)) ∧ (∀ y0 y1 y2 y3 y4 y5 y6 y7 y8 y9 y10 y11 y12, LeO (tune_moved.j1 st tto k y0 y1 y2 y3 y4 y5 y6 y7 y8 y9 y10 y11 y12) (tune_moved.j1 st tto (k + 1) y0 y1 y2 y3 y4 y5 y6 y7 y8 y9 y10 y11 y12))
 | 0 => ⟨fun _ _ _ _ _ _ _ r h => by simp [tune_moved.l0] at h, fun _ _ _ _ _ _ _ _ _ _ _ _ _ r h => by simp [tune_moved.j1] at h⟩
 | k + 1 => by
  obtain ⟨ih0, ih1⟩ := tune_moved.mono_l st tto k;obtain ⟨ih2, _⟩ := tune_moved.mono_x tto k;refine ⟨?_, ?_⟩
  ·intro y0 y1 y2 y3 y4 y5 y6
   unfold tune_moved.l0
   repeat' first
   | (with_reducible exact ih0 _ _ _ _ _ _ _)
   | (with_reducible exact ih1 _ _ _ _ _ _ _ _ _ _ _ _ _)
   | (with_reducible exact ih2 _ _ _ _ _ _)
   | (with_reducible exact LeO.refl _)
   | (with_reducible exact LeO.none _)
   | (with_reducible refine LeO.ite ?_ ?_)
   | (with_reducible refine LeO.bind ?_ (fun _ => ?_))
   | exact ih0 _ _ _ _ _ _ _
   | exact ih1 _ _ _ _ _ _ _ _ _ _ _ _ _
   | exact ih2 _ _ _ _ _ _
   | exact LeO.none _
   | refine LeO.ite ?_ ?_
   | refine LeO.bind ?_ (fun _ => ?_)
  ·intro y0 y1 y2 y3 y4 y5 y6 y7 y8 y9 y10 y11 y12
   unfold tune_moved.j1
   repeat' first
   | (with_reducible exact ih0 _ _ _ _ _ _ _)
   | (with_reducible exact ih1 _ _ _ _ _ _ _ _ _ _ _ _ _)
   | (with_reducible exact ih2 _ _ _ _ _ _)
   | (with_reducible exact LeO.refl _)
   | (with_reducible exact LeO.none _)
   | (with_reducible refine LeO.ite ?_ ?_)
   | (with_reducible refine LeO.bind ?_ (fun _ => ?_))
   | exact ih0 _ _ _ _ _ _ _
   | exact ih1 _ _ _ _ _ _ _ _ _ _ _ _ _
   | exact ih2 _ _ _ _ _ _
   | exact LeO.none _
   | refine LeO.ite ?_ ?_
   | refine LeO.bind ?_ (fun _ => ?_)
theorem tune_moved.mono (st : Int → Int → Int → Int → Int → Option Bool) (tto : Int → Option Int) : ∀ a0 a1 a2 k, LeO (tune_moved.f st tto k a0 a1 a2) (tune_moved.f st tto (k + 1) a0 a1 a2) := by
 intro a0 a1 a2 k;obtain ⟨ih0, ih1⟩ := tune_moved.mono_l st tto k;unfold tune_moved.f
 repeat' first
   | (with_reducible exact ih0 _ _ _ _ _ _ _)
   | (with_reducible exact ih1 _ _ _ _ _ _ _ _ _ _ _ _ _)
   | (with_reducible exact tune_Own.mono _ _ _ _)
   | (with_reducible exact LeO.refl _)
   | (with_reducible exact LeO.none _)
   | (with_reducible refine LeO.ite ?_ ?_)
   | (with_reducible refine LeO.bind ?_ (fun _ => ?_))
   | exact ih0 _ _ _ _ _ _ _
   | exact ih1 _ _ _ _ _ _ _ _ _ _ _ _ _
   | exact tune_Own.mono _ _ _ _
   | exact LeO.none _
   | refine LeO.ite ?_ ?_
   | refine LeO.bind ?_ (fun _ => ?_)
def tune_moved.T21 : Bool × List (List Nat × List Nat) := (true, [([], []), ([0], [0]), ([], []), ([], []), ([], []), ([], []), ([4, 5], [4, 5]), ([3, 6], [3, 6]), ([7], [7]), ([1, 2, 0, 1, 2, 3, 4, 5, 6, 7, 8], [1, 2]), ([9, 8, 6, 0, 1, 2, 3, 4, 5, 6, 7, 8], [8, 9])])
def tune_moved.B21 : List Nat := [0, 1, 0, 0, 0, 0, 48, 120, 248, 511, 1023]
theorem tune_moved.tab21 : rtab .any (opsOf Try.f45 21) = tune_moved.T21 := by kernel_rfl
theorem tune_moved.bits21 : waitsOk tune_moved.T21.2 tune_moved.B21 = true := by kernel_rfl
theorem tune_moved.calls (st : Int → Int → Int → Int → Int → Option Bool) (tto : Int → Option Int) (fs ft : FuncId) (LS LT : Array Value) (k : Nat) (bl : Option Addr) (bm : Nat) (ba : List (S64)) (bD : Option Addr) (bn : Nat) (ag : List (S61)) (bo : Option Addr) (bp : Nat) (bb : List (S66)) (r1 : List (S64)) (r2 : List (S61)) (r3 : List (S66)) (w : World) (cI : Kd.C k64 w bl ba.length ba) (cJ : ba.length ≤ bm) (cK : Kd.C k61 w bD ag.length ag) (cL : ag.length ≤ bn) (cM : Kd.C k66 w bo bb.length bb) (cN : bb.length ≤ bp) (hES : ∀ args w, (callFunc fs args).run Try.prog w = .ok (.enter fs args) w) (hET : ∀ args w, (callFunc ft args).run Try.prog w = .ok (.enter ft args) w)
  (hST : ∀ (a b c d e : Int) (r : Bool) (W : World), Below w.heap.size w W → st a b c d e = some r → Calls Try.prog fs (#[.int .i64 a, .agg #[.int .i64 b, .int .i64 c, .int .i64 d, .int .u64 e]] ++ LS) W fun e_ w' => e_ = .returned (.bool r) ∧ Below W.heap.size W w')
  (hTO : ∀ (a r : Int) (W : World), Below w.heap.size w W → tto a = some r → Calls Try.prog ft (#[.int .i64 a] ++ LT) W fun e_ w' => e_ = .returned (.int .i64 r) ∧ Below W.heap.size W w')
  (h : tune_moved.f st tto k ba ag bb = some (r1, r2, r3)) :
  Calls Try.prog 45 #[.agg #[.slice bl ba.length bm, .slice bD ag.length bn, .slice bo bb.length bp], .func (.func fs) #[] LS, .func (.func ft) #[] LT] w fun e w' => ∃ v0_ v1_ v2_ : Value, e = .returned (.agg #[v0_, v1_, v2_]) ∧ Kd.R k64 64 w' w.heap.size (fun _ => True) v0_ r1 ∧ Kd.R k61 61 w' w.heap.size (fun _ => True) v1_ r2 ∧ Kd.S k66t 66 w' w.heap.size (fun _ => True) v2_ r3 ∧ Below w.heap.size w w' := by
 have HES := Aside0.mk hES;have HET := Aside0.mk hET;have HST := Aside0.mk hST;have HTO := Aside0.mk hTO;clear hES hET hST hTO;have hu26 := Try.underlying26;have hu61 := Try.underlying61;have hu66 := Try.underlying66;have dt := Aside0.mk cI;have du := Aside0.mk cJ;clear cI cJ;have cm := Aside0.mk cK;have dv := Aside0.mk cL;clear cK cL;have dw := Aside0.mk cM;have dx := Aside0.mk cN;clear cM cN;have HB := Aside0.mk (Below.refl w.heap.size w);have H : ((tune_Own.f k ba ag bb).bind fun cO => (if 0 ≤ (ag.length : Int) then (if ((ag.length : Int) : Int).toNat ≤ 35184372088832 then (tune_moved.l0 st tto k (List.replicate ((ag.length : Int) : Int).toNat 0) ag (ag.length : Int) 0 cO.1 ([] : List (S61)) cO.2.2) else (none)) else (none))) = some (r1, r2, r3) := h;clear h;replace H := Option.bind_eq_some_iff.mp H;obtain ⟨⟨av, ei, au⟩, A20, H⟩ := H;(try dsimp only at H);have A2 := Aside0.mk A20;clear A20
 by_cases c3 : 0 ≤ (ag.length : Int)
 rotate_left
 ·rw [if_neg c3] at H
  exact absurd H (by simp)
 rw [if_pos c3] at H;have ej := eq_true c3;have ek := decide_eq_true c3;clear c3
 by_cases c4 : ((ag.length : Int) : Int).toNat ≤ 35184372088832
 rotate_left
 ·rw [if_neg c4] at H
  exact absurd H (by simp)
 rw [if_pos c4] at H;have el := eq_true c4;have em := decide_eq_true c4;clear c4;obtain ⟨dy, bI⟩ : ∃ y_ : List Int, y_ = (List.replicate ((ag.length : Int) : Int).toNat 0) := ⟨_, rfl⟩
 replace H : (tune_moved.l0 st tto k dy ag (ag.length : Int) 0 av ([] : List (S61)) au) = some (r1, r2, r3) := by first | (rw [bI]; with_reducible exact H) | (have H2_ := (Option.bind_some _ _).symm.trans H; rw [bI]; with_reducible exact H2_) | (have H2_ := (Option.bind_some _ _).symm.trans H; with_reducible exact H2_) | with_reducible exact H | (rw [bI]; exact H) | exact H
 have cP := Aside0.mk bI;clear bI;have H' := Aside0.mk H;clear H;go_enter Try.func45, Try.ntmps45;go_wp2_with (first | ((with_reducible refine qea (N := 3) rfl ?_); refine box_event ?hg (N := 3) ?hd (cs := #[.slice bl ba.length bm, .slice bD ag.length bn, .slice bo bb.length bp]) (t := 26) ?hr ?_; (case hd => rfl); (case hg => rfl); (case hr => first | (go_simp; done) | (go_simp; rfl)); intro bj hg w5 hbox hb; have aj := am hbox; have fu := kG HB hg; have fv := kG HB hg; replace HB := kH HB hb; clear hb hbox hg) | ((with_reducible refine qea (N := 6) rfl ?_); refine box_event ?hg (N := 6) ?hd (cs := #[.slice none 0 0, .slice none 0 0, .slice none 0 0]) (t := 26) ?hr ?_; (case hd => rfl); (case hg => rfl); (case hr => first | (go_simp; done) | (go_simp; rfl)); intro aJ hg w6 hbox hb; have ak := am hbox; have fw := kG HB hg; have fx := kG HB hg; replace HB := kH HB hb; have bu := kP aj hg; have bv := kQ aj hg; replace aj := kU aj hb; clear hb hbox hg; have gJ := bu.out; have gK := bv.out; have Z8 := kz3 aj) | ((with_reducible refine gate_callee (f := 38) rfl ?_); refine goesL_ (some 16) rfl rfl Try.func38 (by kernel_rfl) rfl #[.agg #[.slice bl ba.length bm, .slice bD ag.length bn, .slice bo bb.length bp]] rfl (by (try simp only [qM1, qM2, qM3]); first | done | rfl) ?_; (with_reducible refine (tune_Own.callsT k _ _ ba _ _ ag _ _ bb av ei au _ ?side1 ?side2 ?side3 ?side4 ?side5 ?side6 A2.out).mono ?_); (case side1 => repeat (first | exact (Kd.C_below dt.out HB.out) | (with_reducible first | refine Kd.C_alloc ?_ _ | refine Kd.C_drewN ?_ _ | refine Kd.C_drew ?_))); (case side2 => exact du.out); (case side3 => repeat (first | exact (Kd.C_below cm.out HB.out) | (with_reducible first | refine Kd.C_alloc ?_ _ | refine Kd.C_drewN ?_ _ | refine Kd.C_drew ?_))); (case side4 => exact dv.out); (case side5 => repeat (first | exact (Kd.C_below dw.out HB.out) | (with_reducible first | refine Kd.C_alloc ?_ _ | refine Kd.C_drewN ?_ _ | refine Kd.C_drew ?_))); (case side6 => exact dx.out); rintro e w9 ⟨gL, gM, gN, rfl, ho0, ho1, ho2, hb⟩; refine ⟨_, rfl, ?_⟩; have bw := kLR ho0 HB; have bJ := kLR ho1 HB; have bx := kLS ho2 HB; replace aj := kU aj hb; replace ak := kU ak hb; replace HB := kH HB hb; (try clear hb); (try clear hb2); (try clear hk); (try clear hi); (try clear ho0); (try clear ho1); (try clear ho2)) | ((with_reducible refine qea (N := 7) rfl ?_); refine box_event ?hg (N := 7) ?hd (cs := #[.slice none 0 0, .slice none 0 0, .slice none 0 0]) (t := 26) ?hr ?_; (case hd => rfl); (case hg => rfl); (case hr => first | (go_simp; done) | (go_simp; rfl)); intro aA hg w10 hbox hb; replace bw := kR bw hb; replace bJ := kR bJ hb; replace bx := kS bx hb; have ai := am hbox; have fy := kG HB hg; have fz := kG HB hg; replace HB := kH HB hb; have aK := kP aj hg; have aM := kQ aj hg; replace aj := kU aj hb; have aN := kP ak hg; have aQ := kQ ak hg; replace ak := kU ak hb; clear hb hbox hg; obtain ⟨aW, aX, en⟩ := Kd.R_slice bw.out; subst en; have fA := aM.out; have fB := aK.out; have fC := aQ.out; have fD := aN.out; have Z14 := kz3 ai; obtain ⟨gO, gP, eo⟩ := Kd.R_slice bJ.out; subst eo; obtain ⟨bi, aY, ep⟩ := Kd.S_slice bx.out; subst ep; have Z17 := kz3 aj) | ((with_reducible refine qea (N := 21) rfl ?_); refine Kd.R_make (Kd.int .i64) _ 3 rfl (N := 21) rfl 27 _ _ rfl (ag.length : Int) rfl rfl Try.underlying27 (.int .i64 0) 8 info3 rfl (by decide) (by omega) 0 (ok := fun _ => True) (okp := fun _ => True) rfl (fun _ hk => hk) trivial od (Nat.le_trans (Nat.mul_le_mul_right _ (od : (ag.length : Int).toNat ≤ 35184372088832)) (by omega)) (Below.refl _ _) (Nat.le_refl _) ?_; intro bK w18 ho19 hb hg_ hnew_; clear hg_ hnew_; (first | rw [← cP.out] at ho19 | (simp only [Int.reduceToNat] at ho19; rw [← cP.out] at ho19)); replace bw := Aside0.mk (Kd.R_below (kt bw ai) hb); replace bJ := Aside0.mk (Kd.R_below (kt bJ ai) hb); replace bx := Aside0.mk (Kd.S_elder' (ks bx ai) (Kd.R_base ho19) hb); have dz := kLR ho19 HB; replace aj := kU aj hb; replace ak := kU ak hb; replace ai := kO (o' := .cells #[.slice aW av.length aX, .slice none 0 0, .slice bi au.length aY] 26 (0, 0)) ai hb; replace HB := kH HB hb; clear hb ho19; have Z20 := kz3 aj));go_loopg [25] k (fun kq v25 w' => ∃ (al : List Int) (ab : Int) (ah : List (S61)) (ar : Value), v25 = .int .i64 ab ∧ Aside0 (tune_moved.l0 st tto kq al ag (ag.length : Int) ab av ah au = some (r1, r2, r3)) ∧ Aside0 (kq ≤ k) ∧ Aside0 (Kd.R (Kd.int .i64) 3 w' w.heap.size (fun _ => True) bK al) ∧ Aside0 (Kd.R k64 64 w' w.heap.size (fun _ => True) (.slice aW av.length aX) av) ∧ Aside0 (Kd.R k61 61 w' w.heap.size (fun _ => True) ar ah) ∧ Aside0 (Kd.S k66t 66 w' w.heap.size (fun k_ => some k_ ≠ (bK : Value).ownBlock) (.slice bi au.length aY) au) ∧ Aside0 (w'.heap[bj]? = some (.cells #[(.slice bl ba.length bm), (.slice bD ag.length bn), (.slice bo bb.length bp)] 26 (0, 0))) ∧ Aside0 (w'.heap[aJ]? = some (.cells #[(.slice none 0 0), (.slice none 0 0), (.slice none 0 0)] 26 (0, 0))) ∧ Aside0 (w'.heap[aA]? = some (.cells #[(.slice aW av.length aX), ar, (.slice bi au.length aY)] 26 (0, 0))) ∧ Aside0 (Below w.heap.size w w'))
 case atStart => exact ⟨(dy), (0), (([] : List (S61))), (.slice none 0 0), et, H', ⟨Nat.le_refl _⟩, ⟨krR dz⟩, ⟨krR bw⟩, ⟨by first | exact Kd.R_nil _ _ _ _ _ | exact Kd.N_nil _ _ _ _ _ | exact Kd.V_nil _ _ _ _ _ | exact Kd.Q_nil _ _ _ _ _ | exact Kd.S_nil _ _ _ _ _⟩, ⟨by (with_reducible repeat first | apply Kd.S_alloc | apply Kd.S_drewN | apply Kd.S_drew); exact Kd.S_mono bx.out (fun _ hk => hk.2)⟩, ⟨kg aj⟩, ⟨kg ak⟩, ⟨kg ai⟩, ⟨kh HB⟩⟩
 case round =>
  clear H';(try clear ej ek el em Z14 Z17 Z20 Z8);obtain ⟨al, ab, ah, ar, rfl, HA, HK1, ao, af, aa, ae, aj, ak, ai, HB⟩ := hrel
  cases gk with
  | zero => exact absurd HA.out (by simp [tune_moved.l0])
  | succ k1 =>
   have H := HA.out;clear HA;simp only [tune_moved.l0] at H
   by_cases c21 : ab < (ag.length : Int)
   rotate_left
   ·rw [if_neg c21] at H
    have cn := decide_eq_false c21;clear c21;have H' := Aside0.mk H;clear H;have eq := aM.out;have es := aK.out;have eu := aQ.out;have ev := aN.out;have ew := kz3 ai;go_wp2;go_loopg [78] k1 (fun kq v78 w' => ∃ (aq : Int) (cur : List (S66)), v78 = .int .i64 aq ∧ Aside0 (tune_moved.l1 tto kq al (au.length : Int) aq av ah cur = some (r1, r2, r3)) ∧ Aside0 (cur.length = au.length) ∧ Aside0 (kq ≤ k1) ∧ Aside0 (Kd.R (Kd.int .i64) 3 w' w.heap.size (fun _ => True) bK al) ∧ Aside0 (Kd.R k64 64 w' w.heap.size (fun _ => True) (.slice aW av.length aX) av) ∧ Aside0 (Kd.R k61 61 w' w.heap.size (fun _ => True) ar ah) ∧ Aside0 (Kd.S k66t 66 w' w.heap.size (fun k_ => some k_ ≠ (bK : Value).ownBlock) (.slice bi au.length aY) cur) ∧ Aside0 (w'.heap[bj]? = some (.cells #[.slice bl ba.length bm, .slice bD ag.length bn, .slice bo bb.length bp] 26 (0, 0))) ∧ Aside0 (w'.heap[aJ]? = some (.cells #[.slice none 0 0, .slice none 0 0, .slice none 0 0] 26 (0, 0))) ∧ Aside0 (w'.heap[aA]? = some (.cells #[.slice aW av.length aX, ar, .slice bi au.length aY] 26 (0, 0))) ∧ Aside0 (Below w.heap.size w w'))
    case atStart => exact ⟨(0), au, rfl, H', ⟨rfl⟩, ⟨Nat.le_refl _⟩, ao, af, aa, ae, aj, ak, ai, HB⟩
    case round =>
     clear H';(try clear cn c22 ew);obtain ⟨aq, cur, rfl, HA, HCL, HK2, ao, af, aa, ae, aj, ak, ai, HB⟩ := hrel
     cases gk with
     | zero => exact absurd HA.out (by simp [tune_moved.l1])
     | succ k2 =>
      have H := HA.out;clear HA;simp only [tune_moved.l1] at H
      by_cases bL : aq < (au.length : Int)
      rotate_left
      ·rw [if_neg bL] at H
       have co := decide_eq_false bL;clear bL;simp only [Option.some.injEq, Prod.mk.injEq] at H;obtain ⟨rfl, rfl, rfl⟩ := H;have ex := aM.out;have ey := aK.out;have ez := aQ.out;have eA := aN.out;have gQ := kz3 ai;have eB := bv.out;have eC := bu.out;have gR := kz3 ak;obtain ⟨ci, cj, dA⟩ := Kd.R_slice aa.out;subst dA;go_wp2;refine bodyPost_ret (results_cell_row rfl _ _ aJ 26 #[.slice aW av.length aX, .slice ci ah.length cj, .slice bi au.length aY] (0, 0) _ rfl (kg ak) Try.underlying26 rfl (by kernel_rfl)) rfl ?_;exact ⟨_, _, _, er, by (with_reducible repeat first | apply Kd.R_alloc | apply Kd.R_drewN | apply Kd.R_drew); exact Kd.R_mono (Kd.R_far (p := ⟨aJ, 2, none⟩) (Kd.R_far (p := ⟨aJ, 1, none⟩) (Kd.R_far (p := ⟨aJ, 0, none⟩) (Kd.R_types af.out ak.out (by decide)) (fun _ hk => hk.2) (.slice aW av.length aX)) (fun _ hk => hk.2) (.slice ci ah.length cj)) (fun _ hk => hk.2) (.slice bi au.length aY)) (fun _ hk => trivial), by (with_reducible repeat first | apply Kd.R_alloc | apply Kd.R_drewN | apply Kd.R_drew); exact Kd.R_mono (Kd.R_far (p := ⟨aJ, 2, none⟩) (Kd.R_far (p := ⟨aJ, 1, none⟩) (Kd.R_far (p := ⟨aJ, 0, none⟩) (Kd.R_types aa.out ak.out (by decide)) (fun _ hk => hk.2) (.slice aW av.length aX)) (fun _ hk => hk.2) (.slice ci ah.length cj)) (fun _ hk => hk.2) (.slice bi au.length aY)) (fun _ hk => trivial), by (with_reducible repeat first | apply Kd.S_alloc | apply Kd.S_drewN | apply Kd.S_drew); exact Kd.S_mono (Kd.S_far (p := ⟨aJ, 2, none⟩) (Kd.S_far (p := ⟨aJ, 1, none⟩) (Kd.S_far (p := ⟨aJ, 0, none⟩) (Kd.S_types ae.out ak.out (by decide)) (fun _ hk => hk.2) (.slice aW av.length aX)) (fun _ hk => hk.2) (.slice ci ah.length cj)) (fun _ hk => hk.2) (.slice bi au.length aY)) (fun _ hk => trivial), kh HB⟩
      rw [if_pos bL] at H;have co := decide_eq_true bL
      by_cases cp : 0 ≤ aq
      rotate_left
      ·rw [if_neg cp] at H
       exact absurd H (by simp)
      rw [if_pos cp] at H;have cY := decide_eq_true cp
      have cZ : aq < (cur.length : Int) := by rw [HCL.out]; exact bL
      rw [if_pos cZ] at H;have HP := Aside0.mk cp;have HQ := Aside0.mk bL;have HQ2 := Aside0.mk cZ;clear bL cp cZ;have H' := Aside0.mk H;clear H;obtain ⟨bh, bc, bd, bk, be, eD, br, bg, cz, hi312_0, cA, hi312_1⟩ := at_T66 (k66t_C (Kd.S_reads' ae.out).2.2) aq HP.out HQ2.out;cases eD;clear cz hi312_0 cA hi312_1;have eE := eq_true HP.out;have eF := eq_true HQ.out;have HXC := Aside0.mk bg;have HLT_ := Aside0.mk (World.block_lt_of_cell? wr _ bg);go_wp2_with (first | ((with_reducible refine qea (N := 12) rfl ?_); refine box_event ?hg (N := 12) ?hd (cs := #[.slice none 0 0, .slice none 0 0]) (t := 66) ?hr ?_; (case hd => rfl); (case hg => rfl); (case hr => first | (go_simp; done) | (go_simp; rfl)); intro ax hg dB hbox hb; have n0_ := Aside0.mk (Kd.R_below ao.out hb); have n2_ := Aside0.mk (Kd.R_below af.out hb); have n3_ := Aside0.mk (Kd.R_below aa.out hb); have n4_ := Aside0.mk (Kd.S_below (Kd.S_elderB ae.out ax (Nat.le_of_eq hg.symm)) hb); have n7_ := Aside0.mk (blk_below (g := bj) (o := .cells #[.slice bl ba.length bm, .slice bD ag.length bn, .slice bo bb.length bp] 26 (0, 0)) aj.out hb); have n8_ := Aside0.mk (blk_below (g := aJ) (o := .cells #[.slice none 0 0, .slice none 0 0, .slice none 0 0] 26 (0, 0)) ak.out hb); have n9_ := Aside0.mk (blk_below (g := aA) (o := .cells #[.slice aW av.length aX, ar, .slice (some bh) au.length aY] 26 (0, 0)) ai.out hb); have n10_ := Aside0.mk ((hb.cell (World.block_lt_of_cell? _ _ HXC.out)).trans HXC.out); have n11_ := Aside0.mk (below_step HB.out hb); have n12_ := Aside0.mk (show (⟨(bh.add (aq.toNat * 2)).block, (bh.add (aq.toNat * 2)).off + 1, none⟩ : Addr).block ≠ ax from by rw [hg]; exact Nat.ne_of_lt HLT_.out); have g0_ := Aside0.mk ((by rw [hg]; exact below_size HB.out) : w.heap.size ≤ ax); have g1_ := Aside0.mk ((by rw [hg]; exact Nat.ne_of_lt (blk_lt aj.out)) : bj ≠ ax); have g2_ := Aside0.mk ((by rw [hg]; exact Nat.ne_of_lt (blk_lt ak.out)) : aJ ≠ ax); have g3_ := Aside0.mk ((by rw [hg]; exact Nat.ne_of_lt (blk_lt ai.out)) : aA ≠ ax); have b0_ := Aside0.mk hbox; replace br := (hb.cell (World.block_lt_of_cell? _ _ br)).trans br; replace bg := (hb.cell (World.block_lt_of_cell? _ _ bg)).trans bg; clear ao af aa ae aj ak ai HXC HB; have ao := n0_; have af := n2_; have aa := n3_; have ae := n4_; have aj := n7_; have ak := n8_; have ai := n9_; have HXC := n10_; have HB := n11_; have HXN := n12_; have dC := g0_; have bz := g1_; have bA := g2_; have bB := g3_; have ay := b0_; clear n0_ n2_ n3_ n4_ n7_ n8_ n9_ n10_ n11_ n12_ g0_ g1_ g2_ g3_ b0_ hg hbox hb; have dn : dB.cell? ⟨ax, 0, none⟩ = some (.slice none 0 0) := kk ay 0; have dp := blk_frozen ay.out 0; have dq : dB.cell? ⟨ax, 1, none⟩ = some (.slice none 0 0) := kk ay 1; have dr := blk_frozen ay.out 1));go_loopg [85] k2 (fun kq v85 w' => ∃ (aw : Int) (cur2 : List (S66)), v85 = .int .i64 aw ∧ Aside0 (tune_moved.l2 tto kq al (au.length : Int) aq (((rd_T66 cur aq).f1).length : Int) aw av ah cur2 = some (r1, r2, r3)) ∧ Aside0 (cur2.length = au.length) ∧ Aside0 (((rd_T66 cur2 aq).f1).length = ((rd_T66 cur aq).f1).length) ∧ Aside0 (kq ≤ k2) ∧ Aside0 (Kd.R (Kd.int .i64) 3 w' w.heap.size (fun _ => True) bK al) ∧ Aside0 (Kd.R k64 64 w' w.heap.size (fun _ => True) (.slice aW av.length aX) av) ∧ Aside0 (Kd.R k61 61 w' w.heap.size (fun _ => True) ar ah) ∧ Aside0 (Kd.S k66t 66 w' w.heap.size (fun k_ => some k_ ≠ (bK : Value).ownBlock ∧ k_ ≠ ax) (.slice (some bh) au.length aY) cur2) ∧ Aside0 (w'.heap[bj]? = some (.cells #[.slice bl ba.length bm, .slice bD ag.length bn, .slice bo bb.length bp] 26 (0, 0))) ∧ Aside0 (w'.heap[aJ]? = some (.cells #[.slice none 0 0, .slice none 0 0, .slice none 0 0] 26 (0, 0))) ∧ Aside0 (w'.heap[aA]? = some (.cells #[.slice aW av.length aX, ar, .slice (some bh) au.length aY] 26 (0, 0))) ∧ Aside0 (w'.heap[ax]? = some (.cells #[(.slice bc ((rd_T66 cur aq).f0).length bd), (.slice bk ((rd_T66 cur aq).f1).length be)] 66 (0, 0))) ∧ Aside0 (w'.cell? ⟨(bh.add (aq.toNat * 2)).block, (bh.add (aq.toNat * 2)).off + 1, none⟩ = some (.slice bk ((rd_T66 cur aq).f1).length be)) ∧ Aside0 (Below w.heap.size w w'))
      case atStart => exact ⟨(0), cur, rfl, H', HCL, ⟨rfl⟩, ⟨Nat.le_refl _⟩, ⟨Kd.R_mono (Kd.R_far (p := ⟨ax, 1, none⟩) (Kd.R_far (p := ⟨ax, 0, none⟩) (Kd.R_types ao.out ay.out (by decide)) (fun _ hk => hk.2) (.slice bc ((rd_T66 cur aq).f0).length bd)) (fun _ hk => hk.2) (.slice bk ((rd_T66 cur aq).f1).length be)) (fun _ hk => trivial)⟩, ⟨Kd.R_mono (Kd.R_far (p := ⟨ax, 1, none⟩) (Kd.R_far (p := ⟨ax, 0, none⟩) (Kd.R_types af.out ay.out (by decide)) (fun _ hk => hk.2) (.slice bc ((rd_T66 cur aq).f0).length bd)) (fun _ hk => hk.2) (.slice bk ((rd_T66 cur aq).f1).length be)) (fun _ hk => trivial)⟩, ⟨Kd.R_mono (Kd.R_far (p := ⟨ax, 1, none⟩) (Kd.R_far (p := ⟨ax, 0, none⟩) (Kd.R_types aa.out ay.out (by decide)) (fun _ hk => hk.2) (.slice bc ((rd_T66 cur aq).f0).length bd)) (fun _ hk => hk.2) (.slice bk ((rd_T66 cur aq).f1).length be)) (fun _ hk => trivial)⟩, ⟨Kd.S_mono (Kd.S_far (p := ⟨ax, 1, none⟩) (Kd.S_far (p := ⟨ax, 0, none⟩) (Kd.S_mono ae.out (fun k_ hk => (⟨hk, hk.2⟩ : _ ∧ k_ ≠ ax))) (fun _ hk => hk.2) (.slice bc ((rd_T66 cur aq).f0).length bd)) (fun _ hk => hk.2) (.slice bk ((rd_T66 cur aq).f1).length be)) (fun _ hk => hk.1)⟩, ⟨blk_far (blk_far aj.out bz.out _) bz.out _⟩, ⟨blk_far (blk_far ak.out bA.out _) bA.out _⟩, ⟨blk_far (blk_far ai.out bB.out _) bB.out _⟩, ⟨blk_put (cs := #[.slice bc ((rd_T66 cur aq).f0).length bd, .slice none 0 0]) (blk_put (cs := #[.slice none 0 0, .slice none 0 0]) ay.out 0 _ rfl) 1 _ rfl⟩, ⟨cell_far2 HXC.out HXN.out⟩, ⟨by repeat (first | (with_reducible first | exact HB.out | refine below_set ?_ dC.out) | exact HB.out)⟩⟩
      case round =>
       clear H';(try clear co cY br bg eE eF);obtain ⟨aw, cur2, rfl, HA, HCL2, HGL, HK3, ao, af, aa, ae, aj, ak, ai, ay, HXC, HB⟩ := hrel
       cases gk with
       | zero => exact absurd HA.out (by simp [tune_moved.l2])
       | succ k3 =>
        have H := HA.out;clear HA;simp only [tune_moved.l2] at H
        by_cases bM : aw < (((rd_T66 cur aq).f1).length : Int)
        rotate_left
        ·rw [if_neg bM] at H
         have da := decide_eq_false bM;clear bM;have H' := Aside0.mk H;clear H;go_wp2;go_roundg k3
         case measure => have := HK1.out; have := HK2.out; have := HK3.out; omega
         case rel => exact ⟨(wrap64 (aq + 1)), cur2, et, H', HCL2, ⟨by have := HK1.out; have := HK2.out; have := HK3.out; omega⟩, ao, af, aa, ⟨Kd.S_mono ae.out (fun _ hk => hk.1)⟩, aj, ak, ai, HB⟩
        rw [if_pos bM] at H;have da := decide_eq_true bM
        by_cases cq : 0 ≤ aw
        rotate_left
        ·rw [if_neg cq] at H
         exact absurd H (by simp)
        rw [if_pos cq] at H
        have db : aw < (((rd_T66 cur2 aq).f1).length : Int) := by rw [HGL.out]; exact bM
        rw [if_pos db] at H;have HP3 := Aside0.mk cq;have HQ3 := Aside0.mk db;have gS := eq_true cq;have gT := eq_true bM;clear bM cq db;replace H := Option.bind_eq_some_iff.mp H;obtain ⟨bf, cQ, H⟩ := H;(try dsimp only at H);have eG := Aside0.mk cQ;clear cQ
        by_cases cr : 0 ≤ bf
        rotate_left
        ·rw [if_neg cr] at H
         exact absurd H (by simp)
        rw [if_pos cr] at H
        by_cases ct : bf < (al.length : Int)
        rotate_left
        ·rw [if_neg ct] at H
         exact absurd H (by simp)
        rw [if_pos ct] at H;have HP5 := Aside0.mk cr;have HQ5 := Aside0.mk ct;have gU := eq_true cr;have gV := eq_true ct;clear cr ct;have H' := Aside0.mk H;clear H;obtain ⟨bq, eH, hn314, hx314, hf314, hb314, hlt314, hok314, hce314, hpt314⟩ := exits_put ae.out aq HP.out HQ.out HXC.out aw HP3.out HQ3.out;cases eH;clear hn314 hf314 hb314 hlt314 hok314 hce314 hpt314;(try go_wp2);clear hx314;have n0_ := Aside0.mk (Kd.R_drew ao.out);have n2_ := Aside0.mk (Kd.R_drew af.out);have n3_ := Aside0.mk (Kd.R_drew aa.out);have n4_ := Aside0.mk (Kd.S_drew ae.out);have n5_ := Aside0.mk (blk_drew aj.out);have n6_ := Aside0.mk (blk_drew ak.out);have n7_ := Aside0.mk (blk_drew ai.out);have n8_ := Aside0.mk (blk_drew ay.out);have n10_ : Aside0 (wr.drew.cell? ⟨(bh.add (aq.toNat * 2)).block, (bh.add (aq.toNat * 2)).off + 1, none⟩ = _) := Aside0.mk HXC.out;have n11_ := Aside0.mk (below_drew1 HB.out);clear ao af aa ae aj ak ai ay HXC HB; have ao := n0_; have af := n2_; have aa := n3_; have ae := n4_; have aj := n5_; have ak := n6_; have ai := n7_; have ay := n8_; have HXC := n10_; have HB := n11_; clear n0_ n2_ n3_ n4_ n5_ n6_ n7_ n8_ n10_ n11_;obtain ⟨fE, fF, cR⟩ := Kd.R_slice ao.out;(first | subst cR | (injection cR with f1_ f2_ f3_; have f4_ := f1_.symm; have f5_ := f3_.symm; clear f1_ f2_ f3_; subst f4_; subst f5_));obtain ⟨dD, eI, bE⟩ := Kd.at_int (Kd.R_reads' ao.out).2.2 bf HP5.out HQ5.out;cases eI;refine start_ (n := 11) (S := fun w' => w'.cell? ⟨ax, 0, none⟩ = some (.slice bc ((rd_T66 cur aq).f0).length bd) ∧ w'.cell? ⟨ax, 1, none⟩ = some (.slice (some ⟨bq, 0, none⟩) ((rd_T66 cur aq).f1).length be) ∧ w'.cell? (dD.add (bf).toNat) = some (.int .i64 (rd al bf))) (ds := [10]) (bs 11 0) (by kernel_rfl) rfl rfl ⟨kk ay 0, kk ay 1, bE⟩ (fun hHeld => ?_); refine with_tabW tune_moved.tab21 tune_moved.bits21 (fun HT_ HW_ => ?_);generalize wr.drew = gW at ao af aa ae aj ak ai ay HXC HB bE hHeld ⊢;refine pu 0 (some 90) (bs 11 1) HT_ ?_;refine pu 2 (some 92) (bs 11 5) HT_ ?_;refine pu 3 (some 93) (bs 11 13) HT_ ?_;refine pu 4 (some 94) (bs 11 29) HT_ ?_;refine pu 5 (some 95) (bs 11 61) HT_ ?_;refine ta 1 (some 91) (bs 11 63) HT_ HW_ hHeld ?_;refine one_ (i := 6) (N := some 96) (bs 11 127) rfl rfl (one_of HT_.out (by kernel_rfl)) (by decide) (fun K hK => ?_);refine api_Slot_78.goesT_ HET.out #[.int .i64 (rd ((rd_T66 cur2 aq).f1) aw)] (by rfl) rfl rfl rfl (by (try simp only [qM1, qM2, qM3]); first | done | rfl) ?_;(with_reducible refine (HTO.out (rd ((rd_T66 cur2 aq).f1) aw) bf _ HB.out eG.out).mono ?_);rintro e cB ⟨rfl, hb⟩;have HS2_ := (hb.cell (World.block_lt_of_cell? _ _ (hHeld.2.2))).trans (hHeld.2.2);refine ⟨_, rfl, ?_⟩;replace ao := Aside0.mk (Kd.R_below ao.out hb); replace af := Aside0.mk (Kd.R_below af.out hb); replace aa := Aside0.mk (Kd.R_below aa.out hb); replace ae := Aside0.mk (Kd.S_below ae.out hb); replace aj := Aside0.mk (blk_below (g := bj) (o := .cells #[.slice bl ba.length bm, .slice bD ag.length bn, .slice bo bb.length bp] 26 (0, 0)) aj.out hb); replace ak := Aside0.mk (blk_below (g := aJ) (o := .cells #[.slice none 0 0, .slice none 0 0, .slice none 0 0] 26 (0, 0)) ak.out hb); replace ai := Aside0.mk (blk_below (g := aA) (o := .cells #[.slice aW av.length aX, ar, .slice (some bh) au.length aY] 26 (0, 0)) ai.out hb); replace ay := Aside0.mk (blk_below (g := ax) (o := .cells #[.slice bc ((rd_T66 cur aq).f0).length bd, .slice (some ⟨bq, 0, none⟩) ((rd_T66 cur aq).f1).length be] 66 (0, 0)) ay.out hb); replace HXC := Aside0.mk ((hb.cell (World.block_lt_of_cell? _ _ HXC.out)).trans HXC.out); replace HB := Aside0.mk (below_step HB.out hb);obtain ⟨fG, fH, cS⟩ := Kd.R_slice ao.out;(first | subst cS | (injection cS with f1_ f2_ f3_; have f4_ := f1_.symm; have f5_ := f3_.symm; clear f1_ f2_ f3_; subst f4_; subst f5_));refine hK.out _ _ ⟨kk ay 0, kk ay 1, HS2_⟩ (fun hHeld => ?_);clear hK K;refine no (some 96) ?_;refine pu 7 (some 97) (bs 11 255) HT_ ?_;refine ta 8 (some 98) (bs 11 511) HT_ HW_ hHeld ?_;refine pu 9 (some 99) (bs 11 1023) HT_ ?_;obtain ⟨b_, e_, hn_, hx314, hf314, hb314, hlt314, hok314, hce314, hpt314⟩ := exits_put ae.out aq HP.out HQ.out HXC.out aw HP3.out HQ3.out;cases e_;have HPT := Aside0.mk hpt314;have HCE := Aside0.mk hce314;have HOK := Aside0.mk hok314;have HBB := Aside0.mk hb314;clear hpt314 hce314 hok314 hb314 hn_;refine last_ (i := 10) (N := none) (bs 11 2047) rfl rfl (one_of HT_.out (by kernel_rfl)) (by decide) (fun K hK => ?_);refine skip_ (w1 := ?_) (by rfl) rfl ?_ ?_
        rotate_left
        ·go_simp
         rfl
        refine hK.out _ _ ?_;clear hK K hx314 hf314;refine done_ (done_of HT_.out (by kernel_rfl)) ?_;obtain ⟨cb_, hcb_⟩ := HCE.out;have n0_ : Aside0 (Kd.R (Kd.int .i64) 3 (cB.setCell ⟨bq, aw.toNat, none⟩ (.int .i64 (rd al bf))) w.heap.size (fun _ => True) _ al) := ⟨Kd.R_mono (Kd.R_far (p := ⟨bq, aw.toNat, none⟩) (Kd.R_far1 ao.out rfl (g := bq) HOK.out.1) (fun _ hk => hk.2) _) (fun _ hk => hk.1)⟩;have n2_ : Aside0 (Kd.R k64 64 (cB.setCell ⟨bq, aw.toNat, none⟩ (.int .i64 (rd al bf))) w.heap.size (fun _ => True) _ av) := ⟨Kd.R_set af.out hcb_ (by decide) aw.toNat _⟩;have n3_ : Aside0 (Kd.R k61 61 (cB.setCell ⟨bq, aw.toNat, none⟩ (.int .i64 (rd al bf))) w.heap.size (fun _ => True) _ ah) := ⟨Kd.R_set aa.out hcb_ (by decide) aw.toNat _⟩;have n4_ := Aside0.mk (HPT.out (rd al bf)).1;have n5_ := Aside0.mk (blk_far (p := ⟨bq, aw.toNat, none⟩) aj.out (blk_ne3 hcb_ aj.out (by decide)) (.int .i64 (rd al bf)));have n6_ := Aside0.mk (blk_far (p := ⟨bq, aw.toNat, none⟩) ak.out (blk_ne3 hcb_ ak.out (by decide)) (.int .i64 (rd al bf)));have n7_ := Aside0.mk (blk_far (p := ⟨bq, aw.toNat, none⟩) ai.out (blk_ne3 hcb_ ai.out (by decide)) (.int .i64 (rd al bf)));have n8_ := Aside0.mk (blk_far (p := ⟨bq, aw.toNat, none⟩) ay.out (blk_ne3 hcb_ ay.out (by decide)) (.int .i64 (rd al bf)));have n10_ := Aside0.mk (HPT.out (rd al bf)).2;have n11_ := Aside0.mk (below_set (j := aw.toNat) (v := .int .i64 (rd al bf)) HB.out HBB.out);clear hcb_ cb_ ao af aa ae aj ak ai ay HXC HB HPT HCE HOK HBB hHeld bE HS2_;generalize (cB.setCell ⟨bq, aw.toNat, none⟩ (.int .i64 (rd al bf))) = gX at n0_ n2_ n3_ n4_ n5_ n6_ n7_ n8_ n10_ n11_ ⊢;(try go_wp2);go_roundg k3
        case measure => have := HK1.out; have := HK2.out; have := HK3.out; omega
        case rel => exact ⟨(wrap64 (aw + 1)), _, et, H', ⟨by rw [List.length_set]; exact HCL2.out⟩, ⟨by rw [exits_len _ _ _ _ HP.out (by rw [HCL2.out]; exact HQ.out), List.length_set]; exact HGL.out⟩, ⟨by have := HK1.out; have := HK2.out; have := HK3.out; omega⟩, n0_, n2_, n3_, n4_, n5_, n6_, n7_, n8_, n10_, n11_⟩
   rw [if_pos c21] at H;have cn := decide_eq_true c21;clear c21
   by_cases c22 : 0 ≤ ab
   rotate_left
   ·rw [if_neg c22] at H
    exact absurd H (by simp)
   rw [if_pos c22] at H;have dE := decide_eq_true c22;clear c22
   by_cases c23 : ab < (ag.length : Int)
   rotate_left
   ·rw [if_neg c23] at H
    exact absurd H (by simp)
   rw [if_pos c23] at H;have dF := decide_eq_true c23;clear c23;replace H := Option.bind_eq_some_iff.mp H;obtain ⟨eJ, dG, H⟩ := H;(try dsimp only at H);have A24 := Aside0.mk dG;clear dG
   by_cases c25 : eJ = true
   rotate_left
   ·replace c25 := Bool.eq_false_iff.mpr c25
    subst c25;replace H := ifF H;have H' := Aside0.mk H;clear H;have bN : 0 ≤ (ab : Int) := od;have bO : ab < (ag.length : Int) := od;obtain ⟨ck, dc, aR, aT, aU, aV⟩ := at_T61 cm.out ab bN bO;cases dc;replace aR := (HB.out.cell (World.block_lt_of_cell? w _ aR)).trans aR;replace aT := (HB.out.cell (World.block_lt_of_cell? w _ aT)).trans aT;replace aU := (HB.out.cell (World.block_lt_of_cell? w _ aU)).trans aU;replace aV := (HB.out.cell (World.block_lt_of_cell? w _ aV)).trans aV;replace bN := eq_true bN; replace bO := eq_true bO;go_wp2_with (first | ((with_reducible refine qea (N := 10) rfl ?_); refine box_event ?hg (N := 10) ?hd (cs := #[.int .i64 0, .int .i64 0, .int .i64 0, .int .u64 0]) (t := 61) ?hr ?_; (case hd => rfl); (case hg => rfl); (case hr => first | (go_simp; done) | (go_simp; rfl)); intro ap hg gY hbox hb; replace ao := kR ao hb; replace af := kR af hb; replace aa := Aside0.mk (Kd.R_below (Kd.R_elderB (krR aa) ap (Nat.le_of_eq hg.symm)) hb); replace ae := kS ae hb; have an := am hbox; have dH := kG HB hg; have dI := kG HB hg; replace HB := kH HB hb; have aC := kP aj hg; have aD := kQ aj hg; replace aj := kU aj hb; have aE := kP ak hg; have aG := kQ ak hg; replace ak := kU ak hb; have aH := kP ai hg; have aI := kQ ai hg; replace ai := kU ai hb; clear hb hbox hg; have eK := aD.out; have eL := aC.out; have eM := aG.out; have eN := aE.out; have eO := aI.out; have eP := aH.out; have gZ := kz4 an) | ((with_reducible refine qea (N := 33) rfl ?_); refine api_Slot_78.goesT (some 33) rfl rfl HES.out #[.int .i64 ab, .agg #[.int .i64 ((rd_T61 ag ab).f0), .int .i64 ((rd_T61 ag ab).f1), .int .i64 ((rd_T61 ag ab).f2), .int .u64 ((rd_T61 ag ab).f3)]] rfl rfl (by (try simp only [qM1, qM2, qM3]); first | done | rfl) ?_; (with_reducible refine (HST.out ab ((rd_T61 ag ab).f0) ((rd_T61 ag ab).f1) ((rd_T61 ag ab).f2) ((rd_T61 ag ab).f3) false _ (kh HB) A24.out).mono ?_); rintro e ha ⟨rfl, hb⟩; refine ⟨_, rfl, ?_⟩; replace ao := Aside0.mk (Kd.R_below (kt ao an) hb); replace af := Aside0.mk (Kd.R_below (kt af an) hb); replace aa := Aside0.mk (Kd.R_below (by (with_reducible repeat first | apply Kd.R_alloc | apply Kd.R_drewN | apply Kd.R_drew); exact (Kd.R_mono (Kd.R_far (p := ⟨ap, 3, none⟩) (Kd.R_far (p := ⟨ap, 2, none⟩) (Kd.R_far (p := ⟨ap, 1, none⟩) (Kd.R_far (p := ⟨ap, 0, none⟩) (Kd.R_mono aa.out (fun k_ hk => (⟨hk, hk.2⟩ : _ ∧ k_ ≠ ap))) (fun _ hk => hk.2) (.int .i64 ((rd_T61 ag ab).f0))) (fun _ hk => hk.2) (.int .i64 ((rd_T61 ag ab).f1))) (fun _ hk => hk.2) (.int .i64 ((rd_T61 ag ab).f2))) (fun _ hk => hk.2) (.int .u64 ((rd_T61 ag ab).f3))) (fun _ h_ => h_.1))) hb); replace ae := Aside0.mk (Kd.S_below (ks ae an) hb); replace aj := kU aj hb; replace ak := kU ak hb; replace ai := kU ai hb; replace an := kO (o' := .cells #[.int .i64 ((rd_T61 ag ab).f0), .int .i64 ((rd_T61 ag ab).f1), .int .i64 ((rd_T61 ag ab).f2), .int .u64 ((rd_T61 ag ab).f3)] 61 (0, 0)) an hb; replace HB := kH HB hb; (try clear hb); (try clear hb2); (try clear hk); (try clear hi)));go_roundg k1
    case measure => have := HK1.out; omega
    case rel => exact ⟨(al), (wrap64 (ab + 1)), (ah), (ar), et, H', ⟨by have := HK1.out; omega⟩, ⟨krR ao⟩, ⟨krR af⟩, ⟨by (with_reducible repeat first | apply Kd.R_alloc | apply Kd.R_drewN | apply Kd.R_drew); exact Kd.R_mono aa.out (fun _ hk => trivial)⟩, ⟨krS ae⟩, ⟨kg aj⟩, ⟨kg ak⟩, ⟨kg ai⟩, ⟨kh HB⟩⟩
   subst c25;replace H := ifT H;have dd := Aside0.mk H;clear H;have bN : 0 ≤ (ab : Int) := od;have bO : ab < (ag.length : Int) := od;obtain ⟨ck, dc, aR, aT, aU, aV⟩ := at_T61 cm.out ab bN bO;cases dc;replace aR := (HB.out.cell (World.block_lt_of_cell? w _ aR)).trans aR;replace aT := (HB.out.cell (World.block_lt_of_cell? w _ aT)).trans aT;replace aU := (HB.out.cell (World.block_lt_of_cell? w _ aU)).trans aU;replace aV := (HB.out.cell (World.block_lt_of_cell? w _ aV)).trans aV;replace bN := eq_true bN; replace bO := eq_true bO;go_upto_region 8 with (first | ((with_reducible refine qea (N := 10) rfl ?_); refine box_event ?hg (N := 10) ?hd (cs := #[.int .i64 0, .int .i64 0, .int .i64 0, .int .u64 0]) (t := 61) ?hr ?_; (case hd => rfl); (case hg => rfl); (case hr => first | (go_simp; done) | (go_simp; rfl)); intro ap hg w27 hbox hb; replace ao := kR ao hb; replace af := kR af hb; replace aa := Aside0.mk (Kd.R_below (Kd.R_elderB (krR aa) ap (Nat.le_of_eq hg.symm)) hb); replace ae := kS ae hb; have an := am hbox; have dH := kG HB hg; have dI := kG HB hg; replace HB := kH HB hb; have aC := kP aj hg; have aD := kQ aj hg; replace aj := kU aj hb; have aE := kP ak hg; have aG := kQ ak hg; replace ak := kU ak hb; have aH := kP ai hg; have aI := kQ ai hg; replace ai := kU ai hb; clear hb hbox hg; have fI := aD.out; have fJ := aC.out; have fK := aG.out; have fL := aE.out; have fM := aI.out; have fN := aH.out; have Z31 := kz4 an) | ((with_reducible refine qea (N := 33) rfl ?_); refine api_Slot_78.goesT (some 33) rfl rfl HES.out #[.int .i64 ab, .agg #[.int .i64 ((rd_T61 ag ab).f0), .int .i64 ((rd_T61 ag ab).f1), .int .i64 ((rd_T61 ag ab).f2), .int .u64 ((rd_T61 ag ab).f3)]] rfl rfl (by (try simp only [qM1, qM2, qM3]); first | done | rfl) ?_; (with_reducible refine (HST.out ab ((rd_T61 ag ab).f0) ((rd_T61 ag ab).f1) ((rd_T61 ag ab).f2) ((rd_T61 ag ab).f3) true _ (kh HB) A24.out).mono ?_); rintro e w32 ⟨rfl, hb⟩; refine ⟨_, rfl, ?_⟩; replace ao := Aside0.mk (Kd.R_below (kt ao an) hb); replace af := Aside0.mk (Kd.R_below (kt af an) hb); replace aa := Aside0.mk (Kd.R_below (by (with_reducible repeat first | apply Kd.R_alloc | apply Kd.R_drewN | apply Kd.R_drew); exact (Kd.R_mono (Kd.R_far (p := ⟨ap, 3, none⟩) (Kd.R_far (p := ⟨ap, 2, none⟩) (Kd.R_far (p := ⟨ap, 1, none⟩) (Kd.R_far (p := ⟨ap, 0, none⟩) (Kd.R_mono aa.out (fun k_ hk => (⟨hk, hk.2⟩ : _ ∧ k_ ≠ ap))) (fun _ hk => hk.2) (.int .i64 ((rd_T61 ag ab).f0))) (fun _ hk => hk.2) (.int .i64 ((rd_T61 ag ab).f1))) (fun _ hk => hk.2) (.int .i64 ((rd_T61 ag ab).f2))) (fun _ hk => hk.2) (.int .u64 ((rd_T61 ag ab).f3))) (fun _ h_ => h_.1))) hb); replace ae := Aside0.mk (Kd.S_below (ks ae an) hb); replace aj := kU aj hb; replace ak := kU ak hb; replace ai := kU ai hb; replace an := kO (o' := .cells #[.int .i64 ((rd_T61 ag ab).f0), .int .i64 ((rd_T61 ag ab).f1), .int .i64 ((rd_T61 ag ab).f2), .int .u64 ((rd_T61 ag ab).f3)] 61 (0, 0)) an hb; replace HB := kH HB hb; (try clear hb); (try clear hb2); (try clear hk); (try clear hi)));(try simp only [Act.put, qS1, qS2, qS3]);go_cut [42] (fun v42 wc => ∃ (kq : Nat) (bF : Bool), v42 = .bool bF ∧ Aside0 (tune_moved.j1 st tto kq al ab ag (ag.length : Int) ab bF av ah au ((rd_T61 ag ab).f0) ((rd_T61 ag ab).f1) ((rd_T61 ag ab).f2) ((rd_T61 ag ab).f3) = some (r1, r2, r3)) ∧ Aside0 (kq ≤ k1) ∧ Aside0 (Kd.R (Kd.int .i64) 3 wc w.heap.size (fun _ => True) bK al) ∧ Aside0 (Kd.R k64 64 wc w.heap.size (fun _ => True) (.slice aW av.length aX) av) ∧ Aside0 (Kd.R k61 61 wc w.heap.size (fun k_ => k_ ≠ ap) ar ah) ∧ Aside0 (Kd.S k66t 66 wc w.heap.size (fun k_ => some k_ ≠ (bK : Value).ownBlock) (.slice bi au.length aY) au) ∧ Aside0 (wc.heap[bj]? = some (.cells #[(.slice bl ba.length bm), (.slice (some ck) ag.length bn), (.slice bo bb.length bp)] 26 (0, 0))) ∧ Aside0 (wc.heap[aJ]? = some (.cells #[(.slice none 0 0), (.slice none 0 0), (.slice none 0 0)] 26 (0, 0))) ∧ Aside0 (wc.heap[aA]? = some (.cells #[(.slice aW av.length aX), ar, (.slice bi au.length aY)] 26 (0, 0))) ∧ Aside0 (wc.heap[ap]? = some (.cells #[.int .i64 ((rd_T61 ag ab).f0), .int .i64 ((rd_T61 ag ab).f1), .int .i64 ((rd_T61 ag ab).f2), .int .u64 ((rd_T61 ag ab).f3)] 61 (0, 0))) ∧ Aside0 (Below w.heap.size w wc))
   case first =>
    have H := dd.out;clear dd
    by_cases c33 : ((rd_T61 ag ab).f0) = 1
    rotate_left
    ·rw [if_neg c33] at H
     have bP := beq_eq_false_iff_ne.mpr c33;have dJ := bne_iff_ne.mpr c33;(first | rw [bP] | (simp only [i64_w, i32_w]; rw [bP]) | skip);have H' := Aside0.mk H;clear H;have fO := aD.out;have fP := aC.out;have fQ := aG.out;have fR := aE.out;have fS := aI.out;have fT := aH.out;have Z41 := kz4 an;go_wp2;go_meet
     case rel => exact ⟨_, ((((rd_T61 ag ab).f0) != 2)), et, H', ⟨by have := HK1.out; first | omega | exact Nat.le_refl _⟩, ⟨krR ao⟩, ⟨krR af⟩, ⟨by (with_reducible repeat first | apply Kd.R_alloc | apply Kd.R_drewN | apply Kd.R_drew); exact Kd.R_mono aa.out (fun _ hk => hk.2)⟩, ⟨krS ae⟩, ⟨kg aj⟩, ⟨kg ak⟩, ⟨kg ai⟩, ⟨kg an⟩, ⟨kh HB⟩⟩
    rw [if_pos c33] at H;have bP := beq_iff_eq.mpr c33;have dJ := bne_eq_false_iff_eq.mpr c33;clear c33;(first | rw [bP] | (simp only [i64_w, i32_w]; rw [bP]) | skip);have H' := Aside0.mk H;clear H;have fU := aD.out;have fV := aC.out;have fW := aG.out;have fX := aE.out;have fY := aI.out;have fZ := aH.out;have Z37 := kz4 an;go_wp2;go_meet
    case rel => exact ⟨_, (false), et, H', ⟨by have := HK1.out; first | omega | exact Nat.le_refl _⟩, ⟨krR ao⟩, ⟨krR af⟩, ⟨by (with_reducible repeat first | apply Kd.R_alloc | apply Kd.R_drewN | apply Kd.R_drew); exact Kd.R_mono aa.out (fun _ hk => hk.2)⟩, ⟨krS ae⟩, ⟨kg aj⟩, ⟨kg ak⟩, ⟨kg ai⟩, ⟨kg an⟩, ⟨kh HB⟩⟩
   clear dd;(try clear cn dE dF c25 Z31 aR aT aU aV bN bO);obtain ⟨kq, bF, rfl, HA, cl, ao, af, aa, ae, aj, ak, ai, an, HB⟩ := hcut
   cases kq with
   | zero => exact absurd HA.out (by simp [tune_moved.j1])
   | succ bG =>
    have H := HA.out;clear HA;simp only [tune_moved.j1] at H
    by_cases c42 : bF = true
    rotate_left
    ·replace c42 := Bool.eq_false_iff.mpr c42
     subst c42;replace H := ifF H
     by_cases c99 : 0 ≤ ab
     rotate_left
     ·rw [if_neg c99] at H
      exact absurd H (by simp)
     rw [if_pos c99] at H;have ga := decide_eq_true c99;clear c99
     by_cases cC : ab < (al.length : Int)
     rotate_left
     ·rw [if_neg cC] at H
      exact absurd H (by simp)
     rw [if_pos cC] at H;have eQ := decide_eq_true cC;clear cC;obtain ⟨cD, bQ⟩ : ∃ y_ : List Int, y_ = (al.set (ab : Int).toNat (ah.length : Int)) := ⟨_, rfl⟩
     replace H : (if ah.length < 4398046511104 then (tune_moved.l0 st tto bG cD ag (ag.length : Int) (wrap64 (ab + 1)) av (ah ++ [(⟨((rd_T61 ag ab).f0), ((rd_T61 ag ab).f1), ((rd_T61 ag ab).f2), ((rd_T61 ag ab).f3)⟩ : S61)]) au) else (none)) = some (r1, r2, r3) := by first | (rw [bQ]; with_reducible exact H) | (have H2_ := (Option.bind_some _ _).symm.trans H; rw [bQ]; with_reducible exact H2_) | (have H2_ := (Option.bind_some _ _).symm.trans H; with_reducible exact H2_) | with_reducible exact H | (rw [bQ]; exact H) | exact H
     have dK := Aside0.mk bQ;clear bQ
     by_cases cE : ah.length < 4398046511104
     rotate_left
     ·rw [if_neg cE] at H
      exact absurd H (by simp)
     rw [if_pos cE] at H;have de := Aside0.mk cE;clear cE;obtain ⟨bZ, bR⟩ : ∃ y_ : List (S61), y_ = (ah ++ [(⟨((rd_T61 ag ab).f0), ((rd_T61 ag ab).f1), ((rd_T61 ag ab).f2), ((rd_T61 ag ab).f3)⟩ : S61)]) := ⟨_, rfl⟩
     replace H : (tune_moved.l0 st tto bG cD ag (ag.length : Int) (wrap64 (ab + 1)) av bZ au) = some (r1, r2, r3) := by first | (rw [bR]; with_reducible exact H) | (have H2_ := (Option.bind_some _ _).symm.trans H; rw [bR]; with_reducible exact H2_) | (have H2_ := (Option.bind_some _ _).symm.trans H; with_reducible exact H2_) | with_reducible exact H | (rw [bR]; exact H) | exact H
     have dL := Aside0.mk bR;clear bR;have H' := Aside0.mk H;clear H;have eR := aM.out;have eS := aK.out;have eT := aQ.out;have eU := aN.out;have eV := aH.out;have eW := aI.out;have hl := kz3 ai;obtain ⟨dM, dN, dO⟩ := Kd.R_slice aa.out;subst dO;have df : 0 ≤ (ab : Int) := od;have dg : (ab : Int) < ((al.length : Int) : Int) := od;obtain ⟨bt, bS, cT, cU, gl101, cl101, HG101⟩ := Kd.R_form ao.out (by omega);(first | cases cT | (injection cT with ea_ en_ ec_; (first | subst ea_ | (injection ea_ with ea_; subst ea_)); subst ec_; clear en_));have dP := Aside0.mk cU;have gb := Aside0.mk HG101;clear cU gl101 HG101;obtain ⟨eg, eh⟩ := Kd.R_celln 0 ao.out (ab : Int) df dg;replace df := eq_true df; replace dg := eq_true dg;have cu := Kd.R_putg ao.out (ab : Int) (ah.length : Int);go_wp2_with (first | ((with_reducible refine gate_store (t := 3) (p := 67) rfl ?_); refine store_event (t := 3) (p := 67) (v := ?vo_w109) (w1 := (wc.setCell ⟨bt, (ab : Int).toNat, none⟩ (.int .i64 (ah.length : Int)))) ?hg ?ho ?hn ?hr ?_; (case ho => rfl); (case hg => rfl); (case hn => rfl); (case hr => first | (go_simp; done) | (go_simp; rfl)); intro dh hw; have hg : wc.grownBy dh (some bt) := (by rw [hw]; exact cu.2); have hp_ : Kd.R (Kd.int .i64) 3 dh w.heap.size (fun _ => True) (.slice (some ⟨bt, 0, none⟩) al.length bS) cD := (by rw [hw, dK.out]; exact cu.1); clear cu; replace af := Aside0.mk (Kd.R_over' (v := (.slice (some ⟨bt, 0, none⟩) al.length bS)) (krR af) (Kd.R_typed ao.out) (by decide) hg); replace aa := Aside0.mk (Kd.R_over' (v := (.slice (some ⟨bt, 0, none⟩) al.length bS)) (krR aa) (Kd.R_typed ao.out) (by decide) hg); replace ae := Aside0.mk (Kd.S_after (v := (.slice (some ⟨bt, 0, none⟩) al.length bS)) (v1 := (.slice (some ⟨bt, 0, none⟩) al.length bS)) (ok := (fun _ => True)) (by (with_reducible repeat first | apply Kd.S_alloc | apply Kd.S_drewN | apply Kd.S_drew); exact Kd.S_mono ae.out (fun _ hk => ⟨trivial, hk⟩)) hg (.inl rfl)); replace aj := kXR aj ao hg; replace ak := kXR ak ao hg; replace ai := kXR ai ao hg; replace an := kXR an ao hg; replace ao := Aside0.mk (hp_); replace HB := Aside0.mk ((by rw [hw]; exact below_set (HB.out) dP.out : Below w.heap.size w dh)); clear hg hw hp_; have hm := kz3 ai; have eX := aD.out; have eY := aC.out; have eZ := aG.out; have fa := aE.out; have hv := kz4 an) | ((with_reducible refine gate_builtin (b := .append) (xs := #[.tmp 69, .tmp 71]) rfl ?_); at_builtin; refine Kd.R_append k61 (w0 := w) w.heap.size rfl (.tmp 69) (.tmp 71) 23 61 (.agg #[(.int .i64 0), (.int .i64 0), (.int .i64 0), (.int .u64 0)]) 32 rfl Try.underlying23 info61 rfl (by decide) (by omega) (.slice dM ah.length dN) ah (⟨((rd_T61 ag ab).f0), ((rd_T61 ag ab).f1), ((rd_T61 ag ab).f2), ((rd_T61 ag ab).f3)⟩ : S61) [.int .i64 ((rd_T61 ag ab).f0), .int .i64 ((rd_T61 ag ab).f1), .int .i64 ((rd_T61 ag ab).f2), .int .u64 ((rd_T61 ag ab).f3)] (fun k_ => k_ ≠ ap) (fun _ => False) rfl rfl ?aP (fun _ hk => hk.elim) ?aF ?aO ?aB ?aS ?aL ?_; (case aP => exact k61_mkM _ _ _ (⟨((rd_T61 ag ab).f0), ((rd_T61 ag ab).f1), ((rd_T61 ag ab).f2), ((rd_T61 ag ab).f3)⟩ : S61)); (case aB => exact (kh HB)); (case aF => exact (fun k_ hk => Kd.freshB (g := ap) (o := .cells #[.int .i64 ((rd_T61 ag ab).f0), .int .i64 ((rd_T61 ag ab).f1), .int .i64 ((rd_T61 ag ab).f2), .int .u64 ((rd_T61 ag ab).f3)] 61 (0, 0)) (kb an) k_ hk)); (case aO => exact (krR aa)); (case aS => exact (below_size (kh HB))); (case aL => have := de.out; omega); intro hy hA ho hb hg hat; rw [← dL.out] at ho; replace ao := Aside0.mk (Kd.R_over' (krR ao) (Kd.R_typed (krR aa)) (by decide) hg); replace af := Aside0.mk (Kd.R_over' (krR af) (Kd.R_typed (krR aa)) (by decide) hg); replace ae := Aside0.mk (Kd.S_over' (krS ae) (Kd.R_typed (krR aa)) (by decide) hg); replace aj := kXR aj aa hg; replace ak := kXR ak aa hg; replace ai := kXR ai aa hg; replace an := Aside0.mk (blk_grown (g := ap) (o := .cells #[.int .i64 ((rd_T61 ag ab).f0), .int .i64 ((rd_T61 ag ab).f1), .int .i64 ((rd_T61 ag ab).f2), .int .u64 ((rd_T61 ag ab).f3)] 61 (0, 0)) (kb an) hg (Kd.R_away aa.out (fun _ hk => hk))); replace HB := Aside0.mk (hb); have cV := Aside0.mk (ho); clear aa; clear ho hb hg hat; obtain ⟨bT, bU, dQ⟩ := Kd.R_slice cV.out; subst dQ; have hB := kz3 ai));go_roundg bG
     case measure => have := HK1.out; have := cl.out; omega
     case rel => exact ⟨(cD), (wrap64 (ab + 1)), (bZ), (.slice bT bZ.length bU), et, H', ⟨by have := HK1.out; have := cl.out; omega⟩, ⟨by (with_reducible repeat first | apply Kd.R_alloc | apply Kd.R_drewN | apply Kd.R_drew); exact Kd.R_mono (Kd.R_far (p := ⟨aA, 1, none⟩) (Kd.R_types ao.out ai.out (by decide)) (fun _ hk => hk.2) (.slice bT bZ.length bU)) (fun _ hk => trivial)⟩, ⟨by (with_reducible repeat first | apply Kd.R_alloc | apply Kd.R_drewN | apply Kd.R_drew); exact Kd.R_mono (Kd.R_far (p := ⟨aA, 1, none⟩) (Kd.R_types af.out ai.out (by decide)) (fun _ hk => hk.2) (.slice bT bZ.length bU)) (fun _ hk => trivial)⟩, ⟨by (with_reducible repeat first | apply Kd.R_alloc | apply Kd.R_drewN | apply Kd.R_drew); exact Kd.R_mono (Kd.R_far (p := ⟨aA, 1, none⟩) (Kd.R_types cV.out ai.out (by decide)) (fun _ hk => hk.2) (.slice bT bZ.length bU)) (fun _ hk => trivial)⟩, ⟨by (with_reducible repeat first | apply Kd.S_alloc | apply Kd.S_drewN | apply Kd.S_drew); exact Kd.S_mono (Kd.S_far (p := ⟨aA, 1, none⟩) (Kd.S_types ae.out ai.out (by decide)) (fun _ hk => hk.2) (.slice bT bZ.length bU)) (fun _ hk => hk.1.2)⟩, ⟨kg aj⟩, ⟨kg ak⟩, ⟨kg ai⟩, ⟨kh HB⟩⟩
    subst c42;replace H := ifT H;replace H := Option.bind_eq_some_iff.mp H;obtain ⟨az, dR, H⟩ := H;(try dsimp only at H);have A43 := Aside0.mk dR;clear dR
    by_cases c44 : 0 ≤ az
    rotate_left
    ·rw [if_neg c44] at H
     exact absurd H (by simp)
    rw [if_pos c44] at H;have gc := decide_eq_true c44;clear c44
    by_cases c45 : az < (al.length : Int)
    rotate_left
    ·rw [if_neg c45] at H
     exact absurd H (by simp)
    rw [if_pos c45] at H;have gd := decide_eq_true c45;clear c45
    by_cases c46 : ((rd_T61 ag ab).f0) = 6
    ·rw [if_pos c46] at H
     have dS := beq_iff_eq.mpr c46;have dT := bne_eq_false_iff_eq.mpr c46;clear c46
     by_cases c47 : 0 ≤ ab
     rotate_left
     ·rw [if_neg c47] at H
      exact absurd H (by simp)
     rw [if_pos c47] at H;have ge := decide_eq_true c47;clear c47
     by_cases c48 : ab < (al.length : Int)
     rotate_left
     ·rw [if_neg c48] at H
      exact absurd H (by simp)
     rw [if_pos c48] at H;have gf := decide_eq_true c48;clear c48;obtain ⟨cF, bV⟩ : ∃ y_ : List Int, y_ = (al.set (ab : Int).toNat (ah.length : Int)) := ⟨_, rfl⟩
     replace H : (if ah.length < 4398046511104 then (tune_moved.l0 st tto bG cF ag (ag.length : Int) (wrap64 (ab + 1)) av (ah ++ [(⟨((rd_T61 ag ab).f0), rd al az, ((rd_T61 ag ab).f2), ((rd_T61 ag ab).f3)⟩ : S61)]) au) else (none)) = some (r1, r2, r3) := by first | (rw [bV]; with_reducible exact H) | (have H2_ := (Option.bind_some _ _).symm.trans H; rw [bV]; with_reducible exact H2_) | (have H2_ := (Option.bind_some _ _).symm.trans H; with_reducible exact H2_) | with_reducible exact H | (rw [bV]; exact H) | exact H
     have dU := Aside0.mk bV;clear bV
     by_cases c50 : ah.length < 4398046511104
     rotate_left
     ·rw [if_neg c50] at H
      exact absurd H (by simp)
     rw [if_pos c50] at H;have dV := Aside0.mk c50;clear c50;obtain ⟨ca, bW⟩ : ∃ y_ : List (S61), y_ = (ah ++ [(⟨((rd_T61 ag ab).f0), rd al az, ((rd_T61 ag ab).f2), ((rd_T61 ag ab).f3)⟩ : S61)]) := ⟨_, rfl⟩
     replace H : (tune_moved.l0 st tto bG cF ag (ag.length : Int) (wrap64 (ab + 1)) av ca au) = some (r1, r2, r3) := by first | (rw [bW]; with_reducible exact H) | (have H2_ := (Option.bind_some _ _).symm.trans H; rw [bW]; with_reducible exact H2_) | (have H2_ := (Option.bind_some _ _).symm.trans H; with_reducible exact H2_) | with_reducible exact H | (rw [bW]; exact H) | exact H
     have dW := Aside0.mk bW;clear bW;have H' := Aside0.mk H;clear H;have gg := aD.out;have gh := aC.out;have gi := aG.out;have gj := aE.out;have gl := aI.out;have gm := aH.out;have Z54 := kz4 an;go_wp2_with (first | ((with_reducible refine qea (N := 47) rfl ?_); refine api_Slot_78.goesT (some 47) rfl rfl HET.out #[.int .i64 ((rd_T61 ag ab).f1)] rfl rfl (by (try simp only [qM1, qM2, qM3]); first | done | rfl) ?_; (with_reducible refine (HTO.out ((rd_T61 ag ab).f1) az _ (kh HB) A43.out).mono ?_); rintro e w55 ⟨rfl, hb⟩; refine ⟨_, rfl, ?_⟩; replace ao := kR ao hb; replace af := kR af hb; replace aa := kR aa hb; replace ae := kS ae hb; replace aj := kU aj hb; replace ak := kU ak hb; replace ai := kU ai hb; replace an := kU an hb; replace HB := kH HB hb; (try clear hb); (try clear hb2); (try clear hk); (try clear hi); obtain ⟨hD, cb, fb⟩ := Kd.R_slice ao.out; subst fb; have cc : 0 ≤ (az : Int) := od; have cd : az < (al.length : Int) := od; obtain ⟨bC, di, bH⟩ := Kd.at_int (Kd.R_reads' ao.out).2.2 az cc cd; cases di; replace cc := eq_true cc; replace cd := eq_true cd; have Z57 := kz4 an) | ((with_reducible refine gate_store (t := 3) (p := 50) rfl ?_); refine store_event (t := 3) (p := 50) (v := ?vo_w58) (w1 := (w55.setCell ⟨ap, 1, none⟩ (.int .i64 (rd al az)))) ?hg ?ho ?hn ?hr ?_; (case ho => rfl); (case hg => rfl); (case hn => rfl); (case hr => first | (go_simp; done) | (go_simp; rfl)); intro w58 hw; replace ao : Aside0 (Kd.R (Kd.int .i64) 3 w58 w.heap.size (fun _ => True) (.slice (some bC) al.length cb) al) := ⟨(by rw [hw]; exact (by (with_reducible repeat first | apply Kd.R_alloc | apply Kd.R_drewN | apply Kd.R_drew); exact Kd.R_mono (Kd.R_far (p := ⟨ap, 1, none⟩) (Kd.R_types ao.out an.out (by decide)) (fun _ hk => hk.2) (.int .i64 (rd al az))) (fun _ hk => trivial)))⟩; replace af : Aside0 (Kd.R k64 64 w58 w.heap.size (fun _ => True) (.slice aW av.length aX) av) := ⟨(by rw [hw]; exact (by (with_reducible repeat first | apply Kd.R_alloc | apply Kd.R_drewN | apply Kd.R_drew); exact Kd.R_mono (Kd.R_far (p := ⟨ap, 1, none⟩) (Kd.R_types af.out an.out (by decide)) (fun _ hk => hk.2) (.int .i64 (rd al az))) (fun _ hk => trivial)))⟩; replace aa : Aside0 (Kd.R k61 61 w58 w.heap.size (fun k_ => k_ ≠ ap) ar ah) := ⟨(by rw [hw]; exact (by (with_reducible repeat first | apply Kd.R_alloc | apply Kd.R_drewN | apply Kd.R_drew); exact Kd.R_mono (Kd.R_far (p := ⟨ap, 1, none⟩) (Kd.R_mono aa.out (fun k_ hk => (⟨hk, hk⟩ : _ ∧ k_ ≠ ap))) (fun _ hk => hk.2) (.int .i64 (rd al az))) (fun _ hk => hk.1)))⟩; replace ae : Aside0 (Kd.S k66t 66 w58 w.heap.size (fun k_ => some k_ ≠ (.slice (some bC) al.length cb : Value).ownBlock) (.slice bi au.length aY) au) := ⟨(by rw [hw]; exact (by (with_reducible repeat first | apply Kd.S_alloc | apply Kd.S_drewN | apply Kd.S_drew); exact Kd.S_mono (Kd.S_far (p := ⟨ap, 1, none⟩) (Kd.S_types ae.out an.out (by decide)) (fun _ hk => hk.2) (.int .i64 (rd al az))) (fun _ hk => hk.1)))⟩; replace aj : Aside0 (w58.heap[bj]? = some (.cells #[.slice bl ba.length bm, .slice (some ck) ag.length bn, .slice bo bb.length bp] 26 (0, 0))) := ⟨(by rw [hw]; exact (kg aj))⟩; replace ak : Aside0 (w58.heap[aJ]? = some (.cells #[.slice none 0 0, .slice none 0 0, .slice none 0 0] 26 (0, 0))) := ⟨(by rw [hw]; exact (kg ak))⟩; replace ai : Aside0 (w58.heap[aA]? = some (.cells #[.slice aW av.length aX, ar, .slice bi au.length aY] 26 (0, 0))) := ⟨(by rw [hw]; exact (kg ai))⟩; replace an : Aside0 (w58.heap[ap]? = some (.cells #[.int .i64 ((rd_T61 ag ab).f0), .int .i64 (rd al az), .int .i64 ((rd_T61 ag ab).f2), .int .u64 ((rd_T61 ag ab).f3)] 61 (0, 0))) := ⟨(by rw [hw]; exact (kg an))⟩; replace HB : Aside0 (Below w.heap.size w w58) := ⟨(by rw [hw]; exact (kh HB))⟩; clear hw; have Z59 := kz4 an; have gn := aM.out; have go := aK.out; have gp := aQ.out; have gq := aN.out; have Z62 := kz3 ai; obtain ⟨fc, fd, fe⟩ := Kd.R_slice aa.out; subst fe; have p49 : 0 ≤ (ab : Int) := od; have q49 : (ab : Int) < ((al.length : Int) : Int) := od; obtain ⟨ce, hE, dX, dY, gl49, cl49, HG49⟩ := Kd.R_form ao.out (by omega); (first | cases dX | (injection dX with ea_ en_ ec_; (first | subst ea_ | (injection ea_ with ea_; subst ea_)); subst ec_; clear en_)); have ff := Aside0.mk dY; have hF := Aside0.mk HG49; clear dY gl49 HG49; (first | simp only [add_plain] at bH | skip); obtain ⟨fg, fh⟩ := Kd.R_celln 0 ao.out (ab : Int) p49 q49; replace p49 := eq_true p49; replace q49 := eq_true q49; obtain ⟨gr, gs⟩ := Kd.R_celln 0 ao.out (ab : Int) od od; have dj := Kd.R_putg ao.out (ab : Int) (ah.length : Int)) | ((with_reducible refine gate_store (t := 3) (p := 67) rfl ?_); refine store_event (t := 3) (p := 67) (v := ?vo_w65) (w1 := (w58.setCell ⟨ce, (ab : Int).toNat, none⟩ (.int .i64 (ah.length : Int)))) ?hg ?ho ?hn ?hr ?_; (case ho => rfl); (case hg => rfl); (case hn => rfl); (case hr => first | (go_simp; done) | (go_simp; rfl)); intro w65 hw; have hg : w58.grownBy w65 (some ce) := (by rw [hw]; exact dj.2); have hp_ : Kd.R (Kd.int .i64) 3 w65 w.heap.size (fun _ => True) (.slice (some ⟨ce, 0, none⟩) al.length cb) cF := (by rw [hw, dU.out]; exact dj.1); clear dj; replace af := Aside0.mk (Kd.R_over' (v := (.slice (some ⟨ce, 0, none⟩) al.length cb)) (krR af) (Kd.R_typed ao.out) (by decide) hg); replace aa := Aside0.mk (Kd.R_over' (v := (.slice (some ⟨ce, 0, none⟩) al.length cb)) (krR aa) (Kd.R_typed ao.out) (by decide) hg); replace ae := Aside0.mk (Kd.S_after (v := (.slice (some ⟨ce, 0, none⟩) al.length cb)) (v1 := (.slice (some ⟨ce, 0, none⟩) al.length cb)) (ok := (fun _ => True)) (by (with_reducible repeat first | apply Kd.S_alloc | apply Kd.S_drewN | apply Kd.S_drew); exact Kd.S_mono ae.out (fun _ hk => ⟨trivial, hk⟩)) hg (.inl rfl)); replace aj := kXR aj ao hg; replace ak := kXR ak ao hg; replace ai := kXR ai ao hg; replace an := kXR an ao hg; replace ao := Aside0.mk (hp_); replace HB := Aside0.mk ((by rw [hw]; exact below_set (HB.out) ff.out : Below w.heap.size w w65)); clear hg hw hp_; have Z66 := kz3 ai; have Z67 := kz4 an) | ((with_reducible refine gate_builtin (b := .append) (xs := #[.tmp 69, .tmp 71]) rfl ?_); at_builtin; refine Kd.R_append k61 (w0 := w) w.heap.size rfl (.tmp 69) (.tmp 71) 23 61 (.agg #[(.int .i64 0), (.int .i64 0), (.int .i64 0), (.int .u64 0)]) 32 rfl Try.underlying23 info61 rfl (by decide) (by omega) (.slice fc ah.length fd) ah (⟨((rd_T61 ag ab).f0), rd al az, ((rd_T61 ag ab).f2), ((rd_T61 ag ab).f3)⟩ : S61) [.int .i64 ((rd_T61 ag ab).f0), .int .i64 (rd al az), .int .i64 ((rd_T61 ag ab).f2), .int .u64 ((rd_T61 ag ab).f3)] (fun k_ => k_ ≠ ap) (fun _ => False) rfl rfl ?aP (fun _ hk => hk.elim) ?aF ?aO ?aB ?aS ?aL ?_; (case aP => exact k61_mkM _ _ _ (⟨((rd_T61 ag ab).f0), rd al az, ((rd_T61 ag ab).f2), ((rd_T61 ag ab).f3)⟩ : S61)); (case aB => exact (kh HB)); (case aF => exact (fun k_ hk => Kd.freshB (g := ap) (o := .cells #[.int .i64 ((rd_T61 ag ab).f0), .int .i64 (rd al az), .int .i64 ((rd_T61 ag ab).f2), .int .u64 ((rd_T61 ag ab).f3)] 61 (0, 0)) (kb an) k_ hk)); (case aO => exact (krR aa)); (case aS => exact (below_size (kh HB))); (case aL => have := dV.out; omega); intro hG w68 ho hb hg hat; rw [← dW.out] at ho; replace ao := Aside0.mk (Kd.R_over' (krR ao) (Kd.R_typed (krR aa)) (by decide) hg); replace af := Aside0.mk (Kd.R_over' (krR af) (Kd.R_typed (krR aa)) (by decide) hg); replace ae := Aside0.mk (Kd.S_over' (krS ae) (Kd.R_typed (krR aa)) (by decide) hg); replace aj := kXR aj aa hg; replace ak := kXR ak aa hg; replace ai := kXR ai aa hg; replace an := Aside0.mk (blk_grown (g := ap) (o := .cells #[.int .i64 ((rd_T61 ag ab).f0), .int .i64 (rd al az), .int .i64 ((rd_T61 ag ab).f2), .int .u64 ((rd_T61 ag ab).f3)] 61 (0, 0)) (kb an) hg (Kd.R_away aa.out (fun _ hk => hk))); replace HB := Aside0.mk (hb); have cW := Aside0.mk (ho); clear aa; clear ho hb hg hat; obtain ⟨cv, cw, fi⟩ := Kd.R_slice cW.out; subst fi; have Z70 := kz3 ai));go_roundg bG
     case measure => have := HK1.out; have := cl.out; omega
     case rel => exact ⟨(cF), (wrap64 (ab + 1)), (ca), (.slice cv ca.length cw), et, H', ⟨by have := HK1.out; have := cl.out; omega⟩, ⟨by (with_reducible repeat first | apply Kd.R_alloc | apply Kd.R_drewN | apply Kd.R_drew); exact Kd.R_mono (Kd.R_far (p := ⟨aA, 1, none⟩) (Kd.R_types ao.out ai.out (by decide)) (fun _ hk => hk.2) (.slice cv ca.length cw)) (fun _ hk => trivial)⟩, ⟨by (with_reducible repeat first | apply Kd.R_alloc | apply Kd.R_drewN | apply Kd.R_drew); exact Kd.R_mono (Kd.R_far (p := ⟨aA, 1, none⟩) (Kd.R_types af.out ai.out (by decide)) (fun _ hk => hk.2) (.slice cv ca.length cw)) (fun _ hk => trivial)⟩, ⟨by (with_reducible repeat first | apply Kd.R_alloc | apply Kd.R_drewN | apply Kd.R_drew); exact Kd.R_mono (Kd.R_far (p := ⟨aA, 1, none⟩) (Kd.R_types cW.out ai.out (by decide)) (fun _ hk => hk.2) (.slice cv ca.length cw)) (fun _ hk => trivial)⟩, ⟨by (with_reducible repeat first | apply Kd.S_alloc | apply Kd.S_drewN | apply Kd.S_drew); exact Kd.S_mono (Kd.S_far (p := ⟨aA, 1, none⟩) (Kd.S_types ae.out ai.out (by decide)) (fun _ hk => hk.2) (.slice cv ca.length cw)) (fun _ hk => hk.1.2)⟩, ⟨kg aj⟩, ⟨kg ak⟩, ⟨kg ai⟩, ⟨kh HB⟩⟩
    rw [if_neg c46] at H;have dS := beq_eq_false_iff_ne.mpr c46;have dT := bne_iff_ne.mpr c46;replace H := Option.bind_eq_some_iff.mp H;obtain ⟨aZ, dZ, H⟩ := H;(try dsimp only at H);have A71 := Aside0.mk dZ;clear dZ
    by_cases c72 : 0 ≤ aZ
    rotate_left
    ·rw [if_neg c72] at H
     exact absurd H (by simp)
    rw [if_pos c72] at H;have gt := decide_eq_true c72;clear c72
    by_cases c73 : aZ < (al.length : Int)
    rotate_left
    ·rw [if_neg c73] at H
     exact absurd H (by simp)
    rw [if_pos c73] at H;have gu := decide_eq_true c73;clear c73
    by_cases c74 : 0 ≤ ab
    rotate_left
    ·rw [if_neg c74] at H
     exact absurd H (by simp)
    rw [if_pos c74] at H;have gv := decide_eq_true c74;clear c74
    by_cases c75 : ab < (al.length : Int)
    rotate_left
    ·rw [if_neg c75] at H
     exact absurd H (by simp)
    rw [if_pos c75] at H;have gw := decide_eq_true c75;clear c75;obtain ⟨cG, bX⟩ : ∃ y_ : List Int, y_ = (al.set (ab : Int).toNat (ah.length : Int)) := ⟨_, rfl⟩
    replace H : (if ah.length < 4398046511104 then (tune_moved.l0 st tto bG cG ag (ag.length : Int) (wrap64 (ab + 1)) av (ah ++ [(⟨((rd_T61 ag ab).f0), rd al az, rd al aZ, ((rd_T61 ag ab).f3)⟩ : S61)]) au) else (none)) = some (r1, r2, r3) := by first | (rw [bX]; with_reducible exact H) | (have H2_ := (Option.bind_some _ _).symm.trans H; rw [bX]; with_reducible exact H2_) | (have H2_ := (Option.bind_some _ _).symm.trans H; with_reducible exact H2_) | with_reducible exact H | (rw [bX]; exact H) | exact H
    have ea := Aside0.mk bX;clear bX
    by_cases c77 : ah.length < 4398046511104
    rotate_left
    ·rw [if_neg c77] at H
     exact absurd H (by simp)
    rw [if_pos c77] at H;have eb := Aside0.mk c77;clear c77;obtain ⟨cf, bY⟩ : ∃ y_ : List (S61), y_ = (ah ++ [(⟨((rd_T61 ag ab).f0), rd al az, rd al aZ, ((rd_T61 ag ab).f3)⟩ : S61)]) := ⟨_, rfl⟩
    replace H : (tune_moved.l0 st tto bG cG ag (ag.length : Int) (wrap64 (ab + 1)) av cf au) = some (r1, r2, r3) := by first | (rw [bY]; with_reducible exact H) | (have H2_ := (Option.bind_some _ _).symm.trans H; rw [bY]; with_reducible exact H2_) | (have H2_ := (Option.bind_some _ _).symm.trans H; with_reducible exact H2_) | with_reducible exact H | (rw [bY]; exact H) | exact H
    have ec := Aside0.mk bY;clear bY;have H' := Aside0.mk H;clear H;have gx := aD.out;have gy := aC.out;have gz := aG.out;have gA := aE.out;have gB := aI.out;have gC := aH.out;have Z81 := kz4 an;go_wp2_with (first | ((with_reducible refine qea (N := 47) rfl ?_); refine api_Slot_78.goesT (some 47) rfl rfl HET.out #[.int .i64 ((rd_T61 ag ab).f1)] rfl rfl (by (try simp only [qM1, qM2, qM3]); first | done | rfl) ?_; (with_reducible refine (HTO.out ((rd_T61 ag ab).f1) az _ (kh HB) A43.out).mono ?_); rintro e w82 ⟨rfl, hb⟩; refine ⟨_, rfl, ?_⟩; replace ao := kR ao hb; replace af := kR af hb; replace aa := kR aa hb; replace ae := kS ae hb; replace aj := kU aj hb; replace ak := kU ak hb; replace ai := kU ai hb; replace an := kU an hb; replace HB := kH HB hb; (try clear hb); (try clear hb2); (try clear hk); (try clear hi); obtain ⟨hH, cg, fj⟩ := Kd.R_slice ao.out; subst fj; have cc : 0 ≤ (az : Int) := od; have cd : az < (al.length : Int) := od; obtain ⟨bC, di, bH⟩ := Kd.at_int (Kd.R_reads' ao.out).2.2 az cc cd; cases di; replace cc := eq_true cc; replace cd := eq_true cd; have Z84 := kz4 an) | ((with_reducible refine qea (N := 58) rfl ?_); refine api_Slot_78.goesT (some 58) rfl rfl HET.out #[.int .i64 ((rd_T61 ag ab).f2)] rfl rfl (by (try simp only [qM1, qM2, qM3]); first | done | rfl) ?_; (with_reducible refine (HTO.out ((rd_T61 ag ab).f2) aZ _ (kh HB) A71.out).mono ?_); rintro e w85 ⟨rfl, hb⟩; refine ⟨_, rfl, ?_⟩; replace ao := Aside0.mk (Kd.R_below (kt ao an) hb); replace af := Aside0.mk (Kd.R_below (kt af an) hb); replace aa := Aside0.mk (Kd.R_below (by (with_reducible repeat first | apply Kd.R_alloc | apply Kd.R_drewN | apply Kd.R_drew); exact (Kd.R_mono (Kd.R_far (p := ⟨ap, 1, none⟩) (Kd.R_mono aa.out (fun k_ hk => (⟨hk, hk⟩ : _ ∧ k_ ≠ ap))) (fun _ hk => hk.2) (.int .i64 (rd al az))) (fun _ h_ => h_.1))) hb); replace ae := Aside0.mk (Kd.S_below (ks ae an) hb); replace aj := kU aj hb; replace ak := kU ak hb; replace ai := kU ai hb; replace an := kO (o' := .cells #[.int .i64 ((rd_T61 ag ab).f0), .int .i64 (rd al az), .int .i64 ((rd_T61 ag ab).f2), .int .u64 ((rd_T61 ag ab).f3)] 61 (0, 0)) an hb; replace HB := kH HB hb; (try clear hb); (try clear hb2); (try clear hk); (try clear hi); have dk : 0 ≤ (aZ : Int) := od; have dl : aZ < (al.length : Int) := od; obtain ⟨ed, fk, cH⟩ := Kd.at_int (Kd.R_reads' ao.out).2.2 aZ dk dl; obtain rfl : bC = ed := (by injection fk); replace dk := eq_true dk; replace dl := eq_true dl; have Z86 := kz4 an) | ((with_reducible refine gate_store (t := 3) (p := 61) rfl ?_); refine store_event (t := 3) (p := 61) (v := ?vo_w87) (w1 := (w85.setCell ⟨ap, 2, none⟩ (.int .i64 (rd al aZ)))) ?hg ?ho ?hn ?hr ?_; (case ho => rfl); (case hg => rfl); (case hn => rfl); (case hr => first | (go_simp; done) | (go_simp; rfl)); intro w87 hw; replace ao : Aside0 (Kd.R (Kd.int .i64) 3 w87 w.heap.size (fun _ => True) (.slice (some bC) al.length cg) al) := ⟨(by rw [hw]; exact (by (with_reducible repeat first | apply Kd.R_alloc | apply Kd.R_drewN | apply Kd.R_drew); exact Kd.R_mono (Kd.R_far (p := ⟨ap, 2, none⟩) (Kd.R_types ao.out an.out (by decide)) (fun _ hk => hk.2) (.int .i64 (rd al aZ))) (fun _ hk => trivial)))⟩; replace af : Aside0 (Kd.R k64 64 w87 w.heap.size (fun _ => True) (.slice aW av.length aX) av) := ⟨(by rw [hw]; exact (by (with_reducible repeat first | apply Kd.R_alloc | apply Kd.R_drewN | apply Kd.R_drew); exact Kd.R_mono (Kd.R_far (p := ⟨ap, 2, none⟩) (Kd.R_types af.out an.out (by decide)) (fun _ hk => hk.2) (.int .i64 (rd al aZ))) (fun _ hk => trivial)))⟩; replace aa : Aside0 (Kd.R k61 61 w87 w.heap.size (fun k_ => k_ ≠ ap) ar ah) := ⟨(by rw [hw]; exact (by (with_reducible repeat first | apply Kd.R_alloc | apply Kd.R_drewN | apply Kd.R_drew); exact Kd.R_mono (Kd.R_far (p := ⟨ap, 2, none⟩) (Kd.R_mono aa.out (fun k_ hk => (⟨hk, hk⟩ : _ ∧ k_ ≠ ap))) (fun _ hk => hk.2) (.int .i64 (rd al aZ))) (fun _ hk => hk.1)))⟩; replace ae : Aside0 (Kd.S k66t 66 w87 w.heap.size (fun k_ => some k_ ≠ (.slice (some bC) al.length cg : Value).ownBlock) (.slice bi au.length aY) au) := ⟨(by rw [hw]; exact (by (with_reducible repeat first | apply Kd.S_alloc | apply Kd.S_drewN | apply Kd.S_drew); exact Kd.S_mono (Kd.S_far (p := ⟨ap, 2, none⟩) (Kd.S_types ae.out an.out (by decide)) (fun _ hk => hk.2) (.int .i64 (rd al aZ))) (fun _ hk => hk.1)))⟩; replace aj : Aside0 (w87.heap[bj]? = some (.cells #[.slice bl ba.length bm, .slice (some ck) ag.length bn, .slice bo bb.length bp] 26 (0, 0))) := ⟨(by rw [hw]; exact (kg aj))⟩; replace ak : Aside0 (w87.heap[aJ]? = some (.cells #[.slice none 0 0, .slice none 0 0, .slice none 0 0] 26 (0, 0))) := ⟨(by rw [hw]; exact (kg ak))⟩; replace ai : Aside0 (w87.heap[aA]? = some (.cells #[.slice aW av.length aX, ar, .slice bi au.length aY] 26 (0, 0))) := ⟨(by rw [hw]; exact (kg ai))⟩; replace an : Aside0 (w87.heap[ap]? = some (.cells #[.int .i64 ((rd_T61 ag ab).f0), .int .i64 (rd al az), .int .i64 (rd al aZ), .int .u64 ((rd_T61 ag ab).f3)] 61 (0, 0))) := ⟨(by rw [hw]; exact (kg an))⟩; replace HB : Aside0 (Below w.heap.size w w87) := ⟨(by rw [hw]; exact (kh HB))⟩; clear hw; have gD := aM.out; have gE := aK.out; have gF := aQ.out; have gG := aN.out; have Z90 := kz3 ai; obtain ⟨fl, fm, fn⟩ := Kd.R_slice aa.out; subst fn; have p76 : 0 ≤ (ab : Int) := od; have q76 : (ab : Int) < ((al.length : Int) : Int) := od; obtain ⟨ch, hI, ee, ef, gl76, cl76, HG76⟩ := Kd.R_form ao.out (by omega); (first | cases ee | (injection ee with ea_ en_ ec_; (first | subst ea_ | (injection ea_ with ea_; subst ea_)); subst ec_; clear en_)); have fo := Aside0.mk ef; have hJ := Aside0.mk HG76; clear ef gl76 HG76; (first | simp only [add_plain] at bH | skip); (first | simp only [add_plain] at cH | skip); obtain ⟨fp, fq⟩ := Kd.R_celln 0 ao.out (ab : Int) p76 q76; replace p76 := eq_true p76; replace q76 := eq_true q76; obtain ⟨gH, gI⟩ := Kd.R_celln 0 ao.out (ab : Int) od od; have dm := Kd.R_putg ao.out (ab : Int) (ah.length : Int)) | ((with_reducible refine gate_store (t := 3) (p := 67) rfl ?_); refine store_event (t := 3) (p := 67) (v := ?vo_w93) (w1 := (w87.setCell ⟨ch, (ab : Int).toNat, none⟩ (.int .i64 (ah.length : Int)))) ?hg ?ho ?hn ?hr ?_; (case ho => rfl); (case hg => rfl); (case hn => rfl); (case hr => first | (go_simp; done) | (go_simp; rfl)); intro w93 hw; have hg : w87.grownBy w93 (some ch) := (by rw [hw]; exact dm.2); have hp_ : Kd.R (Kd.int .i64) 3 w93 w.heap.size (fun _ => True) (.slice (some ⟨ch, 0, none⟩) al.length cg) cG := (by rw [hw, ea.out]; exact dm.1); clear dm; replace af := Aside0.mk (Kd.R_over' (v := (.slice (some ⟨ch, 0, none⟩) al.length cg)) (krR af) (Kd.R_typed ao.out) (by decide) hg); replace aa := Aside0.mk (Kd.R_over' (v := (.slice (some ⟨ch, 0, none⟩) al.length cg)) (krR aa) (Kd.R_typed ao.out) (by decide) hg); replace ae := Aside0.mk (Kd.S_after (v := (.slice (some ⟨ch, 0, none⟩) al.length cg)) (v1 := (.slice (some ⟨ch, 0, none⟩) al.length cg)) (ok := (fun _ => True)) (by (with_reducible repeat first | apply Kd.S_alloc | apply Kd.S_drewN | apply Kd.S_drew); exact Kd.S_mono ae.out (fun _ hk => ⟨trivial, hk⟩)) hg (.inl rfl)); replace aj := kXR aj ao hg; replace ak := kXR ak ao hg; replace ai := kXR ai ao hg; replace an := kXR an ao hg; replace ao := Aside0.mk (hp_); replace HB := Aside0.mk ((by rw [hw]; exact below_set (HB.out) fo.out : Below w.heap.size w w93)); clear hg hw hp_; have Z94 := kz3 ai; have Z95 := kz4 an) | ((with_reducible refine gate_builtin (b := .append) (xs := #[.tmp 69, .tmp 71]) rfl ?_); at_builtin; refine Kd.R_append k61 (w0 := w) w.heap.size rfl (.tmp 69) (.tmp 71) 23 61 (.agg #[(.int .i64 0), (.int .i64 0), (.int .i64 0), (.int .u64 0)]) 32 rfl Try.underlying23 info61 rfl (by decide) (by omega) (.slice fl ah.length fm) ah (⟨((rd_T61 ag ab).f0), rd al az, rd al aZ, ((rd_T61 ag ab).f3)⟩ : S61) [.int .i64 ((rd_T61 ag ab).f0), .int .i64 (rd al az), .int .i64 (rd al aZ), .int .u64 ((rd_T61 ag ab).f3)] (fun k_ => k_ ≠ ap) (fun _ => False) rfl rfl ?aP (fun _ hk => hk.elim) ?aF ?aO ?aB ?aS ?aL ?_; (case aP => exact k61_mkM _ _ _ (⟨((rd_T61 ag ab).f0), rd al az, rd al aZ, ((rd_T61 ag ab).f3)⟩ : S61)); (case aB => exact (kh HB)); (case aF => exact (fun k_ hk => Kd.freshB (g := ap) (o := .cells #[.int .i64 ((rd_T61 ag ab).f0), .int .i64 (rd al az), .int .i64 (rd al aZ), .int .u64 ((rd_T61 ag ab).f3)] 61 (0, 0)) (kb an) k_ hk)); (case aO => exact (krR aa)); (case aS => exact (below_size (kh HB))); (case aL => have := eb.out; omega); intro hL w96 ho hb hg hat; rw [← ec.out] at ho; replace ao := Aside0.mk (Kd.R_over' (krR ao) (Kd.R_typed (krR aa)) (by decide) hg); replace af := Aside0.mk (Kd.R_over' (krR af) (Kd.R_typed (krR aa)) (by decide) hg); replace ae := Aside0.mk (Kd.S_over' (krS ae) (Kd.R_typed (krR aa)) (by decide) hg); replace aj := kXR aj aa hg; replace ak := kXR ak aa hg; replace ai := kXR ai aa hg; replace an := Aside0.mk (blk_grown (g := ap) (o := .cells #[.int .i64 ((rd_T61 ag ab).f0), .int .i64 (rd al az), .int .i64 (rd al aZ), .int .u64 ((rd_T61 ag ab).f3)] 61 (0, 0)) (kb an) hg (Kd.R_away aa.out (fun _ hk => hk))); replace HB := Aside0.mk (hb); have cX := Aside0.mk (ho); clear aa; clear ho hb hg hat; obtain ⟨cx, cy, fr⟩ := Kd.R_slice cX.out; subst fr; have Z98 := kz3 ai));go_roundg bG
    case measure => have := HK1.out; have := cl.out; omega
    case rel => exact ⟨(cG), (wrap64 (ab + 1)), (cf), (.slice cx cf.length cy), et, H', ⟨by have := HK1.out; have := cl.out; omega⟩, ⟨by (with_reducible repeat first | apply Kd.R_alloc | apply Kd.R_drewN | apply Kd.R_drew); exact Kd.R_mono (Kd.R_far (p := ⟨aA, 1, none⟩) (Kd.R_types ao.out ai.out (by decide)) (fun _ hk => hk.2) (.slice cx cf.length cy)) (fun _ hk => trivial)⟩, ⟨by (with_reducible repeat first | apply Kd.R_alloc | apply Kd.R_drewN | apply Kd.R_drew); exact Kd.R_mono (Kd.R_far (p := ⟨aA, 1, none⟩) (Kd.R_types af.out ai.out (by decide)) (fun _ hk => hk.2) (.slice cx cf.length cy)) (fun _ hk => trivial)⟩, ⟨by (with_reducible repeat first | apply Kd.R_alloc | apply Kd.R_drewN | apply Kd.R_drew); exact Kd.R_mono (Kd.R_far (p := ⟨aA, 1, none⟩) (Kd.R_types cX.out ai.out (by decide)) (fun _ hk => hk.2) (.slice cx cf.length cy)) (fun _ hk => trivial)⟩, ⟨by (with_reducible repeat first | apply Kd.S_alloc | apply Kd.S_drewN | apply Kd.S_drew); exact Kd.S_mono (Kd.S_far (p := ⟨aA, 1, none⟩) (Kd.S_types ae.out ai.out (by decide)) (fun _ hk => hk.2) (.slice cx cf.length cy)) (fun _ hk => hk.1.2)⟩, ⟨kg aj⟩, ⟨kg ak⟩, ⟨kg ai⟩, ⟨kh HB⟩⟩
def tune_Share.val (g : S61) : Value := .agg #[.int .i64 g.f0, .int .i64 g.f1, .int .i64 g.f2, .int .u64 g.f3]
def tune_Share.ent (g : S61 × Int) (j : Nat) : MapEntry := { key := tune_Share.val g.1, val := .int .i64 g.2, born := j }
def tune_Share.ents : Nat → List (S61 × Int) → List MapEntry
 | _, [] => []
 | j, g :: M => tune_Share.ent g j :: tune_Share.ents (j + 1) M
def tune_Share.obj (M : List (S61 × Int)) : Obj := .map (tune_Share.ents 0 M).toArray M.length
def tune_Share.same (x y : S61) : Bool := x.f0 == y.f0 && (x.f1 == y.f1 && (x.f2 == y.f2 && x.f3 == y.f3))
def tune_Share.find (g : S61) : List (S61 × Int) → Option Int
 | [] => none
 | x :: M => if tune_Share.same g x.1 = true then some x.2 else tune_Share.find g M
def tune_Share.look (M : List (S61 × Int)) (a b c d : Int) : Option (Int × Bool) := some (match tune_Share.find ⟨a, b, c, d⟩ M with | some i => (i, true) | none => (0, false))
def tune_Share.put (M : List (S61 × Int)) (a b c d i : Int) : Option (List (S61 × Int)) := if tune_Share.find ⟨a, b, c, d⟩ M = none then some (M ++ [(⟨a, b, c, d⟩, i)]) else none
def tune_Share.st (l : List Int) (i _ _ _ _ : Int) : Option Bool := if 0 ≤ i ∧ i < (l.length : Int) then some (rd l i == i) else none
def tune_Share.tto (l : List Int) (i : Int) : Option Int := if 0 ≤ i ∧ i < (l.length : Int) then some (rd l i) else none
theorem tune_Share.blk_far {w : World} {g : Nat} {o : Obj} (h : w.heap[g]? = some o) {p : Addr} (hp : g ≠ p.block) (u : Value) : (w.setCell p u).heap[g]? = some o := (Below.heap_setCell w p u g hp).trans h
theorem tune_Share.map_step {P : Program} {ops : Array Oper} {o : Oper} {a : Act} {Q : Exit → Act → World → Prop} {Kc : Act → World → Prop} {W : World} (hw : Region.wanted o (yielded ops a.tmps) = true) {N : Tmp} (_hd : o.dst = some N)
  (hrun : (execOp a.eval o).run P W = .ok (.value (.map (some W.heap.size))) (W.alloc (.map #[] 0)))
  (h : ∀ g, g = W.heap.size → ∀ w1, w1.heap[g]? = some (tune_Share.obj []) → Below W.heap.size W w1 → Kc (a.put o.dst (.map (some g))) w1) : if Region.wanted o (yielded ops a.tmps) = true then Oper.wp P o a W Kc Q else Kc (a.put o.dst undef) W :=
 event_step hw hrun (h _ rfl _ (blk_new W (.map #[] 0)) (below_alloc (Below.refl _ _) _))
theorem tune_Share.equal_run (x y : S61) (w : World) (d : Nat) : (Op.equalIn (d + 2) 61 (tune_Share.val x) (tune_Share.val y)).run Try.prog w = .ok (tune_Share.same x y) w := by
 unfold tune_Share.val tune_Share.same;refine eqA_of Try.underlying61 (by kernel_rfl) ?_;refine eqf_cons (by rfl) (by go_simp; rfl) (by go_simp; rfl) (by go_simp) ?_;refine eqf_cons (by rfl) (by go_simp; rfl) (by go_simp; rfl) (by go_simp) ?_;refine eqf_cons (by rfl) (by go_simp; rfl) (by go_simp; rfl) (by go_simp) ?_;refine eqf_last (by rfl) (by go_simp; rfl) (by go_simp; rfl) (by go_simp)
theorem tune_Share.ask_run (g : S61) (w : World) : ∀ (M : List (S61 × Int)) (j i : Nat), ∃ q : Option (Nat × Value), (Instr.findAsking 61 (tune_Share.val g) (tune_Share.ents j M) i).run Try.prog w = .ok q w ∧ q.map Prod.snd = (tune_Share.find g M).map (Value.int .i64)
 | [], _, _ => ⟨none, by simp [tune_Share.ents, Instr.findAsking], rfl⟩
 | x :: M, j, i => by
  obtain ⟨q, hq, hq2⟩ := tune_Share.ask_run g w M (j + 1) (i + 1);have he : (Op.equal 61 (tune_Share.val g) (tune_Share.ent x j).key).run Try.prog w = .ok (tune_Share.same g x.1) w := tune_Share.equal_run g x.1 w 9998;unfold tune_Share.ents Instr.findAsking tune_Share.find;rw [Sem.run_bind, he, Result.andThen_ok];cases hs : tune_Share.same g x.1
  ·simp only [Bool.false_eq_true, if_false]
   exact ⟨q, hq, hq2⟩
  ·simp only [if_true]
   exact ⟨some (i, .int .i64 x.2), by simp [tune_Share.ent], rfl⟩
theorem tune_Share.key_run (e : Bool) (g : S61) (w : World) : (Instr.checkKey e 10000 61 (tune_Share.val g)).run Try.prog w = .ok () w := by
 cases e <;> kernel_rfl
theorem tune_Share.find_run (g : S61) (M : List (S61 × Int)) (w : World) : ∃ q : Option (Nat × Value), (Instr.findKey 61 (tune_Share.val g) (tune_Share.ents 0 M)).run Try.prog w = .ok q w ∧ q.map Prod.snd = (tune_Share.find g M).map (Value.int .i64) := by
 obtain ⟨q, hq, hq2⟩ := tune_Share.ask_run g w M 0 0;exact ⟨q, (run_findKey_eq (P := Try.prog) (k := 61) w (by rw [Try.underlying61]) (tune_Share.val g) (tune_Share.ents 0 M)).trans hq, hq2⟩
theorem tune_Share.look_run (g : S61) (M : List (S61 × Int)) (w : World) (b : Nat) (hb : w.heap[b]? = some (tune_Share.obj M)) (r : Int × Bool) (h : tune_Share.look M g.f0 g.f1 g.f2 g.f3 = some r) :
  (Instr.lookup 73 (.map (some b)) (tune_Share.val g) true).run Try.prog w = .ok (.tuple #[.int .i64 r.1, .bool r.2]) w := by
 obtain ⟨q, hq, hq2⟩ := tune_Share.find_run g M w;obtain rfl := Option.some.inj h
 have hz : (zeroValue 3).run Try.prog w = .ok (.int .i64 0) w := by kernel_rfl
 have hu : (underlying 73).run Try.prog w = .ok (.map 61 3) w := by kernel_rfl
 have ho : (getObj b).run Try.prog w = .ok (tune_Share.obj M) w := by simp [getObj, Sem.run, hb]; rfl
 unfold Instr.lookup;rw [Sem.run_bind, hu, Result.andThen_ok];simp only [Sem.run_bind, ho, tune_Share.obj, Result.andThen_ok, Sem.run_pure, tune_Share.key_run, hq]
 cases hf : tune_Share.find g M with
 | none =>
  rw [hf] at hq2
  cases q with
  | some q => cases hq2
  | none => simp [hz, hf]
 | some i =>
  rw [hf] at hq2
  cases q with
  | none => cases hq2
  | some q =>
   obtain ⟨q1, q2⟩ := q;obtain rfl : q2 = .int .i64 i := Option.some.inj hq2;simp [hf]
theorem tune_Share.ents_push (x : S61 × Int) : ∀ (M : List (S61 × Int)) (j : Nat), tune_Share.ents j (M ++ [x]) = tune_Share.ents j M ++ [tune_Share.ent x (j + M.length)]
 | [], j => by simp [tune_Share.ents]
 | y :: M, j => by
  simp only [List.cons_append, tune_Share.ents, tune_Share.ents_push x M (j + 1), List.length_cons];rw [show j + 1 + M.length = j + (M.length + 1) by omega]
theorem tune_Share.put_run (g : S61) (M M' : List (S61 × Int)) (w : World) (b : Nat) (i : Int) (hb : w.heap[b]? = some (tune_Share.obj M)) (h : tune_Share.put M g.f0 g.f1 g.f2 g.f3 i = some M') :
  (Instr.mapUpdate 73 (.map (some b)) (tune_Share.val g) (.int .i64 i)).run Try.prog w = .ok () (w.putObj b (tune_Share.obj M')) := by
 unfold tune_Share.put at h
 split at h
 ·rename_i hf
  obtain rfl := Option.some.inj h;obtain ⟨q, hq, hq2⟩ := tune_Share.find_run g M w;rw [show tune_Share.find g M = none from hf] at hq2
  obtain rfl : q = none := by cases q with | none => rfl | some q => cases hq2
  have hu : (underlying 73).run Try.prog w = .ok (.map 61 3) w := by kernel_rfl
  have ho : (getObj b).run Try.prog w = .ok (tune_Share.obj M) w := by simp [getObj, Sem.run, hb]; rfl
  have he : tune_Share.obj (M ++ [(g, i)]) = .map ((tune_Share.ents 0 M).toArray.push { key := tune_Share.val g, val := .int .i64 i, born := M.length }) (M.length + 1) := by
   simp [tune_Share.obj, tune_Share.ents_push, tune_Share.ent]
  unfold Instr.mapUpdate;rw [Sem.run_bind, hu, Result.andThen_ok];simp only [Sem.run_bind, ho, tune_Share.obj, Result.andThen_ok, tune_Share.key_run, hq];rw [show (⟨g.f0, g.f1, g.f2, g.f3⟩ : S61) = g from rfl] at *
  have hs : ∀ X : Obj, (setObj b X).run Try.prog w = .ok () (w.putObj b X) := fun X => by
   simp only [setObj, Sem.run, hb, World.putObj]
   rfl
  rw [hs];exact congrArg (fun o => Result.ok () (w.putObj b o)) he.symm
 ·cases h
theorem tune_Share.calls1 (g : Nat) (A : Option Addr) (c : Nat) (l : List Int) (W : World) (hx : W.cell? ⟨g, 0, none⟩ = some (.slice A l.length c)) (hC : Kd.C (Kd.int .i64) W A l.length l) (x0 x1 x2 x3 x4 : Int) (r : Bool) (h : tune_Share.st l x0 x1 x2 x3 x4 = some r) :
  Calls Try.prog 46 (#[.int .i64 x0, .agg #[.int .i64 x1, .int .i64 x2, .int .i64 x3, .int .u64 x4]] ++ #[.pointer (some ⟨g, 0, none⟩)]) W fun e_ w' => e_ = .returned (.bool r) ∧ Below W.heap.size W w' := by
 unfold tune_Share.st at h
 split at h
 ·rename_i hi
  obtain rfl := Option.some.inj h;obtain ⟨h0, h1⟩ := hi;obtain ⟨ad, rfl, hr⟩ := Kd.at_int hC x0 h0 h1;clear hC h;replace hx := (World.grownBy_alloc W (.cells #[.int .i64 x1, .int .i64 x2, .int .i64 x3, .int .u64 x4] 61 (0, 0)) none).cell hx (by simp);replace hr := (World.grownBy_alloc W (.cells #[.int .i64 x1, .int .i64 x2, .int .i64 x3, .int .u64 x4] 61 (0, 0)) none).cell hr (by simp);replace h0 := eq_true h0; replace h1 := eq_true h1;go_enter Try.func46, Try.ntmps46;go_wp2;go_ret;exact ⟨rfl, by repeat (first | exact Below.refl _ _ | apply below_alloc)⟩
 ·cases h
theorem tune_Share.calls2 (g : Nat) (A : Option Addr) (c : Nat) (l : List Int) (W : World) (hx : W.cell? ⟨g, 0, none⟩ = some (.slice A l.length c)) (hC : Kd.C (Kd.int .i64) W A l.length l) (x0 r : Int) (h : tune_Share.tto l x0 = some r) :
  Calls Try.prog 47 (#[.int .i64 x0] ++ #[.pointer (some ⟨g, 0, none⟩)]) W fun e_ w' => e_ = .returned (.int .i64 r) ∧ Below W.heap.size W w' := by
 unfold tune_Share.tto at h
 split at h
 ·rename_i hi
  obtain rfl := Option.some.inj h;obtain ⟨h0, h1⟩ := hi;obtain ⟨ad, rfl, hr⟩ := Kd.at_int hC x0 h0 h1;clear hC h; replace h0 := eq_true h0; replace h1 := eq_true h1;go_enter Try.func47, Try.ntmps47;go_wp2;go_ret;exact ⟨rfl, by repeat (first | exact Below.refl _ _ | apply below_alloc)⟩
 ·cases h
theorem tune_Share.gate_upd {P : Program} {ops : Array Oper} {rest : List Oper} {o : Oper} {a : Act} {Q : Exit → Act → World → Prop} {W : World} {x y z : Operand} (_h : o.op = .mapUpdate 73 x y z) (k : wpList P ops Q (o :: rest) a W) : wpList P ops Q (o :: rest) a W := k
theorem tune_Share.upd_event {P : Program} {ops : Array Oper} {rest : List Oper} {o : Oper} {a : Act} {Q : Exit → Act → World → Prop} {W w1 : World} (hgd : o.guard = none) (hN : o.dst = none)
  (hrun : (execOp a.eval o).run P W = .ok .skip w1) (h : ∀ w', w' = w1 → wpList P ops Q rest a w') : wpList P ops Q (o :: rest) a W := by
 refine wpList_plain hgd fun K hK => ?_
 unfold Oper.wp;rw [hrun]
 show K (a.put o.dst undef) w1
 rw [hN];exact hK _ _ (h _ rfl)
theorem tune_Share.look_event {P : Program} {ops : Array Oper} {rest : List Oper} {o : Oper} {a : Act} {Q : Exit → Act → World → Prop} {W : World} (hgd : o.guard = none) {N : Tmp} (_hN : o.dst = some N) {v : Value}
  (hrun : (execOp a.eval o).run P W = .ok (.value v) W) (h : ∀ w', Below W.heap.size W w' → wpList P ops Q rest (a.put o.dst v) w') : wpList P ops Q (o :: rest) a W :=
 Kd.event_run hgd hrun (h _ (Below.refl _ _))
theorem tune_Share.blk_upd {w : World} {g b : Nat} {o : Obj} (h : w.heap[g]? = some o) (hne : g ≠ b) (o' : Obj) : (w.putObj b o').heap[g]? = some o := (World.putObj_heap_other hne).trans h
theorem tune_Share.upd_new {w : World} {b : Nat} {o : Obj} (h : w.heap[b]? = some o) (o' : Obj) : (w.putObj b o').heap[b]? = some o' := by
 have := (Array.getElem?_eq_some_iff.1 h).1;simp [World.putObj, this]
theorem tune_Share.below_upd {n b : Nat} {w W : World} (h : Below n w W) (hb : n ≤ b) (hn : n ≤ W.heap.size) (o' : Obj) : Below n w (W.putObj b o') := h.grown (grownBy_putObj' W b o') hn (fun j hj => by cases hj; exact hb)
theorem tune_Share.R_upd {α : Type} {d : Kd α} {e : TypeId} {w : World} {base b : Nat} {v : Value} {xs : List α} {M : List (S61 × Int)} (h : d.R e w base (fun _ => True) v xs) (hb : w.heap[b]? = some (tune_Share.obj M)) (o' : Obj) : d.R e (w.putObj b o') base (fun _ => True) v xs :=
 Kd.R_mono (Kd.R_step (Kd.R_bound h) (fun k hk _ => by
  obtain ⟨_, _, _, q, _, cs, hc⟩ := hk
  exact World.putObj_heap_other (fun e => by rw [e, hb] at hc; cases hc))) (fun _ _ => trivial)
theorem tune_Share.R_neM {α : Type} {d : Kd α} {e : TypeId} {w : World} {base g : Nat} {ok : Nat → Prop} {v : Value} {xs : List α} {M : List (S61 × Int)} (h : d.R e w base ok v xs) (hb : w.heap[g]? = some (tune_Share.obj M)) : some g ≠ v.ownBlock := by
 obtain ⟨inner, ho, _⟩ := h.2
 rcases ho.2 with ⟨rfl, _⟩ | ⟨g', cap, cur, rfl, _, hh, _⟩
 ·simp [Value.ownBlock]
 ·intro he
  have : g = g' := by simpa [Value.ownBlock] using he
  subst this;rw [hb] at hh
  injection hh with hh
  cases hh
mutual
def tune_Share.l0 : Nat → List (S61) → Int → Int → List (S64) → List (S61) → List (S66) → List (S61 × Int) → Bool → List Int → Option ((List (S64)) × (List (S61)) × (List (S66)) × Int)
 | 0, _, _, _, _, _, _, _, _, _ => none
 | k + 1, x26, x27, x28, ab, ae, af, ag, aj, aa => if x28 < x27 then (if 0 ≤ x28 then (if x28 < (x26.length : Int) then (if ((rd_T61 x26 x28).f0) = 1 then (tune_Share.j1 k x28 x26 x27 x28 false ab ae af ag aj aa ((rd_T61 x26 x28).f0) ((rd_T61 x26 x28).f1) ((rd_T61 x26 x28).f2) ((rd_T61 x26 x28).f3)) else (tune_Share.j1 k x28 x26 x27 x28 (((rd_T61 x26 x28).f0) != 2) ab ae af ag aj aa ((rd_T61 x26 x28).f0) ((rd_T61 x26 x28).f1) ((rd_T61 x26 x28).f2) ((rd_T61 x26 x28).f3))) else (none)) else (none)) else ((tune_moved.f (tune_Share.st aa) (tune_Share.tto aa) k ab ae af).bind fun an => (some (an.1, an.2.1, an.2.2, 0)))
def tune_Share.j1 : Nat → Int → List (S61) → Int → Int → Bool → List (S64) → List (S61) → List (S66) → List (S61 × Int) → Bool → List Int → Int → Int → Int → Int → Option ((List (S64)) × (List (S61)) × (List (S66)) × Int)
 | 0, _, _, _, _, _, _, _, _, _, _, _, _, _, _, _ => none
 | k + 1, x9, x26, x27, x28, x40, ab, ae, af, ag, aj, aa, ak, ah, ai, al => if x40 = true then (if 0 ≤ ah then (if ah < (aa.length : Int) then (if ak = 6 then (tune_Share.j2 k x9 x26 x27 x28 ab ae af ag aj aa ak (rd aa ah) ai al) else (if 0 ≤ ai then (if ai < (aa.length : Int) then (tune_Share.j2 k x9 x26 x27 x28 ab ae af ag aj aa ak (rd aa ah) (rd aa ai) al) else (none)) else (none))) else (none)) else (none)) else (tune_Share.j2 k x9 x26 x27 x28 ab ae af ag aj aa ak ah ai al)
def tune_Share.j2 : Nat → Int → List (S61) → Int → Int → List (S64) → List (S61) → List (S66) → List (S61 × Int) → Bool → List Int → Int → Int → Int → Int → Option ((List (S64)) × (List (S61)) × (List (S66)) × Int)
 | 0, _, _, _, _, _, _, _, _, _, _, _, _, _, _ => none
 | k + 1, x9, x26, x27, x28, ab, ae, af, ag, aj, aa, ak, ah, ai, al => if ak = 3 then (tune_Share.j3 k x9 x26 x27 x28 (decide (ah > ai)) ab ae af ag aj aa ak ah ai al) else (if ak = 5 then (tune_Share.j3 k x9 x26 x27 x28 (decide (ah > ai)) ab ae af ag aj aa ak ah ai al) else (tune_Share.j3 k x9 x26 x27 x28 false ab ae af ag aj aa ak ah ai al))
def tune_Share.j3 : Nat → Int → List (S61) → Int → Int → Bool → List (S64) → List (S61) → List (S66) → List (S61 × Int) → Bool → List Int → Int → Int → Int → Int → Option ((List (S64)) × (List (S61)) × (List (S66)) × Int)
 | 0, _, _, _, _, _, _, _, _, _, _, _, _, _, _, _ => none
 | k + 1, x9, x26, x27, x28, x70, ab, ae, af, ag, aj, aa, ak, ah, ai, al => if x70 = true then (tune_Share.j4 k x9 x26 x27 x28 ab ae af ag aj aa ak ai ah al) else (tune_Share.j4 k x9 x26 x27 x28 ab ae af ag aj aa ak ah ai al)
def tune_Share.j4 : Nat → Int → List (S61) → Int → Int → List (S64) → List (S61) → List (S66) → List (S61 × Int) → Bool → List Int → Int → Int → Int → Int → Option ((List (S64)) × (List (S61)) × (List (S66)) × Int)
 | 0, _, _, _, _, _, _, _, _, _, _, _, _, _, _ => none
 | k + 1, x9, x26, x27, x28, ab, ae, af, ag, aj, aa, ak, ah, ai, al => (tune_Share.look ag ak ah ai al).bind fun ao => (if ao.2 = true then (if 0 ≤ x9 then (if x9 < (aa.length : Int) then (tune_Share.l0 k x26 x27 (wrap64 (x28 + 1)) ab ae af ag aj (aa.set (x9 : Int).toNat ao.1)) else (none)) else (none)) else ((tune_Share.put ag ak ah ai al x9).bind fun ap => (if 0 ≤ x9 then (if x9 < (aa.length : Int) then (tune_Share.l0 k x26 x27 (wrap64 (x28 + 1)) ab ae af ap aj (aa.set (x9 : Int).toNat x9)) else (none)) else (none))))
end
def tune_Share.f (k : Nat) (a0 : Int) (ab : List (S64)) (aa : List (S61)) (ae : List (S66)) : Option ((List (S64)) × (List (S61)) × (List (S66)) × Int) := (circ_Check.f k a0 ab aa ae).bind fun af => (if af = 0 then (if 0 ≤ (aa.length : Int) then (if ((aa.length : Int) : Int).toNat ≤ 35184372088832 then (tune_Share.l0 k aa (aa.length : Int) 0 ab aa ae [] false (List.replicate ((aa.length : Int) : Int).toNat 0)) else (none)) else (none)) else (some (([] : List (S64)), ([] : List (S61)), ([] : List (S66)), af)))
theorem tune_Share.mono_l : ∀ k, (∀ y0 y1 y2 y3 y4 y5 y6 y7 y8, LeO (tune_Share.l0 k y0 y1 y2 y3 y4 y5 y6 y7 y8) (tune_Share.l0 (k + 1) y0 y1 y2 y3 y4 y5 y6 y7 y8)) ∧ (∀ y0 y1 y2 y3 y4 y5 y6 y7 y8 y9 y10 y11 y12 y13 y14, LeO (tune_Share.j1 k y0 y1 y2 y3 y4 y5 y6 y7 y8 y9 y10 y11 y12 y13 y14) (tune_Share.j1 (k + 1) y0 y1 y2 y3 y4 y5 y6 y7 y8 y9 y10 y11 y12 y13 y14)) ∧ (∀ y0 y1 y2 y3 y4 y5 y6 y7 y8 y9 y10 y11 y12 y13, LeO (tune_Share.j2 k y0 y1 y2 y3 y4 y5 y6 y7 y8 y9 y10 y11 y12 y13) (tune_Share.j2 (k + 1) y0 y1 y2 y3 y4 y5 y6 y7 y8 y9 y10 y11 y12 y13)) ∧ (∀ y0 y1 y2 y3 y4 y5 y6 y7 y8 y9 y10 y11 y12 y13 y14, LeO (tune_Share.j3 k y0 y1 y2 y3 y4 y5 y6 y7 y8 y9 y10 y11 y12 y13 y14) (tune_Share.j3 (k + 1) y0 y1 y2 y3 y4 y5 y6 y7 y8 y9 y10 y11 y12 y13 y14)) ∧ (∀ y0 y1 y2 y3 y4 y5 y6 y7 y8 y9 y10 y11 y12 y13, LeO (tune_Share.j4 k y0 y1 y2 y3 y4 y5 y6 y7 y8 y9 y10 y11 y12 y13) (tune_Share.j4 (k + 1) y0 y1 y2 y3 y4 y5 y6 y7 y8 y9 y10 y11 y12 y13))
 | 0 => ⟨fun _ _ _ _ _ _ _ _ _ r h => by simp [tune_Share.l0] at h, fun _ _ _ _ _ _ _ _ _ _ _ _ _ _ _ r h => by simp [tune_Share.j1] at h, fun _ _ _ _ _ _ _ _ _ _ _ _ _ _ r h => by simp [tune_Share.j2] at h, fun _ _ _ _ _ _ _ _ _ _ _ _ _ _ _ r h => by simp [tune_Share.j3] at h, fun _ _ _ _ _ _ _ _ _ _ _ _ _ _ r h => by simp [tune_Share.j4] at h⟩
 | k + 1 => by
  obtain ⟨ih0, ih1, ih2, ih3, ih4⟩ := tune_Share.mono_l k;refine ⟨?_, ?_, ?_, ?_, ?_⟩
  ·intro y0 y1 y2 y3 y4 y5 y6 y7 y8
   unfold tune_Share.l0
   repeat' first
   | (with_reducible exact ih0 _ _ _ _ _ _ _ _ _)
   | (with_reducible exact ih1 _ _ _ _ _ _ _ _ _ _ _ _ _ _ _)
   | (with_reducible exact ih2 _ _ _ _ _ _ _ _ _ _ _ _ _ _)
   | (with_reducible exact ih3 _ _ _ _ _ _ _ _ _ _ _ _ _ _ _)
   | (with_reducible exact ih4 _ _ _ _ _ _ _ _ _ _ _ _ _ _)
   | (with_reducible exact circ_Check.mono _ _ _ _ _)
   | (with_reducible exact tune_moved.mono _ _ _ _ _ _)
   | (with_reducible exact LeO.refl _)
   | (with_reducible exact LeO.none _)
   | (with_reducible refine LeO.ite ?_ ?_)
   | (with_reducible refine LeO.bind ?_ (fun _ => ?_))
   | exact ih0 _ _ _ _ _ _ _ _ _
   | exact ih1 _ _ _ _ _ _ _ _ _ _ _ _ _ _ _
   | exact ih2 _ _ _ _ _ _ _ _ _ _ _ _ _ _
   | exact ih3 _ _ _ _ _ _ _ _ _ _ _ _ _ _ _
   | exact ih4 _ _ _ _ _ _ _ _ _ _ _ _ _ _
   | exact circ_Check.mono _ _ _ _ _
   | exact tune_moved.mono _ _ _ _ _ _
   | exact LeO.none _
   | refine LeO.ite ?_ ?_
   | refine LeO.bind ?_ (fun _ => ?_)
  ·intro y0 y1 y2 y3 y4 y5 y6 y7 y8 y9 y10 y11 y12 y13 y14
   unfold tune_Share.j1
   repeat' first
   | (with_reducible exact ih0 _ _ _ _ _ _ _ _ _)
   | (with_reducible exact ih1 _ _ _ _ _ _ _ _ _ _ _ _ _ _ _)
   | (with_reducible exact ih2 _ _ _ _ _ _ _ _ _ _ _ _ _ _)
   | (with_reducible exact ih3 _ _ _ _ _ _ _ _ _ _ _ _ _ _ _)
   | (with_reducible exact ih4 _ _ _ _ _ _ _ _ _ _ _ _ _ _)
   | (with_reducible exact circ_Check.mono _ _ _ _ _)
   | (with_reducible exact tune_moved.mono _ _ _ _ _ _)
   | (with_reducible exact LeO.refl _)
   | (with_reducible exact LeO.none _)
   | (with_reducible refine LeO.ite ?_ ?_)
   | (with_reducible refine LeO.bind ?_ (fun _ => ?_))
   | exact ih0 _ _ _ _ _ _ _ _ _
   | exact ih1 _ _ _ _ _ _ _ _ _ _ _ _ _ _ _
   | exact ih2 _ _ _ _ _ _ _ _ _ _ _ _ _ _
   | exact ih3 _ _ _ _ _ _ _ _ _ _ _ _ _ _ _
   | exact ih4 _ _ _ _ _ _ _ _ _ _ _ _ _ _
   | exact circ_Check.mono _ _ _ _ _
   | exact tune_moved.mono _ _ _ _ _ _
   | exact LeO.none _
   | refine LeO.ite ?_ ?_
   | refine LeO.bind ?_ (fun _ => ?_)
  ·intro y0 y1 y2 y3 y4 y5 y6 y7 y8 y9 y10 y11 y12 y13
   unfold tune_Share.j2
   repeat' first
   | (with_reducible exact ih0 _ _ _ _ _ _ _ _ _)
   | (with_reducible exact ih1 _ _ _ _ _ _ _ _ _ _ _ _ _ _ _)
   | (with_reducible exact ih2 _ _ _ _ _ _ _ _ _ _ _ _ _ _)
   | (with_reducible exact ih3 _ _ _ _ _ _ _ _ _ _ _ _ _ _ _)
   | (with_reducible exact ih4 _ _ _ _ _ _ _ _ _ _ _ _ _ _)
   | (with_reducible exact circ_Check.mono _ _ _ _ _)
   | (with_reducible exact tune_moved.mono _ _ _ _ _ _)
   | (with_reducible exact LeO.refl _)
   | (with_reducible exact LeO.none _)
   | (with_reducible refine LeO.ite ?_ ?_)
   | (with_reducible refine LeO.bind ?_ (fun _ => ?_))
   | exact ih0 _ _ _ _ _ _ _ _ _
   | exact ih1 _ _ _ _ _ _ _ _ _ _ _ _ _ _ _
   | exact ih2 _ _ _ _ _ _ _ _ _ _ _ _ _ _
   | exact ih3 _ _ _ _ _ _ _ _ _ _ _ _ _ _ _
   | exact ih4 _ _ _ _ _ _ _ _ _ _ _ _ _ _
   | exact circ_Check.mono _ _ _ _ _
   | exact tune_moved.mono _ _ _ _ _ _
   | exact LeO.none _
   | refine LeO.ite ?_ ?_
   | refine LeO.bind ?_ (fun _ => ?_)
  ·intro y0 y1 y2 y3 y4 y5 y6 y7 y8 y9 y10 y11 y12 y13 y14
   unfold tune_Share.j3
   repeat' first
   | (with_reducible exact ih0 _ _ _ _ _ _ _ _ _)
   | (with_reducible exact ih1 _ _ _ _ _ _ _ _ _ _ _ _ _ _ _)
   | (with_reducible exact ih2 _ _ _ _ _ _ _ _ _ _ _ _ _ _)
   | (with_reducible exact ih3 _ _ _ _ _ _ _ _ _ _ _ _ _ _ _)
   | (with_reducible exact ih4 _ _ _ _ _ _ _ _ _ _ _ _ _ _)
   | (with_reducible exact circ_Check.mono _ _ _ _ _)
   | (with_reducible exact tune_moved.mono _ _ _ _ _ _)
   | (with_reducible exact LeO.refl _)
   | (with_reducible exact LeO.none _)
   | (with_reducible refine LeO.ite ?_ ?_)
   | (with_reducible refine LeO.bind ?_ (fun _ => ?_))
   | exact ih0 _ _ _ _ _ _ _ _ _
   | exact ih1 _ _ _ _ _ _ _ _ _ _ _ _ _ _ _
   | exact ih2 _ _ _ _ _ _ _ _ _ _ _ _ _ _
   | exact ih3 _ _ _ _ _ _ _ _ _ _ _ _ _ _ _
   | exact ih4 _ _ _ _ _ _ _ _ _ _ _ _ _ _
   | exact circ_Check.mono _ _ _ _ _
   | exact tune_moved.mono _ _ _ _ _ _
   | exact LeO.none _
   | refine LeO.ite ?_ ?_
   | refine LeO.bind ?_ (fun _ => ?_)
  ·intro y0 y1 y2 y3 y4 y5 y6 y7 y8 y9 y10 y11 y12 y13
   unfold tune_Share.j4
   repeat' first
   | (with_reducible exact ih0 _ _ _ _ _ _ _ _ _)
   | (with_reducible exact ih1 _ _ _ _ _ _ _ _ _ _ _ _ _ _ _)
   | (with_reducible exact ih2 _ _ _ _ _ _ _ _ _ _ _ _ _ _)
   | (with_reducible exact ih3 _ _ _ _ _ _ _ _ _ _ _ _ _ _ _)
   | (with_reducible exact ih4 _ _ _ _ _ _ _ _ _ _ _ _ _ _)
   | (with_reducible exact circ_Check.mono _ _ _ _ _)
   | (with_reducible exact tune_moved.mono _ _ _ _ _ _)
   | (with_reducible exact LeO.refl _)
   | (with_reducible exact LeO.none _)
   | (with_reducible refine LeO.ite ?_ ?_)
   | (with_reducible refine LeO.bind ?_ (fun _ => ?_))
   | exact ih0 _ _ _ _ _ _ _ _ _
   | exact ih1 _ _ _ _ _ _ _ _ _ _ _ _ _ _ _
   | exact ih2 _ _ _ _ _ _ _ _ _ _ _ _ _ _
   | exact ih3 _ _ _ _ _ _ _ _ _ _ _ _ _ _ _
   | exact ih4 _ _ _ _ _ _ _ _ _ _ _ _ _ _
   | exact circ_Check.mono _ _ _ _ _
   | exact tune_moved.mono _ _ _ _ _ _
   | exact LeO.none _
   | refine LeO.ite ?_ ?_
   | refine LeO.bind ?_ (fun _ => ?_)
theorem tune_Share.mono : ∀ a0 a1 a2 a3 k, LeO (tune_Share.f k a0 a1 a2 a3) (tune_Share.f (k + 1) a0 a1 a2 a3) := by
 intro a0 a1 a2 a3 k;obtain ⟨ih0, ih1, ih2, ih3, ih4⟩ := tune_Share.mono_l k;unfold tune_Share.f
 repeat' first
   | (with_reducible exact ih0 _ _ _ _ _ _ _ _ _)
   | (with_reducible exact ih1 _ _ _ _ _ _ _ _ _ _ _ _ _ _ _)
   | (with_reducible exact ih2 _ _ _ _ _ _ _ _ _ _ _ _ _ _)
   | (with_reducible exact ih3 _ _ _ _ _ _ _ _ _ _ _ _ _ _ _)
   | (with_reducible exact ih4 _ _ _ _ _ _ _ _ _ _ _ _ _ _)
   | (with_reducible exact circ_Check.mono _ _ _ _ _)
   | (with_reducible exact tune_moved.mono _ _ _ _ _ _)
   | (with_reducible exact LeO.refl _)
   | (with_reducible exact LeO.none _)
   | (with_reducible refine LeO.ite ?_ ?_)
   | (with_reducible refine LeO.bind ?_ (fun _ => ?_))
   | exact ih0 _ _ _ _ _ _ _ _ _
   | exact ih1 _ _ _ _ _ _ _ _ _ _ _ _ _ _ _
   | exact ih2 _ _ _ _ _ _ _ _ _ _ _ _ _ _
   | exact ih3 _ _ _ _ _ _ _ _ _ _ _ _ _ _ _
   | exact ih4 _ _ _ _ _ _ _ _ _ _ _ _ _ _
   | exact circ_Check.mono _ _ _ _ _
   | exact tune_moved.mono _ _ _ _ _ _
   | exact LeO.none _
   | refine LeO.ite ?_ ?_
   | refine LeO.bind ?_ (fun _ => ?_)
def tune_Share.T4 : Bool × List (List Nat × List Nat) := (true, [([], []), ([], []), ([1], [1]), ([2], [2]), ([3, 3], [3]), ([], []), ([0, 0, 5], [0]), ([5, 4, 6, 0, 1, 2, 3, 4, 5, 6], [4, 5])])
def tune_Share.B4 : List Nat := [0, 0, 2, 6, 14, 0, 33, 127]
theorem tune_Share.tab4 : rtab .any (opsOf Try.f20 4) = tune_Share.T4 := by kernel_rfl
theorem tune_Share.bits4 : waitsOk tune_Share.T4.2 tune_Share.B4 = true := by kernel_rfl
theorem tune_Share.calls (k : Nat) (a0 : Int) (aK : Option Addr) (aM : Nat) (aD : List (S64)) (bb : Option Addr) (aN : Nat) (ag : List (S61)) (aQ : Option Addr) (aR : Nat) (aE : List (S66)) (r1 : List (S64)) (r2 : List (S61)) (r3 : List (S66)) (r4 : Int) (w : World) (cp : Kd.C k64 w aK aD.length aD) (cq : aD.length ≤ aM) (cr : Kd.C k61 w bb ag.length ag) (ct : ag.length ≤ aN) (cu : Kd.C k66 w aQ aE.length aE) (cv : aE.length ≤ aR) (h : tune_Share.f k a0 aD ag aE = some (r1, r2, r3, r4)) :
  Calls Try.prog 20 #[.int .u64 a0, .agg #[.slice aK aD.length aM, .slice bb ag.length aN, .slice aQ aE.length aR]] w fun e w' => ∃ v0_ v1_ v2_ : Value, e = .returned (.tuple #[.agg #[v0_, v1_, v2_], .int .i64 r4]) ∧ Kd.R k64 64 w' w.heap.size (fun _ => True) v0_ r1 ∧ Kd.R k61 61 w' w.heap.size (fun _ => True) v1_ r2 ∧ Kd.S k66 66 w' w.heap.size (fun _ => True) v2_ r3 ∧ Below w.heap.size w w' := by
 have hu26 := Try.underlying26;have hu64 := Try.underlying64;have hu61 := Try.underlying61;have ca := Aside0.mk cp;have cb := Aside0.mk cq;clear cp cq;have bQ := Aside0.mk cr;have cc := Aside0.mk ct;clear cr ct;have cd := Aside0.mk cu;have ce := Aside0.mk cv;clear cu cv;have HB := Aside0.mk (Below.refl w.heap.size w);have H : ((circ_Check.f k a0 aD ag aE).bind fun bV => (if bV = 0 then (if 0 ≤ (ag.length : Int) then (if ((ag.length : Int) : Int).toNat ≤ 35184372088832 then (tune_Share.l0 k ag (ag.length : Int) 0 aD ag aE [] false (List.replicate ((ag.length : Int) : Int).toNat 0)) else (none)) else (none)) else (some (([] : List (S64)), ([] : List (S61)), ([] : List (S66)), bV)))) = some (r1, r2, r3, r4) := h;clear h;replace H := Option.bind_eq_some_iff.mp H;obtain ⟨bV, A30, H⟩ := H;(try dsimp only at H);have A3 := Aside0.mk A30;clear A30
 by_cases c4 : bV = 0
 rotate_left
 ·rw [if_neg c4] at H
  have dH := beq_eq_false_iff_ne.mpr c4;have dI := bne_iff_ne.mpr c4;simp only [Option.some.injEq, Prod.mk.injEq] at H;obtain ⟨rfl, rfl, rfl, rfl⟩ := H;go_enter Try.func20, Try.ntmps20;go_wp2_with (first | ((with_reducible refine qea (N := 3) rfl ?_); refine box_event ?hg (N := 3) ?hd (cs := #[.slice aK aD.length aM, .slice bb ag.length aN, .slice aQ aE.length aR]) (t := 26) ?hr ?_; (case hd => rfl); (case hg => rfl); (case hr => first | (go_simp; done) | (go_simp; rfl)); intro ah hg gP hbox hb; have aa := am hbox; have da := kG HB hg; have db := kG HB hg; replace HB := kH HB hb; clear hb hbox hg) | ((with_reducible refine qea (N := 4) rfl ?_); refine box_event ?hg (N := 4) ?hd (cs := #[.slice none 0 0, .slice none 0 0, .slice none 0 0]) (t := 26) ?hr ?_; (case hd => rfl); (case hg => rfl); (case hr => first | (go_simp; done) | (go_simp; rfl)); intro aj hg gQ hbox hb; have ae := am hbox; have dc := kG HB hg; have bR := kG HB hg; replace HB := kH HB hb; have bl := kP aa hg; have bm := kQ aa hg; replace aa := kU aa hb; clear hb hbox hg; have dJ := bl.out; have dK := bm.out; have gR := kz3 aa) | ((with_reducible refine gate_callee (f := 37) rfl ?_); refine goesL_ (some 15) rfl rfl Try.func37 (by kernel_rfl) rfl #[.int .u64 a0, .agg #[.slice aK aD.length aM, .slice bb ag.length aN, .slice aQ aE.length aR]] rfl (by (try simp only [qM1, qM2, qM3]); first | done | rfl) ?_; (with_reducible refine (circ_Check.calls k a0 _ _ aD _ _ ag _ _ aE bV _ ?side1 ?side2 ?side3 ?side4 ?side5 ?side6 A3.out).mono ?_); (case side1 => repeat (first | exact (Kd.C_below ca.out HB.out) | (with_reducible first | refine Kd.C_alloc ?_ _ | refine Kd.C_drewN ?_ _ | refine Kd.C_drew ?_))); (case side2 => exact cb.out); (case side3 => repeat (first | exact (Kd.C_below bQ.out HB.out) | (with_reducible first | refine Kd.C_alloc ?_ _ | refine Kd.C_drewN ?_ _ | refine Kd.C_drew ?_))); (case side4 => exact cc.out); (case side5 => repeat (first | exact (Kd.C_below cd.out HB.out) | (with_reducible first | refine Kd.C_alloc ?_ _ | refine Kd.C_drewN ?_ _ | refine Kd.C_drew ?_))); (case side6 => exact ce.out); rintro e gS ⟨rfl, hb⟩; refine ⟨_, rfl, ?_⟩; replace aa := kU aa hb; replace ae := kU ae hb; replace HB := kH HB hb; (try clear hb); (try clear hb2); (try clear hk); (try clear hi); have gT := kz3 ae));refine bodyPost_ret (results_ct rfl _ _ aj 26 #[.slice none 0 0, .slice none 0 0, .slice none 0 0] (0, 0) _ rfl (kg ae) Try.underlying26 rfl (by kernel_rfl)) rfl ?_;exact ⟨_, _, _, er, by first | exact Kd.R_nil _ _ _ _ _ | exact Kd.N_nil _ _ _ _ _ | exact Kd.V_nil _ _ _ _ _ | exact Kd.Q_nil _ _ _ _ _ | exact Kd.S_nil _ _ _ _ _, by first | exact Kd.R_nil _ _ _ _ _ | exact Kd.N_nil _ _ _ _ _ | exact Kd.V_nil _ _ _ _ _ | exact Kd.Q_nil _ _ _ _ _ | exact Kd.S_nil _ _ _ _ _, by first | exact Kd.S_nil _ _ _ _ _ | exact Kd.N_nil _ _ _ _ _ | exact Kd.V_nil _ _ _ _ _ | exact Kd.Q_nil _ _ _ _ _ | exact Kd.R_nil _ _ _ _ _, kh HB⟩
 rw [if_pos c4] at H;have dH := beq_iff_eq.mpr c4;have dI := bne_eq_false_iff_eq.mpr c4;clear c4
 by_cases c5 : 0 ≤ (ag.length : Int)
 rotate_left
 ·rw [if_neg c5] at H
  exact absurd H (by simp)
 rw [if_pos c5] at H;have gU := eq_true c5;have gV := decide_eq_true c5;clear c5
 by_cases c6 : ((ag.length : Int) : Int).toNat ≤ 35184372088832
 rotate_left
 ·rw [if_neg c6] at H
  exact absurd H (by simp)
 rw [if_pos c6] at H;have gW := eq_true c6;have gX := decide_eq_true c6;clear c6;obtain ⟨bo, bB⟩ : ∃ y_ : List Int, y_ = (List.replicate ((ag.length : Int) : Int).toNat 0) := ⟨_, rfl⟩
 replace H : (tune_Share.l0 k ag (ag.length : Int) 0 aD ag aE [] false bo) = some (r1, r2, r3, r4) := by first | (rw [bB]; with_reducible exact H) | (have H2_ := (Option.bind_some _ _).symm.trans H; rw [bB]; with_reducible exact H2_) | (have H2_ := (Option.bind_some _ _).symm.trans H; with_reducible exact H2_) | with_reducible exact H | (rw [bB]; exact H) | exact H
 have bn := Aside0.mk bB;clear bB;have H' := Aside0.mk H;clear H;go_enter Try.func20, Try.ntmps20;(try go_wp2_with (first | ((with_reducible refine qea (N := 3) rfl ?_); refine box_event ?hg (N := 3) ?hd (cs := #[.slice aK aD.length aM, .slice bb ag.length aN, .slice aQ aE.length aR]) (t := 26) ?hr ?_; (case hd => rfl); (case hg => rfl); (case hr => first | (go_simp; done) | (go_simp; rfl)); intro ah hg w7 hbox hb; have aa := am hbox; have da := kG HB hg; have db := kG HB hg; replace HB := kH HB hb; clear hb hbox hg) | ((with_reducible refine qea (N := 4) rfl ?_); refine box_event ?hg (N := 4) ?hd (cs := #[.slice none 0 0, .slice none 0 0, .slice none 0 0]) (t := 26) ?hr ?_; (case hd => rfl); (case hg => rfl); (case hr => first | (go_simp; done) | (go_simp; rfl)); intro aj hg w8 hbox hb; have ae := am hbox; have dc := kG HB hg; have bR := kG HB hg; replace HB := kH HB hb; have bl := kP aa hg; have bm := kQ aa hg; replace aa := kU aa hb; clear hb hbox hg; have gY := bl.out; have gZ := bm.out; have Z10 := kz3 aa) | ((with_reducible refine gate_callee (f := 37) rfl ?_); refine goesL_ (some 15) rfl rfl Try.func37 (by kernel_rfl) rfl #[.int .u64 a0, .agg #[.slice aK aD.length aM, .slice bb ag.length aN, .slice aQ aE.length aR]] rfl (by (try simp only [qM1, qM2, qM3]); first | done | rfl) ?_; (with_reducible refine (circ_Check.calls k a0 _ _ aD _ _ ag _ _ aE bV _ ?side1 ?side2 ?side3 ?side4 ?side5 ?side6 A3.out).mono ?_); (case side1 => repeat (first | exact (Kd.C_below ca.out HB.out) | (with_reducible first | refine Kd.C_alloc ?_ _ | refine Kd.C_drewN ?_ _ | refine Kd.C_drew ?_))); (case side2 => exact cb.out); (case side3 => repeat (first | exact (Kd.C_below bQ.out HB.out) | (with_reducible first | refine Kd.C_alloc ?_ _ | refine Kd.C_drewN ?_ _ | refine Kd.C_drew ?_))); (case side4 => exact cc.out); (case side5 => repeat (first | exact (Kd.C_below cd.out HB.out) | (with_reducible first | refine Kd.C_alloc ?_ _ | refine Kd.C_drewN ?_ _ | refine Kd.C_drew ?_))); (case side6 => exact ce.out); rintro e w11 ⟨rfl, hb⟩; refine ⟨_, rfl, ?_⟩; replace aa := kU aa hb; replace ae := kU ae hb; replace HB := kH HB hb; (try clear hb); (try clear hb2); (try clear hk); (try clear hi))));replace aa := kD aa; replace ae := kD ae; replace HB := kE HB;refine start_ (n := 8) (S := fun w' => w'.cell? ⟨ah, 0, none⟩ = some (.slice aK aD.length aM) ∧ w'.cell? ⟨ah, 1, none⟩ = some (.slice bb ag.length aN) ∧ w'.cell? ⟨ah, 2, none⟩ = some (.slice aQ aE.length aR)) (ds := []) (bs 8 0) (by kernel_rfl) rfl rfl ⟨kk aa 0, kk aa 1, kk aa 2⟩ (fun hHeld => ?_); refine with_tabW tune_Share.tab4 tune_Share.bits4 (fun HT_ HW_ => ?_);generalize w11.drew = w12 at aa ae HB hHeld ⊢;refine pu 1 (some 21) (bs 8 2) HT_ ?_;refine ta 2 (some 22) (bs 8 6) HT_ HW_ hHeld ?_;refine pu 3 (some 23) (bs 8 14) HT_ ?_;refine join_ (σ := Nat × Value × Nat) 1 (bs 8 127) (fun s_ => [(20, .map (some s_.1)), (24, s_.2.1), (8, .pointer (some ⟨s_.2.2, 0, none⟩)), (7, .map (some s_.1))]) (fun s_ w' => (w'.cell? ⟨ah, 0, none⟩ = some (.slice aK aD.length aM) ∧ w'.cell? ⟨ah, 1, none⟩ = some (.slice bb ag.length aN) ∧ w'.cell? ⟨ah, 2, none⟩ = some (.slice aQ aE.length aR)) ∧ (Kd.R (Kd.int .i64) 3 w' w.heap.size (fun _ => True) s_.2.1 bo) ∧ (w'.heap[ah]? = some (.cells #[.slice aK aD.length aM, .slice bb ag.length aN, .slice aQ aE.length aR] 26 (0, 0))) ∧ (w'.heap[aj]? = some (.cells #[.slice none 0 0, .slice none 0 0, .slice none 0 0] 26 (0, 0))) ∧ (w'.heap[s_.1]? = some ((tune_Share.obj []))) ∧ (w'.heap[s_.2.2]? = some (.cells #[.slice none 0 0] 27 (0, 0))) ∧ (w.heap.size ≤ s_.1) ∧ (w.heap.size ≤ s_.1) ∧ (ah ≠ s_.1) ∧ (s_.1 ≠ ah) ∧ (aj ≠ s_.1) ∧ (s_.1 ≠ aj) ∧ (s_.2.2 ≠ s_.1) ∧ (s_.1 ≠ s_.2.2) ∧ (w.heap.size ≤ s_.2.2) ∧ (w.heap.size ≤ s_.2.2) ∧ (ah ≠ s_.2.2) ∧ (s_.2.2 ≠ ah) ∧ (aj ≠ s_.2.2) ∧ (s_.2.2 ≠ aj) ∧ (Below w.heap.size w w')) ?_ ?_
 rotate_left
 ·intro hJ0_4_5
  refine join_ (σ := Nat × Value) 3 (bs 8 31) (fun s_ => [(20, .map (some s_.1)), (24, s_.2)]) (fun s_ w' => (w'.cell? ⟨ah, 0, none⟩ = some (.slice aK aD.length aM) ∧ w'.cell? ⟨ah, 1, none⟩ = some (.slice bb ag.length aN) ∧ w'.cell? ⟨ah, 2, none⟩ = some (.slice aQ aE.length aR)) ∧ (Kd.R (Kd.int .i64) 3 w' w.heap.size (fun _ => True) s_.2 bo) ∧ (w'.heap[ah]? = some (.cells #[.slice aK aD.length aM, .slice bb ag.length aN, .slice aQ aE.length aR] 26 (0, 0))) ∧ (w'.heap[aj]? = some (.cells #[.slice none 0 0, .slice none 0 0, .slice none 0 0] 26 (0, 0))) ∧ (w'.heap[s_.1]? = some ((tune_Share.obj []))) ∧ (w.heap.size ≤ s_.1) ∧ (w.heap.size ≤ s_.1) ∧ (ah ≠ s_.1) ∧ (s_.1 ≠ ah) ∧ (aj ≠ s_.1) ∧ (s_.1 ≠ aj) ∧ (Below w.heap.size w w')) ?_ ?_
  rotate_left
  ·intro hJ0_4
   refine join_ (σ := Nat × Nat) 2 (bs 8 111) (fun s_ => [(20, .map (some s_.1)), (8, .pointer (some ⟨s_.2, 0, none⟩)), (7, .map (some s_.1))]) (fun s_ w' => (w'.cell? ⟨ah, 0, none⟩ = some (.slice aK aD.length aM) ∧ w'.cell? ⟨ah, 1, none⟩ = some (.slice bb ag.length aN) ∧ w'.cell? ⟨ah, 2, none⟩ = some (.slice aQ aE.length aR)) ∧ (w'.heap[ah]? = some (.cells #[.slice aK aD.length aM, .slice bb ag.length aN, .slice aQ aE.length aR] 26 (0, 0))) ∧ (w'.heap[aj]? = some (.cells #[.slice none 0 0, .slice none 0 0, .slice none 0 0] 26 (0, 0))) ∧ (w'.heap[s_.1]? = some ((tune_Share.obj []))) ∧ (w'.heap[s_.2]? = some (.cells #[.slice none 0 0] 27 (0, 0))) ∧ (w.heap.size ≤ s_.1) ∧ (w.heap.size ≤ s_.1) ∧ (ah ≠ s_.1) ∧ (s_.1 ≠ ah) ∧ (aj ≠ s_.1) ∧ (s_.1 ≠ aj) ∧ (s_.2 ≠ s_.1) ∧ (s_.1 ≠ s_.2) ∧ (w.heap.size ≤ s_.2) ∧ (w.heap.size ≤ s_.2) ∧ (ah ≠ s_.2) ∧ (s_.2 ≠ ah) ∧ (aj ≠ s_.2) ∧ (s_.2 ≠ aj) ∧ (Below w.heap.size w w')) ?_ ?_
   rotate_left
   ·intro hJ0_5
    refine join_ (σ := Value × Nat) 3 (bs 8 62) (fun s_ => [(24, s_.1), (8, .pointer (some ⟨s_.2, 0, none⟩))]) (fun s_ w' => (w'.cell? ⟨ah, 0, none⟩ = some (.slice aK aD.length aM) ∧ w'.cell? ⟨ah, 1, none⟩ = some (.slice bb ag.length aN) ∧ w'.cell? ⟨ah, 2, none⟩ = some (.slice aQ aE.length aR)) ∧ (Kd.R (Kd.int .i64) 3 w' w.heap.size (fun _ => True) s_.1 bo) ∧ (w'.heap[ah]? = some (.cells #[.slice aK aD.length aM, .slice bb ag.length aN, .slice aQ aE.length aR] 26 (0, 0))) ∧ (w'.heap[aj]? = some (.cells #[.slice none 0 0, .slice none 0 0, .slice none 0 0] 26 (0, 0))) ∧ (w'.heap[s_.2]? = some (.cells #[.slice none 0 0] 27 (0, 0))) ∧ (w.heap.size ≤ s_.2) ∧ (w.heap.size ≤ s_.2) ∧ (ah ≠ s_.2) ∧ (s_.2 ≠ ah) ∧ (aj ≠ s_.2) ∧ (s_.2 ≠ aj) ∧ (Below w.heap.size w w')) ?_ ?_
    rotate_left
    ·intro hJ4_5
     refine join_ (σ := Nat) 4 (bs 8 15) (fun s_ => [(20, .map (some s_))]) (fun s_ w' => (w'.cell? ⟨ah, 0, none⟩ = some (.slice aK aD.length aM) ∧ w'.cell? ⟨ah, 1, none⟩ = some (.slice bb ag.length aN) ∧ w'.cell? ⟨ah, 2, none⟩ = some (.slice aQ aE.length aR)) ∧ (w'.heap[ah]? = some (.cells #[.slice aK aD.length aM, .slice bb ag.length aN, .slice aQ aE.length aR] 26 (0, 0))) ∧ (w'.heap[aj]? = some (.cells #[.slice none 0 0, .slice none 0 0, .slice none 0 0] 26 (0, 0))) ∧ (w'.heap[s_]? = some ((tune_Share.obj []))) ∧ (w.heap.size ≤ s_) ∧ (w.heap.size ≤ s_) ∧ (ah ≠ s_) ∧ (s_ ≠ ah) ∧ (aj ≠ s_) ∧ (s_ ≠ aj) ∧ (Below w.heap.size w w')) ?_ ?_
     rotate_left
     ·intro hJ0
      refine join_ (σ := Value) 4 (bs 8 30) (fun s_ => [(24, s_)]) (fun s_ w' => (w'.cell? ⟨ah, 0, none⟩ = some (.slice aK aD.length aM) ∧ w'.cell? ⟨ah, 1, none⟩ = some (.slice bb ag.length aN) ∧ w'.cell? ⟨ah, 2, none⟩ = some (.slice aQ aE.length aR)) ∧ (Kd.R (Kd.int .i64) 3 w' w.heap.size (fun _ => True) s_ bo) ∧ (w'.heap[ah]? = some (.cells #[.slice aK aD.length aM, .slice bb ag.length aN, .slice aQ aE.length aR] 26 (0, 0))) ∧ (w'.heap[aj]? = some (.cells #[.slice none 0 0, .slice none 0 0, .slice none 0 0] 26 (0, 0))) ∧ (Below w.heap.size w w')) ?_ ?_
      rotate_left
      ·intro hJ4
       refine join_ (σ := Nat) 4 (bs 8 46) (fun s_ => [(8, .pointer (some ⟨s_, 0, none⟩))]) (fun s_ w' => (w'.cell? ⟨ah, 0, none⟩ = some (.slice aK aD.length aM) ∧ w'.cell? ⟨ah, 1, none⟩ = some (.slice bb ag.length aN) ∧ w'.cell? ⟨ah, 2, none⟩ = some (.slice aQ aE.length aR)) ∧ (w'.heap[ah]? = some (.cells #[.slice aK aD.length aM, .slice bb ag.length aN, .slice aQ aE.length aR] 26 (0, 0))) ∧ (w'.heap[aj]? = some (.cells #[.slice none 0 0, .slice none 0 0, .slice none 0 0] 26 (0, 0))) ∧ (w'.heap[s_]? = some (.cells #[.slice none 0 0] 27 (0, 0))) ∧ (w.heap.size ≤ s_) ∧ (w.heap.size ≤ s_) ∧ (ah ≠ s_) ∧ (s_ ≠ ah) ∧ (aj ≠ s_) ∧ (s_ ≠ aj) ∧ (Below w.heap.size w w')) ?_ ?_
       rotate_left
       ·intro hJ5
        refine three_ (i := 0) (j := 4) (k := 5) (Ni := some 20) (Nj := some 24) (Nk := some 8) (bs 8 15) (bs 8 30) (bs 8 46) rfl rfl rfl rfl rfl rfl (three_of HT_.out (by kernel_rfl)) (by decide) (by decide) (by decide) (fun K hK => ?_) (fun K hK => ?_) (fun K hK => ?_)
        ·skip
         refine tune_Share.map_step ?hg (N := 20) ?hd ?hr ?_; (case hd => rfl); (case hg => rfl); (case hr => first | (go_simp; done) | (go_simp; rfl));intro ao hg w13 hbox hb;have al := am hbox; have bh := kG HB hg; have bg := kG HB hg; replace HB := kH HB hb; have av := kP aa hg; have aw := kQ aa hg; replace aa := kU aa hb; have ax := kP ae hg; have az := kQ ae hg; replace ae := kU ae hb;clear hb hbox hg;refine hK.out _ _ ⟨kk aa 0, kk aa 1, kk aa 2⟩ (fun hHeld => ?_);clear hK K;refine no (some 20) ?_;exact norm_ (by first | (simp only [putAll, Act.put, qS1, qS2, qS3]; done) | (simp only [putAll, Act.put, qS1, qS2, qS3]; rfl)) (hJ0 (ao) _ ⟨hHeld, (kb aa), (kb ae), (kb al), bh.out, bg.out, av.out, aw.out, ax.out, az.out, (kh HB)⟩)
        ·skip
         refine Kd.R_make_step (Kd.int .i64) _ 3 (by rfl) (N := 24) rfl 27 _ _ rfl (ag.length : Int) rfl rfl Try.underlying27 (.int .i64 0) 8 info3 rfl (by decide) (by omega) 0 (ok := fun _ => True) (okp := fun _ => True) rfl (fun _ hk => hk) trivial od (Nat.le_trans (Nat.mul_le_mul_right _ (od : (ag.length : Int).toNat ≤ 35184372088832)) (by omega)) (Below.refl _ _) (Nat.le_refl _) ?_;intro bk w13 ho14 hb hg_ hnew_;clear hg_ hnew_;(first | rw [← bn.out] at ho14 | (simp only [Int.reduceToNat] at ho14; rw [← bn.out] at ho14));have ba := kLR ho14 HB; replace aa := kU aa hb; replace ae := kU ae hb; replace HB := kH HB hb;clear hb ho14;refine hK.out _ _ ⟨kk aa 0, kk aa 1, kk aa 2⟩ (fun hHeld => ?_);clear hK K;refine no (some 24) ?_;exact norm_ (by first | (simp only [putAll, Act.put, qS1, qS2, qS3]; done) | (simp only [putAll, Act.put, qS1, qS2, qS3]; rfl)) (hJ4 (bk) _ ⟨hHeld, (krR ba), (kb aa), (kb ae), (kh HB)⟩)
        ·skip
         refine box_step ?hg (N := 8) ?hd (cs := #[.slice none 0 0]) (t := 27) ?hr ?_; (case hd => rfl); (case hg => rfl); (case hr => first | (go_simp; done) | (go_simp; rfl));intro an hg w13 hbox hb;have ak := am hbox; have bi := kG HB hg; have bj := kG HB hg; replace HB := kH HB hb; have ap := kP aa hg; have aq := kQ aa hg; replace aa := kU aa hb; have ar := kP ae hg; have au := kQ ae hg; replace ae := kU ae hb;clear hb hbox hg;refine hK.out _ _ ⟨kk aa 0, kk aa 1, kk aa 2⟩ (fun hHeld => ?_);clear hK K;refine no (some 8) ?_;exact norm_ (by first | (simp only [putAll, Act.put, qS1, qS2, qS3]; done) | (simp only [putAll, Act.put, qS1, qS2, qS3]; rfl)) (hJ5 (an) _ ⟨hHeld, (kb aa), (kb ae), (kb ak), bi.out, bj.out, ap.out, aq.out, ar.out, au.out, (kh HB)⟩)
       ·skip
        rintro an w14 ⟨hS_, h0_, h1_, h2_, h3_, h4_, h5_, h6_, h7_, h8_, h9_⟩;replace aa : Aside0 (w14.heap[ah]? = some (.cells #[.slice aK aD.length aM, .slice bb ag.length aN, .slice aQ aE.length aR] 26 (0, 0))) := ⟨h0_⟩; replace ae : Aside0 (w14.heap[aj]? = some (.cells #[.slice none 0 0, .slice none 0 0, .slice none 0 0] 26 (0, 0))) := ⟨h1_⟩; have ak : Aside0 (w14.heap[an]? = some (.cells #[.slice none 0 0] 27 (0, 0))) := ⟨h2_⟩; have bi : Aside0 (w.heap.size ≤ an) := ⟨h3_⟩; have bj : Aside0 (w.heap.size ≤ an) := ⟨h4_⟩; have ap : Aside0 (ah ≠ an) := ⟨h5_⟩; have aq : Aside0 (an ≠ ah) := ⟨h6_⟩; have ar : Aside0 (aj ≠ an) := ⟨h7_⟩; have au : Aside0 (an ≠ aj) := ⟨h8_⟩; replace HB : Aside0 (Below w.heap.size w w14) := ⟨h9_⟩; clear h0_ h1_ h2_ h3_ h4_ h5_ h6_ h7_ h8_ h9_;have hHeld : w14.cell? ⟨ah, 0, none⟩ = some (.slice aK aD.length aM) ∧ w14.cell? ⟨ah, 1, none⟩ = some (.slice bb ag.length aN) ∧ w14.cell? ⟨ah, 2, none⟩ = some (.slice aQ aE.length aR) := hS_;refine norm_ (a' := ?_) ?_ ?_
        rotate_left
        ·simp only [putAll, Act.put, qS1, qS2, qS3]
         rfl
        refine two_ (i := 0) (j := 4) (Ni := some 20) (Nj := some 24) (bs 8 47) (bs 8 62) rfl rfl rfl rfl (two_of HT_.out (by kernel_rfl)) (by decide) (by decide) (fun K hK => ?_) (fun K hK => ?_)
        ·skip
         refine tune_Share.map_step ?hg (N := 20) ?hd ?hr ?_; (case hd => rfl); (case hg => rfl); (case hr => first | (go_simp; done) | (go_simp; rfl));intro ao hg w15 hbox hb;have al := am hbox; have bh := kG HB hg; have bg := kG HB hg; replace HB := kH HB hb; have av := kP aa hg; have aw := kQ aa hg; replace aa := kU aa hb; have ax := kP ae hg; have az := kQ ae hg; replace ae := kU ae hb; have aC := kP ak hg; have aG := kQ ak hg; replace ak := kU ak hb;clear hb hbox hg;refine hK.out _ _ ⟨kk aa 0, kk aa 1, kk aa 2⟩ (fun hHeld => ?_);clear hK K;refine no (some 20) ?_;refine pu 6 (some 7) (bs 8 111) HT_ ?_;exact norm_ (by first | (simp only [putAll, Act.put, qS1, qS2, qS3]; done) | (simp only [putAll, Act.put, qS1, qS2, qS3]; rfl)) (hJ0_5 (ao, an) _ ⟨hHeld, (kb aa), (kb ae), (kb al), (kb ak), bh.out, bg.out, av.out, aw.out, ax.out, az.out, aC.out, aG.out, bi.out, bj.out, ap.out, aq.out, ar.out, au.out, (kh HB)⟩)
        ·skip
         refine Kd.R_make_step (Kd.int .i64) _ 3 (by rfl) (N := 24) rfl 27 _ _ rfl (ag.length : Int) rfl rfl Try.underlying27 (.int .i64 0) 8 info3 rfl (by decide) (by omega) 0 (ok := fun _ => True) (okp := fun _ => True) rfl (fun _ hk => hk) trivial od (Nat.le_trans (Nat.mul_le_mul_right _ (od : (ag.length : Int).toNat ≤ 35184372088832)) (by omega)) (Below.refl _ _) (Nat.le_refl _) ?_;intro bk w15 ho16 hb hg_ hnew_;clear hg_ hnew_;(first | rw [← bn.out] at ho16 | (simp only [Int.reduceToNat] at ho16; rw [← bn.out] at ho16));have ba := kLR ho16 HB; replace aa := kU aa hb; replace ae := kU ae hb; replace ak := kU ak hb; replace HB := kH HB hb;clear hb ho16;refine hK.out _ _ ⟨kk aa 0, kk aa 1, kk aa 2⟩ (fun hHeld => ?_);clear hK K;refine no (some 24) ?_;exact norm_ (by first | (simp only [putAll, Act.put, qS1, qS2, qS3]; done) | (simp only [putAll, Act.put, qS1, qS2, qS3]; rfl)) (hJ4_5 (bk, an) _ ⟨hHeld, (krR ba), (kb aa), (kb ae), (kb ak), bi.out, bj.out, ap.out, aq.out, ar.out, au.out, (kh HB)⟩)
      ·skip
       rintro bk w15 ⟨hS_, h0_, h1_, h2_, h3_⟩;have ba : Aside0 (Kd.R (Kd.int .i64) 3 w15 w.heap.size (fun _ => True) bk bo) := ⟨h0_⟩; replace aa : Aside0 (w15.heap[ah]? = some (.cells #[.slice aK aD.length aM, .slice bb ag.length aN, .slice aQ aE.length aR] 26 (0, 0))) := ⟨h1_⟩; replace ae : Aside0 (w15.heap[aj]? = some (.cells #[.slice none 0 0, .slice none 0 0, .slice none 0 0] 26 (0, 0))) := ⟨h2_⟩; replace HB : Aside0 (Below w.heap.size w w15) := ⟨h3_⟩; clear h0_ h1_ h2_ h3_;have hHeld : w15.cell? ⟨ah, 0, none⟩ = some (.slice aK aD.length aM) ∧ w15.cell? ⟨ah, 1, none⟩ = some (.slice bb ag.length aN) ∧ w15.cell? ⟨ah, 2, none⟩ = some (.slice aQ aE.length aR) := hS_;refine norm_ (a' := ?_) ?_ ?_
       rotate_left
       ·simp only [putAll, Act.put, qS1, qS2, qS3]
        rfl
       refine two_ (i := 0) (j := 5) (Ni := some 20) (Nj := some 8) (bs 8 31) (bs 8 62) rfl rfl rfl rfl (two_of HT_.out (by kernel_rfl)) (by decide) (by decide) (fun K hK => ?_) (fun K hK => ?_)
       ·skip
        refine tune_Share.map_step ?hg (N := 20) ?hd ?hr ?_; (case hd => rfl); (case hg => rfl); (case hr => first | (go_simp; done) | (go_simp; rfl));intro ao hg w16 hbox hb;replace ba := kR ba hb; have al := am hbox; have bh := kG HB hg; have bg := kG HB hg; replace HB := kH HB hb; have av := kP aa hg; have aw := kQ aa hg; replace aa := kU aa hb; have ax := kP ae hg; have az := kQ ae hg; replace ae := kU ae hb;clear hb hbox hg;refine hK.out _ _ ⟨kk aa 0, kk aa 1, kk aa 2⟩ (fun hHeld => ?_);clear hK K;refine no (some 20) ?_;exact norm_ (by first | (simp only [putAll, Act.put, qS1, qS2, qS3]; done) | (simp only [putAll, Act.put, qS1, qS2, qS3]; rfl)) (hJ0_4 (ao, bk) _ ⟨hHeld, (krR ba), (kb aa), (kb ae), (kb al), bh.out, bg.out, av.out, aw.out, ax.out, az.out, (kh HB)⟩)
       ·skip
        refine box_step ?hg (N := 8) ?hd (cs := #[.slice none 0 0]) (t := 27) ?hr ?_; (case hd => rfl); (case hg => rfl); (case hr => first | (go_simp; done) | (go_simp; rfl));intro an hg w16 hbox hb;replace ba := kR ba hb; have ak := am hbox; have bi := kG HB hg; have bj := kG HB hg; replace HB := kH HB hb; have ap := kP aa hg; have aq := kQ aa hg; replace aa := kU aa hb; have ar := kP ae hg; have au := kQ ae hg; replace ae := kU ae hb;clear hb hbox hg;refine hK.out _ _ ⟨kk aa 0, kk aa 1, kk aa 2⟩ (fun hHeld => ?_);clear hK K;refine no (some 8) ?_;exact norm_ (by first | (simp only [putAll, Act.put, qS1, qS2, qS3]; done) | (simp only [putAll, Act.put, qS1, qS2, qS3]; rfl)) (hJ4_5 (bk, an) _ ⟨hHeld, (krR ba), (kb aa), (kb ae), (kb ak), bi.out, bj.out, ap.out, aq.out, ar.out, au.out, (kh HB)⟩)
     ·skip
      rintro ao w14 ⟨hS_, h0_, h1_, h2_, h3_, h4_, h5_, h6_, h7_, h8_, h9_⟩;replace aa : Aside0 (w14.heap[ah]? = some (.cells #[.slice aK aD.length aM, .slice bb ag.length aN, .slice aQ aE.length aR] 26 (0, 0))) := ⟨h0_⟩; replace ae : Aside0 (w14.heap[aj]? = some (.cells #[.slice none 0 0, .slice none 0 0, .slice none 0 0] 26 (0, 0))) := ⟨h1_⟩; have al : Aside0 (w14.heap[ao]? = some ((tune_Share.obj []))) := ⟨h2_⟩; have bh : Aside0 (w.heap.size ≤ ao) := ⟨h3_⟩; have bg : Aside0 (w.heap.size ≤ ao) := ⟨h4_⟩; have av : Aside0 (ah ≠ ao) := ⟨h5_⟩; have aw : Aside0 (ao ≠ ah) := ⟨h6_⟩; have ax : Aside0 (aj ≠ ao) := ⟨h7_⟩; have az : Aside0 (ao ≠ aj) := ⟨h8_⟩; replace HB : Aside0 (Below w.heap.size w w14) := ⟨h9_⟩; clear h0_ h1_ h2_ h3_ h4_ h5_ h6_ h7_ h8_ h9_;have hHeld : w14.cell? ⟨ah, 0, none⟩ = some (.slice aK aD.length aM) ∧ w14.cell? ⟨ah, 1, none⟩ = some (.slice bb ag.length aN) ∧ w14.cell? ⟨ah, 2, none⟩ = some (.slice aQ aE.length aR) := hS_;refine norm_ (a' := ?_) ?_ ?_
      rotate_left
      ·simp only [putAll, Act.put, qS1, qS2, qS3]
       rfl
      refine two_ (i := 4) (j := 5) (Ni := some 24) (Nj := some 8) (bs 8 31) (bs 8 47) rfl rfl rfl rfl (two_of HT_.out (by kernel_rfl)) (by decide) (by decide) (fun K hK => ?_) (fun K hK => ?_)
      ·skip
       refine Kd.R_make_step (Kd.int .i64) _ 3 (by rfl) (N := 24) rfl 27 _ _ rfl (ag.length : Int) rfl rfl Try.underlying27 (.int .i64 0) 8 info3 rfl (by decide) (by omega) 0 (ok := fun _ => True) (okp := fun _ => True) rfl (fun _ hk => hk) trivial od (Nat.le_trans (Nat.mul_le_mul_right _ (od : (ag.length : Int).toNat ≤ 35184372088832)) (by omega)) (Below.refl _ _) (Nat.le_refl _) ?_;intro bk w15 ho16 hb hg_ hnew_;clear hg_ hnew_;(first | rw [← bn.out] at ho16 | (simp only [Int.reduceToNat] at ho16; rw [← bn.out] at ho16));have ba := kLR ho16 HB; replace aa := kU aa hb; replace ae := kU ae hb; replace al := kU al hb; replace HB := kH HB hb;clear hb ho16;refine hK.out _ _ ⟨kk aa 0, kk aa 1, kk aa 2⟩ (fun hHeld => ?_);clear hK K;refine no (some 24) ?_;exact norm_ (by first | (simp only [putAll, Act.put, qS1, qS2, qS3]; done) | (simp only [putAll, Act.put, qS1, qS2, qS3]; rfl)) (hJ0_4 (ao, bk) _ ⟨hHeld, (krR ba), (kb aa), (kb ae), (kb al), bh.out, bg.out, av.out, aw.out, ax.out, az.out, (kh HB)⟩)
      ·skip
       refine box_step ?hg (N := 8) ?hd (cs := #[.slice none 0 0]) (t := 27) ?hr ?_; (case hd => rfl); (case hg => rfl); (case hr => first | (go_simp; done) | (go_simp; rfl));intro an hg w15 hbox hb;have ak := am hbox; have bi := kG HB hg; have bj := kG HB hg; replace HB := kH HB hb; have ap := kP aa hg; have aq := kQ aa hg; replace aa := kU aa hb; have ar := kP ae hg; have au := kQ ae hg; replace ae := kU ae hb; have aG := kP al hg; have aC := kQ al hg; replace al := kU al hb;clear hb hbox hg;refine hK.out _ _ ⟨kk aa 0, kk aa 1, kk aa 2⟩ (fun hHeld => ?_);clear hK K;refine no (some 8) ?_;refine pu 6 (some 7) (bs 8 111) HT_ ?_;exact norm_ (by first | (simp only [putAll, Act.put, qS1, qS2, qS3]; done) | (simp only [putAll, Act.put, qS1, qS2, qS3]; rfl)) (hJ0_5 (ao, an) _ ⟨hHeld, (kb aa), (kb ae), (kb al), (kb ak), bh.out, bg.out, av.out, aw.out, ax.out, az.out, aC.out, aG.out, bi.out, bj.out, ap.out, aq.out, ar.out, au.out, (kh HB)⟩)
    ·skip
     rintro ⟨bk, an⟩ w16 ⟨hS_, h0_, h1_, h2_, h3_, h4_, h5_, h6_, h7_, h8_, h9_, h10_⟩;have ba : Aside0 (Kd.R (Kd.int .i64) 3 w16 w.heap.size (fun _ => True) bk bo) := ⟨h0_⟩; replace aa : Aside0 (w16.heap[ah]? = some (.cells #[.slice aK aD.length aM, .slice bb ag.length aN, .slice aQ aE.length aR] 26 (0, 0))) := ⟨h1_⟩; replace ae : Aside0 (w16.heap[aj]? = some (.cells #[.slice none 0 0, .slice none 0 0, .slice none 0 0] 26 (0, 0))) := ⟨h2_⟩; have ak : Aside0 (w16.heap[an]? = some (.cells #[.slice none 0 0] 27 (0, 0))) := ⟨h3_⟩; have bi : Aside0 (w.heap.size ≤ an) := ⟨h4_⟩; have bj : Aside0 (w.heap.size ≤ an) := ⟨h5_⟩; have ap : Aside0 (ah ≠ an) := ⟨h6_⟩; have aq : Aside0 (an ≠ ah) := ⟨h7_⟩; have ar : Aside0 (aj ≠ an) := ⟨h8_⟩; have au : Aside0 (an ≠ aj) := ⟨h9_⟩; replace HB : Aside0 (Below w.heap.size w w16) := ⟨h10_⟩; clear h0_ h10_ h1_ h2_ h3_ h4_ h5_ h6_ h7_ h8_ h9_;have hHeld : w16.cell? ⟨ah, 0, none⟩ = some (.slice aK aD.length aM) ∧ w16.cell? ⟨ah, 1, none⟩ = some (.slice bb ag.length aN) ∧ w16.cell? ⟨ah, 2, none⟩ = some (.slice aQ aE.length aR) := hS_;refine norm_ (a' := ?_) ?_ ?_
     rotate_left
     ·simp only [putAll, Act.put, qS1, qS2, qS3]
      rfl
     refine one_ (i := 0) (N := some 20) (bs 8 63) rfl rfl (one_of HT_.out (by kernel_rfl)) (by decide) (fun K hK => ?_);refine tune_Share.map_step ?hg (N := 20) ?hd ?hr ?_; (case hd => rfl); (case hg => rfl); (case hr => first | (go_simp; done) | (go_simp; rfl));intro ao hg w17 hbox hb;replace ba := kR ba hb; have al := am hbox; have bh := kG HB hg; have bg := kG HB hg; replace HB := kH HB hb; have av := kP aa hg; have aw := kQ aa hg; replace aa := kU aa hb; have ax := kP ae hg; have az := kQ ae hg; replace ae := kU ae hb; have aC := kP ak hg; have aG := kQ ak hg; replace ak := kU ak hb;clear hb hbox hg;refine hK.out _ _ ⟨kk aa 0, kk aa 1, kk aa 2⟩ (fun hHeld => ?_);clear hK K;refine no (some 20) ?_;refine pu 6 (some 7) (bs 8 127) HT_ ?_;exact norm_ (by first | (simp only [putAll, Act.put, qS1, qS2, qS3]; done) | (simp only [putAll, Act.put, qS1, qS2, qS3]; rfl)) (hJ0_4_5 (ao, bk, an) _ ⟨hHeld, (krR ba), (kb aa), (kb ae), (kb al), (kb ak), bh.out, bg.out, av.out, aw.out, ax.out, az.out, aC.out, aG.out, bi.out, bj.out, ap.out, aq.out, ar.out, au.out, (kh HB)⟩)
   ·skip
    rintro ⟨ao, an⟩ w15 ⟨hS_, h0_, h1_, h2_, h3_, h4_, h5_, h6_, h7_, h8_, h9_, h10_, h11_, h12_, h13_, h14_, h15_, h16_, h17_, h18_⟩;replace aa : Aside0 (w15.heap[ah]? = some (.cells #[.slice aK aD.length aM, .slice bb ag.length aN, .slice aQ aE.length aR] 26 (0, 0))) := ⟨h0_⟩; replace ae : Aside0 (w15.heap[aj]? = some (.cells #[.slice none 0 0, .slice none 0 0, .slice none 0 0] 26 (0, 0))) := ⟨h1_⟩; have al : Aside0 (w15.heap[ao]? = some ((tune_Share.obj []))) := ⟨h2_⟩; have ak : Aside0 (w15.heap[an]? = some (.cells #[.slice none 0 0] 27 (0, 0))) := ⟨h3_⟩; have bh : Aside0 (w.heap.size ≤ ao) := ⟨h4_⟩; have bg : Aside0 (w.heap.size ≤ ao) := ⟨h5_⟩; have av : Aside0 (ah ≠ ao) := ⟨h6_⟩; have aw : Aside0 (ao ≠ ah) := ⟨h7_⟩; have ax : Aside0 (aj ≠ ao) := ⟨h8_⟩; have az : Aside0 (ao ≠ aj) := ⟨h9_⟩; have aC : Aside0 (an ≠ ao) := ⟨h10_⟩; have aG : Aside0 (ao ≠ an) := ⟨h11_⟩; have bi : Aside0 (w.heap.size ≤ an) := ⟨h12_⟩; have bj : Aside0 (w.heap.size ≤ an) := ⟨h13_⟩; have ap : Aside0 (ah ≠ an) := ⟨h14_⟩; have aq : Aside0 (an ≠ ah) := ⟨h15_⟩; have ar : Aside0 (aj ≠ an) := ⟨h16_⟩; have au : Aside0 (an ≠ aj) := ⟨h17_⟩; replace HB : Aside0 (Below w.heap.size w w15) := ⟨h18_⟩; clear h0_ h10_ h11_ h12_ h13_ h14_ h15_ h16_ h17_ h18_ h1_ h2_ h3_ h4_ h5_ h6_ h7_ h8_ h9_;have hHeld : w15.cell? ⟨ah, 0, none⟩ = some (.slice aK aD.length aM) ∧ w15.cell? ⟨ah, 1, none⟩ = some (.slice bb ag.length aN) ∧ w15.cell? ⟨ah, 2, none⟩ = some (.slice aQ aE.length aR) := hS_;refine norm_ (a' := ?_) ?_ ?_
    rotate_left
    ·simp only [putAll, Act.put, qS1, qS2, qS3]
     rfl
    refine one_ (i := 4) (N := some 24) (bs 8 127) rfl rfl (one_of HT_.out (by kernel_rfl)) (by decide) (fun K hK => ?_);refine Kd.R_make_step (Kd.int .i64) _ 3 (by rfl) (N := 24) rfl 27 _ _ rfl (ag.length : Int) rfl rfl Try.underlying27 (.int .i64 0) 8 info3 rfl (by decide) (by omega) 0 (ok := fun _ => True) (okp := fun _ => True) rfl (fun _ hk => hk) trivial od (Nat.le_trans (Nat.mul_le_mul_right _ (od : (ag.length : Int).toNat ≤ 35184372088832)) (by omega)) (Below.refl _ _) (Nat.le_refl _) ?_;intro bk w16 ho17 hb hg_ hnew_;clear hg_ hnew_;(first | rw [← bn.out] at ho17 | (simp only [Int.reduceToNat] at ho17; rw [← bn.out] at ho17));have ba := kLR ho17 HB; replace aa := kU aa hb; replace ae := kU ae hb; replace al := kU al hb; replace ak := kU ak hb; replace HB := kH HB hb;clear hb ho17;refine hK.out _ _ ⟨kk aa 0, kk aa 1, kk aa 2⟩ (fun hHeld => ?_);clear hK K;refine no (some 24) ?_;exact norm_ (by first | (simp only [putAll, Act.put, qS1, qS2, qS3]; done) | (simp only [putAll, Act.put, qS1, qS2, qS3]; rfl)) (hJ0_4_5 (ao, bk, an) _ ⟨hHeld, (krR ba), (kb aa), (kb ae), (kb al), (kb ak), bh.out, bg.out, av.out, aw.out, ax.out, az.out, aC.out, aG.out, bi.out, bj.out, ap.out, aq.out, ar.out, au.out, (kh HB)⟩)
  ·skip
   rintro ⟨ao, bk⟩ w16 ⟨hS_, h0_, h1_, h2_, h3_, h4_, h5_, h6_, h7_, h8_, h9_, h10_⟩;have ba : Aside0 (Kd.R (Kd.int .i64) 3 w16 w.heap.size (fun _ => True) bk bo) := ⟨h0_⟩; replace aa : Aside0 (w16.heap[ah]? = some (.cells #[.slice aK aD.length aM, .slice bb ag.length aN, .slice aQ aE.length aR] 26 (0, 0))) := ⟨h1_⟩; replace ae : Aside0 (w16.heap[aj]? = some (.cells #[.slice none 0 0, .slice none 0 0, .slice none 0 0] 26 (0, 0))) := ⟨h2_⟩; have al : Aside0 (w16.heap[ao]? = some ((tune_Share.obj []))) := ⟨h3_⟩; have bh : Aside0 (w.heap.size ≤ ao) := ⟨h4_⟩; have bg : Aside0 (w.heap.size ≤ ao) := ⟨h5_⟩; have av : Aside0 (ah ≠ ao) := ⟨h6_⟩; have aw : Aside0 (ao ≠ ah) := ⟨h7_⟩; have ax : Aside0 (aj ≠ ao) := ⟨h8_⟩; have az : Aside0 (ao ≠ aj) := ⟨h9_⟩; replace HB : Aside0 (Below w.heap.size w w16) := ⟨h10_⟩; clear h0_ h10_ h1_ h2_ h3_ h4_ h5_ h6_ h7_ h8_ h9_;have hHeld : w16.cell? ⟨ah, 0, none⟩ = some (.slice aK aD.length aM) ∧ w16.cell? ⟨ah, 1, none⟩ = some (.slice bb ag.length aN) ∧ w16.cell? ⟨ah, 2, none⟩ = some (.slice aQ aE.length aR) := hS_;refine norm_ (a' := ?_) ?_ ?_
   rotate_left
   ·simp only [putAll, Act.put, qS1, qS2, qS3]
    rfl
   refine one_ (i := 5) (N := some 8) (bs 8 63) rfl rfl (one_of HT_.out (by kernel_rfl)) (by decide) (fun K hK => ?_);refine box_step ?hg (N := 8) ?hd (cs := #[.slice none 0 0]) (t := 27) ?hr ?_; (case hd => rfl); (case hg => rfl); (case hr => first | (go_simp; done) | (go_simp; rfl));intro an hg w17 hbox hb;replace ba := kR ba hb; have ak := am hbox; have bi := kG HB hg; have bj := kG HB hg; replace HB := kH HB hb; have ap := kP aa hg; have aq := kQ aa hg; replace aa := kU aa hb; have ar := kP ae hg; have au := kQ ae hg; replace ae := kU ae hb; have aG := kP al hg; have aC := kQ al hg; replace al := kU al hb;clear hb hbox hg;refine hK.out _ _ ⟨kk aa 0, kk aa 1, kk aa 2⟩ (fun hHeld => ?_);clear hK K;refine no (some 8) ?_;refine pu 6 (some 7) (bs 8 127) HT_ ?_;exact norm_ (by first | (simp only [putAll, Act.put, qS1, qS2, qS3]; done) | (simp only [putAll, Act.put, qS1, qS2, qS3]; rfl)) (hJ0_4_5 (ao, bk, an) _ ⟨hHeld, (krR ba), (kb aa), (kb ae), (kb al), (kb ak), bh.out, bg.out, av.out, aw.out, ax.out, az.out, aC.out, aG.out, bi.out, bj.out, ap.out, aq.out, ar.out, au.out, (kh HB)⟩)
 rintro ⟨ao, bk, an⟩ w17 ⟨hS_, h0_, h1_, h2_, h3_, h4_, h5_, h6_, h7_, h8_, h9_, h10_, h11_, h12_, h13_, h14_, h15_, h16_, h17_, h18_, h19_⟩;have ba : Aside0 (Kd.R (Kd.int .i64) 3 w17 w.heap.size (fun _ => True) bk bo) := ⟨h0_⟩; replace aa : Aside0 (w17.heap[ah]? = some (.cells #[.slice aK aD.length aM, .slice bb ag.length aN, .slice aQ aE.length aR] 26 (0, 0))) := ⟨h1_⟩; replace ae : Aside0 (w17.heap[aj]? = some (.cells #[.slice none 0 0, .slice none 0 0, .slice none 0 0] 26 (0, 0))) := ⟨h2_⟩; have al : Aside0 (w17.heap[ao]? = some ((tune_Share.obj []))) := ⟨h3_⟩; have ak : Aside0 (w17.heap[an]? = some (.cells #[.slice none 0 0] 27 (0, 0))) := ⟨h4_⟩; have bh : Aside0 (w.heap.size ≤ ao) := ⟨h5_⟩; have bg : Aside0 (w.heap.size ≤ ao) := ⟨h6_⟩; have av : Aside0 (ah ≠ ao) := ⟨h7_⟩; have aw : Aside0 (ao ≠ ah) := ⟨h8_⟩; have ax : Aside0 (aj ≠ ao) := ⟨h9_⟩; have az : Aside0 (ao ≠ aj) := ⟨h10_⟩; have aC : Aside0 (an ≠ ao) := ⟨h11_⟩; have aG : Aside0 (ao ≠ an) := ⟨h12_⟩; have bi : Aside0 (w.heap.size ≤ an) := ⟨h13_⟩; have bj : Aside0 (w.heap.size ≤ an) := ⟨h14_⟩; have ap : Aside0 (ah ≠ an) := ⟨h15_⟩; have aq : Aside0 (an ≠ ah) := ⟨h16_⟩; have ar : Aside0 (aj ≠ an) := ⟨h17_⟩; have au : Aside0 (an ≠ aj) := ⟨h18_⟩; replace HB : Aside0 (Below w.heap.size w w17) := ⟨h19_⟩; clear h0_ h10_ h11_ h12_ h13_ h14_ h15_ h16_ h17_ h18_ h19_ h1_ h2_ h3_ h4_ h5_ h6_ h7_ h8_ h9_;have hHeld : w17.cell? ⟨ah, 0, none⟩ = some (.slice aK aD.length aM) ∧ w17.cell? ⟨ah, 1, none⟩ = some (.slice bb ag.length aN) ∧ w17.cell? ⟨ah, 2, none⟩ = some (.slice aQ aE.length aR) := hS_;obtain ⟨dd, de, df⟩ := Kd.R_slice ba.out;(first | subst df | (injection df with f1_ f2_ f3_; have f4_ := f1_.symm; have f5_ := f3_.symm; clear f1_ f2_ f3_; subst f4_; subst f5_));refine norm_ (a' := ?_) ?_ ?_
 rotate_left
 ·simp only [putAll, Act.put, qS1, qS2, qS3]
  rfl
 refine one_ (i := 7) (N := none) (bs 8 255) rfl rfl (one_of HT_.out (by kernel_rfl)) (by decide) (fun K hK => ?_);have ha : w17.cell? ⟨an, 0, none⟩ = some (.slice none 0 0) := kk ak 0;have eS := blk_frozen ak.out 0;have dx := ap.out;have dy := ar.out;have dz := aG.out;have dA := aq.out;have dB := au.out;have dC := aC.out;refine skip_ (w1 := ?_) (by rfl) rfl ?_ ?_
 rotate_left
 ·go_simp
  rfl
 refine hK.out _ _ ⟨(kf hHeld.1), (kf hHeld.2.1), (kf hHeld.2.2)⟩ (fun hHeld => ?_);clear hK K;refine done_ (done_of HT_.out (by kernel_rfl)) ?_;have eT := av.out;have eU := aw.out;have eV := ap.out;have eW := aq.out;have Z22 := kz3 aa;(try go_wp2);go_loopg [28] k (fun kq v28 w' => ∃ (af : Int) (aA : List (S61 × Int)) (ai : List Int) (bc : Value), v28 = .int .i64 af ∧ Aside0 (tune_Share.l0 kq ag (ag.length : Int) af aD ag aE aA false ai = some (r1, r2, r3, r4)) ∧ Aside0 (kq ≤ k) ∧ Aside0 (Kd.R (Kd.int .i64) 3 w' w.heap.size (fun _ => True) bc ai) ∧ Aside0 (w'.heap[ah]? = some (.cells #[(.slice aK aD.length aM), (.slice bb ag.length aN), (.slice aQ aE.length aR)] 26 (0, 0))) ∧ Aside0 (w'.heap[aj]? = some (.cells #[(.slice none 0 0), (.slice none 0 0), (.slice none 0 0)] 26 (0, 0))) ∧ Aside0 (w'.heap[ao]? = some ((tune_Share.obj aA))) ∧ Aside0 (w'.heap[an]? = some (.cells #[bc] 27 (0, 0))) ∧ Aside0 (Below w.heap.size w w'))
 case atStart => exact ⟨(0), ([]), (bo), (.slice dd bo.length de), et, H', ⟨Nat.le_refl _⟩, ⟨by (with_reducible repeat first | apply Kd.R_alloc | apply Kd.R_drewN | apply Kd.R_drew); exact Kd.R_mono (Kd.R_far (p := ⟨an, 0, none⟩) (Kd.R_types ba.out ak.out (by decide)) (fun _ hk => hk.2) (.slice dd bo.length de)) (fun _ hk => trivial)⟩, ⟨kg aa⟩, ⟨kg ae⟩, ⟨kg al⟩, ⟨kg ak⟩, ⟨kh HB⟩⟩
 case round =>
  clear H'; (try clear Z22);obtain ⟨af, aA, ai, bc, rfl, HA, HK1, ab, aa, ae, al, ak, HB⟩ := hrel
  cases gk with
  | zero => exact absurd HA.out (by simp [tune_Share.l0])
  | succ k1 =>
   have H := HA.out;clear HA;simp only [tune_Share.l0] at H
   by_cases c23 : af < (ag.length : Int)
   rotate_left
   ·rw [if_neg c23] at H
    have cw := decide_eq_false c23;clear c23;replace H := Option.bind_eq_some_iff.mp H;obtain ⟨⟨bv, bC, bK⟩, cx, H⟩ := H;(try dsimp only at H);have dL := Aside0.mk cx;clear cx;simp only [Option.some.injEq, Prod.mk.injEq] at H;obtain ⟨rfl, rfl, rfl, rfl⟩ := H;have HR := ab;obtain ⟨cJ, cK, dM⟩ := Kd.R_slice HR.out;subst dM;have HX := Aside0.mk (show wr.cell? ⟨an, 0, none⟩ = some (.slice cJ ai.length cK) from kk ak 0);have HC := Aside0.mk (Kd.R_reads' HR.out).2.2;have Z45 := ky3 aa;go_wp2_with (first | ((with_reducible refine gate_callee (f := 45) rfl ?_); refine goesL_ (some 97) rfl rfl Try.func45 (by kernel_rfl) rfl #[.agg #[.slice aK aD.length aM, .slice bb ag.length aN, .slice aQ aE.length aR], .func (.func 46) #[] #[.pointer (some ⟨an, 0, none⟩)], .func (.func 47) #[] #[.pointer (some ⟨an, 0, none⟩)]] rfl (by (try simp only [qM1, qM2, qM3]); first | done | rfl) ?_));refine (tune_moved.calls (tune_Share.st ai) (tune_Share.tto ai) 46 47 #[.pointer (some ⟨an, 0, none⟩)] #[.pointer (some ⟨an, 0, none⟩)] k1 _ _ aD _ _ ag _ _ aE bv bC bK _ (Kd.C_below ca.out HB.out) cb.out (Kd.C_below bQ.out HB.out) cc.out (Kd.C_below cd.out HB.out) ce.out (enters_of Try.func46 (by kernel_rfl) rfl) (enters_of Try.func47 (by kernel_rfl) rfl) (fun x0 x1 x2 x3 x4 r V hV hst => tune_Share.calls1 an cJ cK ai V ((hV.cell (p := ⟨an, 0, none⟩) (World.block_lt_of_cell? _ _ HX.out)).trans HX.out) (Kd.C_below HC.out hV) x0 x1 x2 x3 x4 r hst) (fun x0 r V hV hst => tune_Share.calls2 an cJ cK ai V ((hV.cell (p := ⟨an, 0, none⟩) (World.block_lt_of_cell? _ _ HX.out)).trans HX.out) (Kd.C_below HC.out hV) x0 r hst) dL.out).mono ?_;rintro e w53 ⟨hl, hm, hv, rfl, ho0, ho1, ho2, hb⟩;refine ⟨_, rfl, ?_⟩;replace ho2 := k66t_S ho2;have cy := Aside0.mk (Kd.R_lower ho0 HB.out.size);have cz := Aside0.mk (Kd.R_lower ho1 HB.out.size);have cA := Aside0.mk (Kd.S_lower ho2 HB.out.size);have ae := Aside0.mk (blk_below ae.out hb);have HB := Aside0.mk (below_step HB.out hb);clear ho0 ho1 ho2 hb;obtain ⟨bD, bE, dN⟩ := Kd.R_slice cy.out;subst dN;obtain ⟨bL, bM, dO⟩ := Kd.R_slice cz.out;subst dO;obtain ⟨bW, bX, dP⟩ := Kd.S_slice cA.out;subst dP;have Z55 := kz3 ae;go_wp2
    have hB3 : (((w53.setCell ⟨aj, 0, none⟩ (.slice bD bv.length bE)).setCell ⟨aj, 1, none⟩ (.slice bL bC.length bM)).setCell ⟨aj, 2, none⟩ (.slice bW bK.length bX)).heap[aj]? = some (.cells #[.slice bD bv.length bE, .slice bL bC.length bM, .slice bW bK.length bX] 26 (0, 0)) := by
     refine blk_put (cs := #[.slice bD bv.length bE, .slice bL bC.length bM, .slice none 0 0]) ?_ 2 _ rfl;refine blk_put (cs := #[.slice bD bv.length bE, .slice none 0 0, .slice none 0 0]) ?_ 1 _ rfl;refine blk_put (cs := #[.slice none 0 0, .slice none 0 0, .slice none 0 0]) ?_ 0 _ rfl;exact ae.out
    have hBl : Below w.heap.size w (((w53.setCell ⟨aj, 0, none⟩ (.slice bD bv.length bE)).setCell ⟨aj, 1, none⟩ (.slice bL bC.length bM)).setCell ⟨aj, 2, none⟩ (.slice bW bK.length bX)) := by
     refine below_set ?_ bR.out;refine below_set ?_ bR.out;refine below_set ?_ bR.out;exact HB.out
    refine bodyPost_ret (results_ct rfl _ _ aj 26 _ (0, 0) _ rfl hB3 Try.underlying26 rfl (by kernel_rfl)) rfl ?_;exact ⟨_, _, _, rfl, Kd.R_mono (Kd.R_far (p := ⟨aj, 2, none⟩) (Kd.R_far (p := ⟨aj, 1, none⟩) (Kd.R_far (p := ⟨aj, 0, none⟩) (Kd.R_types cy.out ae.out (by decide)) (fun _ hk => hk.2) (.slice bD bv.length bE)) (fun _ hk => hk.2) (.slice bL bC.length bM)) (fun _ hk => hk.2) (.slice bW bK.length bX)) (fun _ hk => trivial), Kd.R_mono (Kd.R_far (p := ⟨aj, 2, none⟩) (Kd.R_far (p := ⟨aj, 1, none⟩) (Kd.R_far (p := ⟨aj, 0, none⟩) (Kd.R_types cz.out ae.out (by decide)) (fun _ hk => hk.2) (.slice bD bv.length bE)) (fun _ hk => hk.2) (.slice bL bC.length bM)) (fun _ hk => hk.2) (.slice bW bK.length bX)) (fun _ hk => trivial), Kd.S_mono (Kd.S_far (p := ⟨aj, 2, none⟩) (Kd.S_far (p := ⟨aj, 1, none⟩) (Kd.S_far (p := ⟨aj, 0, none⟩) (Kd.S_types cA.out ae.out (by decide)) (fun _ hk => hk.2) (.slice bD bv.length bE)) (fun _ hk => hk.2) (.slice bL bC.length bM)) (fun _ hk => hk.2) (.slice bW bK.length bX)) (fun _ hk => trivial), hBl⟩
   rw [if_pos c23] at H;have cw := decide_eq_true c23;clear c23
   by_cases c24 : 0 ≤ af
   rotate_left
   ·rw [if_neg c24] at H
    exact absurd H (by simp)
   rw [if_pos c24] at H;have dg := decide_eq_true c24;clear c24
   by_cases c25 : af < (ag.length : Int)
   rotate_left
   ·rw [if_neg c25] at H
    exact absurd H (by simp)
   rw [if_pos c25] at H;have dh := decide_eq_true c25;clear c25;have cL := Aside0.mk H;clear H;have ci : 0 ≤ (af : Int) := od;have cj : af < (ag.length : Int) := od;obtain ⟨bF, dQ, bq, br, bt, bu⟩ := at_T61 bQ.out af ci cj;cases dQ;replace bq := (HB.out.cell (World.block_lt_of_cell? w _ bq)).trans bq;replace br := (HB.out.cell (World.block_lt_of_cell? w _ br)).trans br;replace bt := (HB.out.cell (World.block_lt_of_cell? w _ bt)).trans bt;replace bu := (HB.out.cell (World.block_lt_of_cell? w _ bu)).trans bu;replace ci := eq_true ci; replace cj := eq_true cj;go_upto_region 8 with (first | ((with_reducible refine qea (N := 10) rfl ?_); refine box_event ?hg (N := 10) ?hd (cs := #[.int .i64 0, .int .i64 0, .int .i64 0, .int .u64 0]) (t := 61) ?hr ?_; (case hd => rfl); (case hg => rfl); (case hr => first | (go_simp; done) | (go_simp; rfl)); intro bf hg w27 hbox hb; replace ab := kR ab hb; have ay := am hbox; have eX := kG HB hg; have eY := kG HB hg; replace HB := kH HB hb; have aT := kP aa hg; have aU := kQ aa hg; replace aa := kU aa hb; have aV := kP ae hg; have aW := kQ ae hg; replace ae := kU ae hb; have aX := kP al hg; have aH := kQ al hg; replace al := kU al hb; have aY := kP ak hg; have aZ := kQ ak hg; replace ak := kU ak hb; clear hb hbox hg; have eZ := aU.out; have fa := aT.out; have fb := aW.out; have fc := aV.out; have fd := aH.out; have fe := aX.out; have ff := aZ.out; have fg := aY.out; have Z32 := kz4 ay));(try simp only [Act.put, qS1, qS2, qS3]);go_cut [40] (fun v40 wc => ∃ (kq : Nat) (bw : Bool), v40 = .bool bw ∧ Aside0 (tune_Share.j1 kq af ag (ag.length : Int) af bw aD ag aE aA false ai ((rd_T61 ag af).f0) ((rd_T61 ag af).f1) ((rd_T61 ag af).f2) ((rd_T61 ag af).f3) = some (r1, r2, r3, r4)) ∧ Aside0 (kq ≤ k1) ∧ Aside0 (Kd.R (Kd.int .i64) 3 wc w.heap.size (fun _ => True) bc ai) ∧ Aside0 (wc.heap[ah]? = some (.cells #[(.slice aK aD.length aM), (.slice (some bF) ag.length aN), (.slice aQ aE.length aR)] 26 (0, 0))) ∧ Aside0 (wc.heap[aj]? = some (.cells #[(.slice none 0 0), (.slice none 0 0), (.slice none 0 0)] 26 (0, 0))) ∧ Aside0 (wc.heap[ao]? = some ((tune_Share.obj aA))) ∧ Aside0 (wc.heap[an]? = some (.cells #[bc] 27 (0, 0))) ∧ Aside0 (wc.heap[bf]? = some (.cells #[.int .i64 ((rd_T61 ag af).f0), .int .i64 ((rd_T61 ag af).f1), .int .i64 ((rd_T61 ag af).f2), .int .u64 ((rd_T61 ag af).f3)] 61 (0, 0))) ∧ Aside0 (Below w.heap.size w wc))
   case first =>
    have H := cL.out;clear cL
    by_cases c33 : ((rd_T61 ag af).f0) = 1
    rotate_left
    ·rw [if_neg c33] at H
     have bG := beq_eq_false_iff_ne.mpr c33;have di := bne_iff_ne.mpr c33;(first | rw [bG] | (simp only [i64_w, i32_w]; rw [bG]) | skip);have H' := Aside0.mk H;clear H;have fh := aU.out;have fi := aT.out;have fj := aW.out;have fk := aV.out;have fl := aH.out;have fm := aX.out;have fn := aZ.out;have fo := aY.out;have Z43 := kz4 ay;go_wp2;go_meet
     case rel => exact ⟨_, ((((rd_T61 ag af).f0) != 2)), et, H', ⟨by have := HK1.out; first | omega | exact Nat.le_refl _⟩, ⟨by (with_reducible repeat first | apply Kd.R_alloc | apply Kd.R_drewN | apply Kd.R_drew); exact Kd.R_mono (Kd.R_far (p := ⟨bf, 3, none⟩) (Kd.R_far (p := ⟨bf, 2, none⟩) (Kd.R_far (p := ⟨bf, 1, none⟩) (Kd.R_far (p := ⟨bf, 0, none⟩) (Kd.R_types ab.out ay.out (by decide)) (fun _ hk => hk.2) (.int .i64 ((rd_T61 ag af).f0))) (fun _ hk => hk.2) (.int .i64 ((rd_T61 ag af).f1))) (fun _ hk => hk.2) (.int .i64 ((rd_T61 ag af).f2))) (fun _ hk => hk.2) (.int .u64 ((rd_T61 ag af).f3))) (fun _ hk => trivial)⟩, ⟨kg aa⟩, ⟨kg ae⟩, ⟨kg al⟩, ⟨kg ak⟩, ⟨kg ay⟩, ⟨kh HB⟩⟩
    rw [if_pos c33] at H;have bG := beq_iff_eq.mpr c33;have di := bne_eq_false_iff_eq.mpr c33;clear c33;(first | rw [bG] | (simp only [i64_w, i32_w]; rw [bG]) | skip);have H' := Aside0.mk H;clear H;have fp := aU.out;have fq := aT.out;have fr := aW.out;have fu := aV.out;have fv := aH.out;have fw := aX.out;have fx := aZ.out;have fy := aY.out;have Z38 := kz4 ay;go_wp2;go_meet
    case rel => exact ⟨_, (false), et, H', ⟨by have := HK1.out; first | omega | exact Nat.le_refl _⟩, ⟨by (with_reducible repeat first | apply Kd.R_alloc | apply Kd.R_drewN | apply Kd.R_drew); exact Kd.R_mono (Kd.R_far (p := ⟨bf, 3, none⟩) (Kd.R_far (p := ⟨bf, 2, none⟩) (Kd.R_far (p := ⟨bf, 1, none⟩) (Kd.R_far (p := ⟨bf, 0, none⟩) (Kd.R_types ab.out ay.out (by decide)) (fun _ hk => hk.2) (.int .i64 ((rd_T61 ag af).f0))) (fun _ hk => hk.2) (.int .i64 ((rd_T61 ag af).f1))) (fun _ hk => hk.2) (.int .i64 ((rd_T61 ag af).f2))) (fun _ hk => hk.2) (.int .u64 ((rd_T61 ag af).f3))) (fun _ hk => trivial)⟩, ⟨kg aa⟩, ⟨kg ae⟩, ⟨kg al⟩, ⟨kg ak⟩, ⟨kg ay⟩, ⟨kh HB⟩⟩
   clear cL;(try clear cw dg dh Z32 bq br bt bu ci cj);obtain ⟨kq, bw, rfl, HA, bp, ab, aa, ae, al, ak, ay, HB⟩ := hcut
   cases kq with
   | zero => exact absurd HA.out (by simp [tune_Share.j1])
   | succ dR =>
    have H := HA.out;clear HA;simp only [tune_Share.j1] at H;have cM := Aside0.mk H;clear H;go_upto_if 40 with (fail);go_cut [] (fun wc => ∃ (kq : Nat) (aI : Int) (aJ : Int), Aside0 (tune_Share.j2 kq af ag (ag.length : Int) af aD ag aE aA false ai ((rd_T61 ag af).f0) aI aJ ((rd_T61 ag af).f3) = some (r1, r2, r3, r4)) ∧ Aside0 (kq ≤ dR) ∧ Aside0 (Kd.R (Kd.int .i64) 3 wc w.heap.size (fun _ => True) bc ai) ∧ Aside0 (wc.heap[ah]? = some (.cells #[(.slice aK aD.length aM), (.slice (some bF) ag.length aN), (.slice aQ aE.length aR)] 26 (0, 0))) ∧ Aside0 (wc.heap[aj]? = some (.cells #[(.slice none 0 0), (.slice none 0 0), (.slice none 0 0)] 26 (0, 0))) ∧ Aside0 (wc.heap[ao]? = some ((tune_Share.obj aA))) ∧ Aside0 (wc.heap[an]? = some (.cells #[bc] 27 (0, 0))) ∧ Aside0 (wc.heap[bf]? = some (.cells #[.int .i64 ((rd_T61 ag af).f0), .int .i64 aI, .int .i64 aJ, .int .u64 ((rd_T61 ag af).f3)] 61 (0, 0))) ∧ Aside0 (Below w.heap.size w wc))
    case first =>
     have H := cM.out;clear cM
     by_cases c45 : bw = true
     rotate_left
     ·replace c45 := Bool.eq_false_iff.mpr c45
      subst c45;replace H := ifF H;have H' := Aside0.mk H;clear H;go_wp2;go_meet
      case rel => exact ⟨_, (((rd_T61 ag af).f1)), (((rd_T61 ag af).f2)), H', ⟨by have := HK1.out; have := bp.out; first | omega | exact Nat.le_refl _⟩, ⟨krR ab⟩, ⟨kg aa⟩, ⟨kg ae⟩, ⟨kg al⟩, ⟨kg ak⟩, ⟨kg ay⟩, ⟨kh HB⟩⟩
     subst c45;replace H := ifT H
     by_cases c46 : 0 ≤ ((rd_T61 ag af).f1)
     rotate_left
     ·rw [if_neg c46] at H
      exact absurd H (by simp)
     rw [if_pos c46] at H;have cB := decide_eq_true c46;clear c46;(first | rw [cB] | (simp only [i64_w, i32_w]; rw [cB]) | skip)
     by_cases c47 : ((rd_T61 ag af).f1) < (ai.length : Int)
     rotate_left
     ·rw [if_neg c47] at H
      exact absurd H (by simp)
     rw [if_pos c47] at H;have fz := decide_eq_true c47;clear c47
     by_cases c48 : ((rd_T61 ag af).f0) = 6
     ·rw [if_pos c48] at H
      have dj := beq_iff_eq.mpr c48;have dk := bne_eq_false_iff_eq.mpr c48;clear c48;have H' := Aside0.mk H;clear H;have fA := aq.out;have fB := ap.out;have fC := au.out;have fD := ar.out;have fE := aC.out;have fF := aG.out;have fG := aY.out;have fH := aZ.out;have Z53 := kz1 ak;have fI := aU.out;have fJ := aT.out;have fK := aW.out;have fL := aV.out;have fM := aH.out;have fN := aX.out;have Z57 := kz4 ay;obtain ⟨hy, hA, dS⟩ := Kd.R_slice ab.out;subst dS;have bN : 0 ≤ (((rd_T61 ag af).f1) : Int) := od;have bO : ((rd_T61 ag af).f1) < (ai.length : Int) := od;obtain ⟨cf, cN, ck⟩ := Kd.at_int (Kd.R_reads' ab.out).2.2 ((rd_T61 ag af).f1) bN bO;cases cN;replace bN := eq_true bN; replace bO := eq_true bO;go_wp2;go_meet
      case rel => exact ⟨_, (rd ai ((rd_T61 ag af).f1)), (((rd_T61 ag af).f2)), H', ⟨by have := HK1.out; have := bp.out; first | omega | exact Nat.le_refl _⟩, ⟨by (with_reducible repeat first | apply Kd.R_alloc | apply Kd.R_drewN | apply Kd.R_drew); exact Kd.R_mono (Kd.R_far (p := ⟨bf, 1, none⟩) (Kd.R_types ab.out ay.out (by decide)) (fun _ hk => hk.2) (.int .i64 (rd ai ((rd_T61 ag af).f1)))) (fun _ hk => trivial)⟩, ⟨kg aa⟩, ⟨kg ae⟩, ⟨kg al⟩, ⟨kg ak⟩, ⟨kg ay⟩, ⟨kh HB⟩⟩
     rw [if_neg c48] at H;have dj := beq_eq_false_iff_ne.mpr c48;have dk := bne_iff_ne.mpr c48
     by_cases c59 : 0 ≤ ((rd_T61 ag af).f2)
     rotate_left
     ·rw [if_neg c59] at H
      exact absurd H (by simp)
     rw [if_pos c59] at H;have fO := decide_eq_true c59;clear c59
     by_cases c60 : ((rd_T61 ag af).f2) < (ai.length : Int)
     rotate_left
     ·rw [if_neg c60] at H
      exact absurd H (by simp)
     rw [if_pos c60] at H;have fP := decide_eq_true c60;clear c60;have H' := Aside0.mk H;clear H;have fQ := aq.out;have fR := ap.out;have fS := au.out;have fT := ar.out;have fU := aC.out;have fV := aG.out;have fW := aY.out;have fX := aZ.out;have Z65 := kz1 ak;have fY := aU.out;have fZ := aT.out;have ga := aW.out;have gb := aV.out;have gc := aH.out;have gd := aX.out;have Z69 := kz4 ay;obtain ⟨hB, hD, dT⟩ := Kd.R_slice ab.out;subst dT;have bN : 0 ≤ (((rd_T61 ag af).f1) : Int) := od;have bO : ((rd_T61 ag af).f1) < (ai.length : Int) := od;obtain ⟨cf, cN, ck⟩ := Kd.at_int (Kd.R_reads' ab.out).2.2 ((rd_T61 ag af).f1) bN bO;cases cN;replace bN := eq_true bN; replace bO := eq_true bO;have cO : 0 ≤ (((rd_T61 ag af).f2) : Int) := od;have cP : ((rd_T61 ag af).f2) < (ai.length : Int) := od;obtain ⟨dl, dU, bS⟩ := Kd.at_int (Kd.R_reads' ab.out).2.2 ((rd_T61 ag af).f2) cO cP;obtain rfl : cf = dl := (by injection dU);have hn298_0 : cf.block ≠ bf := Kd.own_blk (Kd.R_ne ab.out ay.out (by decide));replace bS := (cell_far (p := ⟨bf, 1, none⟩) (by first | (rw [add_block]; exact hn298_0) | (show (Addr.add _ _).block ≠ _; rw [add_block]; exact hn298_0) | exact hn298_0) (.int .i64 (rd ai ((rd_T61 ag af).f1)))).trans bS;clear hn298_0; replace cO := eq_true cO; replace cP := eq_true cP;go_wp2;go_meet
     case rel => exact ⟨_, (rd ai ((rd_T61 ag af).f1)), (rd ai ((rd_T61 ag af).f2)), H', ⟨by have := HK1.out; have := bp.out; first | omega | exact Nat.le_refl _⟩, ⟨by (with_reducible repeat first | apply Kd.R_alloc | apply Kd.R_drewN | apply Kd.R_drew); exact Kd.R_mono (Kd.R_far (p := ⟨bf, 2, none⟩) (Kd.R_far (p := ⟨bf, 1, none⟩) (Kd.R_types ab.out ay.out (by decide)) (fun _ hk => hk.2) (.int .i64 (rd ai ((rd_T61 ag af).f1)))) (fun _ hk => hk.2) (.int .i64 (rd ai ((rd_T61 ag af).f2)))) (fun _ hk => trivial)⟩, ⟨kg aa⟩, ⟨kg ae⟩, ⟨kg al⟩, ⟨kg ak⟩, ⟨kg ay⟩, ⟨kh HB⟩⟩
    clear cM;obtain ⟨kq, aI, aJ, HA, bx, ab, aa, ae, al, ak, ay, HB⟩ := hcut
    cases kq with
    | zero => exact absurd HA.out (by simp [tune_Share.j2])
    | succ dV =>
     have H := HA.out;clear HA;simp only [tune_Share.j2] at H;have cQ := Aside0.mk H;clear H;go_upto_region 12 with (fail);go_cut [70] (fun v70 wc => ∃ (kq : Nat) (bz : Bool), v70 = .bool bz ∧ Aside0 (tune_Share.j3 kq af ag (ag.length : Int) af bz aD ag aE aA false ai ((rd_T61 ag af).f0) aI aJ ((rd_T61 ag af).f3) = some (r1, r2, r3, r4)) ∧ Aside0 (kq ≤ dV) ∧ Aside0 (Kd.R (Kd.int .i64) 3 wc w.heap.size (fun _ => True) bc ai) ∧ Aside0 (wc.heap[ah]? = some (.cells #[(.slice aK aD.length aM), (.slice (some bF) ag.length aN), (.slice aQ aE.length aR)] 26 (0, 0))) ∧ Aside0 (wc.heap[aj]? = some (.cells #[(.slice none 0 0), (.slice none 0 0), (.slice none 0 0)] 26 (0, 0))) ∧ Aside0 (wc.heap[ao]? = some ((tune_Share.obj aA))) ∧ Aside0 (wc.heap[an]? = some (.cells #[bc] 27 (0, 0))) ∧ Aside0 (wc.heap[bf]? = some (.cells #[.int .i64 ((rd_T61 ag af).f0), .int .i64 aI, .int .i64 aJ, .int .u64 ((rd_T61 ag af).f3)] 61 (0, 0))) ∧ Aside0 (Below w.heap.size w wc))
     case first =>
      have H := cQ.out;clear cQ
      by_cases c72 : ((rd_T61 ag af).f0) = 3
      ·rw [if_pos c72] at H
       have bH := beq_iff_eq.mpr c72;have dm := bne_eq_false_iff_eq.mpr c72;clear c72;(first | rw [bH] | (simp only [i64_w, i32_w]; rw [bH]) | skip);have H' := Aside0.mk H;clear H;have ge := aU.out;have gf := aT.out;have gg := aW.out;have gh := aV.out;have gi := aH.out;have gj := aX.out;have gl := aZ.out;have gm := aY.out;have Z77 := kz4 ay;go_wp2;go_meet
       case rel => exact ⟨_, (decide (aI > aJ)), et, H', ⟨by have := HK1.out; have := bp.out; have := bx.out; first | omega | exact Nat.le_refl _⟩, ⟨krR ab⟩, ⟨kg aa⟩, ⟨kg ae⟩, ⟨kg al⟩, ⟨kg ak⟩, ⟨kg ay⟩, ⟨kh HB⟩⟩
      rw [if_neg c72] at H;have bH := beq_eq_false_iff_ne.mpr c72;have dm := bne_iff_ne.mpr c72;(first | rw [bH] | (simp only [i64_w, i32_w]; rw [bH]) | skip)
      by_cases c78 : ((rd_T61 ag af).f0) = 5
      rotate_left
      ·rw [if_neg c78] at H
       have dn := beq_eq_false_iff_ne.mpr c78;have dp := bne_iff_ne.mpr c78;have H' := Aside0.mk H;clear H;have gn := aU.out;have go := aT.out;have gp := aW.out;have gq := aV.out;have gr := aH.out;have gs := aX.out;have gt := aZ.out;have gu := aY.out;have Z88 := kz4 ay;go_wp2;go_meet
       case rel => exact ⟨_, (false), et, H', ⟨by have := HK1.out; have := bp.out; have := bx.out; first | omega | exact Nat.le_refl _⟩, ⟨krR ab⟩, ⟨kg aa⟩, ⟨kg ae⟩, ⟨kg al⟩, ⟨kg ak⟩, ⟨kg ay⟩, ⟨kh HB⟩⟩
      rw [if_pos c78] at H;have dn := beq_iff_eq.mpr c78;have dp := bne_eq_false_iff_eq.mpr c78;clear c78;have H' := Aside0.mk H;clear H;have gv := aU.out;have gw := aT.out;have gx := aW.out;have gy := aV.out;have gz := aH.out;have gA := aX.out;have gB := aZ.out;have gC := aY.out;have Z83 := kz4 ay;go_wp2;go_meet
      case rel => exact ⟨_, (decide (aI > aJ)), et, H', ⟨by have := HK1.out; have := bp.out; have := bx.out; first | omega | exact Nat.le_refl _⟩, ⟨krR ab⟩, ⟨kg aa⟩, ⟨kg ae⟩, ⟨kg al⟩, ⟨kg ak⟩, ⟨kg ay⟩, ⟨kh HB⟩⟩
     clear cQ;obtain ⟨kq, bz, rfl, HA, bY, ab, aa, ae, al, ak, ay, HB⟩ := hcut
     cases kq with
     | zero => exact absurd HA.out (by simp [tune_Share.j3])
     | succ dW =>
      have H := HA.out;clear HA;simp only [tune_Share.j3] at H;have cR := Aside0.mk H;clear H;go_upto_if 70 with (fail);go_cut [] (fun wc => ∃ (kq : Nat) (bd : Int) (be : Int), Aside0 (tune_Share.j4 kq af ag (ag.length : Int) af aD ag aE aA false ai ((rd_T61 ag af).f0) bd be ((rd_T61 ag af).f3) = some (r1, r2, r3, r4)) ∧ Aside0 (kq ≤ dW) ∧ Aside0 (Kd.R (Kd.int .i64) 3 wc w.heap.size (fun _ => True) bc ai) ∧ Aside0 (wc.heap[ah]? = some (.cells #[(.slice aK aD.length aM), (.slice (some bF) ag.length aN), (.slice aQ aE.length aR)] 26 (0, 0))) ∧ Aside0 (wc.heap[aj]? = some (.cells #[(.slice none 0 0), (.slice none 0 0), (.slice none 0 0)] 26 (0, 0))) ∧ Aside0 (wc.heap[ao]? = some ((tune_Share.obj aA))) ∧ Aside0 (wc.heap[an]? = some (.cells #[bc] 27 (0, 0))) ∧ Aside0 (wc.heap[bf]? = some (.cells #[.int .i64 ((rd_T61 ag af).f0), .int .i64 bd, .int .i64 be, .int .u64 ((rd_T61 ag af).f3)] 61 (0, 0))) ∧ Aside0 (Below w.heap.size w wc))
      case first =>
       have H := cR.out;clear cR
       by_cases c90 : bz = true
       rotate_left
       ·replace c90 := Bool.eq_false_iff.mpr c90
        subst c90;replace H := ifF H;have H' := Aside0.mk H;clear H;go_wp2;go_meet
        case rel => exact ⟨_, (aI), (aJ), H', ⟨by have := HK1.out; have := bp.out; have := bx.out; have := bY.out; first | omega | exact Nat.le_refl _⟩, ⟨krR ab⟩, ⟨kg aa⟩, ⟨kg ae⟩, ⟨kg al⟩, ⟨kg ak⟩, ⟨kg ay⟩, ⟨kh HB⟩⟩
       subst c90;replace H := ifT H;have H' := Aside0.mk H;clear H;have gD := aU.out;have gE := aT.out;have gF := aW.out;have gG := aV.out;have gH := aH.out;have gI := aX.out;have gJ := aZ.out;have gK := aY.out;have Z95 := kz4 ay;go_wp2;go_meet
       case rel => exact ⟨_, (aJ), (aI), H', ⟨by have := HK1.out; have := bp.out; have := bx.out; have := bY.out; first | omega | exact Nat.le_refl _⟩, ⟨by (with_reducible repeat first | apply Kd.R_alloc | apply Kd.R_drewN | apply Kd.R_drew); exact Kd.R_mono (Kd.R_far (p := ⟨bf, 2, none⟩) (Kd.R_far (p := ⟨bf, 1, none⟩) (Kd.R_types ab.out ay.out (by decide)) (fun _ hk => hk.2) (.int .i64 aJ)) (fun _ hk => hk.2) (.int .i64 aI)) (fun _ hk => trivial)⟩, ⟨kg aa⟩, ⟨kg ae⟩, ⟨kg al⟩, ⟨kg ak⟩, ⟨kg ay⟩, ⟨kh HB⟩⟩
      clear cR;obtain ⟨kq, bd, be, HA, cl, ab, aa, ae, al, ak, ay, HB⟩ := hcut
      cases kq with
      | zero => exact absurd HA.out (by simp [tune_Share.j4])
      | succ cm =>
       have H := HA.out;clear HA;simp only [tune_Share.j4] at H;replace H := Option.bind_eq_some_iff.mp H;obtain ⟨⟨bP, dX⟩, dq, H⟩ := H;(try dsimp only at H);have A96 := Aside0.mk dq;clear dq
       by_cases c97 : dX = true
       ·subst c97
        replace H := ifT H
        by_cases c98 : 0 ≤ af
        rotate_left
        ·rw [if_neg c98] at H
         exact absurd H (by simp)
        rw [if_pos c98] at H;have gL := decide_eq_true c98;clear c98
        by_cases c99 : af < (ai.length : Int)
        rotate_left
        ·rw [if_neg c99] at H
         exact absurd H (by simp)
        rw [if_pos c99] at H;have gM := decide_eq_true c99;clear c99;obtain ⟨cS, bI⟩ : ∃ y_ : List Int, y_ = (ai.set (af : Int).toNat bP) := ⟨_, rfl⟩
        replace H : (tune_Share.l0 cm ag (ag.length : Int) (wrap64 (af + 1)) aD ag aE aA false cS) = some (r1, r2, r3, r4) := by first | (rw [bI]; with_reducible exact H) | (have H2_ := (Option.bind_some _ _).symm.trans H; rw [bI]; with_reducible exact H2_) | (have H2_ := (Option.bind_some _ _).symm.trans H; with_reducible exact H2_) | with_reducible exact H | (rw [bI]; exact H) | exact H
        have dr := Aside0.mk bI;clear bI;have H' := Aside0.mk H;clear H;have dY := aw.out;have dZ := av.out;have ea := az.out;have eb := ax.out;have ec := aG.out;have ed := aC.out;have ee := aX.out;have ef := aH.out;have eg := aU.out;have eh := aT.out;have ei := aW.out;have ej := aV.out;have ek := aZ.out;have el := aY.out;have hE := kz4 ay;go_wp2_with (first | ((with_reducible refine qea (N := 80) rfl ?_); refine tune_Share.look_event ?hg (N := 80) ?hd (v := .tuple #[.int .i64 bP, .bool true]) ?hr ?_; (case hg => rfl); (case hd => rfl); (case hr => have hlk := tune_Share.look_run ⟨((rd_T61 ag af).f0), bd, be, ((rd_T61 ag af).f3)⟩ aA _ ao al.out (bP, true) A96.out; unfold tune_Share.val at hlk; first | (go_simp; done) | (go_simp; rfl)); intro dt hb; replace ab := kR ab hb; replace aa := kU aa hb; replace ae := kU ae hb; replace al := kU al hb; replace ak := kU ak hb; replace ay := kU ay hb; replace HB := kH HB hb; (try clear hb); (try clear hb2); (try clear hk); (try clear hi); have em := aq.out; have en := ap.out; have eo := au.out; have ep := ar.out; have hF := kz1 ak; have cT : 0 ≤ (af : Int) := od; have cU : (af : Int) < ((ai.length : Int) : Int) := od; obtain ⟨bT, cC, cD, cE, gl100, cl100, HG100⟩ := Kd.R_form ab.out (by omega); (first | cases cD | (injection cD with ea_ en_ ec_; (first | subst ea_ | (injection ea_ with ea_; subst ea_)); subst ec_; clear en_)); have du := Aside0.mk cE; have gN := Aside0.mk HG100; clear cE gl100 HG100; obtain ⟨dD, dE⟩ := Kd.R_celln 0 ab.out (af : Int) cT cU; replace cT := eq_true cT; replace cU := eq_true cU; obtain ⟨eq, es⟩ := Kd.R_celln 0 ab.out (af : Int) od od; have cg := Kd.R_putg ab.out (af : Int) bP) | ((with_reducible refine gate_store (t := 3) (p := 92) rfl ?_); refine store_event (t := 3) (p := 92) (v := ?vo_w115) (w1 := (dt.setCell ⟨bT, (af : Int).toNat, none⟩ (.int .i64 bP))) ?hg ?ho ?hn ?hr ?_; (case ho => rfl); (case hg => rfl); (case hn => rfl); (case hr => first | (go_simp; done) | (go_simp; rfl)); intro cV hw; have hg : dt.grownBy cV (some bT) := (by rw [hw]; exact cg.2); have hp_ : Kd.R (Kd.int .i64) 3 cV w.heap.size (fun _ => True) (.slice (some ⟨bT, 0, none⟩) ai.length cC) cS := (by rw [hw, dr.out]; exact cg.1); clear cg; replace aa := kXR aa ab hg; replace ae := kXR ae ab hg; replace al := Aside0.mk (blk_grown (g := ao) (o := (tune_Share.obj aA)) (kb al) hg (tune_Share.R_neM ab.out al.out)); replace ak := kXR ak ab hg; replace ay := kXR ay ab hg; replace ab := Aside0.mk (hp_); replace HB := Aside0.mk ((by rw [hw]; exact below_set (HB.out) du.out : Below w.heap.size w cV)); clear hg hw hp_));go_roundg cm
        case measure => have := HK1.out; have := bp.out; have := bx.out; have := bY.out; have := cl.out; omega
        case rel => exact ⟨(wrap64 (af + 1)), (aA), (cS), (.slice (some ⟨bT, 0, none⟩) ai.length cC), et, H', ⟨by have := HK1.out; have := bp.out; have := bx.out; have := bY.out; have := cl.out; omega⟩, ⟨krR ab⟩, ⟨kg aa⟩, ⟨kg ae⟩, ⟨kg al⟩, ⟨kg ak⟩, ⟨kh HB⟩⟩
       replace c97 := Bool.eq_false_iff.mpr c97;subst c97;replace H := ifF H;replace H := Option.bind_eq_some_iff.mp H;obtain ⟨bZ, cF, H⟩ := H;(try dsimp only at H);have eu := Aside0.mk cF;clear cF
       by_cases cn : 0 ≤ af
       rotate_left
       ·rw [if_neg cn] at H
        exact absurd H (by simp)
       rw [if_pos cn] at H;have ev := decide_eq_true cn;clear cn
       by_cases co : af < (ai.length : Int)
       rotate_left
       ·rw [if_neg co] at H
        exact absurd H (by simp)
       rw [if_pos co] at H;have ew := decide_eq_true co;clear co;obtain ⟨cW, bJ⟩ : ∃ y_ : List Int, y_ = (ai.set (af : Int).toNat af) := ⟨_, rfl⟩
       replace H : (tune_Share.l0 cm ag (ag.length : Int) (wrap64 (af + 1)) aD ag aE bZ false cW) = some (r1, r2, r3, r4) := by first | (rw [bJ]; with_reducible exact H) | (have H2_ := (Option.bind_some _ _).symm.trans H; rw [bJ]; with_reducible exact H2_) | (have H2_ := (Option.bind_some _ _).symm.trans H; with_reducible exact H2_) | with_reducible exact H | (rw [bJ]; exact H) | exact H
       have dv := Aside0.mk bJ;clear bJ;have H' := Aside0.mk H;clear H;have ex := aw.out;have ey := av.out;have ez := az.out;have eA := ax.out;have eB := aG.out;have eC := aC.out;have eD := aX.out;have eE := aH.out;have eF := aU.out;have eG := aT.out;have eH := aW.out;have eI := aV.out;have eJ := aZ.out;have eK := aY.out;have hG := kz4 ay;go_wp2_with (first | ((with_reducible refine qea (N := 80) rfl ?_); refine tune_Share.look_event ?hg (N := 80) ?hd (v := .tuple #[.int .i64 bP, .bool false]) ?hr ?_; (case hg => rfl); (case hd => rfl); (case hr => have hlk := tune_Share.look_run ⟨((rd_T61 ag af).f0), bd, be, ((rd_T61 ag af).f3)⟩ aA _ ao al.out (bP, false) A96.out; unfold tune_Share.val at hlk; first | (go_simp; done) | (go_simp; rfl)); intro eL hb; replace ab := kR ab hb; replace aa := kU aa hb; replace ae := kU ae hb; replace al := kU al hb; replace ak := kU ak hb; replace ay := kU ay hb; replace HB := kH HB hb; (try clear hb); (try clear hb2); (try clear hk); (try clear hi); have hH := kz4 ay) | ((with_reducible refine tune_Share.gate_upd rfl ?_); refine tune_Share.upd_event (w1 := (World.putObj eL ao (tune_Share.obj bZ))) ?hg ?hn ?hr ?_; (case hg => rfl); (case hn => rfl); (case hr => have hup := tune_Share.put_run ⟨((rd_T61 ag af).f0), bd, be, ((rd_T61 ag af).f3)⟩ aA bZ _ ao af al.out eu.out; unfold tune_Share.val at hup; first | (go_simp; done) | (go_simp; rfl)); intro bA hw; replace ab : Aside0 (Kd.R (Kd.int .i64) 3 bA w.heap.size (fun _ => True) bc ai) := ⟨(by rw [hw]; exact (by (with_reducible repeat first | apply Kd.R_alloc | apply Kd.R_drewN | apply Kd.R_drew); exact tune_Share.R_upd ab.out al.out _))⟩; replace aa : Aside0 (bA.heap[ah]? = some (.cells #[.slice aK aD.length aM, .slice (some bF) ag.length aN, .slice aQ aE.length aR] 26 (0, 0))) := ⟨(by rw [hw]; exact (by (with_reducible repeat first | refine blk_drewN ?_ _ | refine blk_drew ?_ | refine blk_alloc ?_ _); refine tune_Share.blk_upd ?_ av.out _; (with_reducible repeat first | refine blk_drewN ?_ _ | refine blk_drew ?_ | refine blk_alloc ?_ _); exact aa.out))⟩; replace ae : Aside0 (bA.heap[aj]? = some (.cells #[.slice none 0 0, .slice none 0 0, .slice none 0 0] 26 (0, 0))) := ⟨(by rw [hw]; exact (by (with_reducible repeat first | refine blk_drewN ?_ _ | refine blk_drew ?_ | refine blk_alloc ?_ _); refine tune_Share.blk_upd ?_ ax.out _; (with_reducible repeat first | refine blk_drewN ?_ _ | refine blk_drew ?_ | refine blk_alloc ?_ _); exact ae.out))⟩; replace al : Aside0 (bA.heap[ao]? = some ((tune_Share.obj bZ))) := ⟨(by rw [hw]; exact (by (with_reducible repeat first | refine blk_drewN ?_ _ | refine blk_drew ?_ | refine blk_alloc ?_ _); exact tune_Share.upd_new al.out _))⟩; replace ak : Aside0 (bA.heap[an]? = some (.cells #[bc] 27 (0, 0))) := ⟨(by rw [hw]; exact (by (with_reducible repeat first | refine blk_drewN ?_ _ | refine blk_drew ?_ | refine blk_alloc ?_ _); refine tune_Share.blk_upd ?_ aC.out _; (with_reducible repeat first | refine blk_drewN ?_ _ | refine blk_drew ?_ | refine blk_alloc ?_ _); exact ak.out))⟩; replace ay : Aside0 (bA.heap[bf]? = some (.cells #[.int .i64 ((rd_T61 ag af).f0), .int .i64 bd, .int .i64 be, .int .u64 ((rd_T61 ag af).f3)] 61 (0, 0))) := ⟨(by rw [hw]; exact (by (with_reducible repeat first | refine blk_drewN ?_ _ | refine blk_drew ?_ | refine blk_alloc ?_ _); refine tune_Share.blk_upd ?_ aH.out _; (with_reducible repeat first | refine blk_drewN ?_ _ | refine blk_drew ?_ | refine blk_alloc ?_ _); exact ay.out))⟩; replace HB : Aside0 (Below w.heap.size w bA) := ⟨(by rw [hw]; exact (tune_Share.below_upd HB.out bg.out HB.out.size _))⟩; clear hw; have eM := aq.out; have eN := ap.out; have eO := au.out; have eP := ar.out; have hI := kz1 ak; have cX : 0 ≤ (af : Int) := od; have cY : (af : Int) < ((ai.length : Int) : Int) := od; obtain ⟨bU, cG, cH, cI, gl119, cl119, HG119⟩ := Kd.R_form ab.out (by omega); (first | cases cH | (injection cH with ea_ en_ ec_; (first | subst ea_ | (injection ea_ with ea_; subst ea_)); subst ec_; clear en_)); have dw := Aside0.mk cI; have gO := Aside0.mk HG119; clear cI gl119 HG119; obtain ⟨dF, dG⟩ := Kd.R_celln 0 ab.out (af : Int) cX cY; replace cX := eq_true cX; replace cY := eq_true cY; obtain ⟨eQ, eR⟩ := Kd.R_celln 0 ab.out (af : Int) od od; have ch := Kd.R_putg ab.out (af : Int) af) | ((with_reducible refine gate_store (t := 3) (p := 92) rfl ?_); refine store_event (t := 3) (p := 92) (v := ?vo_w139) (w1 := (bA.setCell ⟨bU, (af : Int).toNat, none⟩ (.int .i64 af))) ?hg ?ho ?hn ?hr ?_; (case ho => rfl); (case hg => rfl); (case hn => rfl); (case hr => first | (go_simp; done) | (go_simp; rfl)); intro cZ hw; have hg : bA.grownBy cZ (some bU) := (by rw [hw]; exact ch.2); have hp_ : Kd.R (Kd.int .i64) 3 cZ w.heap.size (fun _ => True) (.slice (some ⟨bU, 0, none⟩) ai.length cG) cW := (by rw [hw, dv.out]; exact ch.1); clear ch; replace aa := kXR aa ab hg; replace ae := kXR ae ab hg; replace al := Aside0.mk (blk_grown (g := ao) (o := (tune_Share.obj bZ)) (kb al) hg (tune_Share.R_neM ab.out al.out)); replace ak := kXR ak ab hg; replace ay := kXR ay ab hg; replace ab := Aside0.mk (hp_); replace HB := Aside0.mk ((by rw [hw]; exact below_set (HB.out) dw.out : Below w.heap.size w cZ)); clear hg hw hp_));go_roundg cm
       case measure => have := HK1.out; have := bp.out; have := bx.out; have := bY.out; have := cl.out; omega
       case rel => exact ⟨(wrap64 (af + 1)), (bZ), (cW), (.slice (some ⟨bU, 0, none⟩) ai.length cG), et, H', ⟨by have := HK1.out; have := bp.out; have := bx.out; have := bY.out; have := cl.out; omega⟩, ⟨krR ab⟩, ⟨kg aa⟩, ⟨kg ae⟩, ⟨kg al⟩, ⟨kg ak⟩, ⟨kh HB⟩⟩
def qsa.f (aa : Int) (ab : Int) (ae : Int) (af : Int) : Option (Bool) := if aa = 3 then (some true) else (if aa = 4 then (some true) else (some (aa == 5)))
theorem qsa.calls (aa : Int) (ae : Int) (af : Int) (ag : Int) (r : Bool) (w : World) (h : qsa.f aa ae af ag = some r) :
  Calls Try.prog 36 #[.agg #[.int .i64 aa, .int .i64 ae, .int .i64 af, .int .u64 ag]] w fun e w' => e = .returned (.bool r) ∧ Below w.heap.size w w' := by
 have hu61 := Try.underlying61;have HB := Aside0.mk (Below.refl w.heap.size w);have H : (if aa = 3 then (some true) else (if aa = 4 then (some true) else (some (aa == 5)))) = some r := h;clear h
 by_cases c2 : aa = 3
 ·rw [if_pos c2] at H
  have ak := beq_iff_eq.mpr c2;have al := bne_eq_false_iff_eq.mpr c2;clear c2;obtain rfl := Option.some.inj H;go_enter Try.func36, Try.ntmps36;go_wp2_with (first | ((with_reducible refine qea (N := 1) rfl ?_); refine box_event ?hg (N := 1) ?hd (cs := #[.int .i64 aa, .int .i64 ae, .int .i64 af, .int .u64 ag]) (t := 61) ?hr ?_; (case hd => rfl); (case hg => rfl); (case hr => first | (go_simp; done) | (go_simp; rfl)); intro ah hg w3 hbox hb; have ab := am hbox; have ai := kG HB hg; have aj := kG HB hg; replace HB := kH HB hb; clear hb hbox hg; have Z4 := kz4 ab));go_ret;exact ⟨er, kh HB⟩
 rw [if_neg c2] at H;have ak := beq_eq_false_iff_ne.mpr c2;have al := bne_iff_ne.mpr c2
 by_cases c5 : aa = 4
 ·rw [if_pos c5] at H
  have an := beq_iff_eq.mpr c5;have ao := bne_eq_false_iff_eq.mpr c5;clear c5;obtain rfl := Option.some.inj H;go_enter Try.func36, Try.ntmps36;go_wp2_with (first | ((with_reducible refine qea (N := 1) rfl ?_); refine box_event ?hg (N := 1) ?hd (cs := #[.int .i64 aa, .int .i64 ae, .int .i64 af, .int .u64 ag]) (t := 61) ?hr ?_; (case hd => rfl); (case hg => rfl); (case hr => first | (go_simp; done) | (go_simp; rfl)); intro ah hg w6 hbox hb; have ab := am hbox; have ai := kG HB hg; have aj := kG HB hg; replace HB := kH HB hb; clear hb hbox hg; have Z7 := kz4 ab));go_ret;exact ⟨er, kh HB⟩
 rw [if_neg c5] at H;have an := beq_eq_false_iff_ne.mpr c5;have ao := bne_iff_ne.mpr c5;obtain rfl := Option.some.inj H;go_enter Try.func36, Try.ntmps36;go_wp2_with (first | ((with_reducible refine qea (N := 1) rfl ?_); refine box_event ?hg (N := 1) ?hd (cs := #[.int .i64 aa, .int .i64 ae, .int .i64 af, .int .u64 ag]) (t := 61) ?hr ?_; (case hd => rfl); (case hg => rfl); (case hr => first | (go_simp; done) | (go_simp; rfl)); intro ah hg w8 hbox hb; have ab := am hbox; have ai := kG HB hg; have aj := kG HB hg; replace HB := kH HB hb; clear hb hbox hg; have Z9 := kz4 ab));go_ret;exact ⟨er, kh HB⟩
def qva.f (aa : Int) (ab : Int) (ae : Int) (af : Int) : Option (Bool) := (qsa.f aa ab ae af).bind fun ag => (if ag = true then (some true) else (some (aa == 6)))
theorem qva.calls (ab : Int) (ae : Int) (af : Int) (ag : Int) (r : Bool) (w : World) (h : qva.f ab ae af ag = some r) :
  Calls Try.prog 35 #[.agg #[.int .i64 ab, .int .i64 ae, .int .i64 af, .int .u64 ag]] w fun e w' => e = .returned (.bool r) ∧ Below w.heap.size w w' := by
 have hu61 := Try.underlying61;have HB := Aside0.mk (Below.refl w.heap.size w);have H : ((qsa.f ab ae af ag).bind fun ah => (if ah = true then (some true) else (some (ab == 6)))) = some r := h;clear h;replace H := Option.bind_eq_some_iff.mp H;obtain ⟨ah, A20, H⟩ := H;(try dsimp only at H);have A2 := Aside0.mk A20;clear A20
 by_cases c3 : ah = true
 ·subst c3
  replace H := ifT H;obtain rfl := Option.some.inj H;go_enter Try.func35, Try.ntmps35;go_wp2_with (first | ((with_reducible refine qea (N := 1) rfl ?_); refine box_event ?hg (N := 1) ?hd (cs := #[.int .i64 ab, .int .i64 ae, .int .i64 af, .int .u64 ag]) (t := 61) ?hr ?_; (case hd => rfl); (case hg => rfl); (case hr => first | (go_simp; done) | (go_simp; rfl)); intro ai hg w4 hbox hb; have aa := am hbox; have aj := kG HB hg; have ak := kG HB hg; replace HB := kH HB hb; clear hb hbox hg; have Z5 := kz4 aa) | ((with_reducible refine gate_callee (f := 36) rfl ?_); refine goesL_ (some 4) rfl rfl Try.func36 (by kernel_rfl) rfl #[.agg #[.int .i64 ab, .int .i64 ae, .int .i64 af, .int .u64 ag]] rfl (by (try simp only [qM1, qM2, qM3]); first | done | rfl) ?_; (with_reducible refine (qsa.calls ab ae af ag true _ A2.out).mono ?_); rintro e w6 ⟨rfl, hb⟩; refine ⟨_, rfl, ?_⟩; replace aa := kU aa hb; replace HB := kH HB hb; (try clear hb); (try clear hb2); (try clear hk); (try clear hi)));go_ret;exact ⟨er, kh HB⟩
 replace c3 := Bool.eq_false_iff.mpr c3;subst c3;replace H := ifF H;obtain rfl := Option.some.inj H;go_enter Try.func35, Try.ntmps35;go_wp2_with (first | ((with_reducible refine qea (N := 1) rfl ?_); refine box_event ?hg (N := 1) ?hd (cs := #[.int .i64 ab, .int .i64 ae, .int .i64 af, .int .u64 ag]) (t := 61) ?hr ?_; (case hd => rfl); (case hg => rfl); (case hr => first | (go_simp; done) | (go_simp; rfl)); intro ai hg w7 hbox hb; have aa := am hbox; have aj := kG HB hg; have ak := kG HB hg; replace HB := kH HB hb; clear hb hbox hg; have Z8 := kz4 aa) | ((with_reducible refine gate_callee (f := 36) rfl ?_); refine goesL_ (some 4) rfl rfl Try.func36 (by kernel_rfl) rfl #[.agg #[.int .i64 ab, .int .i64 ae, .int .i64 af, .int .u64 ag]] rfl (by (try simp only [qM1, qM2, qM3]); first | done | rfl) ?_; (with_reducible refine (qsa.calls ab ae af ag false _ A2.out).mono ?_); rintro e w9 ⟨rfl, hb⟩; refine ⟨_, rfl, ?_⟩; replace aa := kU aa hb; replace HB := kH HB hb; (try clear hb); (try clear hb2); (try clear hk); (try clear hi); have Z10 := kz4 aa));go_ret;exact ⟨er, kh HB⟩
def qja.l0 : Nat → List Int → List Int → Int → Int → Option (Bool)
 | 0, _, _, _, _ => none
 | k + 1, x0, x1, x12, x13 => if x13 < x12 then (if 0 ≤ x13 then (if x13 < (x0.length : Int) then (if x13 < (x1.length : Int) then (if (rd x0 x13) = (rd x1 x13) then (qja.l0 k x0 x1 x12 (wrap64 (x13 + 1))) else (some false)) else (none)) else (none)) else (none)) else (some true)
def qja.f (k : Nat) (l0 : List Int) (l1 : List Int) : Option (Bool) := if (l0.length : Int) = (l1.length : Int) then (qja.l0 k l0 l1 (l0.length : Int) 0) else (some false)
theorem qja.mono_l : ∀ k, (∀ y0 y1 y2 y3, LeO (qja.l0 k y0 y1 y2 y3) (qja.l0 (k + 1) y0 y1 y2 y3))
 | 0 => fun _ _ _ _ r h => by simp [qja.l0] at h
 | k + 1 => by
  have ih0 := qja.mono_l k
  ·intro y0 y1 y2 y3
   unfold qja.l0
   repeat' first
   | (with_reducible exact ih0 _ _ _ _)
   | (with_reducible exact LeO.refl _)
   | (with_reducible exact LeO.none _)
   | (with_reducible refine LeO.ite ?_ ?_)
   | (with_reducible refine LeO.bind ?_ (fun _ => ?_))
   | exact ih0 _ _ _ _
   | exact LeO.none _
   | refine LeO.ite ?_ ?_
   | refine LeO.bind ?_ (fun _ => ?_)
theorem qja.mono : ∀ a0 a1 k, LeO (qja.f k a0 a1) (qja.f (k + 1) a0 a1) := by
 intro a0 a1 k;have ih0 := qja.mono_l k;unfold qja.f
 repeat' first
   | (with_reducible exact ih0 _ _ _ _)
   | (with_reducible exact LeO.refl _)
   | (with_reducible exact LeO.none _)
   | (with_reducible refine LeO.ite ?_ ?_)
   | (with_reducible refine LeO.bind ?_ (fun _ => ?_))
   | exact ih0 _ _ _ _
   | exact LeO.none _
   | refine LeO.ite ?_ ?_
   | refine LeO.bind ?_ (fun _ => ?_)
theorem qja.calls (k : Nat) (A0 : Option Addr) (c0 : Nat) (l0 : List Int) (A1 : Option Addr) (c1 : Nat) (l1 : List Int) (r : Bool) (w : World) (hr0 : Kd.C (Kd.int .i64) w A0 l0.length l0) (hc0 : l0.length ≤ c0) (hr1 : Kd.C (Kd.int .i64) w A1 l1.length l1) (hc1 : l1.length ≤ c1) (h : qja.f k l0 l1 = some r) :
  Calls Try.prog 13 #[.slice A0 l0.length c0, .slice A1 l1.length c1] w fun e w' => e = .returned (.bool r) ∧ Drawn0 w w' := by
 have HR0 := Aside0.mk hr0;have HC0 := Aside0.mk hc0;clear hr0 hc0;have HR1 := Aside0.mk hr1;have HC1 := Aside0.mk hc1;clear hr1 hc1;have H : (if (l0.length : Int) = (l1.length : Int) then (qja.l0 k l0 l1 (l0.length : Int) 0) else (some false)) = some r := h;clear h
 by_cases c3 : (l0.length : Int) = (l1.length : Int)
 rotate_left
 ·rw [if_neg c3] at H
  have al := beq_eq_false_iff_ne.mpr c3;have an := bne_iff_ne.mpr c3
  have ao : (l0.length == l1.length) = false := by first | simpa using c3 | (simp at c3 ⊢; omega)
  obtain rfl := Option.some.inj H;go_enter Try.func13, Try.ntmps13;go_wp2
  repeat (go_quiet (fail); try go_wp2)
  go_ret;exact ⟨et, by repeat (first | exact Drawn0.refl _ | apply Drawn0.step)⟩
 rw [if_pos c3] at H;have al := beq_iff_eq.mpr c3;have an := bne_eq_false_iff_eq.mpr c3
 have ao : (l0.length == l1.length) = true := by first | simpa using c3 | (simp at c3 ⊢; omega)
 clear c3;have H' := Aside0.mk H;clear H;go_enter Try.func13, Try.ntmps13;go_wp2
 repeat (go_quiet (fail); try go_wp2)
 go_loopg [13] k (fun kq v13 w' => ∃ (aa : Int), v13 = .int .i64 aa ∧ Aside0 (qja.l0 kq l0 l1 (l0.length : Int) aa = some r) ∧ Aside0 (kq ≤ k) ∧ Drawn0 w w')
 case atStart => exact ⟨(0), et, H', ⟨Nat.le_refl _⟩, by repeat (first | exact Drawn0.refl _ | apply Drawn0.step)⟩
 case round =>
  clear H';(try clear al an ao);obtain ⟨aa, rfl, HA, HK1, ⟨m1, rfl⟩⟩ := hrel
  cases gk with
  | zero => exact absurd HA.out (by simp [qja.l0])
  | succ k1 =>
   have H := HA.out;clear HA;simp only [qja.l0] at H
   by_cases c4 : aa < (l0.length : Int)
   rotate_left
   ·rw [if_neg c4] at H
    have ar := decide_eq_false c4;clear c4;obtain rfl := Option.some.inj H;go_wp2
    repeat (go_quiet (fail); try go_wp2)
    go_ret;exact ⟨et, by repeat (first | exact Drawn0.refl _ | apply Drawn0.step)⟩
   rw [if_pos c4] at H;have ar := decide_eq_true c4;clear c4
   by_cases c5 : 0 ≤ aa
   rotate_left
   ·rw [if_neg c5] at H
    exact absurd H (by simp)
   rw [if_pos c5] at H;have aw := decide_eq_true c5;clear c5
   by_cases c6 : aa < (l0.length : Int)
   rotate_left
   ·rw [if_neg c6] at H
    exact absurd H (by simp)
   rw [if_pos c6] at H;have ax := decide_eq_true c6;clear c6
   by_cases c7 : aa < (l1.length : Int)
   rotate_left
   ·rw [if_neg c7] at H
    exact absurd H (by simp)
   rw [if_pos c7] at H;have ay := decide_eq_true c7;clear c7
   by_cases c8 : (rd l0 aa) = (rd l1 aa)
   rotate_left
   ·rw [if_neg c8] at H
    have au := beq_eq_false_iff_ne.mpr c8;have av := bne_iff_ne.mpr c8;obtain rfl := Option.some.inj H;have ab : 0 ≤ (aa : Int) := od;have ae : aa < (l0.length : Int) := od;obtain ⟨ap, aj, ah⟩ := Kd.at_int HR0.out aa ab ae;cases aj;replace ab := eq_true ab; replace ae := eq_true ae;have af : 0 ≤ (aa : Int) := od;have ag : aa < (l1.length : Int) := od;obtain ⟨aq, ak, ai⟩ := Kd.at_int HR1.out aa af ag;cases ak;replace af := eq_true af; replace ag := eq_true ag;go_wp2
    repeat (go_quiet (fail); try go_wp2)
    go_ret;exact ⟨et, by repeat (first | exact Drawn0.refl _ | apply Drawn0.step)⟩
   rw [if_pos c8] at H;have au := beq_iff_eq.mpr c8;have av := bne_eq_false_iff_eq.mpr c8;clear c8;have H' := Aside0.mk H;clear H;have ab : 0 ≤ (aa : Int) := od;have ae : aa < (l0.length : Int) := od;obtain ⟨ap, aj, ah⟩ := Kd.at_int HR0.out aa ab ae;cases aj;replace ab := eq_true ab; replace ae := eq_true ae;have af : 0 ≤ (aa : Int) := od;have ag : aa < (l1.length : Int) := od;obtain ⟨aq, ak, ai⟩ := Kd.at_int HR1.out aa af ag;cases ak;replace af := eq_true af; replace ag := eq_true ag;go_wp2
   repeat (go_quiet (fail); try go_wp2)
   go_roundg k1
   case measure => have := HK1.out; omega
   case rel => exact ⟨(wrap64 (aa + 1)), et, H', ⟨by have := HK1.out; omega⟩, by repeat (first | exact Drawn0.refl _ | apply Drawn0.step)⟩
end Go.Proofs.Ytmlbliggbkfjnaa.J
