/- Part 3 of the proof of TuneFolds: what the functions compute as plain Lean functions, that the machine comes to just these answers, and that the answer is true; no conditions. -/
import Derived.Test.YtmlbliggbkfjnaaTuneFoldsZ0
import Derived.Test.YtmlbliggbkfjnaaTuneFoldsZ1
import Derived.Test.YtmlbliggbkfjnaaTuneFoldsZ2
import Derived.Laws.EntriesVeiled
import Derived.RangeFuncRecord
import Derived.RangeFuncBox
import Derived.RangeFuncCalls
import Derived.Shelf.Abstract
import Derived.RangeFuncLeaves
import Derived.RangeFuncWrites
import Derived.OwnWalkIn
import Derived.TacticsInMore
import Derived.LoopNIn
import Derived.LoopIn
import Derived.RangeFuncNested
set_option linter.unusedSimpArgs false
set_option linter.unusedVariables false
set_option maxHeartbeats 8000000
set_option maxRecDepth 100000
namespace Go.Proofs.Ytmlbliggbkfjnaa.J
open Go.RowKit Go.Proofs.YtmlbliggbkfjnaaW.PrintWords Go.Proofs.YtmlbliggbkfjnaaW.PrintLast Go.Proofs.YtmlbliggbkfjnaaW.PrintMore
attribute [local go_sem] max2_int min2_int max_two min_two max_three min_three max_four min_four
theorem blk_ne3 {w : World} {b g t : Nat} {c1 c2 : Array Value} (h1 : w.heap[b]? = some (.cells c1 3 (0, 0))) (h2 : w.heap[g]? = some (.cells c2 t (0, 0))) (ht : t ≠ 3) : g ≠ b := by
 rintro rfl;rw [h1] at h2
 injection h2 with h2
 injection h2 with _ h2
 exact ht h2.symm
theorem cell_far2 {w : World} {p : Addr} {g : Nat} {u v x : Value} (h : w.cell? p = some x) (hp : p.block ≠ g) : ((w.setCell ⟨g, 0, none⟩ u).setCell ⟨g, 1, none⟩ v).cell? p = some x := by
 rw [← h];unfold World.cell?;rw [Below.heap_setCell _ _ _ _ hp, Below.heap_setCell _ _ _ _ hp]
theorem exits_len (xs : List S66) (i : Int) (a b : List Int) (h0 : 0 ≤ i) (hi : i < xs.length) : ((rd_T66 (xs.set i.toNat ⟨a, b⟩) i).f1).length = b.length := by
 unfold rd_T66;rw [List.getD_eq_getElem?_getD, List.getElem?_set_self (by omega)]
 rfl
mutual
def tune_moved.l1 (tto : Int → Option Int) : Nat → List Int → Int → Int → List (S64) → List (S61) → List (S66) → Option ((List (S64)) × (List (S61)) × (List (S66)))
 | 0, _, _, _, _, _, _ => none
 | k + 1, x8, x77, x78, a, b, cur => if x78 < x77 then (if 0 ≤ x78 then (if x78 < (cur.length : Int) then (tune_moved.l2 tto k x8 x77 x78 (((rd_T66 cur x78).f1).length : Int) 0 a b cur) else (none)) else (none)) else (some (a, b, cur))
def tune_moved.l2 (tto : Int → Option Int) : Nat → List Int → Int → Int → Int → Int → List (S64) → List (S61) → List (S66) → Option ((List (S64)) × (List (S61)) × (List (S66)))
 | 0, _, _, _, _, _, _, _, _ => none
 | k + 1, x8, x77, x78, x84, x85, a, b, cur => if x85 < x84 then (if 0 ≤ x85 then (if x85 < (((rd_T66 cur x78).f1).length : Int) then ((tto (rd ((rd_T66 cur x78).f1) x85)).bind fun aa => (if 0 ≤ aa then (if aa < (x8.length : Int) then (tune_moved.l2 tto k x8 x77 x78 x84 (wrap64 (x85 + 1)) a b (cur.set x78.toNat ⟨(rd_T66 cur x78).f0, ((rd_T66 cur x78).f1).set x85.toNat (rd x8 aa)⟩)) else (none)) else (none))) else (none)) else (none)) else (tune_moved.l1 tto k x8 x77 (wrap64 (x78 + 1)) a b cur)
end
mutual
def tune_moved.l0 (st : Int → Int → Int → Int → Int → Option Bool) (tto : Int → Option Int) : Nat → List Int → List (S61) → Int → Int → List (S64) → List (S61) → List (S66) → Option ((List (S64)) × (List (S61)) × (List (S66)))
 | 0, _, _, _, _, _, _, _ => none
 | k + 1, x8, x23, x24, x25, ae, aa, ab => if x25 < x24 then (if 0 ≤ x25 then (if x25 < (x23.length : Int) then ((st x25 ((rd_T61 x23 x25).f0) ((rd_T61 x23 x25).f1) ((rd_T61 x23 x25).f2) ((rd_T61 x23 x25).f3)).bind fun an => (if an = true then (if ((rd_T61 x23 x25).f0) = 1 then (tune_moved.j1 st tto k x8 x25 x23 x24 x25 false ae aa ab ((rd_T61 x23 x25).f0) ((rd_T61 x23 x25).f1) ((rd_T61 x23 x25).f2) ((rd_T61 x23 x25).f3)) else (tune_moved.j1 st tto k x8 x25 x23 x24 x25 (((rd_T61 x23 x25).f0) != 2) ae aa ab ((rd_T61 x23 x25).f0) ((rd_T61 x23 x25).f1) ((rd_T61 x23 x25).f2) ((rd_T61 x23 x25).f3))) else (tune_moved.l0 st tto k x8 x23 x24 (wrap64 (x25 + 1)) ae aa ab))) else (none)) else (none)) else (tune_moved.l1 tto k x8 (ab.length : Int) 0 ae aa ab)
def tune_moved.j1 (st : Int → Int → Int → Int → Int → Option Bool) (tto : Int → Option Int) : Nat → List Int → Int → List (S61) → Int → Int → Bool → List (S64) → List (S61) → List (S66) → Int → Int → Int → Int → Option ((List (S64)) × (List (S61)) × (List (S66)))
 | 0, _, _, _, _, _, _, _, _, _, _, _, _, _ => none
 | k + 1, x8, x9, x23, x24, x25, x42, ae, aa, ab, af, ai, ag, ah => if x42 = true then ((tto ai).bind fun aj => (if 0 ≤ aj then (if aj < (x8.length : Int) then (if af = 6 then (if 0 ≤ x9 then (if x9 < (x8.length : Int) then (if aa.length < 4398046511104 then (tune_moved.l0 st tto k (x8.set (x9 : Int).toNat (aa.length : Int)) x23 x24 (wrap64 (x25 + 1)) ae (aa ++ [(⟨af, rd x8 aj, ag, ah⟩ : S61)]) ab) else (none)) else (none)) else (none)) else ((tto ag).bind fun ak => (if 0 ≤ ak then (if ak < (x8.length : Int) then (if 0 ≤ x9 then (if x9 < (x8.length : Int) then (if aa.length < 4398046511104 then (tune_moved.l0 st tto k (x8.set (x9 : Int).toNat (aa.length : Int)) x23 x24 (wrap64 (x25 + 1)) ae (aa ++ [(⟨af, rd x8 aj, rd x8 ak, ah⟩ : S61)]) ab) else (none)) else (none)) else (none)) else (none)) else (none)))) else (none)) else (none))) else (if 0 ≤ x9 then (if x9 < (x8.length : Int) then (if aa.length < 4398046511104 then (tune_moved.l0 st tto k (x8.set (x9 : Int).toNat (aa.length : Int)) x23 x24 (wrap64 (x25 + 1)) ae (aa ++ [(⟨af, ai, ag, ah⟩ : S61)]) ab) else (none)) else (none)) else (none))
end
def tune_moved.f (st : Int → Int → Int → Int → Int → Option Bool) (tto : Int → Option Int) (k : Nat) (ae : List (S64)) (aa : List (S61)) (af : List (S66)) : Option ((List (S64)) × (List (S61)) × (List (S66))) := (tune_Own.f k ae aa af).bind fun ab => (if 0 ≤ (aa.length : Int) then (if ((aa.length : Int) : Int).toNat ≤ 35184372088832 then (tune_moved.l0 st tto k (List.replicate ((aa.length : Int) : Int).toNat 0) aa (aa.length : Int) 0 ab.1 ([] : List (S61)) ab.2.2) else (none)) else (none))
theorem tune_moved.mono_x (tto : Int → Option Int) : ∀ k, (∀ y0 y1 y2 y3 y4 y5, LeO (tune_moved.l1 tto k y0 y1 y2 y3 y4 y5) (tune_moved.l1 tto (k + 1) y0 y1 y2 y3 y4 y5)) ∧ (∀ y0 y1 y2 y3 y4 y5 y6 y7, LeO (tune_moved.l2 tto k y0 y1 y2 y3 y4 y5 y6 y7) (tune_moved.l2 tto (k + 1) y0 y1 y2 y3 y4 y5 y6 y7))
 | 0 => ⟨fun _ _ _ _ _ _ r h => by simp [tune_moved.l1] at h, fun _ _ _ _ _ _ _ _ r h => by simp [tune_moved.l2] at h⟩
 | k + 1 => by
  obtain ⟨ih1, ih2⟩ := tune_moved.mono_x tto k;refine ⟨?_, ?_⟩
  ·intro y0 y1 y2 y3 y4 y5
   unfold tune_moved.l1
   repeat' first
   | (with_reducible exact ih1 _ _ _ _ _ _)
   | (with_reducible exact ih2 _ _ _ _ _ _ _ _)
   | (with_reducible exact LeO.refl _)
   | (with_reducible exact LeO.none _)
   | (with_reducible refine LeO.ite ?_ ?_)
   | (with_reducible refine LeO.bind ?_ (fun _ => ?_))
   | exact ih1 _ _ _ _ _ _
   | exact ih2 _ _ _ _ _ _ _ _
   | exact LeO.none _
   | refine LeO.ite ?_ ?_
   | refine LeO.bind ?_ (fun _ => ?_)
  ·intro y0 y1 y2 y3 y4 y5 y6 y7
   unfold tune_moved.l2
   repeat' first
   | (with_reducible exact ih1 _ _ _ _ _ _)
   | (with_reducible exact ih2 _ _ _ _ _ _ _ _)
   | (with_reducible exact LeO.refl _)
   | (with_reducible exact LeO.none _)
   | (with_reducible refine LeO.ite ?_ ?_)
   | (with_reducible refine LeO.bind ?_ (fun _ => ?_))
   | exact ih1 _ _ _ _ _ _
   | exact ih2 _ _ _ _ _ _ _ _
   | exact LeO.none _
   | refine LeO.ite ?_ ?_
   | refine LeO.bind ?_ (fun _ => ?_)
theorem tune_moved.mono_l (st : Int → Int → Int → Int → Int → Option Bool) (tto : Int → Option Int) : ∀ k, (∀ y0 y1 y2 y3 y4 y5 y6, LeO (tune_moved.l0 st tto k y0 y1 y2 y3 y4 y5 y6) (tune_moved.l0 st tto (k + 1) y0 y1 y2 y3 y4 y5 y6)) ∧ (∀ y0 y1 y2 y3 y4 y5 y6 y7 y8 y9 y10 y11 y12, LeO (tune_moved.j1 st tto k y0 y1 y2 y3 y4 y5 y6 y7 y8 y9 y10 y11 y12) (tune_moved.j1 st tto (k + 1) y0 y1 y2 y3 y4 y5 y6 y7 y8 y9 y10 y11 y12))
 | 0 => ⟨fun _ _ _ _ _ _ _ r h => by simp [tune_moved.l0] at h, fun _ _ _ _ _ _ _ _ _ _ _ _ _ r h => by simp [tune_moved.j1] at h⟩
 | k + 1 => by
  obtain ⟨ih0, ih1⟩ := tune_moved.mono_l st tto k;obtain ⟨ih2, _⟩ := tune_moved.mono_x tto k;refine ⟨?_, ?_⟩
  ·intro y0 y1 y2 y3 y4 y5 y6
   unfold tune_moved.l0
   repeat' first
   | (with_reducible exact ih0 _ _ _ _ _ _ _)
   | (with_reducible exact ih1 _ _ _ _ _ _ _ _ _ _ _ _ _)
   | (with_reducible exact ih2 _ _ _ _ _ _)
   | (with_reducible exact LeO.refl _)
   | (with_reducible exact LeO.none _)
   | (with_reducible refine LeO.ite ?_ ?_)
   | (with_reducible refine LeO.bind ?_ (fun _ => ?_))
   | exact ih0 _ _ _ _ _ _ _
   | exact ih1 _ _ _ _ _ _ _ _ _ _ _ _ _
   | exact ih2 _ _ _ _ _ _
   | exact LeO.none _
   | refine LeO.ite ?_ ?_
   | refine LeO.bind ?_ (fun _ => ?_)
  ·intro y0 y1 y2 y3 y4 y5 y6 y7 y8 y9 y10 y11 y12
   unfold tune_moved.j1
   repeat' first
   | (with_reducible exact ih0 _ _ _ _ _ _ _)
   | (with_reducible exact ih1 _ _ _ _ _ _ _ _ _ _ _ _ _)
   | (with_reducible exact ih2 _ _ _ _ _ _)
   | (with_reducible exact LeO.refl _)
   | (with_reducible exact LeO.none _)
   | (with_reducible refine LeO.ite ?_ ?_)
   | (with_reducible refine LeO.bind ?_ (fun _ => ?_))
   | exact ih0 _ _ _ _ _ _ _
   | exact ih1 _ _ _ _ _ _ _ _ _ _ _ _ _
   | exact ih2 _ _ _ _ _ _
   | exact LeO.none _
   | refine LeO.ite ?_ ?_
   | refine LeO.bind ?_ (fun _ => ?_)
theorem tune_moved.mono (st : Int → Int → Int → Int → Int → Option Bool) (tto : Int → Option Int) : ∀ a0 a1 a2 k, LeO (tune_moved.f st tto k a0 a1 a2) (tune_moved.f st tto (k + 1) a0 a1 a2) := by
 intro a0 a1 a2 k;obtain ⟨ih0, ih1⟩ := tune_moved.mono_l st tto k;unfold tune_moved.f
 repeat' first
   | (with_reducible exact ih0 _ _ _ _ _ _ _)
   | (with_reducible exact ih1 _ _ _ _ _ _ _ _ _ _ _ _ _)
   | (with_reducible exact tune_Own.mono _ _ _ _)
   | (with_reducible exact LeO.refl _)
   | (with_reducible exact LeO.none _)
   | (with_reducible refine LeO.ite ?_ ?_)
   | (with_reducible refine LeO.bind ?_ (fun _ => ?_))
   | exact ih0 _ _ _ _ _ _ _
   | exact ih1 _ _ _ _ _ _ _ _ _ _ _ _ _
   | exact tune_Own.mono _ _ _ _
   | exact LeO.none _
   | refine LeO.ite ?_ ?_
   | refine LeO.bind ?_ (fun _ => ?_)
def tune_moved.T21 : Bool × List (List Nat × List Nat) := (true, [([], []), ([0], [0]), ([], []), ([], []), ([], []), ([], []), ([4, 5], [4, 5]), ([3, 6], [3, 6]), ([7], [7]), ([1, 2, 0, 1, 2, 3, 4, 5, 6, 7, 8], [1, 2]), ([9, 8, 6, 0, 1, 2, 3, 4, 5, 6, 7, 8], [8, 9])])
def tune_moved.B21 : List Nat := [0, 1, 0, 0, 0, 0, 48, 120, 248, 511, 1023]
theorem tune_moved.tab21 : rtab .any (opsOf Try.f45 21) = tune_moved.T21 := by kernel_rfl
theorem tune_moved.bits21 : waitsOk tune_moved.T21.2 tune_moved.B21 = true := by kernel_rfl
theorem tune_moved.calls (st : Int → Int → Int → Int → Int → Option Bool) (tto : Int → Option Int) (fs ft : FuncId) (LS LT : Array Value) (k : Nat) (bm : Option Addr) (bn : Nat) (bb : List (S64)) (bE : Option Addr) (bo : Nat) (ag : List (S61)) (bp : Option Addr) (bq : Nat) (bc : List (S66)) (r1 : List (S64)) (r2 : List (S61)) (r3 : List (S66)) (w : World) (cJ : Kd.C k64 w bm bb.length bb) (cK : bb.length ≤ bn) (cL : Kd.C k61 w bE ag.length ag) (cM : ag.length ≤ bo) (cN : Kd.C k66 w bp bc.length bc) (cO : bc.length ≤ bq) (hES : ∀ args w, (callFunc fs args).run Try.prog w = .ok (.enter fs args) w) (hET : ∀ args w, (callFunc ft args).run Try.prog w = .ok (.enter ft args) w)
  (hST : ∀ (a b c d e : Int) (r : Bool) (W : World), Below w.heap.size w W → st a b c d e = some r → Calls Try.prog fs (#[.int .i64 a, .agg #[.int .i64 b, .int .i64 c, .int .i64 d, .int .u64 e]] ++ LS) W fun e_ w' => e_ = .returned (.bool r) ∧ Below W.heap.size W w')
  (hTO : ∀ (a r : Int) (W : World), Below w.heap.size w W → tto a = some r → Calls Try.prog ft (#[.int .i64 a] ++ LT) W fun e_ w' => e_ = .returned (.int .i64 r) ∧ Below W.heap.size W w')
  (h : tune_moved.f st tto k bb ag bc = some (r1, r2, r3)) :
  Calls Try.prog 45 #[.agg #[.slice bm bb.length bn, .slice bE ag.length bo, .slice bp bc.length bq], .func (.func fs) #[] LS, .func (.func ft) #[] LT] w fun e w' => ∃ v0_ v1_ v2_ : Value, e = .returned (.agg #[v0_, v1_, v2_]) ∧ Kd.R k64 64 w' w.heap.size (fun _ => True) v0_ r1 ∧ Kd.R k61 61 w' w.heap.size (fun _ => True) v1_ r2 ∧ Kd.S k66t 66 w' w.heap.size (fun _ => True) v2_ r3 ∧ Below w.heap.size w w' := by
 have HES := Aside0.mk hES;have HET := Aside0.mk hET;have HST := Aside0.mk hST;have HTO := Aside0.mk hTO;clear hES hET hST hTO;have hu26 := Try.underlying26;have hu61 := Try.underlying61;have hu66 := Try.underlying66;have du := Aside0.mk cJ;have dv := Aside0.mk cK;clear cJ cK;have cn := Aside0.mk cL;have dw := Aside0.mk cM;clear cL cM;have dx := Aside0.mk cN;have dy := Aside0.mk cO;clear cN cO;have HB := Aside0.mk (Below.refl w.heap.size w);have H : ((tune_Own.f k bb ag bc).bind fun cP => (if 0 ≤ (ag.length : Int) then (if ((ag.length : Int) : Int).toNat ≤ 35184372088832 then (tune_moved.l0 st tto k (List.replicate ((ag.length : Int) : Int).toNat 0) ag (ag.length : Int) 0 cP.1 ([] : List (S61)) cP.2.2) else (none)) else (none))) = some (r1, r2, r3) := h;clear h;replace H := Option.bind_eq_some_iff.mp H;obtain ⟨⟨aw, em, av⟩, A20, H⟩ := H;(try dsimp only at H);have A2 := Aside0.mk A20;clear A20
 by_cases c3 : 0 ≤ (ag.length : Int)
 rotate_left
 ·rw [if_neg c3] at H
  exact absurd H (by simp)
 rw [if_pos c3] at H;have ep := eq_true c3;have eq := decide_eq_true c3;clear c3
 by_cases c4 : ((ag.length : Int) : Int).toNat ≤ 35184372088832
 rotate_left
 ·rw [if_neg c4] at H
  exact absurd H (by simp)
 rw [if_pos c4] at H;have es := eq_true c4;have eu := decide_eq_true c4;clear c4;obtain ⟨dz, bJ⟩ : ∃ y_ : List Int, y_ = (List.replicate ((ag.length : Int) : Int).toNat 0) := ⟨_, rfl⟩
 replace H : (tune_moved.l0 st tto k dz ag (ag.length : Int) 0 aw ([] : List (S61)) av) = some (r1, r2, r3) := by first | (rw [bJ]; with_reducible exact H) | (have H2_ := (Option.bind_some _ _).symm.trans H; rw [bJ]; with_reducible exact H2_) | (have H2_ := (Option.bind_some _ _).symm.trans H; with_reducible exact H2_) | with_reducible exact H | (rw [bJ]; exact H) | exact H
 have cQ := Aside0.mk bJ;clear bJ;have H' := Aside0.mk H;clear H;go_enter Try.func45, Try.ntmps45;go_wp2_with (first | ((with_reducible refine gate_dst (N := 3) rfl ?_); refine box_event ?hg (N := 3) ?hd (cs := #[.slice bm bb.length bn, .slice bE ag.length bo, .slice bp bc.length bq]) (t := 26) ?hr ?_; (case hd => rfl); (case hg => rfl); (case hr => first | (go_simp; done) | (go_simp; rfl)); intro bk hg w5 hbox hb; have aj := am hbox; have fC := kG HB hg; have fD := kG HB hg; replace HB := kH HB hb; clear hb hbox hg) | ((with_reducible refine gate_dst (N := 6) rfl ?_); refine box_event ?hg (N := 6) ?hd (cs := #[.slice none 0 0, .slice none 0 0, .slice none 0 0]) (t := 26) ?hr ?_; (case hd => rfl); (case hg => rfl); (case hr => first | (go_simp; done) | (go_simp; rfl)); intro aK hg w6 hbox hb; have ak := am hbox; have fE := kG HB hg; have fF := kG HB hg; replace HB := kH HB hb; have bv := kP aj hg; have bw := kQ aj hg; replace aj := kU aj hb; clear hb hbox hg; have gT := bv.out; have gU := bw.out; have Z8 := kz3 aj) | ((with_reducible refine gate_callee (f := 38) rfl ?_); refine goesL_ (some 16) rfl rfl Try.func38 (by kernel_rfl) rfl #[.agg #[.slice bm bb.length bn, .slice bE ag.length bo, .slice bp bc.length bq]] rfl (by (try simp only [qM1, qM2, qM3]); first | done | rfl) ?_; (with_reducible refine (tune_Own.callsT k _ _ bb _ _ ag _ _ bc aw em av _ ?side1 ?side2 ?side3 ?side4 ?side5 ?side6 A2.out).mono ?_); (case side1 => repeat (first | exact (Kd.C_below du.out HB.out) | (with_reducible first | refine Kd.C_alloc ?_ _ | refine Kd.C_drewN ?_ _ | refine Kd.C_drew ?_))); (case side2 => exact dv.out); (case side3 => repeat (first | exact (Kd.C_below cn.out HB.out) | (with_reducible first | refine Kd.C_alloc ?_ _ | refine Kd.C_drewN ?_ _ | refine Kd.C_drew ?_))); (case side4 => exact dw.out); (case side5 => repeat (first | exact (Kd.C_below dx.out HB.out) | (with_reducible first | refine Kd.C_alloc ?_ _ | refine Kd.C_drewN ?_ _ | refine Kd.C_drew ?_))); (case side6 => exact dy.out); rintro e w9 ⟨gV, gW, gX, rfl, ho0, ho1, ho2, hb⟩; refine ⟨_, rfl, ?_⟩; have bx := kLR ho0 HB; have bK := kLR ho1 HB; have bz := kLS ho2 HB; replace aj := kU aj hb; replace ak := kU ak hb; replace HB := kH HB hb; (try clear hb); (try clear hb2); (try clear hk); (try clear hi); (try clear ho0); (try clear ho1); (try clear ho2)) | ((with_reducible refine gate_dst (N := 7) rfl ?_); refine box_event ?hg (N := 7) ?hd (cs := #[.slice none 0 0, .slice none 0 0, .slice none 0 0]) (t := 26) ?hr ?_; (case hd => rfl); (case hg => rfl); (case hr => first | (go_simp; done) | (go_simp; rfl)); intro aC hg w10 hbox hb; replace bx := kR bx hb; replace bK := kR bK hb; replace bz := kS bz hb; have ai := am hbox; have fG := kG HB hg; have fH := kG HB hg; replace HB := kH HB hb; have aM := kP aj hg; have aN := kQ aj hg; replace aj := kU aj hb; have aQ := kP ak hg; have aR := kQ ak hg; replace ak := kU ak hb; clear hb hbox hg; obtain ⟨aX, aY, ev⟩ := Kd.R_slice bx.out; subst ev; have fI := aN.out; have fJ := aM.out; have fK := aR.out; have fL := aQ.out; have Z14 := kz3 ai; obtain ⟨gY, gZ, ew⟩ := Kd.R_slice bK.out; subst ew; obtain ⟨bj, aZ, ex⟩ := Kd.S_slice bz.out; subst ex; have Z17 := kz3 aj) | ((with_reducible refine gate_dst (N := 21) rfl ?_); refine Kd.R_make (Kd.int .i64) _ 3 rfl (N := 21) rfl 27 _ _ rfl (ag.length : Int) rfl rfl Try.underlying27 (.int .i64 0) 8 info3 rfl (by decide) (by omega) 0 (ok := fun _ => True) (okp := fun _ => True) rfl (fun _ hk => hk) trivial od (Nat.le_trans (Nat.mul_le_mul_right _ (od : (ag.length : Int).toNat ≤ 35184372088832)) (by omega)) (Below.refl _ _) (Nat.le_refl _) ?_; intro bL w18 ho19 hb hg_ hnew_; clear hg_ hnew_; (first | rw [← cQ.out] at ho19 | (simp only [Int.reduceToNat] at ho19; rw [← cQ.out] at ho19)); replace bx := Aside0.mk (Kd.R_below (kt bx ai) hb); replace bK := Aside0.mk (Kd.R_below (kt bK ai) hb); replace bz := Aside0.mk (Kd.S_elder' (ks bz ai) (Kd.R_base ho19) hb); have dA := kLR ho19 HB; replace aj := kU aj hb; replace ak := kU ak hb; replace ai := kO (o' := .cells #[.slice aX aw.length aY, .slice none 0 0, .slice bj av.length aZ] 26 (0, 0)) ai hb; replace HB := kH HB hb; clear hb ho19; have Z20 := kz3 aj));go_loopg [25] k (fun kq v25 w' => ∃ (an : List Int) (ab : Int) (ah : List (S61)) (au : Value), v25 = .int .i64 ab ∧ Aside0 (tune_moved.l0 st tto kq an ag (ag.length : Int) ab aw ah av = some (r1, r2, r3)) ∧ Aside0 (kq ≤ k) ∧ Aside0 (Kd.R (Kd.int .i64) 3 w' w.heap.size (fun _ => True) bL an) ∧ Aside0 (Kd.R k64 64 w' w.heap.size (fun _ => True) (.slice aX aw.length aY) aw) ∧ Aside0 (Kd.R k61 61 w' w.heap.size (fun _ => True) au ah) ∧ Aside0 (Kd.S k66t 66 w' w.heap.size (fun k_ => some k_ ≠ (bL : Value).ownBlock) (.slice bj av.length aZ) av) ∧ Aside0 (w'.heap[bk]? = some (.cells #[(.slice bm bb.length bn), (.slice bE ag.length bo), (.slice bp bc.length bq)] 26 (0, 0))) ∧ Aside0 (w'.heap[aK]? = some (.cells #[(.slice none 0 0), (.slice none 0 0), (.slice none 0 0)] 26 (0, 0))) ∧ Aside0 (w'.heap[aC]? = some (.cells #[(.slice aX aw.length aY), au, (.slice bj av.length aZ)] 26 (0, 0))) ∧ Aside0 (Below w.heap.size w w'))
 case atStart => exact ⟨(dz), (0), (([] : List (S61))), (.slice none 0 0), et, H', ⟨Nat.le_refl _⟩, ⟨krR dA⟩, ⟨krR bx⟩, ⟨by first | exact Kd.R_nil _ _ _ _ _ | exact Kd.N_nil _ _ _ _ _ | exact Kd.V_nil _ _ _ _ _ | exact Kd.Q_nil _ _ _ _ _ | exact Kd.S_nil _ _ _ _ _⟩, ⟨by (with_reducible repeat first | apply Kd.S_alloc | apply Kd.S_drewN | apply Kd.S_drew); exact Kd.S_mono bz.out (fun _ hk => hk.2)⟩, ⟨kg aj⟩, ⟨kg ak⟩, ⟨kg ai⟩, ⟨kh HB⟩⟩
 case round =>
  clear H';(try clear ep eq es eu Z14 Z17 Z20 Z8);obtain ⟨an, ab, ah, au, rfl, HA, HK1, ap, af, aa, ae, aj, ak, ai, HB⟩ := hrel
  cases gk with
  | zero => exact absurd HA.out (by simp [tune_moved.l0])
  | succ k1 =>
   have H := HA.out;clear HA;simp only [tune_moved.l0] at H
   by_cases c21 : ab < (ag.length : Int)
   rotate_left
   ·rw [if_neg c21] at H
    have co := decide_eq_false c21;clear c21;have H' := Aside0.mk H;clear H;have ey := aN.out;have ez := aM.out;have eA := aR.out;have eB := aQ.out;have eC := kz3 ai;go_wp2;go_loopg [78] k1 (fun kq v78 w' => ∃ (ar : Int) (cur : List (S66)), v78 = .int .i64 ar ∧ Aside0 (tune_moved.l1 tto kq an (av.length : Int) ar aw ah cur = some (r1, r2, r3)) ∧ Aside0 (cur.length = av.length) ∧ Aside0 (kq ≤ k1) ∧ Aside0 (Kd.R (Kd.int .i64) 3 w' w.heap.size (fun _ => True) bL an) ∧ Aside0 (Kd.R k64 64 w' w.heap.size (fun _ => True) (.slice aX aw.length aY) aw) ∧ Aside0 (Kd.R k61 61 w' w.heap.size (fun _ => True) au ah) ∧ Aside0 (Kd.S k66t 66 w' w.heap.size (fun k_ => some k_ ≠ (bL : Value).ownBlock) (.slice bj av.length aZ) cur) ∧ Aside0 (w'.heap[bk]? = some (.cells #[.slice bm bb.length bn, .slice bE ag.length bo, .slice bp bc.length bq] 26 (0, 0))) ∧ Aside0 (w'.heap[aK]? = some (.cells #[.slice none 0 0, .slice none 0 0, .slice none 0 0] 26 (0, 0))) ∧ Aside0 (w'.heap[aC]? = some (.cells #[.slice aX aw.length aY, au, .slice bj av.length aZ] 26 (0, 0))) ∧ Aside0 (Below w.heap.size w w'))
    case atStart => exact ⟨(0), av, rfl, H', ⟨rfl⟩, ⟨Nat.le_refl _⟩, ap, af, aa, ae, aj, ak, ai, HB⟩
    case round =>
     clear H';(try clear co c22 eC);obtain ⟨ar, cur, rfl, HA, HCL, HK2, ap, af, aa, ae, aj, ak, ai, HB⟩ := hrel
     cases gk with
     | zero => exact absurd HA.out (by simp [tune_moved.l1])
     | succ k2 =>
      have H := HA.out;clear HA;simp only [tune_moved.l1] at H
      by_cases bM : ar < (av.length : Int)
      rotate_left
      ·rw [if_neg bM] at H
       have cp := decide_eq_false bM;clear bM;simp only [Option.some.injEq, Prod.mk.injEq] at H;obtain ⟨rfl, rfl, rfl⟩ := H;have eD := aN.out;have eE := aM.out;have eF := aR.out;have eG := aQ.out;have ha := kz3 ai;have eH := bw.out;have eI := bv.out;have hv := kz3 ak;obtain ⟨cj, ck, dB⟩ := Kd.R_slice aa.out;subst dB;go_wp2;refine bodyPost_ret (results_cell_row rfl _ _ aK 26 #[.slice aX aw.length aY, .slice cj ah.length ck, .slice bj av.length aZ] (0, 0) _ rfl (kg ak) Try.underlying26 rfl (by kernel_rfl)) rfl ?_;exact ⟨_, _, _, er, by (with_reducible repeat first | apply Kd.R_alloc | apply Kd.R_drewN | apply Kd.R_drew); exact Kd.R_mono (Kd.R_far (p := ⟨aK, 2, none⟩) (Kd.R_far (p := ⟨aK, 1, none⟩) (Kd.R_far (p := ⟨aK, 0, none⟩) (Kd.R_types af.out ak.out (by decide)) (fun _ hk => hk.2) (.slice aX aw.length aY)) (fun _ hk => hk.2) (.slice cj ah.length ck)) (fun _ hk => hk.2) (.slice bj av.length aZ)) (fun _ hk => trivial), by (with_reducible repeat first | apply Kd.R_alloc | apply Kd.R_drewN | apply Kd.R_drew); exact Kd.R_mono (Kd.R_far (p := ⟨aK, 2, none⟩) (Kd.R_far (p := ⟨aK, 1, none⟩) (Kd.R_far (p := ⟨aK, 0, none⟩) (Kd.R_types aa.out ak.out (by decide)) (fun _ hk => hk.2) (.slice aX aw.length aY)) (fun _ hk => hk.2) (.slice cj ah.length ck)) (fun _ hk => hk.2) (.slice bj av.length aZ)) (fun _ hk => trivial), by (with_reducible repeat first | apply Kd.S_alloc | apply Kd.S_drewN | apply Kd.S_drew); exact Kd.S_mono (Kd.S_far (p := ⟨aK, 2, none⟩) (Kd.S_far (p := ⟨aK, 1, none⟩) (Kd.S_far (p := ⟨aK, 0, none⟩) (Kd.S_types ae.out ak.out (by decide)) (fun _ hk => hk.2) (.slice aX aw.length aY)) (fun _ hk => hk.2) (.slice cj ah.length ck)) (fun _ hk => hk.2) (.slice bj av.length aZ)) (fun _ hk => trivial), kh HB⟩
      rw [if_pos bM] at H;have cp := decide_eq_true bM
      by_cases cq : 0 ≤ ar
      rotate_left
      ·rw [if_neg cq] at H
       exact absurd H (by simp)
      rw [if_pos cq] at H;have cZ := decide_eq_true cq
      have da : ar < (cur.length : Int) := by rw [HCL.out]; exact bM
      rw [if_pos da] at H;have HP := Aside0.mk cq;have HQ := Aside0.mk bM;have HQ2 := Aside0.mk da;clear bM cq da;have H' := Aside0.mk H;clear H;obtain ⟨bi, bd, be, bl, bf, eJ, bt, bh, cA, hi312_0, cB, hi312_1⟩ := at_T66 (k66t_C (Kd.S_reads' ae.out).2.2) ar HP.out HQ2.out;cases eJ;clear cA hi312_0 cB hi312_1;have eK := eq_true HP.out;have eL := eq_true HQ.out;have HXC := Aside0.mk bh;have HLT_ := Aside0.mk (World.block_lt_of_cell? wr _ bh);go_wp2_with (first | ((with_reducible refine gate_dst (N := 12) rfl ?_); refine box_event ?hg (N := 12) ?hd (cs := #[.slice none 0 0, .slice none 0 0]) (t := 66) ?hr ?_; (case hd => rfl); (case hg => rfl); (case hr => first | (go_simp; done) | (go_simp; rfl)); intro ay hg dC hbox hb; have n0_ := Aside0.mk (Kd.R_below ap.out hb); have n2_ := Aside0.mk (Kd.R_below af.out hb); have n3_ := Aside0.mk (Kd.R_below aa.out hb); have n4_ := Aside0.mk (Kd.S_below (Kd.S_elderB ae.out ay (Nat.le_of_eq hg.symm)) hb); have n7_ := Aside0.mk (blk_below (g := bk) (o := .cells #[.slice bm bb.length bn, .slice bE ag.length bo, .slice bp bc.length bq] 26 (0, 0)) aj.out hb); have n8_ := Aside0.mk (blk_below (g := aK) (o := .cells #[.slice none 0 0, .slice none 0 0, .slice none 0 0] 26 (0, 0)) ak.out hb); have n9_ := Aside0.mk (blk_below (g := aC) (o := .cells #[.slice aX aw.length aY, au, .slice (some bi) av.length aZ] 26 (0, 0)) ai.out hb); have n10_ := Aside0.mk ((hb.cell (World.block_lt_of_cell? _ _ HXC.out)).trans HXC.out); have n11_ := Aside0.mk (below_step HB.out hb); have n12_ := Aside0.mk (show (⟨(bi.add (ar.toNat * 2)).block, (bi.add (ar.toNat * 2)).off + 1, none⟩ : Addr).block ≠ ay from by rw [hg]; exact Nat.ne_of_lt HLT_.out); have g0_ := Aside0.mk ((by rw [hg]; exact below_size HB.out) : w.heap.size ≤ ay); have g1_ := Aside0.mk ((by rw [hg]; exact Nat.ne_of_lt (blk_lt aj.out)) : bk ≠ ay); have g2_ := Aside0.mk ((by rw [hg]; exact Nat.ne_of_lt (blk_lt ak.out)) : aK ≠ ay); have g3_ := Aside0.mk ((by rw [hg]; exact Nat.ne_of_lt (blk_lt ai.out)) : aC ≠ ay); have b0_ := Aside0.mk hbox; replace bt := (hb.cell (World.block_lt_of_cell? _ _ bt)).trans bt; replace bh := (hb.cell (World.block_lt_of_cell? _ _ bh)).trans bh; clear ap af aa ae aj ak ai HXC HB; have ap := n0_; have af := n2_; have aa := n3_; have ae := n4_; have aj := n7_; have ak := n8_; have ai := n9_; have HXC := n10_; have HB := n11_; have HXN := n12_; have dD := g0_; have bA := g1_; have bB := g2_; have bC := g3_; have az := b0_; clear n0_ n2_ n3_ n4_ n7_ n8_ n9_ n10_ n11_ n12_ g0_ g1_ g2_ g3_ b0_ hg hbox hb; have dp : dC.cell? ⟨ay, 0, none⟩ = some (.slice none 0 0) := kk az 0; have dq := blk_frozen az.out 0; have dr : dC.cell? ⟨ay, 1, none⟩ = some (.slice none 0 0) := kk az 1; have dt := blk_frozen az.out 1));go_loopg [85] k2 (fun kq v85 w' => ∃ (ax : Int) (cur2 : List (S66)), v85 = .int .i64 ax ∧ Aside0 (tune_moved.l2 tto kq an (av.length : Int) ar (((rd_T66 cur ar).f1).length : Int) ax aw ah cur2 = some (r1, r2, r3)) ∧ Aside0 (cur2.length = av.length) ∧ Aside0 (((rd_T66 cur2 ar).f1).length = ((rd_T66 cur ar).f1).length) ∧ Aside0 (kq ≤ k2) ∧ Aside0 (Kd.R (Kd.int .i64) 3 w' w.heap.size (fun _ => True) bL an) ∧ Aside0 (Kd.R k64 64 w' w.heap.size (fun _ => True) (.slice aX aw.length aY) aw) ∧ Aside0 (Kd.R k61 61 w' w.heap.size (fun _ => True) au ah) ∧ Aside0 (Kd.S k66t 66 w' w.heap.size (fun k_ => some k_ ≠ (bL : Value).ownBlock ∧ k_ ≠ ay) (.slice (some bi) av.length aZ) cur2) ∧ Aside0 (w'.heap[bk]? = some (.cells #[.slice bm bb.length bn, .slice bE ag.length bo, .slice bp bc.length bq] 26 (0, 0))) ∧ Aside0 (w'.heap[aK]? = some (.cells #[.slice none 0 0, .slice none 0 0, .slice none 0 0] 26 (0, 0))) ∧ Aside0 (w'.heap[aC]? = some (.cells #[.slice aX aw.length aY, au, .slice (some bi) av.length aZ] 26 (0, 0))) ∧ Aside0 (w'.heap[ay]? = some (.cells #[(.slice bd ((rd_T66 cur ar).f0).length be), (.slice bl ((rd_T66 cur ar).f1).length bf)] 66 (0, 0))) ∧ Aside0 (w'.cell? ⟨(bi.add (ar.toNat * 2)).block, (bi.add (ar.toNat * 2)).off + 1, none⟩ = some (.slice bl ((rd_T66 cur ar).f1).length bf)) ∧ Aside0 (Below w.heap.size w w'))
      case atStart => exact ⟨(0), cur, rfl, H', HCL, ⟨rfl⟩, ⟨Nat.le_refl _⟩, ⟨Kd.R_mono (Kd.R_far (p := ⟨ay, 1, none⟩) (Kd.R_far (p := ⟨ay, 0, none⟩) (Kd.R_types ap.out az.out (by decide)) (fun _ hk => hk.2) (.slice bd ((rd_T66 cur ar).f0).length be)) (fun _ hk => hk.2) (.slice bl ((rd_T66 cur ar).f1).length bf)) (fun _ hk => trivial)⟩, ⟨Kd.R_mono (Kd.R_far (p := ⟨ay, 1, none⟩) (Kd.R_far (p := ⟨ay, 0, none⟩) (Kd.R_types af.out az.out (by decide)) (fun _ hk => hk.2) (.slice bd ((rd_T66 cur ar).f0).length be)) (fun _ hk => hk.2) (.slice bl ((rd_T66 cur ar).f1).length bf)) (fun _ hk => trivial)⟩, ⟨Kd.R_mono (Kd.R_far (p := ⟨ay, 1, none⟩) (Kd.R_far (p := ⟨ay, 0, none⟩) (Kd.R_types aa.out az.out (by decide)) (fun _ hk => hk.2) (.slice bd ((rd_T66 cur ar).f0).length be)) (fun _ hk => hk.2) (.slice bl ((rd_T66 cur ar).f1).length bf)) (fun _ hk => trivial)⟩, ⟨Kd.S_mono (Kd.S_far (p := ⟨ay, 1, none⟩) (Kd.S_far (p := ⟨ay, 0, none⟩) (Kd.S_mono ae.out (fun k_ hk => (⟨hk, hk.2⟩ : _ ∧ k_ ≠ ay))) (fun _ hk => hk.2) (.slice bd ((rd_T66 cur ar).f0).length be)) (fun _ hk => hk.2) (.slice bl ((rd_T66 cur ar).f1).length bf)) (fun _ hk => hk.1)⟩, ⟨blk_far (blk_far aj.out bA.out _) bA.out _⟩, ⟨blk_far (blk_far ak.out bB.out _) bB.out _⟩, ⟨blk_far (blk_far ai.out bC.out _) bC.out _⟩, ⟨blk_put (cs := #[.slice bd ((rd_T66 cur ar).f0).length be, .slice none 0 0]) (blk_put (cs := #[.slice none 0 0, .slice none 0 0]) az.out 0 _ rfl) 1 _ rfl⟩, ⟨cell_far2 HXC.out HXN.out⟩, ⟨by repeat (first | (with_reducible first | exact HB.out | refine below_set ?_ dD.out) | exact HB.out)⟩⟩
      case round =>
       clear H';(try clear cp cZ bt bh eK eL);obtain ⟨ax, cur2, rfl, HA, HCL2, HGL, HK3, ap, af, aa, ae, aj, ak, ai, az, HXC, HB⟩ := hrel
       cases gk with
       | zero => exact absurd HA.out (by simp [tune_moved.l2])
       | succ k3 =>
        have H := HA.out;clear HA;simp only [tune_moved.l2] at H
        by_cases bN : ax < (((rd_T66 cur ar).f1).length : Int)
        rotate_left
        ·rw [if_neg bN] at H
         have db := decide_eq_false bN;clear bN;have H' := Aside0.mk H;clear H;go_wp2;go_roundg k3
         case measure => have := HK1.out; have := HK2.out; have := HK3.out; omega
         case rel => exact ⟨(wrap64 (ar + 1)), cur2, et, H', HCL2, ⟨by have := HK1.out; have := HK2.out; have := HK3.out; omega⟩, ap, af, aa, ⟨Kd.S_mono ae.out (fun _ hk => hk.1)⟩, aj, ak, ai, HB⟩
        rw [if_pos bN] at H;have db := decide_eq_true bN
        by_cases cr : 0 ≤ ax
        rotate_left
        ·rw [if_neg cr] at H
         exact absurd H (by simp)
        rw [if_pos cr] at H
        have dc : ax < (((rd_T66 cur2 ar).f1).length : Int) := by rw [HGL.out]; exact bN
        rw [if_pos dc] at H;have HP3 := Aside0.mk cr;have HQ3 := Aside0.mk dc;have hE := eq_true cr;have hF := eq_true bN;clear bN cr dc;replace H := Option.bind_eq_some_iff.mp H;obtain ⟨bg, cR, H⟩ := H;(try dsimp only at H);have eM := Aside0.mk cR;clear cR
        by_cases ct : 0 ≤ bg
        rotate_left
        ·rw [if_neg ct] at H
         exact absurd H (by simp)
        rw [if_pos ct] at H
        by_cases cu : bg < (an.length : Int)
        rotate_left
        ·rw [if_neg cu] at H
         exact absurd H (by simp)
        rw [if_pos cu] at H;have HP5 := Aside0.mk ct;have HQ5 := Aside0.mk cu;have hG := eq_true ct;have hH := eq_true cu;clear ct cu;have H' := Aside0.mk H;clear H;obtain ⟨br, eN, hn314, hx314, hf314, hb314, hlt314, hok314, hce314, hpt314⟩ := exits_put ae.out ar HP.out HQ.out HXC.out ax HP3.out HQ3.out;cases eN;clear hn314 hf314 hb314 hlt314 hok314 hce314 hpt314;(try go_wp2);clear hx314;have n0_ := Aside0.mk (Kd.R_drew ap.out);have n2_ := Aside0.mk (Kd.R_drew af.out);have n3_ := Aside0.mk (Kd.R_drew aa.out);have n4_ := Aside0.mk (Kd.S_drew ae.out);have n5_ := Aside0.mk (blk_drew aj.out);have n6_ := Aside0.mk (blk_drew ak.out);have n7_ := Aside0.mk (blk_drew ai.out);have n8_ := Aside0.mk (blk_drew az.out);have n10_ : Aside0 (wr.drew.cell? ⟨(bi.add (ar.toNat * 2)).block, (bi.add (ar.toNat * 2)).off + 1, none⟩ = _) := Aside0.mk HXC.out;have n11_ := Aside0.mk (below_drew1 HB.out);clear ap af aa ae aj ak ai az HXC HB; have ap := n0_; have af := n2_; have aa := n3_; have ae := n4_; have aj := n5_; have ak := n6_; have ai := n7_; have az := n8_; have HXC := n10_; have HB := n11_; clear n0_ n2_ n3_ n4_ n5_ n6_ n7_ n8_ n10_ n11_;obtain ⟨fM, fN, cS⟩ := Kd.R_slice ap.out;(first | subst cS | (injection cS with f1_ f2_ f3_; have f4_ := f1_.symm; have f5_ := f3_.symm; clear f1_ f2_ f3_; subst f4_; subst f5_));obtain ⟨dE, eO, bF⟩ := Kd.at_int (Kd.R_reads' ap.out).2.2 bg HP5.out HQ5.out;cases eO;refine start_ (n := 11) (S := fun w' => w'.cell? ⟨ay, 0, none⟩ = some (.slice bd ((rd_T66 cur ar).f0).length be) ∧ w'.cell? ⟨ay, 1, none⟩ = some (.slice (some ⟨br, 0, none⟩) ((rd_T66 cur ar).f1).length bf) ∧ w'.cell? (dE.add (bg).toNat) = some (.int .i64 (rd an bg))) (ds := [10]) (bs 11 0) (by kernel_rfl) rfl rfl ⟨kk az 0, kk az 1, bF⟩ (fun hHeld => ?_); refine with_tabW tune_moved.tab21 tune_moved.bits21 (fun HT_ HW_ => ?_);generalize wr.drew = hJ at ap af aa ae aj ak ai az HXC HB bF hHeld ⊢;refine pu 0 (some 90) (bs 11 1) HT_ ?_;refine pu 2 (some 92) (bs 11 5) HT_ ?_;refine pu 3 (some 93) (bs 11 13) HT_ ?_;refine pu 4 (some 94) (bs 11 29) HT_ ?_;refine pu 5 (some 95) (bs 11 61) HT_ ?_;refine ta 1 (some 91) (bs 11 63) HT_ HW_ hHeld ?_;refine one_ (i := 6) (N := some 96) (bs 11 127) rfl rfl (one_of HT_.out (by kernel_rfl)) (by decide) (fun K hK => ?_);refine api_Slot_78.goesT_ HET.out #[.int .i64 (rd ((rd_T66 cur2 ar).f1) ax)] (by rfl) rfl rfl rfl (by (try simp only [qM1, qM2, qM3]); first | done | rfl) ?_;(with_reducible refine (HTO.out (rd ((rd_T66 cur2 ar).f1) ax) bg _ HB.out eM.out).mono ?_);rintro e cC ⟨rfl, hb⟩;have HS2_ := (hb.cell (World.block_lt_of_cell? _ _ (hHeld.2.2))).trans (hHeld.2.2);refine ⟨_, rfl, ?_⟩;replace ap := Aside0.mk (Kd.R_below ap.out hb); replace af := Aside0.mk (Kd.R_below af.out hb); replace aa := Aside0.mk (Kd.R_below aa.out hb); replace ae := Aside0.mk (Kd.S_below ae.out hb); replace aj := Aside0.mk (blk_below (g := bk) (o := .cells #[.slice bm bb.length bn, .slice bE ag.length bo, .slice bp bc.length bq] 26 (0, 0)) aj.out hb); replace ak := Aside0.mk (blk_below (g := aK) (o := .cells #[.slice none 0 0, .slice none 0 0, .slice none 0 0] 26 (0, 0)) ak.out hb); replace ai := Aside0.mk (blk_below (g := aC) (o := .cells #[.slice aX aw.length aY, au, .slice (some bi) av.length aZ] 26 (0, 0)) ai.out hb); replace az := Aside0.mk (blk_below (g := ay) (o := .cells #[.slice bd ((rd_T66 cur ar).f0).length be, .slice (some ⟨br, 0, none⟩) ((rd_T66 cur ar).f1).length bf] 66 (0, 0)) az.out hb); replace HXC := Aside0.mk ((hb.cell (World.block_lt_of_cell? _ _ HXC.out)).trans HXC.out); replace HB := Aside0.mk (below_step HB.out hb);obtain ⟨fO, fP, cT⟩ := Kd.R_slice ap.out;(first | subst cT | (injection cT with f1_ f2_ f3_; have f4_ := f1_.symm; have f5_ := f3_.symm; clear f1_ f2_ f3_; subst f4_; subst f5_));refine hK.out _ _ ⟨kk az 0, kk az 1, HS2_⟩ (fun hHeld => ?_);clear hK K;refine no (some 96) ?_;refine pu 7 (some 97) (bs 11 255) HT_ ?_;refine ta 8 (some 98) (bs 11 511) HT_ HW_ hHeld ?_;refine pu 9 (some 99) (bs 11 1023) HT_ ?_;obtain ⟨b_, e_, hn_, hx314, hf314, hb314, hlt314, hok314, hce314, hpt314⟩ := exits_put ae.out ar HP.out HQ.out HXC.out ax HP3.out HQ3.out;cases e_;have HPT := Aside0.mk hpt314;have HCE := Aside0.mk hce314;have HOK := Aside0.mk hok314;have HBB := Aside0.mk hb314;clear hpt314 hce314 hok314 hb314 hn_;refine last_ (i := 10) (N := none) (bs 11 2047) rfl rfl (one_of HT_.out (by kernel_rfl)) (by decide) (fun K hK => ?_);refine skip_ (w1 := ?_) (by rfl) rfl ?_ ?_
        rotate_left
        ·go_simp
         rfl
        refine hK.out _ _ ?_;clear hK K hx314 hf314;refine done_ (done_of HT_.out (by kernel_rfl)) ?_;obtain ⟨cb_, hcb_⟩ := HCE.out;have n0_ : Aside0 (Kd.R (Kd.int .i64) 3 (cC.setCell ⟨br, ax.toNat, none⟩ (.int .i64 (rd an bg))) w.heap.size (fun _ => True) _ an) := ⟨Kd.R_mono (Kd.R_far (p := ⟨br, ax.toNat, none⟩) (Kd.R_far1 ap.out rfl (g := br) HOK.out.1) (fun _ hk => hk.2) _) (fun _ hk => hk.1)⟩;have n2_ : Aside0 (Kd.R k64 64 (cC.setCell ⟨br, ax.toNat, none⟩ (.int .i64 (rd an bg))) w.heap.size (fun _ => True) _ aw) := ⟨Kd.R_set af.out hcb_ (by decide) ax.toNat _⟩;have n3_ : Aside0 (Kd.R k61 61 (cC.setCell ⟨br, ax.toNat, none⟩ (.int .i64 (rd an bg))) w.heap.size (fun _ => True) _ ah) := ⟨Kd.R_set aa.out hcb_ (by decide) ax.toNat _⟩;have n4_ := Aside0.mk (HPT.out (rd an bg)).1;have n5_ := Aside0.mk (blk_far (p := ⟨br, ax.toNat, none⟩) aj.out (blk_ne3 hcb_ aj.out (by decide)) (.int .i64 (rd an bg)));have n6_ := Aside0.mk (blk_far (p := ⟨br, ax.toNat, none⟩) ak.out (blk_ne3 hcb_ ak.out (by decide)) (.int .i64 (rd an bg)));have n7_ := Aside0.mk (blk_far (p := ⟨br, ax.toNat, none⟩) ai.out (blk_ne3 hcb_ ai.out (by decide)) (.int .i64 (rd an bg)));have n8_ := Aside0.mk (blk_far (p := ⟨br, ax.toNat, none⟩) az.out (blk_ne3 hcb_ az.out (by decide)) (.int .i64 (rd an bg)));have n10_ := Aside0.mk (HPT.out (rd an bg)).2;have n11_ := Aside0.mk (below_set (j := ax.toNat) (v := .int .i64 (rd an bg)) HB.out HBB.out);clear hcb_ cb_ ap af aa ae aj ak ai az HXC HB HPT HCE HOK HBB hHeld bF HS2_;generalize (cC.setCell ⟨br, ax.toNat, none⟩ (.int .i64 (rd an bg))) = hL at n0_ n2_ n3_ n4_ n5_ n6_ n7_ n8_ n10_ n11_ ⊢;(try go_wp2);go_roundg k3
        case measure => have := HK1.out; have := HK2.out; have := HK3.out; omega
        case rel => exact ⟨(wrap64 (ax + 1)), _, et, H', ⟨by rw [List.length_set]; exact HCL2.out⟩, ⟨by rw [exits_len _ _ _ _ HP.out (by rw [HCL2.out]; exact HQ.out), List.length_set]; exact HGL.out⟩, ⟨by have := HK1.out; have := HK2.out; have := HK3.out; omega⟩, n0_, n2_, n3_, n4_, n5_, n6_, n7_, n8_, n10_, n11_⟩
   rw [if_pos c21] at H;have co := decide_eq_true c21;clear c21
   by_cases c22 : 0 ≤ ab
   rotate_left
   ·rw [if_neg c22] at H
    exact absurd H (by simp)
   rw [if_pos c22] at H;have dF := decide_eq_true c22;clear c22
   by_cases c23 : ab < (ag.length : Int)
   rotate_left
   ·rw [if_neg c23] at H
    exact absurd H (by simp)
   rw [if_pos c23] at H;have dG := decide_eq_true c23;clear c23;replace H := Option.bind_eq_some_iff.mp H;obtain ⟨eP, dH, H⟩ := H;(try dsimp only at H);have A24 := Aside0.mk dH;clear dH
   by_cases c25 : eP = true
   rotate_left
   ·replace c25 := Bool.eq_false_iff.mpr c25
    subst c25;replace H := ifF H;have H' := Aside0.mk H;clear H;have bO : 0 ≤ (ab : Int) := od;have bP : ab < (ag.length : Int) := od;obtain ⟨cl, dd, aT, aU, aV, aW⟩ := at_T61 cn.out ab bO bP;cases dd;replace aT := (HB.out.cell (World.block_lt_of_cell? w _ aT)).trans aT;replace aU := (HB.out.cell (World.block_lt_of_cell? w _ aU)).trans aU;replace aV := (HB.out.cell (World.block_lt_of_cell? w _ aV)).trans aV;replace aW := (HB.out.cell (World.block_lt_of_cell? w _ aW)).trans aW;replace bO := eq_true bO; replace bP := eq_true bP;go_wp2_with (first | ((with_reducible refine gate_dst (N := 10) rfl ?_); refine box_event ?hg (N := 10) ?hd (cs := #[.int .i64 0, .int .i64 0, .int .i64 0, .int .u64 0]) (t := 61) ?hr ?_; (case hd => rfl); (case hg => rfl); (case hr => first | (go_simp; done) | (go_simp; rfl)); intro aq hg hM hbox hb; replace ap := kR ap hb; replace af := kR af hb; replace aa := Aside0.mk (Kd.R_below (Kd.R_elderB (krR aa) aq (Nat.le_of_eq hg.symm)) hb); replace ae := kS ae hb; have ao := am hbox; have dI := kG HB hg; have dJ := kG HB hg; replace HB := kH HB hb; have aD := kP aj hg; have aE := kQ aj hg; replace aj := kU aj hb; have aG := kP ak hg; have aH := kQ ak hg; replace ak := kU ak hb; have aI := kP ai hg; have aJ := kQ ai hg; replace ai := kU ai hb; clear hb hbox hg; have eQ := aE.out; have eR := aD.out; have eS := aH.out; have eT := aG.out; have eU := aJ.out; have eV := aI.out; have hO := kz4 ao) | ((with_reducible refine gate_dst (N := 33) rfl ?_); refine api_Slot_78.goesT (some 33) rfl rfl HES.out #[.int .i64 ab, .agg #[.int .i64 ((rd_T61 ag ab).f0), .int .i64 ((rd_T61 ag ab).f1), .int .i64 ((rd_T61 ag ab).f2), .int .u64 ((rd_T61 ag ab).f3)]] rfl rfl (by (try simp only [qM1, qM2, qM3]); first | done | rfl) ?_; (with_reducible refine (HST.out ab ((rd_T61 ag ab).f0) ((rd_T61 ag ab).f1) ((rd_T61 ag ab).f2) ((rd_T61 ag ab).f3) false _ (kh HB) A24.out).mono ?_); rintro e hP ⟨rfl, hb⟩; refine ⟨_, rfl, ?_⟩; replace ap := Aside0.mk (Kd.R_below (kt ap ao) hb); replace af := Aside0.mk (Kd.R_below (kt af ao) hb); replace aa := Aside0.mk (Kd.R_below (by (with_reducible repeat first | apply Kd.R_alloc | apply Kd.R_drewN | apply Kd.R_drew); exact (Kd.R_mono (Kd.R_far (p := ⟨aq, 3, none⟩) (Kd.R_far (p := ⟨aq, 2, none⟩) (Kd.R_far (p := ⟨aq, 1, none⟩) (Kd.R_far (p := ⟨aq, 0, none⟩) (Kd.R_mono aa.out (fun k_ hk => (⟨hk, hk.2⟩ : _ ∧ k_ ≠ aq))) (fun _ hk => hk.2) (.int .i64 ((rd_T61 ag ab).f0))) (fun _ hk => hk.2) (.int .i64 ((rd_T61 ag ab).f1))) (fun _ hk => hk.2) (.int .i64 ((rd_T61 ag ab).f2))) (fun _ hk => hk.2) (.int .u64 ((rd_T61 ag ab).f3))) (fun _ h_ => h_.1))) hb); replace ae := Aside0.mk (Kd.S_below (ks ae ao) hb); replace aj := kU aj hb; replace ak := kU ak hb; replace ai := kU ai hb; replace ao := kO (o' := .cells #[.int .i64 ((rd_T61 ag ab).f0), .int .i64 ((rd_T61 ag ab).f1), .int .i64 ((rd_T61 ag ab).f2), .int .u64 ((rd_T61 ag ab).f3)] 61 (0, 0)) ao hb; replace HB := kH HB hb; (try clear hb); (try clear hb2); (try clear hk); (try clear hi)));go_roundg k1
    case measure => have := HK1.out; omega
    case rel => exact ⟨(an), (wrap64 (ab + 1)), (ah), (au), et, H', ⟨by have := HK1.out; omega⟩, ⟨krR ap⟩, ⟨krR af⟩, ⟨by (with_reducible repeat first | apply Kd.R_alloc | apply Kd.R_drewN | apply Kd.R_drew); exact Kd.R_mono aa.out (fun _ hk => trivial)⟩, ⟨krS ae⟩, ⟨kg aj⟩, ⟨kg ak⟩, ⟨kg ai⟩, ⟨kh HB⟩⟩
   subst c25;replace H := ifT H;have de := Aside0.mk H;clear H;have bO : 0 ≤ (ab : Int) := od;have bP : ab < (ag.length : Int) := od;obtain ⟨cl, dd, aT, aU, aV, aW⟩ := at_T61 cn.out ab bO bP;cases dd;replace aT := (HB.out.cell (World.block_lt_of_cell? w _ aT)).trans aT;replace aU := (HB.out.cell (World.block_lt_of_cell? w _ aU)).trans aU;replace aV := (HB.out.cell (World.block_lt_of_cell? w _ aV)).trans aV;replace aW := (HB.out.cell (World.block_lt_of_cell? w _ aW)).trans aW;replace bO := eq_true bO; replace bP := eq_true bP;go_upto_region 8 with (first | ((with_reducible refine gate_dst (N := 10) rfl ?_); refine box_event ?hg (N := 10) ?hd (cs := #[.int .i64 0, .int .i64 0, .int .i64 0, .int .u64 0]) (t := 61) ?hr ?_; (case hd => rfl); (case hg => rfl); (case hr => first | (go_simp; done) | (go_simp; rfl)); intro aq hg w27 hbox hb; replace ap := kR ap hb; replace af := kR af hb; replace aa := Aside0.mk (Kd.R_below (Kd.R_elderB (krR aa) aq (Nat.le_of_eq hg.symm)) hb); replace ae := kS ae hb; have ao := am hbox; have dI := kG HB hg; have dJ := kG HB hg; replace HB := kH HB hb; have aD := kP aj hg; have aE := kQ aj hg; replace aj := kU aj hb; have aG := kP ak hg; have aH := kQ ak hg; replace ak := kU ak hb; have aI := kP ai hg; have aJ := kQ ai hg; replace ai := kU ai hb; clear hb hbox hg; have fQ := aE.out; have fR := aD.out; have fS := aH.out; have fT := aG.out; have fU := aJ.out; have fV := aI.out; have Z31 := kz4 ao) | ((with_reducible refine gate_dst (N := 33) rfl ?_); refine api_Slot_78.goesT (some 33) rfl rfl HES.out #[.int .i64 ab, .agg #[.int .i64 ((rd_T61 ag ab).f0), .int .i64 ((rd_T61 ag ab).f1), .int .i64 ((rd_T61 ag ab).f2), .int .u64 ((rd_T61 ag ab).f3)]] rfl rfl (by (try simp only [qM1, qM2, qM3]); first | done | rfl) ?_; (with_reducible refine (HST.out ab ((rd_T61 ag ab).f0) ((rd_T61 ag ab).f1) ((rd_T61 ag ab).f2) ((rd_T61 ag ab).f3) true _ (kh HB) A24.out).mono ?_); rintro e w32 ⟨rfl, hb⟩; refine ⟨_, rfl, ?_⟩; replace ap := Aside0.mk (Kd.R_below (kt ap ao) hb); replace af := Aside0.mk (Kd.R_below (kt af ao) hb); replace aa := Aside0.mk (Kd.R_below (by (with_reducible repeat first | apply Kd.R_alloc | apply Kd.R_drewN | apply Kd.R_drew); exact (Kd.R_mono (Kd.R_far (p := ⟨aq, 3, none⟩) (Kd.R_far (p := ⟨aq, 2, none⟩) (Kd.R_far (p := ⟨aq, 1, none⟩) (Kd.R_far (p := ⟨aq, 0, none⟩) (Kd.R_mono aa.out (fun k_ hk => (⟨hk, hk.2⟩ : _ ∧ k_ ≠ aq))) (fun _ hk => hk.2) (.int .i64 ((rd_T61 ag ab).f0))) (fun _ hk => hk.2) (.int .i64 ((rd_T61 ag ab).f1))) (fun _ hk => hk.2) (.int .i64 ((rd_T61 ag ab).f2))) (fun _ hk => hk.2) (.int .u64 ((rd_T61 ag ab).f3))) (fun _ h_ => h_.1))) hb); replace ae := Aside0.mk (Kd.S_below (ks ae ao) hb); replace aj := kU aj hb; replace ak := kU ak hb; replace ai := kU ai hb; replace ao := kO (o' := .cells #[.int .i64 ((rd_T61 ag ab).f0), .int .i64 ((rd_T61 ag ab).f1), .int .i64 ((rd_T61 ag ab).f2), .int .u64 ((rd_T61 ag ab).f3)] 61 (0, 0)) ao hb; replace HB := kH HB hb; (try clear hb); (try clear hb2); (try clear hk); (try clear hi)));(try simp only [Act.put, qS1, qS2, qS3]);go_cut [42] (fun v42 wc => ∃ (kq : Nat) (bG : Bool), v42 = .bool bG ∧ Aside0 (tune_moved.j1 st tto kq an ab ag (ag.length : Int) ab bG aw ah av ((rd_T61 ag ab).f0) ((rd_T61 ag ab).f1) ((rd_T61 ag ab).f2) ((rd_T61 ag ab).f3) = some (r1, r2, r3)) ∧ Aside0 (kq ≤ k1) ∧ Aside0 (Kd.R (Kd.int .i64) 3 wc w.heap.size (fun _ => True) bL an) ∧ Aside0 (Kd.R k64 64 wc w.heap.size (fun _ => True) (.slice aX aw.length aY) aw) ∧ Aside0 (Kd.R k61 61 wc w.heap.size (fun k_ => k_ ≠ aq) au ah) ∧ Aside0 (Kd.S k66t 66 wc w.heap.size (fun k_ => some k_ ≠ (bL : Value).ownBlock) (.slice bj av.length aZ) av) ∧ Aside0 (wc.heap[bk]? = some (.cells #[(.slice bm bb.length bn), (.slice (some cl) ag.length bo), (.slice bp bc.length bq)] 26 (0, 0))) ∧ Aside0 (wc.heap[aK]? = some (.cells #[(.slice none 0 0), (.slice none 0 0), (.slice none 0 0)] 26 (0, 0))) ∧ Aside0 (wc.heap[aC]? = some (.cells #[(.slice aX aw.length aY), au, (.slice bj av.length aZ)] 26 (0, 0))) ∧ Aside0 (wc.heap[aq]? = some (.cells #[.int .i64 ((rd_T61 ag ab).f0), .int .i64 ((rd_T61 ag ab).f1), .int .i64 ((rd_T61 ag ab).f2), .int .u64 ((rd_T61 ag ab).f3)] 61 (0, 0))) ∧ Aside0 (Below w.heap.size w wc))
   case first =>
    have H := de.out;clear de
    by_cases c33 : ((rd_T61 ag ab).f0) = 1
    rotate_left
    ·rw [if_neg c33] at H
     have bQ := beq_eq_false_iff_ne.mpr c33;have dK := bne_iff_ne.mpr c33;(first | rw [bQ] | (simp only [i64_w, i32_w]; rw [bQ]) | skip);have H' := Aside0.mk H;clear H;have fW := aE.out;have fX := aD.out;have fY := aH.out;have fZ := aG.out;have ga := aJ.out;have gb := aI.out;have Z41 := kz4 ao;go_wp2;go_meet
     case rel => exact ⟨_, ((((rd_T61 ag ab).f0) != 2)), et, H', ⟨by have := HK1.out; first | omega | exact Nat.le_refl _⟩, ⟨krR ap⟩, ⟨krR af⟩, ⟨by (with_reducible repeat first | apply Kd.R_alloc | apply Kd.R_drewN | apply Kd.R_drew); exact Kd.R_mono aa.out (fun _ hk => hk.2)⟩, ⟨krS ae⟩, ⟨kg aj⟩, ⟨kg ak⟩, ⟨kg ai⟩, ⟨kg ao⟩, ⟨kh HB⟩⟩
    rw [if_pos c33] at H;have bQ := beq_iff_eq.mpr c33;have dK := bne_eq_false_iff_eq.mpr c33;clear c33;(first | rw [bQ] | (simp only [i64_w, i32_w]; rw [bQ]) | skip);have H' := Aside0.mk H;clear H;have gc := aE.out;have gd := aD.out;have ge := aH.out;have gg := aG.out;have gh := aJ.out;have gi := aI.out;have Z37 := kz4 ao;go_wp2;go_meet
    case rel => exact ⟨_, (false), et, H', ⟨by have := HK1.out; first | omega | exact Nat.le_refl _⟩, ⟨krR ap⟩, ⟨krR af⟩, ⟨by (with_reducible repeat first | apply Kd.R_alloc | apply Kd.R_drewN | apply Kd.R_drew); exact Kd.R_mono aa.out (fun _ hk => hk.2)⟩, ⟨krS ae⟩, ⟨kg aj⟩, ⟨kg ak⟩, ⟨kg ai⟩, ⟨kg ao⟩, ⟨kh HB⟩⟩
   clear de;(try clear co dF dG c25 Z31 aT aU aV aW bO bP);obtain ⟨kq, bG, rfl, HA, cm, ap, af, aa, ae, aj, ak, ai, ao, HB⟩ := hcut
   cases kq with
   | zero => exact absurd HA.out (by simp [tune_moved.j1])
   | succ bH =>
    have H := HA.out;clear HA;simp only [tune_moved.j1] at H
    by_cases c42 : bG = true
    rotate_left
    ·replace c42 := Bool.eq_false_iff.mpr c42
     subst c42;replace H := ifF H
     by_cases c99 : 0 ≤ ab
     rotate_left
     ·rw [if_neg c99] at H
      exact absurd H (by simp)
     rw [if_pos c99] at H;have gj := decide_eq_true c99;clear c99
     by_cases cD : ab < (an.length : Int)
     rotate_left
     ·rw [if_neg cD] at H
      exact absurd H (by simp)
     rw [if_pos cD] at H;have eW := decide_eq_true cD;clear cD;obtain ⟨cE, bR⟩ : ∃ y_ : List Int, y_ = (an.set (ab : Int).toNat (ah.length : Int)) := ⟨_, rfl⟩
     replace H : (if ah.length < 4398046511104 then (tune_moved.l0 st tto bH cE ag (ag.length : Int) (wrap64 (ab + 1)) aw (ah ++ [(⟨((rd_T61 ag ab).f0), ((rd_T61 ag ab).f1), ((rd_T61 ag ab).f2), ((rd_T61 ag ab).f3)⟩ : S61)]) av) else (none)) = some (r1, r2, r3) := by first | (rw [bR]; with_reducible exact H) | (have H2_ := (Option.bind_some _ _).symm.trans H; rw [bR]; with_reducible exact H2_) | (have H2_ := (Option.bind_some _ _).symm.trans H; with_reducible exact H2_) | with_reducible exact H | (rw [bR]; exact H) | exact H
     have dL := Aside0.mk bR;clear bR
     by_cases cF : ah.length < 4398046511104
     rotate_left
     ·rw [if_neg cF] at H
      exact absurd H (by simp)
     rw [if_pos cF] at H;have df := Aside0.mk cF;clear cF;obtain ⟨ca, bS⟩ : ∃ y_ : List (S61), y_ = (ah ++ [(⟨((rd_T61 ag ab).f0), ((rd_T61 ag ab).f1), ((rd_T61 ag ab).f2), ((rd_T61 ag ab).f3)⟩ : S61)]) := ⟨_, rfl⟩
     replace H : (tune_moved.l0 st tto bH cE ag (ag.length : Int) (wrap64 (ab + 1)) aw ca av) = some (r1, r2, r3) := by first | (rw [bS]; with_reducible exact H) | (have H2_ := (Option.bind_some _ _).symm.trans H; rw [bS]; with_reducible exact H2_) | (have H2_ := (Option.bind_some _ _).symm.trans H; with_reducible exact H2_) | with_reducible exact H | (rw [bS]; exact H) | exact H
     have dM := Aside0.mk bS;clear bS;have H' := Aside0.mk H;clear H;have eX := aN.out;have eY := aM.out;have eZ := aR.out;have fa := aQ.out;have fb := aI.out;have fc := aJ.out;have hQ := kz3 ai;obtain ⟨dN, dO, dP⟩ := Kd.R_slice aa.out;subst dP;have dg : 0 ≤ (ab : Int) := od;have dh : (ab : Int) < ((an.length : Int) : Int) := od;obtain ⟨bu, bT, cU, cV, gl101, cl101, HG101⟩ := Kd.R_form ap.out (by omega);(first | cases cU | (injection cU with ea_ en_ ec_; (first | subst ea_ | (injection ea_ with ea_; subst ea_)); subst ec_; clear en_));have dQ := Aside0.mk cV;have gl := Aside0.mk HG101;clear cV gl101 HG101;obtain ⟨ek, el⟩ := Kd.R_celln 0 ap.out (ab : Int) dg dh;replace dg := eq_true dg; replace dh := eq_true dh;have cv := Kd.R_putg ap.out (ab : Int) (ah.length : Int);go_wp2_with (first | ((with_reducible refine gate_store (t := 3) (p := 67) rfl ?_); refine store_event (t := 3) (p := 67) (v := ?vo_w109) (w1 := (wc.setCell ⟨bu, (ab : Int).toNat, none⟩ (.int .i64 (ah.length : Int)))) ?hg ?ho ?hn ?hr ?_; (case ho => rfl); (case hg => rfl); (case hn => rfl); (case hr => first | (go_simp; done) | (go_simp; rfl)); intro di hw; have hg : wc.grownBy di (some bu) := (by rw [hw]; exact cv.2); have hp_ : Kd.R (Kd.int .i64) 3 di w.heap.size (fun _ => True) (.slice (some ⟨bu, 0, none⟩) an.length bT) cE := (by rw [hw, dL.out]; exact cv.1); clear cv; replace af := Aside0.mk (Kd.R_over' (v := (.slice (some ⟨bu, 0, none⟩) an.length bT)) (krR af) (Kd.R_typed ap.out) (by decide) hg); replace aa := Aside0.mk (Kd.R_over' (v := (.slice (some ⟨bu, 0, none⟩) an.length bT)) (krR aa) (Kd.R_typed ap.out) (by decide) hg); replace ae := Aside0.mk (Kd.S_after (v := (.slice (some ⟨bu, 0, none⟩) an.length bT)) (v1 := (.slice (some ⟨bu, 0, none⟩) an.length bT)) (ok := (fun _ => True)) (by (with_reducible repeat first | apply Kd.S_alloc | apply Kd.S_drewN | apply Kd.S_drew); exact Kd.S_mono ae.out (fun _ hk => ⟨trivial, hk⟩)) hg (.inl rfl)); replace aj := kXR aj ap hg; replace ak := kXR ak ap hg; replace ai := kXR ai ap hg; replace ao := kXR ao ap hg; replace ap := Aside0.mk (hp_); replace HB := Aside0.mk ((by rw [hw]; exact below_set (HB.out) dQ.out : Below w.heap.size w di)); clear hg hw hp_; have hT := kz3 ai; have fd := aE.out; have fe := aD.out; have ff := aH.out; have fg := aG.out; have hU := kz4 ao) | ((with_reducible refine gate_builtin (b := .append) (xs := #[.tmp 69, .tmp 71]) rfl ?_); at_builtin; refine Kd.R_append k61 (w0 := w) w.heap.size rfl (.tmp 69) (.tmp 71) 23 61 (.agg #[(.int .i64 0), (.int .i64 0), (.int .i64 0), (.int .u64 0)]) 32 rfl Try.underlying23 info61 rfl (by decide) (by omega) (.slice dN ah.length dO) ah (⟨((rd_T61 ag ab).f0), ((rd_T61 ag ab).f1), ((rd_T61 ag ab).f2), ((rd_T61 ag ab).f3)⟩ : S61) [.int .i64 ((rd_T61 ag ab).f0), .int .i64 ((rd_T61 ag ab).f1), .int .i64 ((rd_T61 ag ab).f2), .int .u64 ((rd_T61 ag ab).f3)] (fun k_ => k_ ≠ aq) (fun _ => False) rfl rfl ?aP (fun _ hk => hk.elim) ?aF ?aO ?aB ?aS ?aL ?_; (case aP => exact k61_mkM _ _ _ (⟨((rd_T61 ag ab).f0), ((rd_T61 ag ab).f1), ((rd_T61 ag ab).f2), ((rd_T61 ag ab).f3)⟩ : S61)); (case aB => exact (kh HB)); (case aF => exact (fun k_ hk => Kd.freshB (g := aq) (o := .cells #[.int .i64 ((rd_T61 ag ab).f0), .int .i64 ((rd_T61 ag ab).f1), .int .i64 ((rd_T61 ag ab).f2), .int .u64 ((rd_T61 ag ab).f3)] 61 (0, 0)) (kb ao) k_ hk)); (case aO => exact (krR aa)); (case aS => exact (below_size (kh HB))); (case aL => have := df.out; omega); intro hX hZ ho hb hg hat; rw [← dM.out] at ho; replace ap := Aside0.mk (Kd.R_over' (krR ap) (Kd.R_typed (krR aa)) (by decide) hg); replace af := Aside0.mk (Kd.R_over' (krR af) (Kd.R_typed (krR aa)) (by decide) hg); replace ae := Aside0.mk (Kd.S_over' (krS ae) (Kd.R_typed (krR aa)) (by decide) hg); replace aj := kXR aj aa hg; replace ak := kXR ak aa hg; replace ai := kXR ai aa hg; replace ao := Aside0.mk (blk_grown (g := aq) (o := .cells #[.int .i64 ((rd_T61 ag ab).f0), .int .i64 ((rd_T61 ag ab).f1), .int .i64 ((rd_T61 ag ab).f2), .int .u64 ((rd_T61 ag ab).f3)] 61 (0, 0)) (kb ao) hg (Kd.R_away aa.out (fun _ hk => hk))); replace HB := Aside0.mk (hb); have cW := Aside0.mk (ho); clear aa; clear ho hb hg hat; obtain ⟨bU, bV, dR⟩ := Kd.R_slice cW.out; subst dR; have ia := kz3 ai));go_roundg bH
     case measure => have := HK1.out; have := cm.out; omega
     case rel => exact ⟨(cE), (wrap64 (ab + 1)), (ca), (.slice bU ca.length bV), et, H', ⟨by have := HK1.out; have := cm.out; omega⟩, ⟨by (with_reducible repeat first | apply Kd.R_alloc | apply Kd.R_drewN | apply Kd.R_drew); exact Kd.R_mono (Kd.R_far (p := ⟨aC, 1, none⟩) (Kd.R_types ap.out ai.out (by decide)) (fun _ hk => hk.2) (.slice bU ca.length bV)) (fun _ hk => trivial)⟩, ⟨by (with_reducible repeat first | apply Kd.R_alloc | apply Kd.R_drewN | apply Kd.R_drew); exact Kd.R_mono (Kd.R_far (p := ⟨aC, 1, none⟩) (Kd.R_types af.out ai.out (by decide)) (fun _ hk => hk.2) (.slice bU ca.length bV)) (fun _ hk => trivial)⟩, ⟨by (with_reducible repeat first | apply Kd.R_alloc | apply Kd.R_drewN | apply Kd.R_drew); exact Kd.R_mono (Kd.R_far (p := ⟨aC, 1, none⟩) (Kd.R_types cW.out ai.out (by decide)) (fun _ hk => hk.2) (.slice bU ca.length bV)) (fun _ hk => trivial)⟩, ⟨by (with_reducible repeat first | apply Kd.S_alloc | apply Kd.S_drewN | apply Kd.S_drew); exact Kd.S_mono (Kd.S_far (p := ⟨aC, 1, none⟩) (Kd.S_types ae.out ai.out (by decide)) (fun _ hk => hk.2) (.slice bU ca.length bV)) (fun _ hk => hk.1.2)⟩, ⟨kg aj⟩, ⟨kg ak⟩, ⟨kg ai⟩, ⟨kh HB⟩⟩
    subst c42;replace H := ifT H;replace H := Option.bind_eq_some_iff.mp H;obtain ⟨aA, dS, H⟩ := H;(try dsimp only at H);have A43 := Aside0.mk dS;clear dS
    by_cases c44 : 0 ≤ aA
    rotate_left
    ·rw [if_neg c44] at H
     exact absurd H (by simp)
    rw [if_pos c44] at H;have gm := decide_eq_true c44;clear c44
    by_cases c45 : aA < (an.length : Int)
    rotate_left
    ·rw [if_neg c45] at H
     exact absurd H (by simp)
    rw [if_pos c45] at H;have gn := decide_eq_true c45;clear c45
    by_cases c46 : ((rd_T61 ag ab).f0) = 6
    ·rw [if_pos c46] at H
     have dT := beq_iff_eq.mpr c46;have dU := bne_eq_false_iff_eq.mpr c46;clear c46
     by_cases c47 : 0 ≤ ab
     rotate_left
     ·rw [if_neg c47] at H
      exact absurd H (by simp)
     rw [if_pos c47] at H;have gp := decide_eq_true c47;clear c47
     by_cases c48 : ab < (an.length : Int)
     rotate_left
     ·rw [if_neg c48] at H
      exact absurd H (by simp)
     rw [if_pos c48] at H;have gq := decide_eq_true c48;clear c48;obtain ⟨cG, bW⟩ : ∃ y_ : List Int, y_ = (an.set (ab : Int).toNat (ah.length : Int)) := ⟨_, rfl⟩
     replace H : (if ah.length < 4398046511104 then (tune_moved.l0 st tto bH cG ag (ag.length : Int) (wrap64 (ab + 1)) aw (ah ++ [(⟨((rd_T61 ag ab).f0), rd an aA, ((rd_T61 ag ab).f2), ((rd_T61 ag ab).f3)⟩ : S61)]) av) else (none)) = some (r1, r2, r3) := by first | (rw [bW]; with_reducible exact H) | (have H2_ := (Option.bind_some _ _).symm.trans H; rw [bW]; with_reducible exact H2_) | (have H2_ := (Option.bind_some _ _).symm.trans H; with_reducible exact H2_) | with_reducible exact H | (rw [bW]; exact H) | exact H
     have dV := Aside0.mk bW;clear bW
     by_cases c50 : ah.length < 4398046511104
     rotate_left
     ·rw [if_neg c50] at H
      exact absurd H (by simp)
     rw [if_pos c50] at H;have dW := Aside0.mk c50;clear c50;obtain ⟨cb, bX⟩ : ∃ y_ : List (S61), y_ = (ah ++ [(⟨((rd_T61 ag ab).f0), rd an aA, ((rd_T61 ag ab).f2), ((rd_T61 ag ab).f3)⟩ : S61)]) := ⟨_, rfl⟩
     replace H : (tune_moved.l0 st tto bH cG ag (ag.length : Int) (wrap64 (ab + 1)) aw cb av) = some (r1, r2, r3) := by first | (rw [bX]; with_reducible exact H) | (have H2_ := (Option.bind_some _ _).symm.trans H; rw [bX]; with_reducible exact H2_) | (have H2_ := (Option.bind_some _ _).symm.trans H; with_reducible exact H2_) | with_reducible exact H | (rw [bX]; exact H) | exact H
     have dX := Aside0.mk bX;clear bX;have H' := Aside0.mk H;clear H;have gr := aE.out;have gs := aD.out;have gt := aH.out;have gu := aG.out;have gv := aJ.out;have gw := aI.out;have Z54 := kz4 ao;go_wp2_with (first | ((with_reducible refine gate_dst (N := 47) rfl ?_); refine api_Slot_78.goesT (some 47) rfl rfl HET.out #[.int .i64 ((rd_T61 ag ab).f1)] rfl rfl (by (try simp only [qM1, qM2, qM3]); first | done | rfl) ?_; (with_reducible refine (HTO.out ((rd_T61 ag ab).f1) aA _ (kh HB) A43.out).mono ?_); rintro e w55 ⟨rfl, hb⟩; refine ⟨_, rfl, ?_⟩; replace ap := kR ap hb; replace af := kR af hb; replace aa := kR aa hb; replace ae := kS ae hb; replace aj := kU aj hb; replace ak := kU ak hb; replace ai := kU ai hb; replace ao := kU ao hb; replace HB := kH HB hb; (try clear hb); (try clear hb2); (try clear hk); (try clear hi); obtain ⟨ib, cc, fh⟩ := Kd.R_slice ap.out; subst fh; have cd : 0 ≤ (aA : Int) := od; have ce : aA < (an.length : Int) := od; obtain ⟨bD, dj, bI⟩ := Kd.at_int (Kd.R_reads' ap.out).2.2 aA cd ce; cases dj; replace cd := eq_true cd; replace ce := eq_true ce; have Z57 := kz4 ao) | ((with_reducible refine gate_store (t := 3) (p := 50) rfl ?_); refine store_event (t := 3) (p := 50) (v := ?vo_w58) (w1 := (w55.setCell ⟨aq, 1, none⟩ (.int .i64 (rd an aA)))) ?hg ?ho ?hn ?hr ?_; (case ho => rfl); (case hg => rfl); (case hn => rfl); (case hr => first | (go_simp; done) | (go_simp; rfl)); intro w58 hw; replace ap : Aside0 (Kd.R (Kd.int .i64) 3 w58 w.heap.size (fun _ => True) (.slice (some bD) an.length cc) an) := ⟨(by rw [hw]; exact (by (with_reducible repeat first | apply Kd.R_alloc | apply Kd.R_drewN | apply Kd.R_drew); exact Kd.R_mono (Kd.R_far (p := ⟨aq, 1, none⟩) (Kd.R_types ap.out ao.out (by decide)) (fun _ hk => hk.2) (.int .i64 (rd an aA))) (fun _ hk => trivial)))⟩; replace af : Aside0 (Kd.R k64 64 w58 w.heap.size (fun _ => True) (.slice aX aw.length aY) aw) := ⟨(by rw [hw]; exact (by (with_reducible repeat first | apply Kd.R_alloc | apply Kd.R_drewN | apply Kd.R_drew); exact Kd.R_mono (Kd.R_far (p := ⟨aq, 1, none⟩) (Kd.R_types af.out ao.out (by decide)) (fun _ hk => hk.2) (.int .i64 (rd an aA))) (fun _ hk => trivial)))⟩; replace aa : Aside0 (Kd.R k61 61 w58 w.heap.size (fun k_ => k_ ≠ aq) au ah) := ⟨(by rw [hw]; exact (by (with_reducible repeat first | apply Kd.R_alloc | apply Kd.R_drewN | apply Kd.R_drew); exact Kd.R_mono (Kd.R_far (p := ⟨aq, 1, none⟩) (Kd.R_mono aa.out (fun k_ hk => (⟨hk, hk⟩ : _ ∧ k_ ≠ aq))) (fun _ hk => hk.2) (.int .i64 (rd an aA))) (fun _ hk => hk.1)))⟩; replace ae : Aside0 (Kd.S k66t 66 w58 w.heap.size (fun k_ => some k_ ≠ (.slice (some bD) an.length cc : Value).ownBlock) (.slice bj av.length aZ) av) := ⟨(by rw [hw]; exact (by (with_reducible repeat first | apply Kd.S_alloc | apply Kd.S_drewN | apply Kd.S_drew); exact Kd.S_mono (Kd.S_far (p := ⟨aq, 1, none⟩) (Kd.S_types ae.out ao.out (by decide)) (fun _ hk => hk.2) (.int .i64 (rd an aA))) (fun _ hk => hk.1)))⟩; replace aj : Aside0 (w58.heap[bk]? = some (.cells #[.slice bm bb.length bn, .slice (some cl) ag.length bo, .slice bp bc.length bq] 26 (0, 0))) := ⟨(by rw [hw]; exact (kg aj))⟩; replace ak : Aside0 (w58.heap[aK]? = some (.cells #[.slice none 0 0, .slice none 0 0, .slice none 0 0] 26 (0, 0))) := ⟨(by rw [hw]; exact (kg ak))⟩; replace ai : Aside0 (w58.heap[aC]? = some (.cells #[.slice aX aw.length aY, au, .slice bj av.length aZ] 26 (0, 0))) := ⟨(by rw [hw]; exact (kg ai))⟩; replace ao : Aside0 (w58.heap[aq]? = some (.cells #[.int .i64 ((rd_T61 ag ab).f0), .int .i64 (rd an aA), .int .i64 ((rd_T61 ag ab).f2), .int .u64 ((rd_T61 ag ab).f3)] 61 (0, 0))) := ⟨(by rw [hw]; exact (kg ao))⟩; replace HB : Aside0 (Below w.heap.size w w58) := ⟨(by rw [hw]; exact (kh HB))⟩; clear hw; have Z59 := kz4 ao; have gx := aN.out; have gy := aM.out; have gz := aR.out; have gA := aQ.out; have Z62 := kz3 ai; obtain ⟨fi, fj, fk⟩ := Kd.R_slice aa.out; subst fk; have p49 : 0 ≤ (ab : Int) := od; have q49 : (ab : Int) < ((an.length : Int) : Int) := od; obtain ⟨cf, ic, dY, dZ, gl49, cl49, HG49⟩ := Kd.R_form ap.out (by omega); (first | cases dY | (injection dY with ea_ en_ ec_; (first | subst ea_ | (injection ea_ with ea_; subst ea_)); subst ec_; clear en_)); have fl := Aside0.mk dZ; have ie := Aside0.mk HG49; clear dZ gl49 HG49; (first | simp only [add_plain] at bI | skip); obtain ⟨fm, fo⟩ := Kd.R_celln 0 ap.out (ab : Int) p49 q49; replace p49 := eq_true p49; replace q49 := eq_true q49; obtain ⟨gB, gC⟩ := Kd.R_celln 0 ap.out (ab : Int) od od; have dk := Kd.R_putg ap.out (ab : Int) (ah.length : Int)) | ((with_reducible refine gate_store (t := 3) (p := 67) rfl ?_); refine store_event (t := 3) (p := 67) (v := ?vo_w65) (w1 := (w58.setCell ⟨cf, (ab : Int).toNat, none⟩ (.int .i64 (ah.length : Int)))) ?hg ?ho ?hn ?hr ?_; (case ho => rfl); (case hg => rfl); (case hn => rfl); (case hr => first | (go_simp; done) | (go_simp; rfl)); intro w65 hw; have hg : w58.grownBy w65 (some cf) := (by rw [hw]; exact dk.2); have hp_ : Kd.R (Kd.int .i64) 3 w65 w.heap.size (fun _ => True) (.slice (some ⟨cf, 0, none⟩) an.length cc) cG := (by rw [hw, dV.out]; exact dk.1); clear dk; replace af := Aside0.mk (Kd.R_over' (v := (.slice (some ⟨cf, 0, none⟩) an.length cc)) (krR af) (Kd.R_typed ap.out) (by decide) hg); replace aa := Aside0.mk (Kd.R_over' (v := (.slice (some ⟨cf, 0, none⟩) an.length cc)) (krR aa) (Kd.R_typed ap.out) (by decide) hg); replace ae := Aside0.mk (Kd.S_after (v := (.slice (some ⟨cf, 0, none⟩) an.length cc)) (v1 := (.slice (some ⟨cf, 0, none⟩) an.length cc)) (ok := (fun _ => True)) (by (with_reducible repeat first | apply Kd.S_alloc | apply Kd.S_drewN | apply Kd.S_drew); exact Kd.S_mono ae.out (fun _ hk => ⟨trivial, hk⟩)) hg (.inl rfl)); replace aj := kXR aj ap hg; replace ak := kXR ak ap hg; replace ai := kXR ai ap hg; replace ao := kXR ao ap hg; replace ap := Aside0.mk (hp_); replace HB := Aside0.mk ((by rw [hw]; exact below_set (HB.out) fl.out : Below w.heap.size w w65)); clear hg hw hp_; have Z66 := kz3 ai; have Z67 := kz4 ao) | ((with_reducible refine gate_builtin (b := .append) (xs := #[.tmp 69, .tmp 71]) rfl ?_); at_builtin; refine Kd.R_append k61 (w0 := w) w.heap.size rfl (.tmp 69) (.tmp 71) 23 61 (.agg #[(.int .i64 0), (.int .i64 0), (.int .i64 0), (.int .u64 0)]) 32 rfl Try.underlying23 info61 rfl (by decide) (by omega) (.slice fi ah.length fj) ah (⟨((rd_T61 ag ab).f0), rd an aA, ((rd_T61 ag ab).f2), ((rd_T61 ag ab).f3)⟩ : S61) [.int .i64 ((rd_T61 ag ab).f0), .int .i64 (rd an aA), .int .i64 ((rd_T61 ag ab).f2), .int .u64 ((rd_T61 ag ab).f3)] (fun k_ => k_ ≠ aq) (fun _ => False) rfl rfl ?aP (fun _ hk => hk.elim) ?aF ?aO ?aB ?aS ?aL ?_; (case aP => exact k61_mkM _ _ _ (⟨((rd_T61 ag ab).f0), rd an aA, ((rd_T61 ag ab).f2), ((rd_T61 ag ab).f3)⟩ : S61)); (case aB => exact (kh HB)); (case aF => exact (fun k_ hk => Kd.freshB (g := aq) (o := .cells #[.int .i64 ((rd_T61 ag ab).f0), .int .i64 (rd an aA), .int .i64 ((rd_T61 ag ab).f2), .int .u64 ((rd_T61 ag ab).f3)] 61 (0, 0)) (kb ao) k_ hk)); (case aO => exact (krR aa)); (case aS => exact (below_size (kh HB))); (case aL => have := dW.out; omega); intro ig w68 ho hb hg hat; rw [← dX.out] at ho; replace ap := Aside0.mk (Kd.R_over' (krR ap) (Kd.R_typed (krR aa)) (by decide) hg); replace af := Aside0.mk (Kd.R_over' (krR af) (Kd.R_typed (krR aa)) (by decide) hg); replace ae := Aside0.mk (Kd.S_over' (krS ae) (Kd.R_typed (krR aa)) (by decide) hg); replace aj := kXR aj aa hg; replace ak := kXR ak aa hg; replace ai := kXR ai aa hg; replace ao := Aside0.mk (blk_grown (g := aq) (o := .cells #[.int .i64 ((rd_T61 ag ab).f0), .int .i64 (rd an aA), .int .i64 ((rd_T61 ag ab).f2), .int .u64 ((rd_T61 ag ab).f3)] 61 (0, 0)) (kb ao) hg (Kd.R_away aa.out (fun _ hk => hk))); replace HB := Aside0.mk (hb); have cX := Aside0.mk (ho); clear aa; clear ho hb hg hat; obtain ⟨cw, cx, fp⟩ := Kd.R_slice cX.out; subst fp; have Z70 := kz3 ai));go_roundg bH
     case measure => have := HK1.out; have := cm.out; omega
     case rel => exact ⟨(cG), (wrap64 (ab + 1)), (cb), (.slice cw cb.length cx), et, H', ⟨by have := HK1.out; have := cm.out; omega⟩, ⟨by (with_reducible repeat first | apply Kd.R_alloc | apply Kd.R_drewN | apply Kd.R_drew); exact Kd.R_mono (Kd.R_far (p := ⟨aC, 1, none⟩) (Kd.R_types ap.out ai.out (by decide)) (fun _ hk => hk.2) (.slice cw cb.length cx)) (fun _ hk => trivial)⟩, ⟨by (with_reducible repeat first | apply Kd.R_alloc | apply Kd.R_drewN | apply Kd.R_drew); exact Kd.R_mono (Kd.R_far (p := ⟨aC, 1, none⟩) (Kd.R_types af.out ai.out (by decide)) (fun _ hk => hk.2) (.slice cw cb.length cx)) (fun _ hk => trivial)⟩, ⟨by (with_reducible repeat first | apply Kd.R_alloc | apply Kd.R_drewN | apply Kd.R_drew); exact Kd.R_mono (Kd.R_far (p := ⟨aC, 1, none⟩) (Kd.R_types cX.out ai.out (by decide)) (fun _ hk => hk.2) (.slice cw cb.length cx)) (fun _ hk => trivial)⟩, ⟨by (with_reducible repeat first | apply Kd.S_alloc | apply Kd.S_drewN | apply Kd.S_drew); exact Kd.S_mono (Kd.S_far (p := ⟨aC, 1, none⟩) (Kd.S_types ae.out ai.out (by decide)) (fun _ hk => hk.2) (.slice cw cb.length cx)) (fun _ hk => hk.1.2)⟩, ⟨kg aj⟩, ⟨kg ak⟩, ⟨kg ai⟩, ⟨kh HB⟩⟩
    rw [if_neg c46] at H;have dT := beq_eq_false_iff_ne.mpr c46;have dU := bne_iff_ne.mpr c46;replace H := Option.bind_eq_some_iff.mp H;obtain ⟨ba, eb, H⟩ := H;(try dsimp only at H);have A71 := Aside0.mk eb;clear eb
    by_cases c72 : 0 ≤ ba
    rotate_left
    ·rw [if_neg c72] at H
     exact absurd H (by simp)
    rw [if_pos c72] at H;have gD := decide_eq_true c72;clear c72
    by_cases c73 : ba < (an.length : Int)
    rotate_left
    ·rw [if_neg c73] at H
     exact absurd H (by simp)
    rw [if_pos c73] at H;have gE := decide_eq_true c73;clear c73
    by_cases c74 : 0 ≤ ab
    rotate_left
    ·rw [if_neg c74] at H
     exact absurd H (by simp)
    rw [if_pos c74] at H;have gF := decide_eq_true c74;clear c74
    by_cases c75 : ab < (an.length : Int)
    rotate_left
    ·rw [if_neg c75] at H
     exact absurd H (by simp)
    rw [if_pos c75] at H;have gG := decide_eq_true c75;clear c75;obtain ⟨cH, bY⟩ : ∃ y_ : List Int, y_ = (an.set (ab : Int).toNat (ah.length : Int)) := ⟨_, rfl⟩
    replace H : (if ah.length < 4398046511104 then (tune_moved.l0 st tto bH cH ag (ag.length : Int) (wrap64 (ab + 1)) aw (ah ++ [(⟨((rd_T61 ag ab).f0), rd an aA, rd an ba, ((rd_T61 ag ab).f3)⟩ : S61)]) av) else (none)) = some (r1, r2, r3) := by first | (rw [bY]; with_reducible exact H) | (have H2_ := (Option.bind_some _ _).symm.trans H; rw [bY]; with_reducible exact H2_) | (have H2_ := (Option.bind_some _ _).symm.trans H; with_reducible exact H2_) | with_reducible exact H | (rw [bY]; exact H) | exact H
    have ed := Aside0.mk bY;clear bY
    by_cases c77 : ah.length < 4398046511104
    rotate_left
    ·rw [if_neg c77] at H
     exact absurd H (by simp)
    rw [if_pos c77] at H;have ee := Aside0.mk c77;clear c77;obtain ⟨cg, bZ⟩ : ∃ y_ : List (S61), y_ = (ah ++ [(⟨((rd_T61 ag ab).f0), rd an aA, rd an ba, ((rd_T61 ag ab).f3)⟩ : S61)]) := ⟨_, rfl⟩
    replace H : (tune_moved.l0 st tto bH cH ag (ag.length : Int) (wrap64 (ab + 1)) aw cg av) = some (r1, r2, r3) := by first | (rw [bZ]; with_reducible exact H) | (have H2_ := (Option.bind_some _ _).symm.trans H; rw [bZ]; with_reducible exact H2_) | (have H2_ := (Option.bind_some _ _).symm.trans H; with_reducible exact H2_) | with_reducible exact H | (rw [bZ]; exact H) | exact H
    have ef := Aside0.mk bZ;clear bZ;have H' := Aside0.mk H;clear H;have gH := aE.out;have gI := aD.out;have gJ := aH.out;have gK := aG.out;have gL := aJ.out;have gM := aI.out;have Z81 := kz4 ao;go_wp2_with (first | ((with_reducible refine gate_dst (N := 47) rfl ?_); refine api_Slot_78.goesT (some 47) rfl rfl HET.out #[.int .i64 ((rd_T61 ag ab).f1)] rfl rfl (by (try simp only [qM1, qM2, qM3]); first | done | rfl) ?_; (with_reducible refine (HTO.out ((rd_T61 ag ab).f1) aA _ (kh HB) A43.out).mono ?_); rintro e w82 ⟨rfl, hb⟩; refine ⟨_, rfl, ?_⟩; replace ap := kR ap hb; replace af := kR af hb; replace aa := kR aa hb; replace ae := kS ae hb; replace aj := kU aj hb; replace ak := kU ak hb; replace ai := kU ai hb; replace ao := kU ao hb; replace HB := kH HB hb; (try clear hb); (try clear hb2); (try clear hk); (try clear hi); obtain ⟨ii, ch, fq⟩ := Kd.R_slice ap.out; subst fq; have cd : 0 ≤ (aA : Int) := od; have ce : aA < (an.length : Int) := od; obtain ⟨bD, dj, bI⟩ := Kd.at_int (Kd.R_reads' ap.out).2.2 aA cd ce; cases dj; replace cd := eq_true cd; replace ce := eq_true ce; have Z84 := kz4 ao) | ((with_reducible refine gate_dst (N := 58) rfl ?_); refine api_Slot_78.goesT (some 58) rfl rfl HET.out #[.int .i64 ((rd_T61 ag ab).f2)] rfl rfl (by (try simp only [qM1, qM2, qM3]); first | done | rfl) ?_; (with_reducible refine (HTO.out ((rd_T61 ag ab).f2) ba _ (kh HB) A71.out).mono ?_); rintro e w85 ⟨rfl, hb⟩; refine ⟨_, rfl, ?_⟩; replace ap := Aside0.mk (Kd.R_below (kt ap ao) hb); replace af := Aside0.mk (Kd.R_below (kt af ao) hb); replace aa := Aside0.mk (Kd.R_below (by (with_reducible repeat first | apply Kd.R_alloc | apply Kd.R_drewN | apply Kd.R_drew); exact (Kd.R_mono (Kd.R_far (p := ⟨aq, 1, none⟩) (Kd.R_mono aa.out (fun k_ hk => (⟨hk, hk⟩ : _ ∧ k_ ≠ aq))) (fun _ hk => hk.2) (.int .i64 (rd an aA))) (fun _ h_ => h_.1))) hb); replace ae := Aside0.mk (Kd.S_below (ks ae ao) hb); replace aj := kU aj hb; replace ak := kU ak hb; replace ai := kU ai hb; replace ao := kO (o' := .cells #[.int .i64 ((rd_T61 ag ab).f0), .int .i64 (rd an aA), .int .i64 ((rd_T61 ag ab).f2), .int .u64 ((rd_T61 ag ab).f3)] 61 (0, 0)) ao hb; replace HB := kH HB hb; (try clear hb); (try clear hb2); (try clear hk); (try clear hi); have dl : 0 ≤ (ba : Int) := od; have dm : ba < (an.length : Int) := od; obtain ⟨eh, fu, cI⟩ := Kd.at_int (Kd.R_reads' ap.out).2.2 ba dl dm; obtain rfl : bD = eh := (by injection fu); replace dl := eq_true dl; replace dm := eq_true dm; have Z86 := kz4 ao) | ((with_reducible refine gate_store (t := 3) (p := 61) rfl ?_); refine store_event (t := 3) (p := 61) (v := ?vo_w87) (w1 := (w85.setCell ⟨aq, 2, none⟩ (.int .i64 (rd an ba)))) ?hg ?ho ?hn ?hr ?_; (case ho => rfl); (case hg => rfl); (case hn => rfl); (case hr => first | (go_simp; done) | (go_simp; rfl)); intro w87 hw; replace ap : Aside0 (Kd.R (Kd.int .i64) 3 w87 w.heap.size (fun _ => True) (.slice (some bD) an.length ch) an) := ⟨(by rw [hw]; exact (by (with_reducible repeat first | apply Kd.R_alloc | apply Kd.R_drewN | apply Kd.R_drew); exact Kd.R_mono (Kd.R_far (p := ⟨aq, 2, none⟩) (Kd.R_types ap.out ao.out (by decide)) (fun _ hk => hk.2) (.int .i64 (rd an ba))) (fun _ hk => trivial)))⟩; replace af : Aside0 (Kd.R k64 64 w87 w.heap.size (fun _ => True) (.slice aX aw.length aY) aw) := ⟨(by rw [hw]; exact (by (with_reducible repeat first | apply Kd.R_alloc | apply Kd.R_drewN | apply Kd.R_drew); exact Kd.R_mono (Kd.R_far (p := ⟨aq, 2, none⟩) (Kd.R_types af.out ao.out (by decide)) (fun _ hk => hk.2) (.int .i64 (rd an ba))) (fun _ hk => trivial)))⟩; replace aa : Aside0 (Kd.R k61 61 w87 w.heap.size (fun k_ => k_ ≠ aq) au ah) := ⟨(by rw [hw]; exact (by (with_reducible repeat first | apply Kd.R_alloc | apply Kd.R_drewN | apply Kd.R_drew); exact Kd.R_mono (Kd.R_far (p := ⟨aq, 2, none⟩) (Kd.R_mono aa.out (fun k_ hk => (⟨hk, hk⟩ : _ ∧ k_ ≠ aq))) (fun _ hk => hk.2) (.int .i64 (rd an ba))) (fun _ hk => hk.1)))⟩; replace ae : Aside0 (Kd.S k66t 66 w87 w.heap.size (fun k_ => some k_ ≠ (.slice (some bD) an.length ch : Value).ownBlock) (.slice bj av.length aZ) av) := ⟨(by rw [hw]; exact (by (with_reducible repeat first | apply Kd.S_alloc | apply Kd.S_drewN | apply Kd.S_drew); exact Kd.S_mono (Kd.S_far (p := ⟨aq, 2, none⟩) (Kd.S_types ae.out ao.out (by decide)) (fun _ hk => hk.2) (.int .i64 (rd an ba))) (fun _ hk => hk.1)))⟩; replace aj : Aside0 (w87.heap[bk]? = some (.cells #[.slice bm bb.length bn, .slice (some cl) ag.length bo, .slice bp bc.length bq] 26 (0, 0))) := ⟨(by rw [hw]; exact (kg aj))⟩; replace ak : Aside0 (w87.heap[aK]? = some (.cells #[.slice none 0 0, .slice none 0 0, .slice none 0 0] 26 (0, 0))) := ⟨(by rw [hw]; exact (kg ak))⟩; replace ai : Aside0 (w87.heap[aC]? = some (.cells #[.slice aX aw.length aY, au, .slice bj av.length aZ] 26 (0, 0))) := ⟨(by rw [hw]; exact (kg ai))⟩; replace ao : Aside0 (w87.heap[aq]? = some (.cells #[.int .i64 ((rd_T61 ag ab).f0), .int .i64 (rd an aA), .int .i64 (rd an ba), .int .u64 ((rd_T61 ag ab).f3)] 61 (0, 0))) := ⟨(by rw [hw]; exact (kg ao))⟩; replace HB : Aside0 (Below w.heap.size w w87) := ⟨(by rw [hw]; exact (kh HB))⟩; clear hw; have gN := aN.out; have gO := aM.out; have gP := aR.out; have gQ := aQ.out; have Z90 := kz3 ai; obtain ⟨fv, fw, fx⟩ := Kd.R_slice aa.out; subst fx; have p76 : 0 ≤ (ab : Int) := od; have q76 : (ab : Int) < ((an.length : Int) : Int) := od; obtain ⟨ci, ij, ei, ej, gl76, cl76, HG76⟩ := Kd.R_form ap.out (by omega); (first | cases ei | (injection ei with ea_ en_ ec_; (first | subst ea_ | (injection ea_ with ea_; subst ea_)); subst ec_; clear en_)); have fy := Aside0.mk ej; have ik := Aside0.mk HG76; clear ej gl76 HG76; (first | simp only [add_plain] at bI | skip); (first | simp only [add_plain] at cI | skip); obtain ⟨fz, fA⟩ := Kd.R_celln 0 ap.out (ab : Int) p76 q76; replace p76 := eq_true p76; replace q76 := eq_true q76; obtain ⟨gR, gS⟩ := Kd.R_celln 0 ap.out (ab : Int) od od; have dn := Kd.R_putg ap.out (ab : Int) (ah.length : Int)) | ((with_reducible refine gate_store (t := 3) (p := 67) rfl ?_); refine store_event (t := 3) (p := 67) (v := ?vo_w93) (w1 := (w87.setCell ⟨ci, (ab : Int).toNat, none⟩ (.int .i64 (ah.length : Int)))) ?hg ?ho ?hn ?hr ?_; (case ho => rfl); (case hg => rfl); (case hn => rfl); (case hr => first | (go_simp; done) | (go_simp; rfl)); intro w93 hw; have hg : w87.grownBy w93 (some ci) := (by rw [hw]; exact dn.2); have hp_ : Kd.R (Kd.int .i64) 3 w93 w.heap.size (fun _ => True) (.slice (some ⟨ci, 0, none⟩) an.length ch) cH := (by rw [hw, ed.out]; exact dn.1); clear dn; replace af := Aside0.mk (Kd.R_over' (v := (.slice (some ⟨ci, 0, none⟩) an.length ch)) (krR af) (Kd.R_typed ap.out) (by decide) hg); replace aa := Aside0.mk (Kd.R_over' (v := (.slice (some ⟨ci, 0, none⟩) an.length ch)) (krR aa) (Kd.R_typed ap.out) (by decide) hg); replace ae := Aside0.mk (Kd.S_after (v := (.slice (some ⟨ci, 0, none⟩) an.length ch)) (v1 := (.slice (some ⟨ci, 0, none⟩) an.length ch)) (ok := (fun _ => True)) (by (with_reducible repeat first | apply Kd.S_alloc | apply Kd.S_drewN | apply Kd.S_drew); exact Kd.S_mono ae.out (fun _ hk => ⟨trivial, hk⟩)) hg (.inl rfl)); replace aj := kXR aj ap hg; replace ak := kXR ak ap hg; replace ai := kXR ai ap hg; replace ao := kXR ao ap hg; replace ap := Aside0.mk (hp_); replace HB := Aside0.mk ((by rw [hw]; exact below_set (HB.out) fy.out : Below w.heap.size w w93)); clear hg hw hp_; have Z94 := kz3 ai; have Z95 := kz4 ao) | ((with_reducible refine gate_builtin (b := .append) (xs := #[.tmp 69, .tmp 71]) rfl ?_); at_builtin; refine Kd.R_append k61 (w0 := w) w.heap.size rfl (.tmp 69) (.tmp 71) 23 61 (.agg #[(.int .i64 0), (.int .i64 0), (.int .i64 0), (.int .u64 0)]) 32 rfl Try.underlying23 info61 rfl (by decide) (by omega) (.slice fv ah.length fw) ah (⟨((rd_T61 ag ab).f0), rd an aA, rd an ba, ((rd_T61 ag ab).f3)⟩ : S61) [.int .i64 ((rd_T61 ag ab).f0), .int .i64 (rd an aA), .int .i64 (rd an ba), .int .u64 ((rd_T61 ag ab).f3)] (fun k_ => k_ ≠ aq) (fun _ => False) rfl rfl ?aP (fun _ hk => hk.elim) ?aF ?aO ?aB ?aS ?aL ?_; (case aP => exact k61_mkM _ _ _ (⟨((rd_T61 ag ab).f0), rd an aA, rd an ba, ((rd_T61 ag ab).f3)⟩ : S61)); (case aB => exact (kh HB)); (case aF => exact (fun k_ hk => Kd.freshB (g := aq) (o := .cells #[.int .i64 ((rd_T61 ag ab).f0), .int .i64 (rd an aA), .int .i64 (rd an ba), .int .u64 ((rd_T61 ag ab).f3)] 61 (0, 0)) (kb ao) k_ hk)); (case aO => exact (krR aa)); (case aS => exact (below_size (kh HB))); (case aL => have := ee.out; omega); intro il w96 ho hb hg hat; rw [← ef.out] at ho; replace ap := Aside0.mk (Kd.R_over' (krR ap) (Kd.R_typed (krR aa)) (by decide) hg); replace af := Aside0.mk (Kd.R_over' (krR af) (Kd.R_typed (krR aa)) (by decide) hg); replace ae := Aside0.mk (Kd.S_over' (krS ae) (Kd.R_typed (krR aa)) (by decide) hg); replace aj := kXR aj aa hg; replace ak := kXR ak aa hg; replace ai := kXR ai aa hg; replace ao := Aside0.mk (blk_grown (g := aq) (o := .cells #[.int .i64 ((rd_T61 ag ab).f0), .int .i64 (rd an aA), .int .i64 (rd an ba), .int .u64 ((rd_T61 ag ab).f3)] 61 (0, 0)) (kb ao) hg (Kd.R_away aa.out (fun _ hk => hk))); replace HB := Aside0.mk (hb); have cY := Aside0.mk (ho); clear aa; clear ho hb hg hat; obtain ⟨cy, cz, fB⟩ := Kd.R_slice cY.out; subst fB; have Z98 := kz3 ai));go_roundg bH
    case measure => have := HK1.out; have := cm.out; omega
    case rel => exact ⟨(cH), (wrap64 (ab + 1)), (cg), (.slice cy cg.length cz), et, H', ⟨by have := HK1.out; have := cm.out; omega⟩, ⟨by (with_reducible repeat first | apply Kd.R_alloc | apply Kd.R_drewN | apply Kd.R_drew); exact Kd.R_mono (Kd.R_far (p := ⟨aC, 1, none⟩) (Kd.R_types ap.out ai.out (by decide)) (fun _ hk => hk.2) (.slice cy cg.length cz)) (fun _ hk => trivial)⟩, ⟨by (with_reducible repeat first | apply Kd.R_alloc | apply Kd.R_drewN | apply Kd.R_drew); exact Kd.R_mono (Kd.R_far (p := ⟨aC, 1, none⟩) (Kd.R_types af.out ai.out (by decide)) (fun _ hk => hk.2) (.slice cy cg.length cz)) (fun _ hk => trivial)⟩, ⟨by (with_reducible repeat first | apply Kd.R_alloc | apply Kd.R_drewN | apply Kd.R_drew); exact Kd.R_mono (Kd.R_far (p := ⟨aC, 1, none⟩) (Kd.R_types cY.out ai.out (by decide)) (fun _ hk => hk.2) (.slice cy cg.length cz)) (fun _ hk => trivial)⟩, ⟨by (with_reducible repeat first | apply Kd.S_alloc | apply Kd.S_drewN | apply Kd.S_drew); exact Kd.S_mono (Kd.S_far (p := ⟨aC, 1, none⟩) (Kd.S_types ae.out ai.out (by decide)) (fun _ hk => hk.2) (.slice cy cg.length cz)) (fun _ hk => hk.1.2)⟩, ⟨kg aj⟩, ⟨kg ak⟩, ⟨kg ai⟩, ⟨kh HB⟩⟩
def tune_Share.val (g : S61) : Value := .agg #[.int .i64 g.f0, .int .i64 g.f1, .int .i64 g.f2, .int .u64 g.f3]
def tune_Share.ent (g : S61 × Int) (j : Nat) : MapEntry := { key := tune_Share.val g.1, val := .int .i64 g.2, born := j }
def tune_Share.ents : Nat → List (S61 × Int) → List MapEntry
 | _, [] => []
 | j, g :: M => tune_Share.ent g j :: tune_Share.ents (j + 1) M
def tune_Share.obj (M : List (S61 × Int)) : Obj := .map (tune_Share.ents 0 M).toArray M.length
def tune_Share.same (x y : S61) : Bool := x.f0 == y.f0 && (x.f1 == y.f1 && (x.f2 == y.f2 && x.f3 == y.f3))
def tune_Share.find (g : S61) : List (S61 × Int) → Option Int
 | [] => none
 | x :: M => if tune_Share.same g x.1 = true then some x.2 else tune_Share.find g M
def tune_Share.look (M : List (S61 × Int)) (a b c d : Int) : Option (Int × Bool) := some (match tune_Share.find ⟨a, b, c, d⟩ M with | some i => (i, true) | none => (0, false))
def tune_Share.put (M : List (S61 × Int)) (a b c d i : Int) : Option (List (S61 × Int)) := if tune_Share.find ⟨a, b, c, d⟩ M = none then some (M ++ [(⟨a, b, c, d⟩, i)]) else none
def tune_Share.st (l : List Int) (i _ _ _ _ : Int) : Option Bool := if 0 ≤ i ∧ i < (l.length : Int) then some (rd l i == i) else none
def tune_Share.tto (l : List Int) (i : Int) : Option Int := if 0 ≤ i ∧ i < (l.length : Int) then some (rd l i) else none
theorem tune_Share.blk_far {w : World} {g : Nat} {o : Obj} (h : w.heap[g]? = some o) {p : Addr} (hp : g ≠ p.block) (u : Value) : (w.setCell p u).heap[g]? = some o := (Below.heap_setCell w p u g hp).trans h
theorem tune_Share.map_step {P : Program} {ops : Array Oper} {o : Oper} {a : Act} {Q : Exit → Act → World → Prop} {Kc : Act → World → Prop} {W : World} (hw : Region.wanted o (yielded ops a.tmps) = true) {N : Tmp} (_hd : o.dst = some N)
  (hrun : (execOp a.eval o).run P W = .ok (.value (.map (some W.heap.size))) (W.alloc (.map #[] 0)))
  (h : ∀ g, g = W.heap.size → ∀ w1, w1.heap[g]? = some (tune_Share.obj []) → Below W.heap.size W w1 → Kc (a.put o.dst (.map (some g))) w1) : if Region.wanted o (yielded ops a.tmps) = true then Oper.wp P o a W Kc Q else Kc (a.put o.dst undef) W :=
 event_step hw hrun (h _ rfl _ (blk_new W (.map #[] 0)) (below_alloc (Below.refl _ _) _))
theorem tune_Share.equal_run (x y : S61) (w : World) (d : Nat) : (Op.equalIn (d + 2) 61 (tune_Share.val x) (tune_Share.val y)).run Try.prog w = .ok (tune_Share.same x y) w := by
 unfold tune_Share.val tune_Share.same;refine eqA_of Try.underlying61 (by kernel_rfl) ?_;refine eqf_cons (by rfl) (by go_simp; rfl) (by go_simp; rfl) (by go_simp) ?_;refine eqf_cons (by rfl) (by go_simp; rfl) (by go_simp; rfl) (by go_simp) ?_;refine eqf_cons (by rfl) (by go_simp; rfl) (by go_simp; rfl) (by go_simp) ?_;refine eqf_last (by rfl) (by go_simp; rfl) (by go_simp; rfl) (by go_simp)
theorem tune_Share.ask_run (g : S61) (w : World) : ∀ (M : List (S61 × Int)) (j i : Nat), ∃ q : Option (Nat × Value), (Instr.findAsking 61 (tune_Share.val g) (tune_Share.ents j M) i).run Try.prog w = .ok q w ∧ q.map Prod.snd = (tune_Share.find g M).map (Value.int .i64)
 | [], _, _ => ⟨none, by simp [tune_Share.ents, Instr.findAsking], rfl⟩
 | x :: M, j, i => by
  obtain ⟨q, hq, hq2⟩ := tune_Share.ask_run g w M (j + 1) (i + 1);have he : (Op.equal 61 (tune_Share.val g) (tune_Share.ent x j).key).run Try.prog w = .ok (tune_Share.same g x.1) w := tune_Share.equal_run g x.1 w 9998;unfold tune_Share.ents Instr.findAsking tune_Share.find;rw [Sem.run_bind, he, Result.andThen_ok];cases hs : tune_Share.same g x.1
  ·simp only [Bool.false_eq_true, if_false]
   exact ⟨q, hq, hq2⟩
  ·simp only [if_true]
   exact ⟨some (i, .int .i64 x.2), by simp [tune_Share.ent], rfl⟩
theorem tune_Share.key_run (e : Bool) (g : S61) (w : World) : (Instr.checkKey e 10000 61 (tune_Share.val g)).run Try.prog w = .ok () w := by
 cases e <;> kernel_rfl
theorem tune_Share.find_run (g : S61) (M : List (S61 × Int)) (w : World) : ∃ q : Option (Nat × Value), (Instr.findKey 61 (tune_Share.val g) (tune_Share.ents 0 M)).run Try.prog w = .ok q w ∧ q.map Prod.snd = (tune_Share.find g M).map (Value.int .i64) := by
 obtain ⟨q, hq, hq2⟩ := tune_Share.ask_run g w M 0 0;exact ⟨q, (run_findKey_eq (P := Try.prog) (k := 61) w (by rw [Try.underlying61]) (tune_Share.val g) (tune_Share.ents 0 M)).trans hq, hq2⟩
theorem tune_Share.look_run (g : S61) (M : List (S61 × Int)) (w : World) (b : Nat) (hb : w.heap[b]? = some (tune_Share.obj M)) (r : Int × Bool) (h : tune_Share.look M g.f0 g.f1 g.f2 g.f3 = some r) :
  (Instr.lookup 73 (.map (some b)) (tune_Share.val g) true).run Try.prog w = .ok (.tuple #[.int .i64 r.1, .bool r.2]) w := by
 obtain ⟨q, hq, hq2⟩ := tune_Share.find_run g M w;obtain rfl := Option.some.inj h
 have hz : (zeroValue 3).run Try.prog w = .ok (.int .i64 0) w := by kernel_rfl
 have hu : (underlying 73).run Try.prog w = .ok (.map 61 3) w := by kernel_rfl
 have ho : (getObj b).run Try.prog w = .ok (tune_Share.obj M) w := by simp [getObj, Sem.run, hb]; rfl
 unfold Instr.lookup;rw [Sem.run_bind, hu, Result.andThen_ok];simp only [Sem.run_bind, ho, tune_Share.obj, Result.andThen_ok, Sem.run_pure, tune_Share.key_run, hq]
 cases hf : tune_Share.find g M with
 | none =>
  rw [hf] at hq2
  cases q with
  | some q => cases hq2
  | none => simp [hz, hf]
 | some i =>
  rw [hf] at hq2
  cases q with
  | none => cases hq2
  | some q =>
   obtain ⟨q1, q2⟩ := q;obtain rfl : q2 = .int .i64 i := Option.some.inj hq2;simp [hf]
theorem tune_Share.ents_push (x : S61 × Int) : ∀ (M : List (S61 × Int)) (j : Nat), tune_Share.ents j (M ++ [x]) = tune_Share.ents j M ++ [tune_Share.ent x (j + M.length)]
 | [], j => by simp [tune_Share.ents]
 | y :: M, j => by
  simp only [List.cons_append, tune_Share.ents, tune_Share.ents_push x M (j + 1), List.length_cons];rw [show j + 1 + M.length = j + (M.length + 1) by omega]
theorem tune_Share.put_run (g : S61) (M M' : List (S61 × Int)) (w : World) (b : Nat) (i : Int) (hb : w.heap[b]? = some (tune_Share.obj M)) (h : tune_Share.put M g.f0 g.f1 g.f2 g.f3 i = some M') :
  (Instr.mapUpdate 73 (.map (some b)) (tune_Share.val g) (.int .i64 i)).run Try.prog w = .ok () (w.putObj b (tune_Share.obj M')) := by
 unfold tune_Share.put at h
 split at h
 ·rename_i hf
  obtain rfl := Option.some.inj h;obtain ⟨q, hq, hq2⟩ := tune_Share.find_run g M w;rw [show tune_Share.find g M = none from hf] at hq2
  obtain rfl : q = none := by cases q with | none => rfl | some q => cases hq2
  have hu : (underlying 73).run Try.prog w = .ok (.map 61 3) w := by kernel_rfl
  have ho : (getObj b).run Try.prog w = .ok (tune_Share.obj M) w := by simp [getObj, Sem.run, hb]; rfl
  have he : tune_Share.obj (M ++ [(g, i)]) = .map ((tune_Share.ents 0 M).toArray.push { key := tune_Share.val g, val := .int .i64 i, born := M.length }) (M.length + 1) := by
   simp [tune_Share.obj, tune_Share.ents_push, tune_Share.ent]
  unfold Instr.mapUpdate;rw [Sem.run_bind, hu, Result.andThen_ok];simp only [Sem.run_bind, ho, tune_Share.obj, Result.andThen_ok, tune_Share.key_run, hq];rw [show (⟨g.f0, g.f1, g.f2, g.f3⟩ : S61) = g from rfl] at *
  have hs : ∀ X : Obj, (setObj b X).run Try.prog w = .ok () (w.putObj b X) := fun X => by
   simp only [setObj, Sem.run, hb, World.putObj]
   rfl
  rw [hs];exact congrArg (fun o => Result.ok () (w.putObj b o)) he.symm
 ·cases h
theorem tune_Share.calls1 (g : Nat) (A : Option Addr) (c : Nat) (l : List Int) (W : World) (hx : W.cell? ⟨g, 0, none⟩ = some (.slice A l.length c)) (hC : Kd.C (Kd.int .i64) W A l.length l) (x0 x1 x2 x3 x4 : Int) (r : Bool) (h : tune_Share.st l x0 x1 x2 x3 x4 = some r) :
  Calls Try.prog 46 (#[.int .i64 x0, .agg #[.int .i64 x1, .int .i64 x2, .int .i64 x3, .int .u64 x4]] ++ #[.pointer (some ⟨g, 0, none⟩)]) W fun e_ w' => e_ = .returned (.bool r) ∧ Below W.heap.size W w' := by
 unfold tune_Share.st at h
 split at h
 ·rename_i hi
  obtain rfl := Option.some.inj h;obtain ⟨h0, h1⟩ := hi;obtain ⟨ad, rfl, hr⟩ := Kd.at_int hC x0 h0 h1;clear hC h;replace hx := (World.grownBy_alloc W (.cells #[.int .i64 x1, .int .i64 x2, .int .i64 x3, .int .u64 x4] 61 (0, 0)) none).cell hx (by simp);replace hr := (World.grownBy_alloc W (.cells #[.int .i64 x1, .int .i64 x2, .int .i64 x3, .int .u64 x4] 61 (0, 0)) none).cell hr (by simp);replace h0 := eq_true h0; replace h1 := eq_true h1;go_enter Try.func46, Try.ntmps46;go_wp2;go_ret;exact ⟨rfl, by repeat (first | exact Below.refl _ _ | apply below_alloc)⟩
 ·cases h
theorem tune_Share.calls2 (g : Nat) (A : Option Addr) (c : Nat) (l : List Int) (W : World) (hx : W.cell? ⟨g, 0, none⟩ = some (.slice A l.length c)) (hC : Kd.C (Kd.int .i64) W A l.length l) (x0 r : Int) (h : tune_Share.tto l x0 = some r) :
  Calls Try.prog 47 (#[.int .i64 x0] ++ #[.pointer (some ⟨g, 0, none⟩)]) W fun e_ w' => e_ = .returned (.int .i64 r) ∧ Below W.heap.size W w' := by
 unfold tune_Share.tto at h
 split at h
 ·rename_i hi
  obtain rfl := Option.some.inj h;obtain ⟨h0, h1⟩ := hi;obtain ⟨ad, rfl, hr⟩ := Kd.at_int hC x0 h0 h1;clear hC h; replace h0 := eq_true h0; replace h1 := eq_true h1;go_enter Try.func47, Try.ntmps47;go_wp2;go_ret;exact ⟨rfl, by repeat (first | exact Below.refl _ _ | apply below_alloc)⟩
 ·cases h
theorem tune_Share.gate_upd {P : Program} {ops : Array Oper} {rest : List Oper} {o : Oper} {a : Act} {Q : Exit → Act → World → Prop} {W : World} {x y z : Operand} (_h : o.op = .mapUpdate 73 x y z) (k : wpList P ops Q (o :: rest) a W) : wpList P ops Q (o :: rest) a W := k
theorem tune_Share.upd_event {P : Program} {ops : Array Oper} {rest : List Oper} {o : Oper} {a : Act} {Q : Exit → Act → World → Prop} {W w1 : World} (hgd : o.guard = none) (hN : o.dst = none)
  (hrun : (execOp a.eval o).run P W = .ok .skip w1) (h : ∀ w', w' = w1 → wpList P ops Q rest a w') : wpList P ops Q (o :: rest) a W := by
 refine wpList_plain hgd fun K hK => ?_
 unfold Oper.wp;rw [hrun]
 show K (a.put o.dst undef) w1
 rw [hN];exact hK _ _ (h _ rfl)
theorem tune_Share.look_event {P : Program} {ops : Array Oper} {rest : List Oper} {o : Oper} {a : Act} {Q : Exit → Act → World → Prop} {W : World} (hgd : o.guard = none) {N : Tmp} (_hN : o.dst = some N) {v : Value}
  (hrun : (execOp a.eval o).run P W = .ok (.value v) W) (h : ∀ w', Below W.heap.size W w' → wpList P ops Q rest (a.put o.dst v) w') : wpList P ops Q (o :: rest) a W :=
 Kd.event_run hgd hrun (h _ (Below.refl _ _))
theorem tune_Share.blk_upd {w : World} {g b : Nat} {o : Obj} (h : w.heap[g]? = some o) (hne : g ≠ b) (o' : Obj) : (w.putObj b o').heap[g]? = some o := (World.putObj_heap_other hne).trans h
theorem tune_Share.upd_new {w : World} {b : Nat} {o : Obj} (h : w.heap[b]? = some o) (o' : Obj) : (w.putObj b o').heap[b]? = some o' := by
 have := (Array.getElem?_eq_some_iff.1 h).1;simp [World.putObj, this]
theorem tune_Share.below_upd {n b : Nat} {w W : World} (h : Below n w W) (hb : n ≤ b) (hn : n ≤ W.heap.size) (o' : Obj) : Below n w (W.putObj b o') := h.grown (grownBy_putObj' W b o') hn (fun j hj => by cases hj; exact hb)
theorem tune_Share.R_upd {α : Type} {d : Kd α} {e : TypeId} {w : World} {base b : Nat} {v : Value} {xs : List α} {M : List (S61 × Int)} (h : d.R e w base (fun _ => True) v xs) (hb : w.heap[b]? = some (tune_Share.obj M)) (o' : Obj) : d.R e (w.putObj b o') base (fun _ => True) v xs :=
 Kd.R_mono (Kd.R_step (Kd.R_bound h) (fun k hk _ => by
  obtain ⟨_, _, _, q, _, cs, hc⟩ := hk
  exact World.putObj_heap_other (fun e => by rw [e, hb] at hc; cases hc))) (fun _ _ => trivial)
theorem tune_Share.R_neM {α : Type} {d : Kd α} {e : TypeId} {w : World} {base g : Nat} {ok : Nat → Prop} {v : Value} {xs : List α} {M : List (S61 × Int)} (h : d.R e w base ok v xs) (hb : w.heap[g]? = some (tune_Share.obj M)) : some g ≠ v.ownBlock := by
 obtain ⟨inner, ho, _⟩ := h.2
 rcases ho.2 with ⟨rfl, _⟩ | ⟨g', cap, cur, rfl, _, hh, _⟩
 ·simp [Value.ownBlock]
 ·intro he
  have : g = g' := by simpa [Value.ownBlock] using he
  subst this;rw [hb] at hh
  injection hh with hh
  cases hh
mutual
def tune_Share.l0 : Nat → List (S61) → Int → Int → List (S64) → List (S61) → List (S66) → List (S61 × Int) → Bool → List Int → Option ((List (S64)) × (List (S61)) × (List (S66)) × Int)
 | 0, _, _, _, _, _, _, _, _, _ => none
 | k + 1, x26, x27, x28, ab, ae, af, ag, aj, aa => if x28 < x27 then (if 0 ≤ x28 then (if x28 < (x26.length : Int) then (if ((rd_T61 x26 x28).f0) = 1 then (tune_Share.j1 k x28 x26 x27 x28 false ab ae af ag aj aa ((rd_T61 x26 x28).f0) ((rd_T61 x26 x28).f1) ((rd_T61 x26 x28).f2) ((rd_T61 x26 x28).f3)) else (tune_Share.j1 k x28 x26 x27 x28 (((rd_T61 x26 x28).f0) != 2) ab ae af ag aj aa ((rd_T61 x26 x28).f0) ((rd_T61 x26 x28).f1) ((rd_T61 x26 x28).f2) ((rd_T61 x26 x28).f3))) else (none)) else (none)) else ((tune_moved.f (tune_Share.st aa) (tune_Share.tto aa) k ab ae af).bind fun ao => (some (ao.1, ao.2.1, ao.2.2, 0)))
def tune_Share.j1 : Nat → Int → List (S61) → Int → Int → Bool → List (S64) → List (S61) → List (S66) → List (S61 × Int) → Bool → List Int → Int → Int → Int → Int → Option ((List (S64)) × (List (S61)) × (List (S66)) × Int)
 | 0, _, _, _, _, _, _, _, _, _, _, _, _, _, _, _ => none
 | k + 1, x9, x26, x27, x28, x40, ab, ae, af, ag, aj, aa, ak, ah, ai, an => if x40 = true then (if 0 ≤ ah then (if ah < (aa.length : Int) then (if ak = 6 then (tune_Share.j2 k x9 x26 x27 x28 ab ae af ag aj aa ak (rd aa ah) ai an) else (if 0 ≤ ai then (if ai < (aa.length : Int) then (tune_Share.j2 k x9 x26 x27 x28 ab ae af ag aj aa ak (rd aa ah) (rd aa ai) an) else (none)) else (none))) else (none)) else (none)) else (tune_Share.j2 k x9 x26 x27 x28 ab ae af ag aj aa ak ah ai an)
def tune_Share.j2 : Nat → Int → List (S61) → Int → Int → List (S64) → List (S61) → List (S66) → List (S61 × Int) → Bool → List Int → Int → Int → Int → Int → Option ((List (S64)) × (List (S61)) × (List (S66)) × Int)
 | 0, _, _, _, _, _, _, _, _, _, _, _, _, _, _ => none
 | k + 1, x9, x26, x27, x28, ab, ae, af, ag, aj, aa, ak, ah, ai, an => if ak = 3 then (tune_Share.j3 k x9 x26 x27 x28 (decide (ah > ai)) ab ae af ag aj aa ak ah ai an) else (if ak = 5 then (tune_Share.j3 k x9 x26 x27 x28 (decide (ah > ai)) ab ae af ag aj aa ak ah ai an) else (tune_Share.j3 k x9 x26 x27 x28 false ab ae af ag aj aa ak ah ai an))
def tune_Share.j3 : Nat → Int → List (S61) → Int → Int → Bool → List (S64) → List (S61) → List (S66) → List (S61 × Int) → Bool → List Int → Int → Int → Int → Int → Option ((List (S64)) × (List (S61)) × (List (S66)) × Int)
 | 0, _, _, _, _, _, _, _, _, _, _, _, _, _, _, _ => none
 | k + 1, x9, x26, x27, x28, x70, ab, ae, af, ag, aj, aa, ak, ah, ai, an => if x70 = true then (tune_Share.j4 k x9 x26 x27 x28 ab ae af ag aj aa ak ai ah an) else (tune_Share.j4 k x9 x26 x27 x28 ab ae af ag aj aa ak ah ai an)
def tune_Share.j4 : Nat → Int → List (S61) → Int → Int → List (S64) → List (S61) → List (S66) → List (S61 × Int) → Bool → List Int → Int → Int → Int → Int → Option ((List (S64)) × (List (S61)) × (List (S66)) × Int)
 | 0, _, _, _, _, _, _, _, _, _, _, _, _, _, _ => none
 | k + 1, x9, x26, x27, x28, ab, ae, af, ag, aj, aa, ak, ah, ai, an => (tune_Share.look ag ak ah ai an).bind fun ap => (if ap.2 = true then (if 0 ≤ x9 then (if x9 < (aa.length : Int) then (tune_Share.l0 k x26 x27 (wrap64 (x28 + 1)) ab ae af ag aj (aa.set (x9 : Int).toNat ap.1)) else (none)) else (none)) else ((tune_Share.put ag ak ah ai an x9).bind fun aq => (if 0 ≤ x9 then (if x9 < (aa.length : Int) then (tune_Share.l0 k x26 x27 (wrap64 (x28 + 1)) ab ae af aq aj (aa.set (x9 : Int).toNat x9)) else (none)) else (none))))
end
def tune_Share.f (k : Nat) (a0 : Int) (ab : List (S64)) (aa : List (S61)) (ae : List (S66)) : Option ((List (S64)) × (List (S61)) × (List (S66)) × Int) := (circ_Check.f k a0 ab aa ae).bind fun af => (if af = 0 then (if 0 ≤ (aa.length : Int) then (if ((aa.length : Int) : Int).toNat ≤ 35184372088832 then (tune_Share.l0 k aa (aa.length : Int) 0 ab aa ae [] false (List.replicate ((aa.length : Int) : Int).toNat 0)) else (none)) else (none)) else (some (([] : List (S64)), ([] : List (S61)), ([] : List (S66)), af)))
theorem tune_Share.mono_l : ∀ k, (∀ y0 y1 y2 y3 y4 y5 y6 y7 y8, LeO (tune_Share.l0 k y0 y1 y2 y3 y4 y5 y6 y7 y8) (tune_Share.l0 (k + 1) y0 y1 y2 y3 y4 y5 y6 y7 y8)) ∧ (∀ y0 y1 y2 y3 y4 y5 y6 y7 y8 y9 y10 y11 y12 y13 y14, LeO (tune_Share.j1 k y0 y1 y2 y3 y4 y5 y6 y7 y8 y9 y10 y11 y12 y13 y14) (tune_Share.j1 (k + 1) y0 y1 y2 y3 y4 y5 y6 y7 y8 y9 y10 y11 y12 y13 y14)) ∧ (∀ y0 y1 y2 y3 y4 y5 y6 y7 y8 y9 y10 y11 y12 y13, LeO (tune_Share.j2 k y0 y1 y2 y3 y4 y5 y6 y7 y8 y9 y10 y11 y12 y13) (tune_Share.j2 (k + 1) y0 y1 y2 y3 y4 y5 y6 y7 y8 y9 y10 y11 y12 y13)) ∧ (∀ y0 y1 y2 y3 y4 y5 y6 y7 y8 y9 y10 y11 y12 y13 y14, LeO (tune_Share.j3 k y0 y1 y2 y3 y4 y5 y6 y7 y8 y9 y10 y11 y12 y13 y14) (tune_Share.j3 (k + 1) y0 y1 y2 y3 y4 y5 y6 y7 y8 y9 y10 y11 y12 y13 y14)) ∧ (∀ y0 y1 y2 y3 y4 y5 y6 y7 y8 y9 y10 y11 y12 y13, LeO (tune_Share.j4 k y0 y1 y2 y3 y4 y5 y6 y7 y8 y9 y10 y11 y12 y13) (tune_Share.j4 (k + 1) y0 y1 y2 y3 y4 y5 y6 y7 y8 y9 y10 y11 y12 y13))
 | 0 => ⟨fun _ _ _ _ _ _ _ _ _ r h => by simp [tune_Share.l0] at h, fun _ _ _ _ _ _ _ _ _ _ _ _ _ _ _ r h => by simp [tune_Share.j1] at h, fun _ _ _ _ _ _ _ _ _ _ _ _ _ _ r h => by simp [tune_Share.j2] at h, fun _ _ _ _ _ _ _ _ _ _ _ _ _ _ _ r h => by simp [tune_Share.j3] at h, fun _ _ _ _ _ _ _ _ _ _ _ _ _ _ r h => by simp [tune_Share.j4] at h⟩
 | k + 1 => by
  obtain ⟨ih0, ih1, ih2, ih3, ih4⟩ := tune_Share.mono_l k;refine ⟨?_, ?_, ?_, ?_, ?_⟩
  ·intro y0 y1 y2 y3 y4 y5 y6 y7 y8
   unfold tune_Share.l0
   repeat' first
   | (with_reducible exact ih0 _ _ _ _ _ _ _ _ _)
   | (with_reducible exact ih1 _ _ _ _ _ _ _ _ _ _ _ _ _ _ _)
   | (with_reducible exact ih2 _ _ _ _ _ _ _ _ _ _ _ _ _ _)
   | (with_reducible exact ih3 _ _ _ _ _ _ _ _ _ _ _ _ _ _ _)
   | (with_reducible exact ih4 _ _ _ _ _ _ _ _ _ _ _ _ _ _)
   | (with_reducible exact circ_Check.mono _ _ _ _ _)
   | (with_reducible exact tune_moved.mono _ _ _ _ _ _)
   | (with_reducible exact LeO.refl _)
   | (with_reducible exact LeO.none _)
   | (with_reducible refine LeO.ite ?_ ?_)
   | (with_reducible refine LeO.bind ?_ (fun _ => ?_))
   | exact ih0 _ _ _ _ _ _ _ _ _
   | exact ih1 _ _ _ _ _ _ _ _ _ _ _ _ _ _ _
   | exact ih2 _ _ _ _ _ _ _ _ _ _ _ _ _ _
   | exact ih3 _ _ _ _ _ _ _ _ _ _ _ _ _ _ _
   | exact ih4 _ _ _ _ _ _ _ _ _ _ _ _ _ _
   | exact circ_Check.mono _ _ _ _ _
   | exact tune_moved.mono _ _ _ _ _ _
   | exact LeO.none _
   | refine LeO.ite ?_ ?_
   | refine LeO.bind ?_ (fun _ => ?_)
  ·intro y0 y1 y2 y3 y4 y5 y6 y7 y8 y9 y10 y11 y12 y13 y14
   unfold tune_Share.j1
   repeat' first
   | (with_reducible exact ih0 _ _ _ _ _ _ _ _ _)
   | (with_reducible exact ih1 _ _ _ _ _ _ _ _ _ _ _ _ _ _ _)
   | (with_reducible exact ih2 _ _ _ _ _ _ _ _ _ _ _ _ _ _)
   | (with_reducible exact ih3 _ _ _ _ _ _ _ _ _ _ _ _ _ _ _)
   | (with_reducible exact ih4 _ _ _ _ _ _ _ _ _ _ _ _ _ _)
   | (with_reducible exact circ_Check.mono _ _ _ _ _)
   | (with_reducible exact tune_moved.mono _ _ _ _ _ _)
   | (with_reducible exact LeO.refl _)
   | (with_reducible exact LeO.none _)
   | (with_reducible refine LeO.ite ?_ ?_)
   | (with_reducible refine LeO.bind ?_ (fun _ => ?_))
   | exact ih0 _ _ _ _ _ _ _ _ _
   | exact ih1 _ _ _ _ _ _ _ _ _ _ _ _ _ _ _
   | exact ih2 _ _ _ _ _ _ _ _ _ _ _ _ _ _
   | exact ih3 _ _ _ _ _ _ _ _ _ _ _ _ _ _ _
   | exact ih4 _ _ _ _ _ _ _ _ _ _ _ _ _ _
   | exact circ_Check.mono _ _ _ _ _
   | exact tune_moved.mono _ _ _ _ _ _
   | exact LeO.none _
   | refine LeO.ite ?_ ?_
   | refine LeO.bind ?_ (fun _ => ?_)
  ·intro y0 y1 y2 y3 y4 y5 y6 y7 y8 y9 y10 y11 y12 y13
   unfold tune_Share.j2
   repeat' first
   | (with_reducible exact ih0 _ _ _ _ _ _ _ _ _)
   | (with_reducible exact ih1 _ _ _ _ _ _ _ _ _ _ _ _ _ _ _)
   | (with_reducible exact ih2 _ _ _ _ _ _ _ _ _ _ _ _ _ _)
   | (with_reducible exact ih3 _ _ _ _ _ _ _ _ _ _ _ _ _ _ _)
   | (with_reducible exact ih4 _ _ _ _ _ _ _ _ _ _ _ _ _ _)
   | (with_reducible exact circ_Check.mono _ _ _ _ _)
   | (with_reducible exact tune_moved.mono _ _ _ _ _ _)
   | (with_reducible exact LeO.refl _)
   | (with_reducible exact LeO.none _)
   | (with_reducible refine LeO.ite ?_ ?_)
   | (with_reducible refine LeO.bind ?_ (fun _ => ?_))
   | exact ih0 _ _ _ _ _ _ _ _ _
   | exact ih1 _ _ _ _ _ _ _ _ _ _ _ _ _ _ _
   | exact ih2 _ _ _ _ _ _ _ _ _ _ _ _ _ _
   | exact ih3 _ _ _ _ _ _ _ _ _ _ _ _ _ _ _
   | exact ih4 _ _ _ _ _ _ _ _ _ _ _ _ _ _
   | exact circ_Check.mono _ _ _ _ _
   | exact tune_moved.mono _ _ _ _ _ _
   | exact LeO.none _
   | refine LeO.ite ?_ ?_
   | refine LeO.bind ?_ (fun _ => ?_)
  ·intro y0 y1 y2 y3 y4 y5 y6 y7 y8 y9 y10 y11 y12 y13 y14
   unfold tune_Share.j3
   repeat' first
   | (with_reducible exact ih0 _ _ _ _ _ _ _ _ _)
   | (with_reducible exact ih1 _ _ _ _ _ _ _ _ _ _ _ _ _ _ _)
   | (with_reducible exact ih2 _ _ _ _ _ _ _ _ _ _ _ _ _ _)
   | (with_reducible exact ih3 _ _ _ _ _ _ _ _ _ _ _ _ _ _ _)
   | (with_reducible exact ih4 _ _ _ _ _ _ _ _ _ _ _ _ _ _)
   | (with_reducible exact circ_Check.mono _ _ _ _ _)
   | (with_reducible exact tune_moved.mono _ _ _ _ _ _)
   | (with_reducible exact LeO.refl _)
   | (with_reducible exact LeO.none _)
   | (with_reducible refine LeO.ite ?_ ?_)
   | (with_reducible refine LeO.bind ?_ (fun _ => ?_))
   | exact ih0 _ _ _ _ _ _ _ _ _
   | exact ih1 _ _ _ _ _ _ _ _ _ _ _ _ _ _ _
   | exact ih2 _ _ _ _ _ _ _ _ _ _ _ _ _ _
   | exact ih3 _ _ _ _ _ _ _ _ _ _ _ _ _ _ _
   | exact ih4 _ _ _ _ _ _ _ _ _ _ _ _ _ _
   | exact circ_Check.mono _ _ _ _ _
   | exact tune_moved.mono _ _ _ _ _ _
   | exact LeO.none _
   | refine LeO.ite ?_ ?_
   | refine LeO.bind ?_ (fun _ => ?_)
  ·intro y0 y1 y2 y3 y4 y5 y6 y7 y8 y9 y10 y11 y12 y13
   unfold tune_Share.j4
   repeat' first
   | (with_reducible exact ih0 _ _ _ _ _ _ _ _ _)
   | (with_reducible exact ih1 _ _ _ _ _ _ _ _ _ _ _ _ _ _ _)
   | (with_reducible exact ih2 _ _ _ _ _ _ _ _ _ _ _ _ _ _)
   | (with_reducible exact ih3 _ _ _ _ _ _ _ _ _ _ _ _ _ _ _)
   | (with_reducible exact ih4 _ _ _ _ _ _ _ _ _ _ _ _ _ _)
   | (with_reducible exact circ_Check.mono _ _ _ _ _)
   | (with_reducible exact tune_moved.mono _ _ _ _ _ _)
   | (with_reducible exact LeO.refl _)
   | (with_reducible exact LeO.none _)
   | (with_reducible refine LeO.ite ?_ ?_)
   | (with_reducible refine LeO.bind ?_ (fun _ => ?_))
   | exact ih0 _ _ _ _ _ _ _ _ _
   | exact ih1 _ _ _ _ _ _ _ _ _ _ _ _ _ _ _
   | exact ih2 _ _ _ _ _ _ _ _ _ _ _ _ _ _
   | exact ih3 _ _ _ _ _ _ _ _ _ _ _ _ _ _ _
   | exact ih4 _ _ _ _ _ _ _ _ _ _ _ _ _ _
   | exact circ_Check.mono _ _ _ _ _
   | exact tune_moved.mono _ _ _ _ _ _
   | exact LeO.none _
   | refine LeO.ite ?_ ?_
   | refine LeO.bind ?_ (fun _ => ?_)
theorem tune_Share.mono : ∀ a0 a1 a2 a3 k, LeO (tune_Share.f k a0 a1 a2 a3) (tune_Share.f (k + 1) a0 a1 a2 a3) := by
 intro a0 a1 a2 a3 k;obtain ⟨ih0, ih1, ih2, ih3, ih4⟩ := tune_Share.mono_l k;unfold tune_Share.f
 repeat' first
   | (with_reducible exact ih0 _ _ _ _ _ _ _ _ _)
   | (with_reducible exact ih1 _ _ _ _ _ _ _ _ _ _ _ _ _ _ _)
   | (with_reducible exact ih2 _ _ _ _ _ _ _ _ _ _ _ _ _ _)
   | (with_reducible exact ih3 _ _ _ _ _ _ _ _ _ _ _ _ _ _ _)
   | (with_reducible exact ih4 _ _ _ _ _ _ _ _ _ _ _ _ _ _)
   | (with_reducible exact circ_Check.mono _ _ _ _ _)
   | (with_reducible exact tune_moved.mono _ _ _ _ _ _)
   | (with_reducible exact LeO.refl _)
   | (with_reducible exact LeO.none _)
   | (with_reducible refine LeO.ite ?_ ?_)
   | (with_reducible refine LeO.bind ?_ (fun _ => ?_))
   | exact ih0 _ _ _ _ _ _ _ _ _
   | exact ih1 _ _ _ _ _ _ _ _ _ _ _ _ _ _ _
   | exact ih2 _ _ _ _ _ _ _ _ _ _ _ _ _ _
   | exact ih3 _ _ _ _ _ _ _ _ _ _ _ _ _ _ _
   | exact ih4 _ _ _ _ _ _ _ _ _ _ _ _ _ _
   | exact circ_Check.mono _ _ _ _ _
   | exact tune_moved.mono _ _ _ _ _ _
   | exact LeO.none _
   | refine LeO.ite ?_ ?_
   | refine LeO.bind ?_ (fun _ => ?_)
def tune_Share.T4 : Bool × List (List Nat × List Nat) := (true, [([], []), ([], []), ([1], [1]), ([2], [2]), ([3, 3], [3]), ([], []), ([0, 0, 5], [0]), ([5, 4, 6, 0, 1, 2, 3, 4, 5, 6], [4, 5])])
def tune_Share.B4 : List Nat := [0, 0, 2, 6, 14, 0, 33, 127]
theorem tune_Share.tab4 : rtab .any (opsOf Try.f20 4) = tune_Share.T4 := by kernel_rfl
theorem tune_Share.bits4 : waitsOk tune_Share.T4.2 tune_Share.B4 = true := by kernel_rfl
theorem tune_Share.calls (k : Nat) (a0 : Int) (aM : Option Addr) (aN : Nat) (aE : List (S64)) (bc : Option Addr) (aQ : Nat) (ag : List (S61)) (aR : Option Addr) (aT : Nat) (aG : List (S66)) (r1 : List (S64)) (r2 : List (S61)) (r3 : List (S66)) (r4 : Int) (w : World) (cq : Kd.C k64 w aM aE.length aE) (cr : aE.length ≤ aN) (ct : Kd.C k61 w bc ag.length ag) (cu : ag.length ≤ aQ) (cv : Kd.C k66 w aR aG.length aG) (cw : aG.length ≤ aT) (h : tune_Share.f k a0 aE ag aG = some (r1, r2, r3, r4)) :
  Calls Try.prog 20 #[.int .u64 a0, .agg #[.slice aM aE.length aN, .slice bc ag.length aQ, .slice aR aG.length aT]] w fun e w' => ∃ v0_ v1_ v2_ : Value, e = .returned (.tuple #[.agg #[v0_, v1_, v2_], .int .i64 r4]) ∧ Kd.R k64 64 w' w.heap.size (fun _ => True) v0_ r1 ∧ Kd.R k61 61 w' w.heap.size (fun _ => True) v1_ r2 ∧ Kd.S k66 66 w' w.heap.size (fun _ => True) v2_ r3 ∧ Below w.heap.size w w' := by
 have hu26 := Try.underlying26;have hu64 := Try.underlying64;have hu61 := Try.underlying61;have cb := Aside0.mk cq;have cc := Aside0.mk cr;clear cq cr;have bR := Aside0.mk ct;have cd := Aside0.mk cu;clear ct cu;have ce := Aside0.mk cv;have cf := Aside0.mk cw;clear cv cw;have HB := Aside0.mk (Below.refl w.heap.size w);have H : ((circ_Check.f k a0 aE ag aG).bind fun bW => (if bW = 0 then (if 0 ≤ (ag.length : Int) then (if ((ag.length : Int) : Int).toNat ≤ 35184372088832 then (tune_Share.l0 k ag (ag.length : Int) 0 aE ag aG [] false (List.replicate ((ag.length : Int) : Int).toNat 0)) else (none)) else (none)) else (some (([] : List (S64)), ([] : List (S61)), ([] : List (S66)), bW)))) = some (r1, r2, r3, r4) := h;clear h;replace H := Option.bind_eq_some_iff.mp H;obtain ⟨bW, A30, H⟩ := H;(try dsimp only at H);have A3 := Aside0.mk A30;clear A30
 by_cases c4 : bW = 0
 rotate_left
 ·rw [if_neg c4] at H
  have dI := beq_eq_false_iff_ne.mpr c4;have dJ := bne_iff_ne.mpr c4;simp only [Option.some.injEq, Prod.mk.injEq] at H;obtain ⟨rfl, rfl, rfl, rfl⟩ := H;go_enter Try.func20, Try.ntmps20;go_wp2_with (first | ((with_reducible refine gate_dst (N := 3) rfl ?_); refine box_event ?hg (N := 3) ?hd (cs := #[.slice aM aE.length aN, .slice bc ag.length aQ, .slice aR aG.length aT]) (t := 26) ?hr ?_; (case hd => rfl); (case hg => rfl); (case hr => first | (go_simp; done) | (go_simp; rfl)); intro ah hg gZ hbox hb; have aa := am hbox; have db := kG HB hg; have dc := kG HB hg; replace HB := kH HB hb; clear hb hbox hg) | ((with_reducible refine gate_dst (N := 4) rfl ?_); refine box_event ?hg (N := 4) ?hd (cs := #[.slice none 0 0, .slice none 0 0, .slice none 0 0]) (t := 26) ?hr ?_; (case hd => rfl); (case hg => rfl); (case hr => first | (go_simp; done) | (go_simp; rfl)); intro aj hg ha hbox hb; have ae := am hbox; have dd := kG HB hg; have bS := kG HB hg; replace HB := kH HB hb; have bm := kP aa hg; have bn := kQ aa hg; replace aa := kU aa hb; clear hb hbox hg; have dK := bm.out; have dL := bn.out; have hv := kz3 aa) | ((with_reducible refine gate_callee (f := 37) rfl ?_); refine goesL_ (some 15) rfl rfl Try.func37 (by kernel_rfl) rfl #[.int .u64 a0, .agg #[.slice aM aE.length aN, .slice bc ag.length aQ, .slice aR aG.length aT]] rfl (by (try simp only [qM1, qM2, qM3]); first | done | rfl) ?_; (with_reducible refine (circ_Check.calls k a0 _ _ aE _ _ ag _ _ aG bW _ ?side1 ?side2 ?side3 ?side4 ?side5 ?side6 A3.out).mono ?_); (case side1 => repeat (first | exact (Kd.C_below cb.out HB.out) | (with_reducible first | refine Kd.C_alloc ?_ _ | refine Kd.C_drewN ?_ _ | refine Kd.C_drew ?_))); (case side2 => exact cc.out); (case side3 => repeat (first | exact (Kd.C_below bR.out HB.out) | (with_reducible first | refine Kd.C_alloc ?_ _ | refine Kd.C_drewN ?_ _ | refine Kd.C_drew ?_))); (case side4 => exact cd.out); (case side5 => repeat (first | exact (Kd.C_below ce.out HB.out) | (with_reducible first | refine Kd.C_alloc ?_ _ | refine Kd.C_drewN ?_ _ | refine Kd.C_drew ?_))); (case side6 => exact cf.out); rintro e hE ⟨rfl, hb⟩; refine ⟨_, rfl, ?_⟩; replace aa := kU aa hb; replace ae := kU ae hb; replace HB := kH HB hb; (try clear hb); (try clear hb2); (try clear hk); (try clear hi); have hF := kz3 ae));refine bodyPost_ret (results_ct rfl _ _ aj 26 #[.slice none 0 0, .slice none 0 0, .slice none 0 0] (0, 0) _ rfl (kg ae) Try.underlying26 rfl (by kernel_rfl)) rfl ?_;exact ⟨_, _, _, er, by first | exact Kd.R_nil _ _ _ _ _ | exact Kd.N_nil _ _ _ _ _ | exact Kd.V_nil _ _ _ _ _ | exact Kd.Q_nil _ _ _ _ _ | exact Kd.S_nil _ _ _ _ _, by first | exact Kd.R_nil _ _ _ _ _ | exact Kd.N_nil _ _ _ _ _ | exact Kd.V_nil _ _ _ _ _ | exact Kd.Q_nil _ _ _ _ _ | exact Kd.S_nil _ _ _ _ _, by first | exact Kd.S_nil _ _ _ _ _ | exact Kd.N_nil _ _ _ _ _ | exact Kd.V_nil _ _ _ _ _ | exact Kd.Q_nil _ _ _ _ _ | exact Kd.R_nil _ _ _ _ _, kh HB⟩
 rw [if_pos c4] at H;have dI := beq_iff_eq.mpr c4;have dJ := bne_eq_false_iff_eq.mpr c4;clear c4
 by_cases c5 : 0 ≤ (ag.length : Int)
 rotate_left
 ·rw [if_neg c5] at H
  exact absurd H (by simp)
 rw [if_pos c5] at H;have hG := eq_true c5;have hH := decide_eq_true c5;clear c5
 by_cases c6 : ((ag.length : Int) : Int).toNat ≤ 35184372088832
 rotate_left
 ·rw [if_neg c6] at H
  exact absurd H (by simp)
 rw [if_pos c6] at H;have hJ := eq_true c6;have hL := decide_eq_true c6;clear c6;obtain ⟨bp, bC⟩ : ∃ y_ : List Int, y_ = (List.replicate ((ag.length : Int) : Int).toNat 0) := ⟨_, rfl⟩
 replace H : (tune_Share.l0 k ag (ag.length : Int) 0 aE ag aG [] false bp) = some (r1, r2, r3, r4) := by first | (rw [bC]; with_reducible exact H) | (have H2_ := (Option.bind_some _ _).symm.trans H; rw [bC]; with_reducible exact H2_) | (have H2_ := (Option.bind_some _ _).symm.trans H; with_reducible exact H2_) | with_reducible exact H | (rw [bC]; exact H) | exact H
 have bo := Aside0.mk bC;clear bC;have H' := Aside0.mk H;clear H;go_enter Try.func20, Try.ntmps20;(try go_wp2_with (first | ((with_reducible refine gate_dst (N := 3) rfl ?_); refine box_event ?hg (N := 3) ?hd (cs := #[.slice aM aE.length aN, .slice bc ag.length aQ, .slice aR aG.length aT]) (t := 26) ?hr ?_; (case hd => rfl); (case hg => rfl); (case hr => first | (go_simp; done) | (go_simp; rfl)); intro ah hg w7 hbox hb; have aa := am hbox; have db := kG HB hg; have dc := kG HB hg; replace HB := kH HB hb; clear hb hbox hg) | ((with_reducible refine gate_dst (N := 4) rfl ?_); refine box_event ?hg (N := 4) ?hd (cs := #[.slice none 0 0, .slice none 0 0, .slice none 0 0]) (t := 26) ?hr ?_; (case hd => rfl); (case hg => rfl); (case hr => first | (go_simp; done) | (go_simp; rfl)); intro aj hg w8 hbox hb; have ae := am hbox; have dd := kG HB hg; have bS := kG HB hg; replace HB := kH HB hb; have bm := kP aa hg; have bn := kQ aa hg; replace aa := kU aa hb; clear hb hbox hg; have hM := bm.out; have hO := bn.out; have Z10 := kz3 aa) | ((with_reducible refine gate_callee (f := 37) rfl ?_); refine goesL_ (some 15) rfl rfl Try.func37 (by kernel_rfl) rfl #[.int .u64 a0, .agg #[.slice aM aE.length aN, .slice bc ag.length aQ, .slice aR aG.length aT]] rfl (by (try simp only [qM1, qM2, qM3]); first | done | rfl) ?_; (with_reducible refine (circ_Check.calls k a0 _ _ aE _ _ ag _ _ aG bW _ ?side1 ?side2 ?side3 ?side4 ?side5 ?side6 A3.out).mono ?_); (case side1 => repeat (first | exact (Kd.C_below cb.out HB.out) | (with_reducible first | refine Kd.C_alloc ?_ _ | refine Kd.C_drewN ?_ _ | refine Kd.C_drew ?_))); (case side2 => exact cc.out); (case side3 => repeat (first | exact (Kd.C_below bR.out HB.out) | (with_reducible first | refine Kd.C_alloc ?_ _ | refine Kd.C_drewN ?_ _ | refine Kd.C_drew ?_))); (case side4 => exact cd.out); (case side5 => repeat (first | exact (Kd.C_below ce.out HB.out) | (with_reducible first | refine Kd.C_alloc ?_ _ | refine Kd.C_drewN ?_ _ | refine Kd.C_drew ?_))); (case side6 => exact cf.out); rintro e w11 ⟨rfl, hb⟩; refine ⟨_, rfl, ?_⟩; replace aa := kU aa hb; replace ae := kU ae hb; replace HB := kH HB hb; (try clear hb); (try clear hb2); (try clear hk); (try clear hi))));replace aa := kD aa; replace ae := kD ae; replace HB := kE HB;refine start_ (n := 8) (S := fun w' => w'.cell? ⟨ah, 0, none⟩ = some (.slice aM aE.length aN) ∧ w'.cell? ⟨ah, 1, none⟩ = some (.slice bc ag.length aQ) ∧ w'.cell? ⟨ah, 2, none⟩ = some (.slice aR aG.length aT)) (ds := []) (bs 8 0) (by kernel_rfl) rfl rfl ⟨kk aa 0, kk aa 1, kk aa 2⟩ (fun hHeld => ?_); refine with_tabW tune_Share.tab4 tune_Share.bits4 (fun HT_ HW_ => ?_);generalize w11.drew = w12 at aa ae HB hHeld ⊢;refine pu 1 (some 21) (bs 8 2) HT_ ?_;refine ta 2 (some 22) (bs 8 6) HT_ HW_ hHeld ?_;refine pu 3 (some 23) (bs 8 14) HT_ ?_;refine join_ (σ := Nat × Value × Nat) 1 (bs 8 127) (fun s_ => [(20, .map (some s_.1)), (24, s_.2.1), (8, .pointer (some ⟨s_.2.2, 0, none⟩)), (7, .map (some s_.1))]) (fun s_ w' => (w'.cell? ⟨ah, 0, none⟩ = some (.slice aM aE.length aN) ∧ w'.cell? ⟨ah, 1, none⟩ = some (.slice bc ag.length aQ) ∧ w'.cell? ⟨ah, 2, none⟩ = some (.slice aR aG.length aT)) ∧ (Kd.R (Kd.int .i64) 3 w' w.heap.size (fun _ => True) s_.2.1 bp) ∧ (w'.heap[ah]? = some (.cells #[.slice aM aE.length aN, .slice bc ag.length aQ, .slice aR aG.length aT] 26 (0, 0))) ∧ (w'.heap[aj]? = some (.cells #[.slice none 0 0, .slice none 0 0, .slice none 0 0] 26 (0, 0))) ∧ (w'.heap[s_.1]? = some ((tune_Share.obj []))) ∧ (w'.heap[s_.2.2]? = some (.cells #[.slice none 0 0] 27 (0, 0))) ∧ (w.heap.size ≤ s_.1) ∧ (w.heap.size ≤ s_.1) ∧ (ah ≠ s_.1) ∧ (s_.1 ≠ ah) ∧ (aj ≠ s_.1) ∧ (s_.1 ≠ aj) ∧ (s_.2.2 ≠ s_.1) ∧ (s_.1 ≠ s_.2.2) ∧ (w.heap.size ≤ s_.2.2) ∧ (w.heap.size ≤ s_.2.2) ∧ (ah ≠ s_.2.2) ∧ (s_.2.2 ≠ ah) ∧ (aj ≠ s_.2.2) ∧ (s_.2.2 ≠ aj) ∧ (Below w.heap.size w w')) ?_ ?_
 rotate_left
 ·intro hJ0_4_5
  refine join_ (σ := Nat × Value) 3 (bs 8 31) (fun s_ => [(20, .map (some s_.1)), (24, s_.2)]) (fun s_ w' => (w'.cell? ⟨ah, 0, none⟩ = some (.slice aM aE.length aN) ∧ w'.cell? ⟨ah, 1, none⟩ = some (.slice bc ag.length aQ) ∧ w'.cell? ⟨ah, 2, none⟩ = some (.slice aR aG.length aT)) ∧ (Kd.R (Kd.int .i64) 3 w' w.heap.size (fun _ => True) s_.2 bp) ∧ (w'.heap[ah]? = some (.cells #[.slice aM aE.length aN, .slice bc ag.length aQ, .slice aR aG.length aT] 26 (0, 0))) ∧ (w'.heap[aj]? = some (.cells #[.slice none 0 0, .slice none 0 0, .slice none 0 0] 26 (0, 0))) ∧ (w'.heap[s_.1]? = some ((tune_Share.obj []))) ∧ (w.heap.size ≤ s_.1) ∧ (w.heap.size ≤ s_.1) ∧ (ah ≠ s_.1) ∧ (s_.1 ≠ ah) ∧ (aj ≠ s_.1) ∧ (s_.1 ≠ aj) ∧ (Below w.heap.size w w')) ?_ ?_
  rotate_left
  ·intro hJ0_4
   refine join_ (σ := Nat × Nat) 2 (bs 8 111) (fun s_ => [(20, .map (some s_.1)), (8, .pointer (some ⟨s_.2, 0, none⟩)), (7, .map (some s_.1))]) (fun s_ w' => (w'.cell? ⟨ah, 0, none⟩ = some (.slice aM aE.length aN) ∧ w'.cell? ⟨ah, 1, none⟩ = some (.slice bc ag.length aQ) ∧ w'.cell? ⟨ah, 2, none⟩ = some (.slice aR aG.length aT)) ∧ (w'.heap[ah]? = some (.cells #[.slice aM aE.length aN, .slice bc ag.length aQ, .slice aR aG.length aT] 26 (0, 0))) ∧ (w'.heap[aj]? = some (.cells #[.slice none 0 0, .slice none 0 0, .slice none 0 0] 26 (0, 0))) ∧ (w'.heap[s_.1]? = some ((tune_Share.obj []))) ∧ (w'.heap[s_.2]? = some (.cells #[.slice none 0 0] 27 (0, 0))) ∧ (w.heap.size ≤ s_.1) ∧ (w.heap.size ≤ s_.1) ∧ (ah ≠ s_.1) ∧ (s_.1 ≠ ah) ∧ (aj ≠ s_.1) ∧ (s_.1 ≠ aj) ∧ (s_.2 ≠ s_.1) ∧ (s_.1 ≠ s_.2) ∧ (w.heap.size ≤ s_.2) ∧ (w.heap.size ≤ s_.2) ∧ (ah ≠ s_.2) ∧ (s_.2 ≠ ah) ∧ (aj ≠ s_.2) ∧ (s_.2 ≠ aj) ∧ (Below w.heap.size w w')) ?_ ?_
   rotate_left
   ·intro hJ0_5
    refine join_ (σ := Value × Nat) 3 (bs 8 62) (fun s_ => [(24, s_.1), (8, .pointer (some ⟨s_.2, 0, none⟩))]) (fun s_ w' => (w'.cell? ⟨ah, 0, none⟩ = some (.slice aM aE.length aN) ∧ w'.cell? ⟨ah, 1, none⟩ = some (.slice bc ag.length aQ) ∧ w'.cell? ⟨ah, 2, none⟩ = some (.slice aR aG.length aT)) ∧ (Kd.R (Kd.int .i64) 3 w' w.heap.size (fun _ => True) s_.1 bp) ∧ (w'.heap[ah]? = some (.cells #[.slice aM aE.length aN, .slice bc ag.length aQ, .slice aR aG.length aT] 26 (0, 0))) ∧ (w'.heap[aj]? = some (.cells #[.slice none 0 0, .slice none 0 0, .slice none 0 0] 26 (0, 0))) ∧ (w'.heap[s_.2]? = some (.cells #[.slice none 0 0] 27 (0, 0))) ∧ (w.heap.size ≤ s_.2) ∧ (w.heap.size ≤ s_.2) ∧ (ah ≠ s_.2) ∧ (s_.2 ≠ ah) ∧ (aj ≠ s_.2) ∧ (s_.2 ≠ aj) ∧ (Below w.heap.size w w')) ?_ ?_
    rotate_left
    ·intro hJ4_5
     refine join_ (σ := Nat) 4 (bs 8 15) (fun s_ => [(20, .map (some s_))]) (fun s_ w' => (w'.cell? ⟨ah, 0, none⟩ = some (.slice aM aE.length aN) ∧ w'.cell? ⟨ah, 1, none⟩ = some (.slice bc ag.length aQ) ∧ w'.cell? ⟨ah, 2, none⟩ = some (.slice aR aG.length aT)) ∧ (w'.heap[ah]? = some (.cells #[.slice aM aE.length aN, .slice bc ag.length aQ, .slice aR aG.length aT] 26 (0, 0))) ∧ (w'.heap[aj]? = some (.cells #[.slice none 0 0, .slice none 0 0, .slice none 0 0] 26 (0, 0))) ∧ (w'.heap[s_]? = some ((tune_Share.obj []))) ∧ (w.heap.size ≤ s_) ∧ (w.heap.size ≤ s_) ∧ (ah ≠ s_) ∧ (s_ ≠ ah) ∧ (aj ≠ s_) ∧ (s_ ≠ aj) ∧ (Below w.heap.size w w')) ?_ ?_
     rotate_left
     ·intro hJ0
      refine join_ (σ := Value) 4 (bs 8 30) (fun s_ => [(24, s_)]) (fun s_ w' => (w'.cell? ⟨ah, 0, none⟩ = some (.slice aM aE.length aN) ∧ w'.cell? ⟨ah, 1, none⟩ = some (.slice bc ag.length aQ) ∧ w'.cell? ⟨ah, 2, none⟩ = some (.slice aR aG.length aT)) ∧ (Kd.R (Kd.int .i64) 3 w' w.heap.size (fun _ => True) s_ bp) ∧ (w'.heap[ah]? = some (.cells #[.slice aM aE.length aN, .slice bc ag.length aQ, .slice aR aG.length aT] 26 (0, 0))) ∧ (w'.heap[aj]? = some (.cells #[.slice none 0 0, .slice none 0 0, .slice none 0 0] 26 (0, 0))) ∧ (Below w.heap.size w w')) ?_ ?_
      rotate_left
      ·intro hJ4
       refine join_ (σ := Nat) 4 (bs 8 46) (fun s_ => [(8, .pointer (some ⟨s_, 0, none⟩))]) (fun s_ w' => (w'.cell? ⟨ah, 0, none⟩ = some (.slice aM aE.length aN) ∧ w'.cell? ⟨ah, 1, none⟩ = some (.slice bc ag.length aQ) ∧ w'.cell? ⟨ah, 2, none⟩ = some (.slice aR aG.length aT)) ∧ (w'.heap[ah]? = some (.cells #[.slice aM aE.length aN, .slice bc ag.length aQ, .slice aR aG.length aT] 26 (0, 0))) ∧ (w'.heap[aj]? = some (.cells #[.slice none 0 0, .slice none 0 0, .slice none 0 0] 26 (0, 0))) ∧ (w'.heap[s_]? = some (.cells #[.slice none 0 0] 27 (0, 0))) ∧ (w.heap.size ≤ s_) ∧ (w.heap.size ≤ s_) ∧ (ah ≠ s_) ∧ (s_ ≠ ah) ∧ (aj ≠ s_) ∧ (s_ ≠ aj) ∧ (Below w.heap.size w w')) ?_ ?_
       rotate_left
       ·intro hJ5
        refine three_ (i := 0) (j := 4) (k := 5) (Ni := some 20) (Nj := some 24) (Nk := some 8) (bs 8 15) (bs 8 30) (bs 8 46) rfl rfl rfl rfl rfl rfl (three_of HT_.out (by kernel_rfl)) (by decide) (by decide) (by decide) (fun K hK => ?_) (fun K hK => ?_) (fun K hK => ?_)
        ·skip
         refine tune_Share.map_step ?hg (N := 20) ?hd ?hr ?_; (case hd => rfl); (case hg => rfl); (case hr => first | (go_simp; done) | (go_simp; rfl));intro ap hg w13 hbox hb;have an := am hbox; have bi := kG HB hg; have bh := kG HB hg; replace HB := kH HB hb; have aw := kP aa hg; have ax := kQ aa hg; replace aa := kU aa hb; have ay := kP ae hg; have aA := kQ ae hg; replace ae := kU ae hb;clear hb hbox hg;refine hK.out _ _ ⟨kk aa 0, kk aa 1, kk aa 2⟩ (fun hHeld => ?_);clear hK K;refine no (some 20) ?_;exact norm_ (by first | (simp only [putAll, Act.put, qS1, qS2, qS3]; done) | (simp only [putAll, Act.put, qS1, qS2, qS3]; rfl)) (hJ0 (ap) _ ⟨hHeld, (kb aa), (kb ae), (kb an), bi.out, bh.out, aw.out, ax.out, ay.out, aA.out, (kh HB)⟩)
        ·skip
         refine Kd.R_make_step (Kd.int .i64) _ 3 (by rfl) (N := 24) rfl 27 _ _ rfl (ag.length : Int) rfl rfl Try.underlying27 (.int .i64 0) 8 info3 rfl (by decide) (by omega) 0 (ok := fun _ => True) (okp := fun _ => True) rfl (fun _ hk => hk) trivial od (Nat.le_trans (Nat.mul_le_mul_right _ (od : (ag.length : Int).toNat ≤ 35184372088832)) (by omega)) (Below.refl _ _) (Nat.le_refl _) ?_;intro bl w13 ho14 hb hg_ hnew_;clear hg_ hnew_;(first | rw [← bo.out] at ho14 | (simp only [Int.reduceToNat] at ho14; rw [← bo.out] at ho14));have bb := kLR ho14 HB; replace aa := kU aa hb; replace ae := kU ae hb; replace HB := kH HB hb;clear hb ho14;refine hK.out _ _ ⟨kk aa 0, kk aa 1, kk aa 2⟩ (fun hHeld => ?_);clear hK K;refine no (some 24) ?_;exact norm_ (by first | (simp only [putAll, Act.put, qS1, qS2, qS3]; done) | (simp only [putAll, Act.put, qS1, qS2, qS3]; rfl)) (hJ4 (bl) _ ⟨hHeld, (krR bb), (kb aa), (kb ae), (kh HB)⟩)
        ·skip
         refine box_step ?hg (N := 8) ?hd (cs := #[.slice none 0 0]) (t := 27) ?hr ?_; (case hd => rfl); (case hg => rfl); (case hr => first | (go_simp; done) | (go_simp; rfl));intro ao hg w13 hbox hb;have ak := am hbox; have bj := kG HB hg; have bk := kG HB hg; replace HB := kH HB hb; have aq := kP aa hg; have ar := kQ aa hg; replace aa := kU aa hb; have au := kP ae hg; have av := kQ ae hg; replace ae := kU ae hb;clear hb hbox hg;refine hK.out _ _ ⟨kk aa 0, kk aa 1, kk aa 2⟩ (fun hHeld => ?_);clear hK K;refine no (some 8) ?_;exact norm_ (by first | (simp only [putAll, Act.put, qS1, qS2, qS3]; done) | (simp only [putAll, Act.put, qS1, qS2, qS3]; rfl)) (hJ5 (ao) _ ⟨hHeld, (kb aa), (kb ae), (kb ak), bj.out, bk.out, aq.out, ar.out, au.out, av.out, (kh HB)⟩)
       ·skip
        rintro ao w14 ⟨hS_, h0_, h1_, h2_, h3_, h4_, h5_, h6_, h7_, h8_, h9_⟩;replace aa : Aside0 (w14.heap[ah]? = some (.cells #[.slice aM aE.length aN, .slice bc ag.length aQ, .slice aR aG.length aT] 26 (0, 0))) := ⟨h0_⟩; replace ae : Aside0 (w14.heap[aj]? = some (.cells #[.slice none 0 0, .slice none 0 0, .slice none 0 0] 26 (0, 0))) := ⟨h1_⟩; have ak : Aside0 (w14.heap[ao]? = some (.cells #[.slice none 0 0] 27 (0, 0))) := ⟨h2_⟩; have bj : Aside0 (w.heap.size ≤ ao) := ⟨h3_⟩; have bk : Aside0 (w.heap.size ≤ ao) := ⟨h4_⟩; have aq : Aside0 (ah ≠ ao) := ⟨h5_⟩; have ar : Aside0 (ao ≠ ah) := ⟨h6_⟩; have au : Aside0 (aj ≠ ao) := ⟨h7_⟩; have av : Aside0 (ao ≠ aj) := ⟨h8_⟩; replace HB : Aside0 (Below w.heap.size w w14) := ⟨h9_⟩; clear h0_ h1_ h2_ h3_ h4_ h5_ h6_ h7_ h8_ h9_;have hHeld : w14.cell? ⟨ah, 0, none⟩ = some (.slice aM aE.length aN) ∧ w14.cell? ⟨ah, 1, none⟩ = some (.slice bc ag.length aQ) ∧ w14.cell? ⟨ah, 2, none⟩ = some (.slice aR aG.length aT) := hS_;refine norm_ (a' := ?_) ?_ ?_
        rotate_left
        ·simp only [putAll, Act.put, qS1, qS2, qS3]
         rfl
        refine two_ (i := 0) (j := 4) (Ni := some 20) (Nj := some 24) (bs 8 47) (bs 8 62) rfl rfl rfl rfl (two_of HT_.out (by kernel_rfl)) (by decide) (by decide) (fun K hK => ?_) (fun K hK => ?_)
        ·skip
         refine tune_Share.map_step ?hg (N := 20) ?hd ?hr ?_; (case hd => rfl); (case hg => rfl); (case hr => first | (go_simp; done) | (go_simp; rfl));intro ap hg w15 hbox hb;have an := am hbox; have bi := kG HB hg; have bh := kG HB hg; replace HB := kH HB hb; have aw := kP aa hg; have ax := kQ aa hg; replace aa := kU aa hb; have ay := kP ae hg; have aA := kQ ae hg; replace ae := kU ae hb; have aD := kP ak hg; have aH := kQ ak hg; replace ak := kU ak hb;clear hb hbox hg;refine hK.out _ _ ⟨kk aa 0, kk aa 1, kk aa 2⟩ (fun hHeld => ?_);clear hK K;refine no (some 20) ?_;refine pu 6 (some 7) (bs 8 111) HT_ ?_;exact norm_ (by first | (simp only [putAll, Act.put, qS1, qS2, qS3]; done) | (simp only [putAll, Act.put, qS1, qS2, qS3]; rfl)) (hJ0_5 (ap, ao) _ ⟨hHeld, (kb aa), (kb ae), (kb an), (kb ak), bi.out, bh.out, aw.out, ax.out, ay.out, aA.out, aD.out, aH.out, bj.out, bk.out, aq.out, ar.out, au.out, av.out, (kh HB)⟩)
        ·skip
         refine Kd.R_make_step (Kd.int .i64) _ 3 (by rfl) (N := 24) rfl 27 _ _ rfl (ag.length : Int) rfl rfl Try.underlying27 (.int .i64 0) 8 info3 rfl (by decide) (by omega) 0 (ok := fun _ => True) (okp := fun _ => True) rfl (fun _ hk => hk) trivial od (Nat.le_trans (Nat.mul_le_mul_right _ (od : (ag.length : Int).toNat ≤ 35184372088832)) (by omega)) (Below.refl _ _) (Nat.le_refl _) ?_;intro bl w15 ho16 hb hg_ hnew_;clear hg_ hnew_;(first | rw [← bo.out] at ho16 | (simp only [Int.reduceToNat] at ho16; rw [← bo.out] at ho16));have bb := kLR ho16 HB; replace aa := kU aa hb; replace ae := kU ae hb; replace ak := kU ak hb; replace HB := kH HB hb;clear hb ho16;refine hK.out _ _ ⟨kk aa 0, kk aa 1, kk aa 2⟩ (fun hHeld => ?_);clear hK K;refine no (some 24) ?_;exact norm_ (by first | (simp only [putAll, Act.put, qS1, qS2, qS3]; done) | (simp only [putAll, Act.put, qS1, qS2, qS3]; rfl)) (hJ4_5 (bl, ao) _ ⟨hHeld, (krR bb), (kb aa), (kb ae), (kb ak), bj.out, bk.out, aq.out, ar.out, au.out, av.out, (kh HB)⟩)
      ·skip
       rintro bl w15 ⟨hS_, h0_, h1_, h2_, h3_⟩;have bb : Aside0 (Kd.R (Kd.int .i64) 3 w15 w.heap.size (fun _ => True) bl bp) := ⟨h0_⟩; replace aa : Aside0 (w15.heap[ah]? = some (.cells #[.slice aM aE.length aN, .slice bc ag.length aQ, .slice aR aG.length aT] 26 (0, 0))) := ⟨h1_⟩; replace ae : Aside0 (w15.heap[aj]? = some (.cells #[.slice none 0 0, .slice none 0 0, .slice none 0 0] 26 (0, 0))) := ⟨h2_⟩; replace HB : Aside0 (Below w.heap.size w w15) := ⟨h3_⟩; clear h0_ h1_ h2_ h3_;have hHeld : w15.cell? ⟨ah, 0, none⟩ = some (.slice aM aE.length aN) ∧ w15.cell? ⟨ah, 1, none⟩ = some (.slice bc ag.length aQ) ∧ w15.cell? ⟨ah, 2, none⟩ = some (.slice aR aG.length aT) := hS_;refine norm_ (a' := ?_) ?_ ?_
       rotate_left
       ·simp only [putAll, Act.put, qS1, qS2, qS3]
        rfl
       refine two_ (i := 0) (j := 5) (Ni := some 20) (Nj := some 8) (bs 8 31) (bs 8 62) rfl rfl rfl rfl (two_of HT_.out (by kernel_rfl)) (by decide) (by decide) (fun K hK => ?_) (fun K hK => ?_)
       ·skip
        refine tune_Share.map_step ?hg (N := 20) ?hd ?hr ?_; (case hd => rfl); (case hg => rfl); (case hr => first | (go_simp; done) | (go_simp; rfl));intro ap hg w16 hbox hb;replace bb := kR bb hb; have an := am hbox; have bi := kG HB hg; have bh := kG HB hg; replace HB := kH HB hb; have aw := kP aa hg; have ax := kQ aa hg; replace aa := kU aa hb; have ay := kP ae hg; have aA := kQ ae hg; replace ae := kU ae hb;clear hb hbox hg;refine hK.out _ _ ⟨kk aa 0, kk aa 1, kk aa 2⟩ (fun hHeld => ?_);clear hK K;refine no (some 20) ?_;exact norm_ (by first | (simp only [putAll, Act.put, qS1, qS2, qS3]; done) | (simp only [putAll, Act.put, qS1, qS2, qS3]; rfl)) (hJ0_4 (ap, bl) _ ⟨hHeld, (krR bb), (kb aa), (kb ae), (kb an), bi.out, bh.out, aw.out, ax.out, ay.out, aA.out, (kh HB)⟩)
       ·skip
        refine box_step ?hg (N := 8) ?hd (cs := #[.slice none 0 0]) (t := 27) ?hr ?_; (case hd => rfl); (case hg => rfl); (case hr => first | (go_simp; done) | (go_simp; rfl));intro ao hg w16 hbox hb;replace bb := kR bb hb; have ak := am hbox; have bj := kG HB hg; have bk := kG HB hg; replace HB := kH HB hb; have aq := kP aa hg; have ar := kQ aa hg; replace aa := kU aa hb; have au := kP ae hg; have av := kQ ae hg; replace ae := kU ae hb;clear hb hbox hg;refine hK.out _ _ ⟨kk aa 0, kk aa 1, kk aa 2⟩ (fun hHeld => ?_);clear hK K;refine no (some 8) ?_;exact norm_ (by first | (simp only [putAll, Act.put, qS1, qS2, qS3]; done) | (simp only [putAll, Act.put, qS1, qS2, qS3]; rfl)) (hJ4_5 (bl, ao) _ ⟨hHeld, (krR bb), (kb aa), (kb ae), (kb ak), bj.out, bk.out, aq.out, ar.out, au.out, av.out, (kh HB)⟩)
     ·skip
      rintro ap w14 ⟨hS_, h0_, h1_, h2_, h3_, h4_, h5_, h6_, h7_, h8_, h9_⟩;replace aa : Aside0 (w14.heap[ah]? = some (.cells #[.slice aM aE.length aN, .slice bc ag.length aQ, .slice aR aG.length aT] 26 (0, 0))) := ⟨h0_⟩; replace ae : Aside0 (w14.heap[aj]? = some (.cells #[.slice none 0 0, .slice none 0 0, .slice none 0 0] 26 (0, 0))) := ⟨h1_⟩; have an : Aside0 (w14.heap[ap]? = some ((tune_Share.obj []))) := ⟨h2_⟩; have bi : Aside0 (w.heap.size ≤ ap) := ⟨h3_⟩; have bh : Aside0 (w.heap.size ≤ ap) := ⟨h4_⟩; have aw : Aside0 (ah ≠ ap) := ⟨h5_⟩; have ax : Aside0 (ap ≠ ah) := ⟨h6_⟩; have ay : Aside0 (aj ≠ ap) := ⟨h7_⟩; have aA : Aside0 (ap ≠ aj) := ⟨h8_⟩; replace HB : Aside0 (Below w.heap.size w w14) := ⟨h9_⟩; clear h0_ h1_ h2_ h3_ h4_ h5_ h6_ h7_ h8_ h9_;have hHeld : w14.cell? ⟨ah, 0, none⟩ = some (.slice aM aE.length aN) ∧ w14.cell? ⟨ah, 1, none⟩ = some (.slice bc ag.length aQ) ∧ w14.cell? ⟨ah, 2, none⟩ = some (.slice aR aG.length aT) := hS_;refine norm_ (a' := ?_) ?_ ?_
      rotate_left
      ·simp only [putAll, Act.put, qS1, qS2, qS3]
       rfl
      refine two_ (i := 4) (j := 5) (Ni := some 24) (Nj := some 8) (bs 8 31) (bs 8 47) rfl rfl rfl rfl (two_of HT_.out (by kernel_rfl)) (by decide) (by decide) (fun K hK => ?_) (fun K hK => ?_)
      ·skip
       refine Kd.R_make_step (Kd.int .i64) _ 3 (by rfl) (N := 24) rfl 27 _ _ rfl (ag.length : Int) rfl rfl Try.underlying27 (.int .i64 0) 8 info3 rfl (by decide) (by omega) 0 (ok := fun _ => True) (okp := fun _ => True) rfl (fun _ hk => hk) trivial od (Nat.le_trans (Nat.mul_le_mul_right _ (od : (ag.length : Int).toNat ≤ 35184372088832)) (by omega)) (Below.refl _ _) (Nat.le_refl _) ?_;intro bl w15 ho16 hb hg_ hnew_;clear hg_ hnew_;(first | rw [← bo.out] at ho16 | (simp only [Int.reduceToNat] at ho16; rw [← bo.out] at ho16));have bb := kLR ho16 HB; replace aa := kU aa hb; replace ae := kU ae hb; replace an := kU an hb; replace HB := kH HB hb;clear hb ho16;refine hK.out _ _ ⟨kk aa 0, kk aa 1, kk aa 2⟩ (fun hHeld => ?_);clear hK K;refine no (some 24) ?_;exact norm_ (by first | (simp only [putAll, Act.put, qS1, qS2, qS3]; done) | (simp only [putAll, Act.put, qS1, qS2, qS3]; rfl)) (hJ0_4 (ap, bl) _ ⟨hHeld, (krR bb), (kb aa), (kb ae), (kb an), bi.out, bh.out, aw.out, ax.out, ay.out, aA.out, (kh HB)⟩)
      ·skip
       refine box_step ?hg (N := 8) ?hd (cs := #[.slice none 0 0]) (t := 27) ?hr ?_; (case hd => rfl); (case hg => rfl); (case hr => first | (go_simp; done) | (go_simp; rfl));intro ao hg w15 hbox hb;have ak := am hbox; have bj := kG HB hg; have bk := kG HB hg; replace HB := kH HB hb; have aq := kP aa hg; have ar := kQ aa hg; replace aa := kU aa hb; have au := kP ae hg; have av := kQ ae hg; replace ae := kU ae hb; have aH := kP an hg; have aD := kQ an hg; replace an := kU an hb;clear hb hbox hg;refine hK.out _ _ ⟨kk aa 0, kk aa 1, kk aa 2⟩ (fun hHeld => ?_);clear hK K;refine no (some 8) ?_;refine pu 6 (some 7) (bs 8 111) HT_ ?_;exact norm_ (by first | (simp only [putAll, Act.put, qS1, qS2, qS3]; done) | (simp only [putAll, Act.put, qS1, qS2, qS3]; rfl)) (hJ0_5 (ap, ao) _ ⟨hHeld, (kb aa), (kb ae), (kb an), (kb ak), bi.out, bh.out, aw.out, ax.out, ay.out, aA.out, aD.out, aH.out, bj.out, bk.out, aq.out, ar.out, au.out, av.out, (kh HB)⟩)
    ·skip
     rintro ⟨bl, ao⟩ w16 ⟨hS_, h0_, h1_, h2_, h3_, h4_, h5_, h6_, h7_, h8_, h9_, h10_⟩;have bb : Aside0 (Kd.R (Kd.int .i64) 3 w16 w.heap.size (fun _ => True) bl bp) := ⟨h0_⟩; replace aa : Aside0 (w16.heap[ah]? = some (.cells #[.slice aM aE.length aN, .slice bc ag.length aQ, .slice aR aG.length aT] 26 (0, 0))) := ⟨h1_⟩; replace ae : Aside0 (w16.heap[aj]? = some (.cells #[.slice none 0 0, .slice none 0 0, .slice none 0 0] 26 (0, 0))) := ⟨h2_⟩; have ak : Aside0 (w16.heap[ao]? = some (.cells #[.slice none 0 0] 27 (0, 0))) := ⟨h3_⟩; have bj : Aside0 (w.heap.size ≤ ao) := ⟨h4_⟩; have bk : Aside0 (w.heap.size ≤ ao) := ⟨h5_⟩; have aq : Aside0 (ah ≠ ao) := ⟨h6_⟩; have ar : Aside0 (ao ≠ ah) := ⟨h7_⟩; have au : Aside0 (aj ≠ ao) := ⟨h8_⟩; have av : Aside0 (ao ≠ aj) := ⟨h9_⟩; replace HB : Aside0 (Below w.heap.size w w16) := ⟨h10_⟩; clear h0_ h10_ h1_ h2_ h3_ h4_ h5_ h6_ h7_ h8_ h9_;have hHeld : w16.cell? ⟨ah, 0, none⟩ = some (.slice aM aE.length aN) ∧ w16.cell? ⟨ah, 1, none⟩ = some (.slice bc ag.length aQ) ∧ w16.cell? ⟨ah, 2, none⟩ = some (.slice aR aG.length aT) := hS_;refine norm_ (a' := ?_) ?_ ?_
     rotate_left
     ·simp only [putAll, Act.put, qS1, qS2, qS3]
      rfl
     refine one_ (i := 0) (N := some 20) (bs 8 63) rfl rfl (one_of HT_.out (by kernel_rfl)) (by decide) (fun K hK => ?_);refine tune_Share.map_step ?hg (N := 20) ?hd ?hr ?_; (case hd => rfl); (case hg => rfl); (case hr => first | (go_simp; done) | (go_simp; rfl));intro ap hg w17 hbox hb;replace bb := kR bb hb; have an := am hbox; have bi := kG HB hg; have bh := kG HB hg; replace HB := kH HB hb; have aw := kP aa hg; have ax := kQ aa hg; replace aa := kU aa hb; have ay := kP ae hg; have aA := kQ ae hg; replace ae := kU ae hb; have aD := kP ak hg; have aH := kQ ak hg; replace ak := kU ak hb;clear hb hbox hg;refine hK.out _ _ ⟨kk aa 0, kk aa 1, kk aa 2⟩ (fun hHeld => ?_);clear hK K;refine no (some 20) ?_;refine pu 6 (some 7) (bs 8 127) HT_ ?_;exact norm_ (by first | (simp only [putAll, Act.put, qS1, qS2, qS3]; done) | (simp only [putAll, Act.put, qS1, qS2, qS3]; rfl)) (hJ0_4_5 (ap, bl, ao) _ ⟨hHeld, (krR bb), (kb aa), (kb ae), (kb an), (kb ak), bi.out, bh.out, aw.out, ax.out, ay.out, aA.out, aD.out, aH.out, bj.out, bk.out, aq.out, ar.out, au.out, av.out, (kh HB)⟩)
   ·skip
    rintro ⟨ap, ao⟩ w15 ⟨hS_, h0_, h1_, h2_, h3_, h4_, h5_, h6_, h7_, h8_, h9_, h10_, h11_, h12_, h13_, h14_, h15_, h16_, h17_, h18_⟩;replace aa : Aside0 (w15.heap[ah]? = some (.cells #[.slice aM aE.length aN, .slice bc ag.length aQ, .slice aR aG.length aT] 26 (0, 0))) := ⟨h0_⟩; replace ae : Aside0 (w15.heap[aj]? = some (.cells #[.slice none 0 0, .slice none 0 0, .slice none 0 0] 26 (0, 0))) := ⟨h1_⟩; have an : Aside0 (w15.heap[ap]? = some ((tune_Share.obj []))) := ⟨h2_⟩; have ak : Aside0 (w15.heap[ao]? = some (.cells #[.slice none 0 0] 27 (0, 0))) := ⟨h3_⟩; have bi : Aside0 (w.heap.size ≤ ap) := ⟨h4_⟩; have bh : Aside0 (w.heap.size ≤ ap) := ⟨h5_⟩; have aw : Aside0 (ah ≠ ap) := ⟨h6_⟩; have ax : Aside0 (ap ≠ ah) := ⟨h7_⟩; have ay : Aside0 (aj ≠ ap) := ⟨h8_⟩; have aA : Aside0 (ap ≠ aj) := ⟨h9_⟩; have aD : Aside0 (ao ≠ ap) := ⟨h10_⟩; have aH : Aside0 (ap ≠ ao) := ⟨h11_⟩; have bj : Aside0 (w.heap.size ≤ ao) := ⟨h12_⟩; have bk : Aside0 (w.heap.size ≤ ao) := ⟨h13_⟩; have aq : Aside0 (ah ≠ ao) := ⟨h14_⟩; have ar : Aside0 (ao ≠ ah) := ⟨h15_⟩; have au : Aside0 (aj ≠ ao) := ⟨h16_⟩; have av : Aside0 (ao ≠ aj) := ⟨h17_⟩; replace HB : Aside0 (Below w.heap.size w w15) := ⟨h18_⟩; clear h0_ h10_ h11_ h12_ h13_ h14_ h15_ h16_ h17_ h18_ h1_ h2_ h3_ h4_ h5_ h6_ h7_ h8_ h9_;have hHeld : w15.cell? ⟨ah, 0, none⟩ = some (.slice aM aE.length aN) ∧ w15.cell? ⟨ah, 1, none⟩ = some (.slice bc ag.length aQ) ∧ w15.cell? ⟨ah, 2, none⟩ = some (.slice aR aG.length aT) := hS_;refine norm_ (a' := ?_) ?_ ?_
    rotate_left
    ·simp only [putAll, Act.put, qS1, qS2, qS3]
     rfl
    refine one_ (i := 4) (N := some 24) (bs 8 127) rfl rfl (one_of HT_.out (by kernel_rfl)) (by decide) (fun K hK => ?_);refine Kd.R_make_step (Kd.int .i64) _ 3 (by rfl) (N := 24) rfl 27 _ _ rfl (ag.length : Int) rfl rfl Try.underlying27 (.int .i64 0) 8 info3 rfl (by decide) (by omega) 0 (ok := fun _ => True) (okp := fun _ => True) rfl (fun _ hk => hk) trivial od (Nat.le_trans (Nat.mul_le_mul_right _ (od : (ag.length : Int).toNat ≤ 35184372088832)) (by omega)) (Below.refl _ _) (Nat.le_refl _) ?_;intro bl w16 ho17 hb hg_ hnew_;clear hg_ hnew_;(first | rw [← bo.out] at ho17 | (simp only [Int.reduceToNat] at ho17; rw [← bo.out] at ho17));have bb := kLR ho17 HB; replace aa := kU aa hb; replace ae := kU ae hb; replace an := kU an hb; replace ak := kU ak hb; replace HB := kH HB hb;clear hb ho17;refine hK.out _ _ ⟨kk aa 0, kk aa 1, kk aa 2⟩ (fun hHeld => ?_);clear hK K;refine no (some 24) ?_;exact norm_ (by first | (simp only [putAll, Act.put, qS1, qS2, qS3]; done) | (simp only [putAll, Act.put, qS1, qS2, qS3]; rfl)) (hJ0_4_5 (ap, bl, ao) _ ⟨hHeld, (krR bb), (kb aa), (kb ae), (kb an), (kb ak), bi.out, bh.out, aw.out, ax.out, ay.out, aA.out, aD.out, aH.out, bj.out, bk.out, aq.out, ar.out, au.out, av.out, (kh HB)⟩)
  ·skip
   rintro ⟨ap, bl⟩ w16 ⟨hS_, h0_, h1_, h2_, h3_, h4_, h5_, h6_, h7_, h8_, h9_, h10_⟩;have bb : Aside0 (Kd.R (Kd.int .i64) 3 w16 w.heap.size (fun _ => True) bl bp) := ⟨h0_⟩; replace aa : Aside0 (w16.heap[ah]? = some (.cells #[.slice aM aE.length aN, .slice bc ag.length aQ, .slice aR aG.length aT] 26 (0, 0))) := ⟨h1_⟩; replace ae : Aside0 (w16.heap[aj]? = some (.cells #[.slice none 0 0, .slice none 0 0, .slice none 0 0] 26 (0, 0))) := ⟨h2_⟩; have an : Aside0 (w16.heap[ap]? = some ((tune_Share.obj []))) := ⟨h3_⟩; have bi : Aside0 (w.heap.size ≤ ap) := ⟨h4_⟩; have bh : Aside0 (w.heap.size ≤ ap) := ⟨h5_⟩; have aw : Aside0 (ah ≠ ap) := ⟨h6_⟩; have ax : Aside0 (ap ≠ ah) := ⟨h7_⟩; have ay : Aside0 (aj ≠ ap) := ⟨h8_⟩; have aA : Aside0 (ap ≠ aj) := ⟨h9_⟩; replace HB : Aside0 (Below w.heap.size w w16) := ⟨h10_⟩; clear h0_ h10_ h1_ h2_ h3_ h4_ h5_ h6_ h7_ h8_ h9_;have hHeld : w16.cell? ⟨ah, 0, none⟩ = some (.slice aM aE.length aN) ∧ w16.cell? ⟨ah, 1, none⟩ = some (.slice bc ag.length aQ) ∧ w16.cell? ⟨ah, 2, none⟩ = some (.slice aR aG.length aT) := hS_;refine norm_ (a' := ?_) ?_ ?_
   rotate_left
   ·simp only [putAll, Act.put, qS1, qS2, qS3]
    rfl
   refine one_ (i := 5) (N := some 8) (bs 8 63) rfl rfl (one_of HT_.out (by kernel_rfl)) (by decide) (fun K hK => ?_);refine box_step ?hg (N := 8) ?hd (cs := #[.slice none 0 0]) (t := 27) ?hr ?_; (case hd => rfl); (case hg => rfl); (case hr => first | (go_simp; done) | (go_simp; rfl));intro ao hg w17 hbox hb;replace bb := kR bb hb; have ak := am hbox; have bj := kG HB hg; have bk := kG HB hg; replace HB := kH HB hb; have aq := kP aa hg; have ar := kQ aa hg; replace aa := kU aa hb; have au := kP ae hg; have av := kQ ae hg; replace ae := kU ae hb; have aH := kP an hg; have aD := kQ an hg; replace an := kU an hb;clear hb hbox hg;refine hK.out _ _ ⟨kk aa 0, kk aa 1, kk aa 2⟩ (fun hHeld => ?_);clear hK K;refine no (some 8) ?_;refine pu 6 (some 7) (bs 8 127) HT_ ?_;exact norm_ (by first | (simp only [putAll, Act.put, qS1, qS2, qS3]; done) | (simp only [putAll, Act.put, qS1, qS2, qS3]; rfl)) (hJ0_4_5 (ap, bl, ao) _ ⟨hHeld, (krR bb), (kb aa), (kb ae), (kb an), (kb ak), bi.out, bh.out, aw.out, ax.out, ay.out, aA.out, aD.out, aH.out, bj.out, bk.out, aq.out, ar.out, au.out, av.out, (kh HB)⟩)
 rintro ⟨ap, bl, ao⟩ w17 ⟨hS_, h0_, h1_, h2_, h3_, h4_, h5_, h6_, h7_, h8_, h9_, h10_, h11_, h12_, h13_, h14_, h15_, h16_, h17_, h18_, h19_⟩;have bb : Aside0 (Kd.R (Kd.int .i64) 3 w17 w.heap.size (fun _ => True) bl bp) := ⟨h0_⟩; replace aa : Aside0 (w17.heap[ah]? = some (.cells #[.slice aM aE.length aN, .slice bc ag.length aQ, .slice aR aG.length aT] 26 (0, 0))) := ⟨h1_⟩; replace ae : Aside0 (w17.heap[aj]? = some (.cells #[.slice none 0 0, .slice none 0 0, .slice none 0 0] 26 (0, 0))) := ⟨h2_⟩; have an : Aside0 (w17.heap[ap]? = some ((tune_Share.obj []))) := ⟨h3_⟩; have ak : Aside0 (w17.heap[ao]? = some (.cells #[.slice none 0 0] 27 (0, 0))) := ⟨h4_⟩; have bi : Aside0 (w.heap.size ≤ ap) := ⟨h5_⟩; have bh : Aside0 (w.heap.size ≤ ap) := ⟨h6_⟩; have aw : Aside0 (ah ≠ ap) := ⟨h7_⟩; have ax : Aside0 (ap ≠ ah) := ⟨h8_⟩; have ay : Aside0 (aj ≠ ap) := ⟨h9_⟩; have aA : Aside0 (ap ≠ aj) := ⟨h10_⟩; have aD : Aside0 (ao ≠ ap) := ⟨h11_⟩; have aH : Aside0 (ap ≠ ao) := ⟨h12_⟩; have bj : Aside0 (w.heap.size ≤ ao) := ⟨h13_⟩; have bk : Aside0 (w.heap.size ≤ ao) := ⟨h14_⟩; have aq : Aside0 (ah ≠ ao) := ⟨h15_⟩; have ar : Aside0 (ao ≠ ah) := ⟨h16_⟩; have au : Aside0 (aj ≠ ao) := ⟨h17_⟩; have av : Aside0 (ao ≠ aj) := ⟨h18_⟩; replace HB : Aside0 (Below w.heap.size w w17) := ⟨h19_⟩; clear h0_ h10_ h11_ h12_ h13_ h14_ h15_ h16_ h17_ h18_ h19_ h1_ h2_ h3_ h4_ h5_ h6_ h7_ h8_ h9_;have hHeld : w17.cell? ⟨ah, 0, none⟩ = some (.slice aM aE.length aN) ∧ w17.cell? ⟨ah, 1, none⟩ = some (.slice bc ag.length aQ) ∧ w17.cell? ⟨ah, 2, none⟩ = some (.slice aR aG.length aT) := hS_;obtain ⟨de, df, dg⟩ := Kd.R_slice bb.out;(first | subst dg | (injection dg with f1_ f2_ f3_; have f4_ := f1_.symm; have f5_ := f3_.symm; clear f1_ f2_ f3_; subst f4_; subst f5_));refine norm_ (a' := ?_) ?_ ?_
 rotate_left
 ·simp only [putAll, Act.put, qS1, qS2, qS3]
  rfl
 refine one_ (i := 7) (N := none) (bs 8 255) rfl rfl (one_of HT_.out (by kernel_rfl)) (by decide) (fun K hK => ?_);have hP : w17.cell? ⟨ao, 0, none⟩ = some (.slice none 0 0) := kk ak 0;have eY := blk_frozen ak.out 0;have dy := aq.out;have dz := au.out;have dA := aH.out;have dB := ar.out;have dC := av.out;have dD := aD.out;refine skip_ (w1 := ?_) (by rfl) rfl ?_ ?_
 rotate_left
 ·go_simp
  rfl
 refine hK.out _ _ ⟨(kf hHeld.1), (kf hHeld.2.1), (kf hHeld.2.2)⟩ (fun hHeld => ?_);clear hK K;refine done_ (done_of HT_.out (by kernel_rfl)) ?_;have eZ := aw.out;have fa := ax.out;have fb := aq.out;have fc := ar.out;have Z22 := kz3 aa;(try go_wp2);go_loopg [28] k (fun kq v28 w' => ∃ (af : Int) (aC : List (S61 × Int)) (ai : List Int) (bd : Value), v28 = .int .i64 af ∧ Aside0 (tune_Share.l0 kq ag (ag.length : Int) af aE ag aG aC false ai = some (r1, r2, r3, r4)) ∧ Aside0 (kq ≤ k) ∧ Aside0 (Kd.R (Kd.int .i64) 3 w' w.heap.size (fun _ => True) bd ai) ∧ Aside0 (w'.heap[ah]? = some (.cells #[(.slice aM aE.length aN), (.slice bc ag.length aQ), (.slice aR aG.length aT)] 26 (0, 0))) ∧ Aside0 (w'.heap[aj]? = some (.cells #[(.slice none 0 0), (.slice none 0 0), (.slice none 0 0)] 26 (0, 0))) ∧ Aside0 (w'.heap[ap]? = some ((tune_Share.obj aC))) ∧ Aside0 (w'.heap[ao]? = some (.cells #[bd] 27 (0, 0))) ∧ Aside0 (Below w.heap.size w w'))
 case atStart => exact ⟨(0), ([]), (bp), (.slice de bp.length df), et, H', ⟨Nat.le_refl _⟩, ⟨by (with_reducible repeat first | apply Kd.R_alloc | apply Kd.R_drewN | apply Kd.R_drew); exact Kd.R_mono (Kd.R_far (p := ⟨ao, 0, none⟩) (Kd.R_types bb.out ak.out (by decide)) (fun _ hk => hk.2) (.slice de bp.length df)) (fun _ hk => trivial)⟩, ⟨kg aa⟩, ⟨kg ae⟩, ⟨kg an⟩, ⟨kg ak⟩, ⟨kh HB⟩⟩
 case round =>
  clear H'; (try clear Z22);obtain ⟨af, aC, ai, bd, rfl, HA, HK1, ab, aa, ae, an, ak, HB⟩ := hrel
  cases gk with
  | zero => exact absurd HA.out (by simp [tune_Share.l0])
  | succ k1 =>
   have H := HA.out;clear HA;simp only [tune_Share.l0] at H
   by_cases c23 : af < (ag.length : Int)
   rotate_left
   ·rw [if_neg c23] at H
    have cx := decide_eq_false c23;clear c23;replace H := Option.bind_eq_some_iff.mp H;obtain ⟨⟨bw, bD, bL⟩, cy, H⟩ := H;(try dsimp only at H);have dM := Aside0.mk cy;clear cy;simp only [Option.some.injEq, Prod.mk.injEq] at H;obtain ⟨rfl, rfl, rfl, rfl⟩ := H;have HR := ab;obtain ⟨cK, cL, dN⟩ := Kd.R_slice HR.out;subst dN;have HX := Aside0.mk (show wr.cell? ⟨ao, 0, none⟩ = some (.slice cK ai.length cL) from kk ak 0);have HC := Aside0.mk (Kd.R_reads' HR.out).2.2;have Z45 := ky3 aa;go_wp2_with (first | ((with_reducible refine gate_callee (f := 45) rfl ?_); refine goesL_ (some 97) rfl rfl Try.func45 (by kernel_rfl) rfl #[.agg #[.slice aM aE.length aN, .slice bc ag.length aQ, .slice aR aG.length aT], .func (.func 46) #[] #[.pointer (some ⟨ao, 0, none⟩)], .func (.func 47) #[] #[.pointer (some ⟨ao, 0, none⟩)]] rfl (by (try simp only [qM1, qM2, qM3]); first | done | rfl) ?_));refine (tune_moved.calls (tune_Share.st ai) (tune_Share.tto ai) 46 47 #[.pointer (some ⟨ao, 0, none⟩)] #[.pointer (some ⟨ao, 0, none⟩)] k1 _ _ aE _ _ ag _ _ aG bw bD bL _ (Kd.C_below cb.out HB.out) cc.out (Kd.C_below bR.out HB.out) cd.out (Kd.C_below ce.out HB.out) cf.out (enters_of Try.func46 (by kernel_rfl) rfl) (enters_of Try.func47 (by kernel_rfl) rfl) (fun x0 x1 x2 x3 x4 r V hV hst => tune_Share.calls1 ao cK cL ai V ((hV.cell (p := ⟨ao, 0, none⟩) (World.block_lt_of_cell? _ _ HX.out)).trans HX.out) (Kd.C_below HC.out hV) x0 x1 x2 x3 x4 r hst) (fun x0 r V hV hst => tune_Share.calls2 ao cK cL ai V ((hV.cell (p := ⟨ao, 0, none⟩) (World.block_lt_of_cell? _ _ HX.out)).trans HX.out) (Kd.C_below HC.out hV) x0 r hst) dM.out).mono ?_;rintro e w53 ⟨hQ, hT, hU, rfl, ho0, ho1, ho2, hb⟩;refine ⟨_, rfl, ?_⟩;replace ho2 := k66t_S ho2;have cz := Aside0.mk (Kd.R_lower ho0 HB.out.size);have cA := Aside0.mk (Kd.R_lower ho1 HB.out.size);have cB := Aside0.mk (Kd.S_lower ho2 HB.out.size);have ae := Aside0.mk (blk_below ae.out hb);have HB := Aside0.mk (below_step HB.out hb);clear ho0 ho1 ho2 hb;obtain ⟨bE, bF, dO⟩ := Kd.R_slice cz.out;subst dO;obtain ⟨bM, bN, dP⟩ := Kd.R_slice cA.out;subst dP;obtain ⟨bX, bY, dQ⟩ := Kd.S_slice cB.out;subst dQ;have Z55 := kz3 ae;go_wp2
    have hB3 : (((w53.setCell ⟨aj, 0, none⟩ (.slice bE bw.length bF)).setCell ⟨aj, 1, none⟩ (.slice bM bD.length bN)).setCell ⟨aj, 2, none⟩ (.slice bX bL.length bY)).heap[aj]? = some (.cells #[.slice bE bw.length bF, .slice bM bD.length bN, .slice bX bL.length bY] 26 (0, 0)) := by
     refine blk_put (cs := #[.slice bE bw.length bF, .slice bM bD.length bN, .slice none 0 0]) ?_ 2 _ rfl;refine blk_put (cs := #[.slice bE bw.length bF, .slice none 0 0, .slice none 0 0]) ?_ 1 _ rfl;refine blk_put (cs := #[.slice none 0 0, .slice none 0 0, .slice none 0 0]) ?_ 0 _ rfl;exact ae.out
    have hBl : Below w.heap.size w (((w53.setCell ⟨aj, 0, none⟩ (.slice bE bw.length bF)).setCell ⟨aj, 1, none⟩ (.slice bM bD.length bN)).setCell ⟨aj, 2, none⟩ (.slice bX bL.length bY)) := by
     refine below_set ?_ bS.out;refine below_set ?_ bS.out;refine below_set ?_ bS.out;exact HB.out
    refine bodyPost_ret (results_ct rfl _ _ aj 26 _ (0, 0) _ rfl hB3 Try.underlying26 rfl (by kernel_rfl)) rfl ?_;exact ⟨_, _, _, rfl, Kd.R_mono (Kd.R_far (p := ⟨aj, 2, none⟩) (Kd.R_far (p := ⟨aj, 1, none⟩) (Kd.R_far (p := ⟨aj, 0, none⟩) (Kd.R_types cz.out ae.out (by decide)) (fun _ hk => hk.2) (.slice bE bw.length bF)) (fun _ hk => hk.2) (.slice bM bD.length bN)) (fun _ hk => hk.2) (.slice bX bL.length bY)) (fun _ hk => trivial), Kd.R_mono (Kd.R_far (p := ⟨aj, 2, none⟩) (Kd.R_far (p := ⟨aj, 1, none⟩) (Kd.R_far (p := ⟨aj, 0, none⟩) (Kd.R_types cA.out ae.out (by decide)) (fun _ hk => hk.2) (.slice bE bw.length bF)) (fun _ hk => hk.2) (.slice bM bD.length bN)) (fun _ hk => hk.2) (.slice bX bL.length bY)) (fun _ hk => trivial), Kd.S_mono (Kd.S_far (p := ⟨aj, 2, none⟩) (Kd.S_far (p := ⟨aj, 1, none⟩) (Kd.S_far (p := ⟨aj, 0, none⟩) (Kd.S_types cB.out ae.out (by decide)) (fun _ hk => hk.2) (.slice bE bw.length bF)) (fun _ hk => hk.2) (.slice bM bD.length bN)) (fun _ hk => hk.2) (.slice bX bL.length bY)) (fun _ hk => trivial), hBl⟩
   rw [if_pos c23] at H;have cx := decide_eq_true c23;clear c23
   by_cases c24 : 0 ≤ af
   rotate_left
   ·rw [if_neg c24] at H
    exact absurd H (by simp)
   rw [if_pos c24] at H;have dh := decide_eq_true c24;clear c24
   by_cases c25 : af < (ag.length : Int)
   rotate_left
   ·rw [if_neg c25] at H
    exact absurd H (by simp)
   rw [if_pos c25] at H;have di := decide_eq_true c25;clear c25;have cM := Aside0.mk H;clear H;have cj : 0 ≤ (af : Int) := od;have ck : af < (ag.length : Int) := od;obtain ⟨bG, dR, br, bt, bu, bv⟩ := at_T61 bR.out af cj ck;cases dR;replace br := (HB.out.cell (World.block_lt_of_cell? w _ br)).trans br;replace bt := (HB.out.cell (World.block_lt_of_cell? w _ bt)).trans bt;replace bu := (HB.out.cell (World.block_lt_of_cell? w _ bu)).trans bu;replace bv := (HB.out.cell (World.block_lt_of_cell? w _ bv)).trans bv;replace cj := eq_true cj; replace ck := eq_true ck;go_upto_region 8 with (first | ((with_reducible refine gate_dst (N := 10) rfl ?_); refine box_event ?hg (N := 10) ?hd (cs := #[.int .i64 0, .int .i64 0, .int .i64 0, .int .u64 0]) (t := 61) ?hr ?_; (case hd => rfl); (case hg => rfl); (case hr => first | (go_simp; done) | (go_simp; rfl)); intro bg hg w27 hbox hb; replace ab := kR ab hb; have az := am hbox; have fd := kG HB hg; have fe := kG HB hg; replace HB := kH HB hb; have aU := kP aa hg; have aV := kQ aa hg; replace aa := kU aa hb; have aW := kP ae hg; have aX := kQ ae hg; replace ae := kU ae hb; have aY := kP an hg; have aI := kQ an hg; replace an := kU an hb; have aZ := kP ak hg; have ba := kQ ak hg; replace ak := kU ak hb; clear hb hbox hg; have ff := aV.out; have fg := aU.out; have fh := aX.out; have fi := aW.out; have fj := aI.out; have fk := aY.out; have fl := ba.out; have fm := aZ.out; have Z32 := kz4 az));(try simp only [Act.put, qS1, qS2, qS3]);go_cut [40] (fun v40 wc => ∃ (kq : Nat) (bx : Bool), v40 = .bool bx ∧ Aside0 (tune_Share.j1 kq af ag (ag.length : Int) af bx aE ag aG aC false ai ((rd_T61 ag af).f0) ((rd_T61 ag af).f1) ((rd_T61 ag af).f2) ((rd_T61 ag af).f3) = some (r1, r2, r3, r4)) ∧ Aside0 (kq ≤ k1) ∧ Aside0 (Kd.R (Kd.int .i64) 3 wc w.heap.size (fun _ => True) bd ai) ∧ Aside0 (wc.heap[ah]? = some (.cells #[(.slice aM aE.length aN), (.slice (some bG) ag.length aQ), (.slice aR aG.length aT)] 26 (0, 0))) ∧ Aside0 (wc.heap[aj]? = some (.cells #[(.slice none 0 0), (.slice none 0 0), (.slice none 0 0)] 26 (0, 0))) ∧ Aside0 (wc.heap[ap]? = some ((tune_Share.obj aC))) ∧ Aside0 (wc.heap[ao]? = some (.cells #[bd] 27 (0, 0))) ∧ Aside0 (wc.heap[bg]? = some (.cells #[.int .i64 ((rd_T61 ag af).f0), .int .i64 ((rd_T61 ag af).f1), .int .i64 ((rd_T61 ag af).f2), .int .u64 ((rd_T61 ag af).f3)] 61 (0, 0))) ∧ Aside0 (Below w.heap.size w wc))
   case first =>
    have H := cM.out;clear cM
    by_cases c33 : ((rd_T61 ag af).f0) = 1
    rotate_left
    ·rw [if_neg c33] at H
     have bH := beq_eq_false_iff_ne.mpr c33;have dj := bne_iff_ne.mpr c33;(first | rw [bH] | (simp only [i64_w, i32_w]; rw [bH]) | skip);have H' := Aside0.mk H;clear H;have fo := aV.out;have fp := aU.out;have fq := aX.out;have fu := aW.out;have fv := aI.out;have fw := aY.out;have fx := ba.out;have fy := aZ.out;have Z43 := kz4 az;go_wp2;go_meet
     case rel => exact ⟨_, ((((rd_T61 ag af).f0) != 2)), et, H', ⟨by have := HK1.out; first | omega | exact Nat.le_refl _⟩, ⟨by (with_reducible repeat first | apply Kd.R_alloc | apply Kd.R_drewN | apply Kd.R_drew); exact Kd.R_mono (Kd.R_far (p := ⟨bg, 3, none⟩) (Kd.R_far (p := ⟨bg, 2, none⟩) (Kd.R_far (p := ⟨bg, 1, none⟩) (Kd.R_far (p := ⟨bg, 0, none⟩) (Kd.R_types ab.out az.out (by decide)) (fun _ hk => hk.2) (.int .i64 ((rd_T61 ag af).f0))) (fun _ hk => hk.2) (.int .i64 ((rd_T61 ag af).f1))) (fun _ hk => hk.2) (.int .i64 ((rd_T61 ag af).f2))) (fun _ hk => hk.2) (.int .u64 ((rd_T61 ag af).f3))) (fun _ hk => trivial)⟩, ⟨kg aa⟩, ⟨kg ae⟩, ⟨kg an⟩, ⟨kg ak⟩, ⟨kg az⟩, ⟨kh HB⟩⟩
    rw [if_pos c33] at H;have bH := beq_iff_eq.mpr c33;have dj := bne_eq_false_iff_eq.mpr c33;clear c33;(first | rw [bH] | (simp only [i64_w, i32_w]; rw [bH]) | skip);have H' := Aside0.mk H;clear H;have fz := aV.out;have fA := aU.out;have fB := aX.out;have fC := aW.out;have fD := aI.out;have fE := aY.out;have fF := ba.out;have fG := aZ.out;have Z38 := kz4 az;go_wp2;go_meet
    case rel => exact ⟨_, (false), et, H', ⟨by have := HK1.out; first | omega | exact Nat.le_refl _⟩, ⟨by (with_reducible repeat first | apply Kd.R_alloc | apply Kd.R_drewN | apply Kd.R_drew); exact Kd.R_mono (Kd.R_far (p := ⟨bg, 3, none⟩) (Kd.R_far (p := ⟨bg, 2, none⟩) (Kd.R_far (p := ⟨bg, 1, none⟩) (Kd.R_far (p := ⟨bg, 0, none⟩) (Kd.R_types ab.out az.out (by decide)) (fun _ hk => hk.2) (.int .i64 ((rd_T61 ag af).f0))) (fun _ hk => hk.2) (.int .i64 ((rd_T61 ag af).f1))) (fun _ hk => hk.2) (.int .i64 ((rd_T61 ag af).f2))) (fun _ hk => hk.2) (.int .u64 ((rd_T61 ag af).f3))) (fun _ hk => trivial)⟩, ⟨kg aa⟩, ⟨kg ae⟩, ⟨kg an⟩, ⟨kg ak⟩, ⟨kg az⟩, ⟨kh HB⟩⟩
   clear cM;(try clear cx dh di Z32 br bt bu bv cj ck);obtain ⟨kq, bx, rfl, HA, bq, ab, aa, ae, an, ak, az, HB⟩ := hcut
   cases kq with
   | zero => exact absurd HA.out (by simp [tune_Share.j1])
   | succ dS =>
    have H := HA.out;clear HA;simp only [tune_Share.j1] at H;have cN := Aside0.mk H;clear H;go_upto_if 40 with (fail);go_cut [] (fun wc => ∃ (kq : Nat) (aJ : Int) (aK : Int), Aside0 (tune_Share.j2 kq af ag (ag.length : Int) af aE ag aG aC false ai ((rd_T61 ag af).f0) aJ aK ((rd_T61 ag af).f3) = some (r1, r2, r3, r4)) ∧ Aside0 (kq ≤ dS) ∧ Aside0 (Kd.R (Kd.int .i64) 3 wc w.heap.size (fun _ => True) bd ai) ∧ Aside0 (wc.heap[ah]? = some (.cells #[(.slice aM aE.length aN), (.slice (some bG) ag.length aQ), (.slice aR aG.length aT)] 26 (0, 0))) ∧ Aside0 (wc.heap[aj]? = some (.cells #[(.slice none 0 0), (.slice none 0 0), (.slice none 0 0)] 26 (0, 0))) ∧ Aside0 (wc.heap[ap]? = some ((tune_Share.obj aC))) ∧ Aside0 (wc.heap[ao]? = some (.cells #[bd] 27 (0, 0))) ∧ Aside0 (wc.heap[bg]? = some (.cells #[.int .i64 ((rd_T61 ag af).f0), .int .i64 aJ, .int .i64 aK, .int .u64 ((rd_T61 ag af).f3)] 61 (0, 0))) ∧ Aside0 (Below w.heap.size w wc))
    case first =>
     have H := cN.out;clear cN
     by_cases c45 : bx = true
     rotate_left
     ·replace c45 := Bool.eq_false_iff.mpr c45
      subst c45;replace H := ifF H;have H' := Aside0.mk H;clear H;go_wp2;go_meet
      case rel => exact ⟨_, (((rd_T61 ag af).f1)), (((rd_T61 ag af).f2)), H', ⟨by have := HK1.out; have := bq.out; first | omega | exact Nat.le_refl _⟩, ⟨krR ab⟩, ⟨kg aa⟩, ⟨kg ae⟩, ⟨kg an⟩, ⟨kg ak⟩, ⟨kg az⟩, ⟨kh HB⟩⟩
     subst c45;replace H := ifT H
     by_cases c46 : 0 ≤ ((rd_T61 ag af).f1)
     rotate_left
     ·rw [if_neg c46] at H
      exact absurd H (by simp)
     rw [if_pos c46] at H;have cC := decide_eq_true c46;clear c46;(first | rw [cC] | (simp only [i64_w, i32_w]; rw [cC]) | skip)
     by_cases c47 : ((rd_T61 ag af).f1) < (ai.length : Int)
     rotate_left
     ·rw [if_neg c47] at H
      exact absurd H (by simp)
     rw [if_pos c47] at H;have fH := decide_eq_true c47;clear c47
     by_cases c48 : ((rd_T61 ag af).f0) = 6
     ·rw [if_pos c48] at H
      have dk := beq_iff_eq.mpr c48;have dl := bne_eq_false_iff_eq.mpr c48;clear c48;have H' := Aside0.mk H;clear H;have fI := ar.out;have fJ := aq.out;have fK := av.out;have fL := au.out;have fM := aD.out;have fN := aH.out;have fO := aZ.out;have fP := ba.out;have Z53 := kz1 ak;have fQ := aV.out;have fR := aU.out;have fS := aX.out;have fT := aW.out;have fU := aI.out;have fV := aY.out;have Z57 := kz4 az;obtain ⟨hX, hZ, dT⟩ := Kd.R_slice ab.out;subst dT;have bO : 0 ≤ (((rd_T61 ag af).f1) : Int) := od;have bP : ((rd_T61 ag af).f1) < (ai.length : Int) := od;obtain ⟨cg, cO, cl⟩ := Kd.at_int (Kd.R_reads' ab.out).2.2 ((rd_T61 ag af).f1) bO bP;cases cO;replace bO := eq_true bO; replace bP := eq_true bP;go_wp2;go_meet
      case rel => exact ⟨_, (rd ai ((rd_T61 ag af).f1)), (((rd_T61 ag af).f2)), H', ⟨by have := HK1.out; have := bq.out; first | omega | exact Nat.le_refl _⟩, ⟨by (with_reducible repeat first | apply Kd.R_alloc | apply Kd.R_drewN | apply Kd.R_drew); exact Kd.R_mono (Kd.R_far (p := ⟨bg, 1, none⟩) (Kd.R_types ab.out az.out (by decide)) (fun _ hk => hk.2) (.int .i64 (rd ai ((rd_T61 ag af).f1)))) (fun _ hk => trivial)⟩, ⟨kg aa⟩, ⟨kg ae⟩, ⟨kg an⟩, ⟨kg ak⟩, ⟨kg az⟩, ⟨kh HB⟩⟩
     rw [if_neg c48] at H;have dk := beq_eq_false_iff_ne.mpr c48;have dl := bne_iff_ne.mpr c48
     by_cases c59 : 0 ≤ ((rd_T61 ag af).f2)
     rotate_left
     ·rw [if_neg c59] at H
      exact absurd H (by simp)
     rw [if_pos c59] at H;have fW := decide_eq_true c59;clear c59
     by_cases c60 : ((rd_T61 ag af).f2) < (ai.length : Int)
     rotate_left
     ·rw [if_neg c60] at H
      exact absurd H (by simp)
     rw [if_pos c60] at H;have fX := decide_eq_true c60;clear c60;have H' := Aside0.mk H;clear H;have fY := ar.out;have fZ := aq.out;have ga := av.out;have gb := au.out;have gc := aD.out;have gd := aH.out;have ge := aZ.out;have gg := ba.out;have Z65 := kz1 ak;have gh := aV.out;have gi := aU.out;have gj := aX.out;have gl := aW.out;have gm := aI.out;have gn := aY.out;have Z69 := kz4 az;obtain ⟨ia, ib, dU⟩ := Kd.R_slice ab.out;subst dU;have bO : 0 ≤ (((rd_T61 ag af).f1) : Int) := od;have bP : ((rd_T61 ag af).f1) < (ai.length : Int) := od;obtain ⟨cg, cO, cl⟩ := Kd.at_int (Kd.R_reads' ab.out).2.2 ((rd_T61 ag af).f1) bO bP;cases cO;replace bO := eq_true bO; replace bP := eq_true bP;have cP : 0 ≤ (((rd_T61 ag af).f2) : Int) := od;have cQ : ((rd_T61 ag af).f2) < (ai.length : Int) := od;obtain ⟨dm, dV, bT⟩ := Kd.at_int (Kd.R_reads' ab.out).2.2 ((rd_T61 ag af).f2) cP cQ;obtain rfl : cg = dm := (by injection dV);have hn298_0 : cg.block ≠ bg := Kd.own_blk (Kd.R_ne ab.out az.out (by decide));replace bT := (cell_far (p := ⟨bg, 1, none⟩) (by first | (rw [add_block]; exact hn298_0) | (show (Addr.add _ _).block ≠ _; rw [add_block]; exact hn298_0) | exact hn298_0) (.int .i64 (rd ai ((rd_T61 ag af).f1)))).trans bT;clear hn298_0; replace cP := eq_true cP; replace cQ := eq_true cQ;go_wp2;go_meet
     case rel => exact ⟨_, (rd ai ((rd_T61 ag af).f1)), (rd ai ((rd_T61 ag af).f2)), H', ⟨by have := HK1.out; have := bq.out; first | omega | exact Nat.le_refl _⟩, ⟨by (with_reducible repeat first | apply Kd.R_alloc | apply Kd.R_drewN | apply Kd.R_drew); exact Kd.R_mono (Kd.R_far (p := ⟨bg, 2, none⟩) (Kd.R_far (p := ⟨bg, 1, none⟩) (Kd.R_types ab.out az.out (by decide)) (fun _ hk => hk.2) (.int .i64 (rd ai ((rd_T61 ag af).f1)))) (fun _ hk => hk.2) (.int .i64 (rd ai ((rd_T61 ag af).f2)))) (fun _ hk => trivial)⟩, ⟨kg aa⟩, ⟨kg ae⟩, ⟨kg an⟩, ⟨kg ak⟩, ⟨kg az⟩, ⟨kh HB⟩⟩
    clear cN;obtain ⟨kq, aJ, aK, HA, bz, ab, aa, ae, an, ak, az, HB⟩ := hcut
    cases kq with
    | zero => exact absurd HA.out (by simp [tune_Share.j2])
    | succ dW =>
     have H := HA.out;clear HA;simp only [tune_Share.j2] at H;have cR := Aside0.mk H;clear H;go_upto_region 12 with (fail);go_cut [70] (fun v70 wc => ∃ (kq : Nat) (bA : Bool), v70 = .bool bA ∧ Aside0 (tune_Share.j3 kq af ag (ag.length : Int) af bA aE ag aG aC false ai ((rd_T61 ag af).f0) aJ aK ((rd_T61 ag af).f3) = some (r1, r2, r3, r4)) ∧ Aside0 (kq ≤ dW) ∧ Aside0 (Kd.R (Kd.int .i64) 3 wc w.heap.size (fun _ => True) bd ai) ∧ Aside0 (wc.heap[ah]? = some (.cells #[(.slice aM aE.length aN), (.slice (some bG) ag.length aQ), (.slice aR aG.length aT)] 26 (0, 0))) ∧ Aside0 (wc.heap[aj]? = some (.cells #[(.slice none 0 0), (.slice none 0 0), (.slice none 0 0)] 26 (0, 0))) ∧ Aside0 (wc.heap[ap]? = some ((tune_Share.obj aC))) ∧ Aside0 (wc.heap[ao]? = some (.cells #[bd] 27 (0, 0))) ∧ Aside0 (wc.heap[bg]? = some (.cells #[.int .i64 ((rd_T61 ag af).f0), .int .i64 aJ, .int .i64 aK, .int .u64 ((rd_T61 ag af).f3)] 61 (0, 0))) ∧ Aside0 (Below w.heap.size w wc))
     case first =>
      have H := cR.out;clear cR
      by_cases c72 : ((rd_T61 ag af).f0) = 3
      ·rw [if_pos c72] at H
       have bI := beq_iff_eq.mpr c72;have dn := bne_eq_false_iff_eq.mpr c72;clear c72;(first | rw [bI] | (simp only [i64_w, i32_w]; rw [bI]) | skip);have H' := Aside0.mk H;clear H;have gp := aV.out;have gq := aU.out;have gr := aX.out;have gs := aW.out;have gt := aI.out;have gu := aY.out;have gv := ba.out;have gw := aZ.out;have Z77 := kz4 az;go_wp2;go_meet
       case rel => exact ⟨_, (decide (aJ > aK)), et, H', ⟨by have := HK1.out; have := bq.out; have := bz.out; first | omega | exact Nat.le_refl _⟩, ⟨krR ab⟩, ⟨kg aa⟩, ⟨kg ae⟩, ⟨kg an⟩, ⟨kg ak⟩, ⟨kg az⟩, ⟨kh HB⟩⟩
      rw [if_neg c72] at H;have bI := beq_eq_false_iff_ne.mpr c72;have dn := bne_iff_ne.mpr c72;(first | rw [bI] | (simp only [i64_w, i32_w]; rw [bI]) | skip)
      by_cases c78 : ((rd_T61 ag af).f0) = 5
      rotate_left
      ·rw [if_neg c78] at H
       have dp := beq_eq_false_iff_ne.mpr c78;have dq := bne_iff_ne.mpr c78;have H' := Aside0.mk H;clear H;have gx := aV.out;have gy := aU.out;have gz := aX.out;have gA := aW.out;have gB := aI.out;have gC := aY.out;have gD := ba.out;have gE := aZ.out;have Z88 := kz4 az;go_wp2;go_meet
       case rel => exact ⟨_, (false), et, H', ⟨by have := HK1.out; have := bq.out; have := bz.out; first | omega | exact Nat.le_refl _⟩, ⟨krR ab⟩, ⟨kg aa⟩, ⟨kg ae⟩, ⟨kg an⟩, ⟨kg ak⟩, ⟨kg az⟩, ⟨kh HB⟩⟩
      rw [if_pos c78] at H;have dp := beq_iff_eq.mpr c78;have dq := bne_eq_false_iff_eq.mpr c78;clear c78;have H' := Aside0.mk H;clear H;have gF := aV.out;have gG := aU.out;have gH := aX.out;have gI := aW.out;have gJ := aI.out;have gK := aY.out;have gL := ba.out;have gM := aZ.out;have Z83 := kz4 az;go_wp2;go_meet
      case rel => exact ⟨_, (decide (aJ > aK)), et, H', ⟨by have := HK1.out; have := bq.out; have := bz.out; first | omega | exact Nat.le_refl _⟩, ⟨krR ab⟩, ⟨kg aa⟩, ⟨kg ae⟩, ⟨kg an⟩, ⟨kg ak⟩, ⟨kg az⟩, ⟨kh HB⟩⟩
     clear cR;obtain ⟨kq, bA, rfl, HA, bZ, ab, aa, ae, an, ak, az, HB⟩ := hcut
     cases kq with
     | zero => exact absurd HA.out (by simp [tune_Share.j3])
     | succ dX =>
      have H := HA.out;clear HA;simp only [tune_Share.j3] at H;have cS := Aside0.mk H;clear H;go_upto_if 70 with (fail);go_cut [] (fun wc => ∃ (kq : Nat) (be : Int) (bf : Int), Aside0 (tune_Share.j4 kq af ag (ag.length : Int) af aE ag aG aC false ai ((rd_T61 ag af).f0) be bf ((rd_T61 ag af).f3) = some (r1, r2, r3, r4)) ∧ Aside0 (kq ≤ dX) ∧ Aside0 (Kd.R (Kd.int .i64) 3 wc w.heap.size (fun _ => True) bd ai) ∧ Aside0 (wc.heap[ah]? = some (.cells #[(.slice aM aE.length aN), (.slice (some bG) ag.length aQ), (.slice aR aG.length aT)] 26 (0, 0))) ∧ Aside0 (wc.heap[aj]? = some (.cells #[(.slice none 0 0), (.slice none 0 0), (.slice none 0 0)] 26 (0, 0))) ∧ Aside0 (wc.heap[ap]? = some ((tune_Share.obj aC))) ∧ Aside0 (wc.heap[ao]? = some (.cells #[bd] 27 (0, 0))) ∧ Aside0 (wc.heap[bg]? = some (.cells #[.int .i64 ((rd_T61 ag af).f0), .int .i64 be, .int .i64 bf, .int .u64 ((rd_T61 ag af).f3)] 61 (0, 0))) ∧ Aside0 (Below w.heap.size w wc))
      case first =>
       have H := cS.out;clear cS
       by_cases c90 : bA = true
       rotate_left
       ·replace c90 := Bool.eq_false_iff.mpr c90
        subst c90;replace H := ifF H;have H' := Aside0.mk H;clear H;go_wp2;go_meet
        case rel => exact ⟨_, (aJ), (aK), H', ⟨by have := HK1.out; have := bq.out; have := bz.out; have := bZ.out; first | omega | exact Nat.le_refl _⟩, ⟨krR ab⟩, ⟨kg aa⟩, ⟨kg ae⟩, ⟨kg an⟩, ⟨kg ak⟩, ⟨kg az⟩, ⟨kh HB⟩⟩
       subst c90;replace H := ifT H;have H' := Aside0.mk H;clear H;have gN := aV.out;have gO := aU.out;have gP := aX.out;have gQ := aW.out;have gR := aI.out;have gS := aY.out;have gT := ba.out;have gU := aZ.out;have Z95 := kz4 az;go_wp2;go_meet
       case rel => exact ⟨_, (aK), (aJ), H', ⟨by have := HK1.out; have := bq.out; have := bz.out; have := bZ.out; first | omega | exact Nat.le_refl _⟩, ⟨by (with_reducible repeat first | apply Kd.R_alloc | apply Kd.R_drewN | apply Kd.R_drew); exact Kd.R_mono (Kd.R_far (p := ⟨bg, 2, none⟩) (Kd.R_far (p := ⟨bg, 1, none⟩) (Kd.R_types ab.out az.out (by decide)) (fun _ hk => hk.2) (.int .i64 aK)) (fun _ hk => hk.2) (.int .i64 aJ)) (fun _ hk => trivial)⟩, ⟨kg aa⟩, ⟨kg ae⟩, ⟨kg an⟩, ⟨kg ak⟩, ⟨kg az⟩, ⟨kh HB⟩⟩
      clear cS;obtain ⟨kq, be, bf, HA, cm, ab, aa, ae, an, ak, az, HB⟩ := hcut
      cases kq with
      | zero => exact absurd HA.out (by simp [tune_Share.j4])
      | succ cn =>
       have H := HA.out;clear HA;simp only [tune_Share.j4] at H;replace H := Option.bind_eq_some_iff.mp H;obtain ⟨⟨bQ, dY⟩, dr, H⟩ := H;(try dsimp only at H);have A96 := Aside0.mk dr;clear dr
       by_cases c97 : dY = true
       ·subst c97
        replace H := ifT H
        by_cases c98 : 0 ≤ af
        rotate_left
        ·rw [if_neg c98] at H
         exact absurd H (by simp)
        rw [if_pos c98] at H;have gV := decide_eq_true c98;clear c98
        by_cases c99 : af < (ai.length : Int)
        rotate_left
        ·rw [if_neg c99] at H
         exact absurd H (by simp)
        rw [if_pos c99] at H;have gW := decide_eq_true c99;clear c99;obtain ⟨cT, bJ⟩ : ∃ y_ : List Int, y_ = (ai.set (af : Int).toNat bQ) := ⟨_, rfl⟩
        replace H : (tune_Share.l0 cn ag (ag.length : Int) (wrap64 (af + 1)) aE ag aG aC false cT) = some (r1, r2, r3, r4) := by first | (rw [bJ]; with_reducible exact H) | (have H2_ := (Option.bind_some _ _).symm.trans H; rw [bJ]; with_reducible exact H2_) | (have H2_ := (Option.bind_some _ _).symm.trans H; with_reducible exact H2_) | with_reducible exact H | (rw [bJ]; exact H) | exact H
        have dt := Aside0.mk bJ;clear bJ;have H' := Aside0.mk H;clear H;have dZ := ax.out;have eb := aw.out;have ed := aA.out;have ee := ay.out;have ef := aH.out;have eh := aD.out;have ei := aY.out;have ej := aI.out;have ek := aV.out;have el := aU.out;have em := aX.out;have ep := aW.out;have eq := ba.out;have es := aZ.out;have ic := kz4 az;go_wp2_with (first | ((with_reducible refine gate_dst (N := 80) rfl ?_); refine tune_Share.look_event ?hg (N := 80) ?hd (v := .tuple #[.int .i64 bQ, .bool true]) ?hr ?_; (case hg => rfl); (case hd => rfl); (case hr => have hlk := tune_Share.look_run ⟨((rd_T61 ag af).f0), be, bf, ((rd_T61 ag af).f3)⟩ aC _ ap an.out (bQ, true) A96.out; unfold tune_Share.val at hlk; first | (go_simp; done) | (go_simp; rfl)); intro du hb; replace ab := kR ab hb; replace aa := kU aa hb; replace ae := kU ae hb; replace an := kU an hb; replace ak := kU ak hb; replace az := kU az hb; replace HB := kH HB hb; (try clear hb); (try clear hb2); (try clear hk); (try clear hi); have eu := ar.out; have ev := aq.out; have ew := av.out; have ex := au.out; have ie := kz1 ak; have cU : 0 ≤ (af : Int) := od; have cV : (af : Int) < ((ai.length : Int) : Int) := od; obtain ⟨bU, cD, cE, cF, gl100, cl100, HG100⟩ := Kd.R_form ab.out (by omega); (first | cases cE | (injection cE with ea_ en_ ec_; (first | subst ea_ | (injection ea_ with ea_; subst ea_)); subst ec_; clear en_)); have dv := Aside0.mk cF; have gX := Aside0.mk HG100; clear cF gl100 HG100; obtain ⟨dE, dF⟩ := Kd.R_celln 0 ab.out (af : Int) cU cV; replace cU := eq_true cU; replace cV := eq_true cV; obtain ⟨ey, ez⟩ := Kd.R_celln 0 ab.out (af : Int) od od; have ch := Kd.R_putg ab.out (af : Int) bQ) | ((with_reducible refine gate_store (t := 3) (p := 92) rfl ?_); refine store_event (t := 3) (p := 92) (v := ?vo_w115) (w1 := (du.setCell ⟨bU, (af : Int).toNat, none⟩ (.int .i64 bQ))) ?hg ?ho ?hn ?hr ?_; (case ho => rfl); (case hg => rfl); (case hn => rfl); (case hr => first | (go_simp; done) | (go_simp; rfl)); intro cW hw; have hg : du.grownBy cW (some bU) := (by rw [hw]; exact ch.2); have hp_ : Kd.R (Kd.int .i64) 3 cW w.heap.size (fun _ => True) (.slice (some ⟨bU, 0, none⟩) ai.length cD) cT := (by rw [hw, dt.out]; exact ch.1); clear ch; replace aa := kXR aa ab hg; replace ae := kXR ae ab hg; replace an := Aside0.mk (blk_grown (g := ap) (o := (tune_Share.obj aC)) (kb an) hg (tune_Share.R_neM ab.out an.out)); replace ak := kXR ak ab hg; replace az := kXR az ab hg; replace ab := Aside0.mk (hp_); replace HB := Aside0.mk ((by rw [hw]; exact below_set (HB.out) dv.out : Below w.heap.size w cW)); clear hg hw hp_));go_roundg cn
        case measure => have := HK1.out; have := bq.out; have := bz.out; have := bZ.out; have := cm.out; omega
        case rel => exact ⟨(wrap64 (af + 1)), (aC), (cT), (.slice (some ⟨bU, 0, none⟩) ai.length cD), et, H', ⟨by have := HK1.out; have := bq.out; have := bz.out; have := bZ.out; have := cm.out; omega⟩, ⟨krR ab⟩, ⟨kg aa⟩, ⟨kg ae⟩, ⟨kg an⟩, ⟨kg ak⟩, ⟨kh HB⟩⟩
       replace c97 := Bool.eq_false_iff.mpr c97;subst c97;replace H := ifF H;replace H := Option.bind_eq_some_iff.mp H;obtain ⟨ca, cG, H⟩ := H;(try dsimp only at H);have eA := Aside0.mk cG;clear cG
       by_cases co : 0 ≤ af
       rotate_left
       ·rw [if_neg co] at H
        exact absurd H (by simp)
       rw [if_pos co] at H;have eB := decide_eq_true co;clear co
       by_cases cp : af < (ai.length : Int)
       rotate_left
       ·rw [if_neg cp] at H
        exact absurd H (by simp)
       rw [if_pos cp] at H;have eC := decide_eq_true cp;clear cp;obtain ⟨cX, bK⟩ : ∃ y_ : List Int, y_ = (ai.set (af : Int).toNat af) := ⟨_, rfl⟩
       replace H : (tune_Share.l0 cn ag (ag.length : Int) (wrap64 (af + 1)) aE ag aG ca false cX) = some (r1, r2, r3, r4) := by first | (rw [bK]; with_reducible exact H) | (have H2_ := (Option.bind_some _ _).symm.trans H; rw [bK]; with_reducible exact H2_) | (have H2_ := (Option.bind_some _ _).symm.trans H; with_reducible exact H2_) | with_reducible exact H | (rw [bK]; exact H) | exact H
       have dw := Aside0.mk bK;clear bK;have H' := Aside0.mk H;clear H;have eD := ax.out;have eE := aw.out;have eF := aA.out;have eG := ay.out;have eH := aH.out;have eI := aD.out;have eJ := aY.out;have eK := aI.out;have eL := aV.out;have eM := aU.out;have eN := aX.out;have eO := aW.out;have eP := ba.out;have eQ := aZ.out;have ig := kz4 az;go_wp2_with (first | ((with_reducible refine gate_dst (N := 80) rfl ?_); refine tune_Share.look_event ?hg (N := 80) ?hd (v := .tuple #[.int .i64 bQ, .bool false]) ?hr ?_; (case hg => rfl); (case hd => rfl); (case hr => have hlk := tune_Share.look_run ⟨((rd_T61 ag af).f0), be, bf, ((rd_T61 ag af).f3)⟩ aC _ ap an.out (bQ, false) A96.out; unfold tune_Share.val at hlk; first | (go_simp; done) | (go_simp; rfl)); intro eR hb; replace ab := kR ab hb; replace aa := kU aa hb; replace ae := kU ae hb; replace an := kU an hb; replace ak := kU ak hb; replace az := kU az hb; replace HB := kH HB hb; (try clear hb); (try clear hb2); (try clear hk); (try clear hi); have ii := kz4 az) | ((with_reducible refine tune_Share.gate_upd rfl ?_); refine tune_Share.upd_event (w1 := (World.putObj eR ap (tune_Share.obj ca))) ?hg ?hn ?hr ?_; (case hg => rfl); (case hn => rfl); (case hr => have hup := tune_Share.put_run ⟨((rd_T61 ag af).f0), be, bf, ((rd_T61 ag af).f3)⟩ aC ca _ ap af an.out eA.out; unfold tune_Share.val at hup; first | (go_simp; done) | (go_simp; rfl)); intro bB hw; replace ab : Aside0 (Kd.R (Kd.int .i64) 3 bB w.heap.size (fun _ => True) bd ai) := ⟨(by rw [hw]; exact (by (with_reducible repeat first | apply Kd.R_alloc | apply Kd.R_drewN | apply Kd.R_drew); exact tune_Share.R_upd ab.out an.out _))⟩; replace aa : Aside0 (bB.heap[ah]? = some (.cells #[.slice aM aE.length aN, .slice (some bG) ag.length aQ, .slice aR aG.length aT] 26 (0, 0))) := ⟨(by rw [hw]; exact (by (with_reducible repeat first | refine blk_drewN ?_ _ | refine blk_drew ?_ | refine blk_alloc ?_ _); refine tune_Share.blk_upd ?_ aw.out _; (with_reducible repeat first | refine blk_drewN ?_ _ | refine blk_drew ?_ | refine blk_alloc ?_ _); exact aa.out))⟩; replace ae : Aside0 (bB.heap[aj]? = some (.cells #[.slice none 0 0, .slice none 0 0, .slice none 0 0] 26 (0, 0))) := ⟨(by rw [hw]; exact (by (with_reducible repeat first | refine blk_drewN ?_ _ | refine blk_drew ?_ | refine blk_alloc ?_ _); refine tune_Share.blk_upd ?_ ay.out _; (with_reducible repeat first | refine blk_drewN ?_ _ | refine blk_drew ?_ | refine blk_alloc ?_ _); exact ae.out))⟩; replace an : Aside0 (bB.heap[ap]? = some ((tune_Share.obj ca))) := ⟨(by rw [hw]; exact (by (with_reducible repeat first | refine blk_drewN ?_ _ | refine blk_drew ?_ | refine blk_alloc ?_ _); exact tune_Share.upd_new an.out _))⟩; replace ak : Aside0 (bB.heap[ao]? = some (.cells #[bd] 27 (0, 0))) := ⟨(by rw [hw]; exact (by (with_reducible repeat first | refine blk_drewN ?_ _ | refine blk_drew ?_ | refine blk_alloc ?_ _); refine tune_Share.blk_upd ?_ aD.out _; (with_reducible repeat first | refine blk_drewN ?_ _ | refine blk_drew ?_ | refine blk_alloc ?_ _); exact ak.out))⟩; replace az : Aside0 (bB.heap[bg]? = some (.cells #[.int .i64 ((rd_T61 ag af).f0), .int .i64 be, .int .i64 bf, .int .u64 ((rd_T61 ag af).f3)] 61 (0, 0))) := ⟨(by rw [hw]; exact (by (with_reducible repeat first | refine blk_drewN ?_ _ | refine blk_drew ?_ | refine blk_alloc ?_ _); refine tune_Share.blk_upd ?_ aI.out _; (with_reducible repeat first | refine blk_drewN ?_ _ | refine blk_drew ?_ | refine blk_alloc ?_ _); exact az.out))⟩; replace HB : Aside0 (Below w.heap.size w bB) := ⟨(by rw [hw]; exact (tune_Share.below_upd HB.out bh.out HB.out.size _))⟩; clear hw; have eS := ar.out; have eT := aq.out; have eU := av.out; have eV := au.out; have ij := kz1 ak; have cY : 0 ≤ (af : Int) := od; have cZ : (af : Int) < ((ai.length : Int) : Int) := od; obtain ⟨bV, cH, cI, cJ, gl119, cl119, HG119⟩ := Kd.R_form ab.out (by omega); (first | cases cI | (injection cI with ea_ en_ ec_; (first | subst ea_ | (injection ea_ with ea_; subst ea_)); subst ec_; clear en_)); have dx := Aside0.mk cJ; have gY := Aside0.mk HG119; clear cJ gl119 HG119; obtain ⟨dG, dH⟩ := Kd.R_celln 0 ab.out (af : Int) cY cZ; replace cY := eq_true cY; replace cZ := eq_true cZ; obtain ⟨eW, eX⟩ := Kd.R_celln 0 ab.out (af : Int) od od; have ci := Kd.R_putg ab.out (af : Int) af) | ((with_reducible refine gate_store (t := 3) (p := 92) rfl ?_); refine store_event (t := 3) (p := 92) (v := ?vo_w139) (w1 := (bB.setCell ⟨bV, (af : Int).toNat, none⟩ (.int .i64 af))) ?hg ?ho ?hn ?hr ?_; (case ho => rfl); (case hg => rfl); (case hn => rfl); (case hr => first | (go_simp; done) | (go_simp; rfl)); intro da hw; have hg : bB.grownBy da (some bV) := (by rw [hw]; exact ci.2); have hp_ : Kd.R (Kd.int .i64) 3 da w.heap.size (fun _ => True) (.slice (some ⟨bV, 0, none⟩) ai.length cH) cX := (by rw [hw, dw.out]; exact ci.1); clear ci; replace aa := kXR aa ab hg; replace ae := kXR ae ab hg; replace an := Aside0.mk (blk_grown (g := ap) (o := (tune_Share.obj ca)) (kb an) hg (tune_Share.R_neM ab.out an.out)); replace ak := kXR ak ab hg; replace az := kXR az ab hg; replace ab := Aside0.mk (hp_); replace HB := Aside0.mk ((by rw [hw]; exact below_set (HB.out) dx.out : Below w.heap.size w da)); clear hg hw hp_));go_roundg cn
       case measure => have := HK1.out; have := bq.out; have := bz.out; have := bZ.out; have := cm.out; omega
       case rel => exact ⟨(wrap64 (af + 1)), (ca), (cX), (.slice (some ⟨bV, 0, none⟩) ai.length cH), et, H', ⟨by have := HK1.out; have := bq.out; have := bz.out; have := bZ.out; have := cm.out; omega⟩, ⟨krR ab⟩, ⟨kg aa⟩, ⟨kg ae⟩, ⟨kg an⟩, ⟨kg ak⟩, ⟨kh HB⟩⟩
section
open Go.Shelf
attribute [local go_sem] Oper.semAt_some
def api_Gate_51_upto {α : Type} (f : Nat → α) (k : Nat) : List α := (List.range k).map f
theorem api_Gate_51_upto_succ {α : Type} (f : Nat → α) (k : Nat) : api_Gate_51_upto f (k + 1) = api_Gate_51_upto f k ++ [f k] := by simp [api_Gate_51_upto, List.range_succ]
theorem api_Gate_51_upto_length {α : Type} (f : Nat → α) (k : Nat) : (api_Gate_51_upto f k).length = k := by simp [api_Gate_51_upto]
def api_Gate_51_val (x : S61) : Value := .agg #[.int .i64 x.f0, .int .i64 x.f1, .int .i64 x.f2, .int .u64 x.f3]
def api_Gate_51_enc (xs : List S61) (len x : Nat) : Array Value := #[.int .i64 ((min x (len - 1) : Nat) : Int), api_Gate_51_val (rd_T61 xs ((min x (len - 1) : Nat) : Int))]
theorem api_Gate_51_enc_at (xs : List S61) (len i : Nat) (h : i < len) : api_Gate_51_enc xs len i = #[.int .i64 (i : Int), .agg #[.int .i64 (rd_T61 xs (i : Int)).f0, .int .i64 (rd_T61 xs (i : Int)).f1, .int .i64 (rd_T61 xs (i : Int)).f2, .int .u64 (rd_T61 xs (i : Int)).f3]] := by
 unfold api_Gate_51_enc api_Gate_51_val;rw [show min i (len - 1) = i by omega]
def api_Gate_51_Kp (n₀ Bs : Nat) (W W' : World) : Prop := Below n₀ W W' ∧ W'.heap[Bs]? = W.heap[Bs]?
theorem api_Gate_51_Kp_t {n₀ Bs : Nat} {A B C : World} (h : api_Gate_51_Kp n₀ Bs A B) (k : api_Gate_51_Kp n₀ Bs B C) : api_Gate_51_Kp n₀ Bs A C := ⟨h.1.trans k.1, k.2.trans h.2⟩
theorem api_Gate_51_Kp_b {n₀ Bs : Nat} {w : World} (hn : n₀ ≤ w.heap.size) (hs : Bs < w.heap.size) (W : World) (l : Nat) (o o' : Obj) (hl : w.heap.size ≤ l) (h : W.heap[l]? = some o) (h1 : o.isCells = false) (h2 : o.isWalk = false) : api_Gate_51_Kp n₀ Bs W (W.putObj l o') :=
 ⟨belowK_b hn W l o o' hl h h1 h2, World.putObj_heap_other (by omega)⟩
theorem api_Gate_51_in (F : Fence) (n : Nat) (h7 : F.fn 77) (hro : F.round = none) (hn : 1 ≤ n) (l Bs n₀ cap : Nat) (A : Option Addr) (len : Nat) (xs : List S61) (hA : ∀ ad, A = some ad → 0 < len → ad.block < n₀) (J Jx : List Nat → World → Prop)
  (hY : ∀ pre (x : Nat) W, J pre W → pre.length < len → YieldAt F (n - 1) Try.prog l (api_Gate_51_enc xs len x) W fun e W' =>
   (e = .returned (.bool true) ∧ J (pre ++ [x]) W' ∧ api_Gate_51_Kp n₀ Bs W W') ∨ (e = .returned (.bool false) ∧ Jx (pre ++ [x]) W'))
  (W : World) (hBs : W.cell? ⟨Bs, 0, none⟩ = some (.slice A len cap)) (hlen : len ≤ 9223372036854775807) (hc : Kd.C k61 W A len xs) (h0 : J [] W) :
  CallsIn F n Try.prog 77 #[.func (.yield l) #[] #[], .pointer (some ⟨Bs, 0, none⟩)] W fun e W' => (∃ v, e = .returned v) ∧
   ((∃ ys, ys = api_Gate_51_upto (fun k => len - 1 - k) len ∧ J ys W') ∨ (∃ pre, (∃ k, k ≤ len ∧ pre = api_Gate_51_upto (fun k => len - 1 - k) k) ∧ Jx pre W')) := by
 refine callsIn_of_wp Try.func77 rfl h7 ?_ hro;simp only [Try.ntmps77, List.size_toArray, List.length_cons, List.length_nil, Nat.reduceAdd, Nat.reduceSub, Array.replicate_succ, Array.replicate_zero, List.push_toArray, List.append_toArray, List.nil_append, List.cons_append];have HC := Aside0.mk hc;clear hc
 gi_wp2
 gi_loopw [3] (fun i wr => ∃ k : Nat, k ≤ len ∧ i = .int .i64 ((len : Int) - 1 - k) ∧ J (api_Gate_51_upto (fun k => len - 1 - k) k) wr ∧ api_Gate_51_Kp n₀ Bs W wr)
  (fun i _ => (intOf i + 1).toNat)
 case atStart => exact ⟨0, Nat.zero_le _, by simp, h0, Below.refl _ _, rfl⟩
 case round =>
  obtain ⟨k, hk, rfl, hJs, hnx⟩ := hrel
  have hBs' : wr.cell? ⟨Bs, 0, none⟩ = some (.slice A len cap) := by unfold World.cell? at hBs ⊢; rw [hnx.2]; exact hBs
  by_cases hlt : k < len
  rotate_left
  ·obtain rfl : k = len := by omega
   have hneg : (k : Int) - 1 - k = -1 := by omega
   rw [hneg];clear hneg
   gi_wp2
   go_end0;exact ⟨⟨_, rfl⟩, .inl ⟨_, rfl, hJs⟩⟩
  obtain ⟨i, hi⟩ : ∃ i : Nat, i = len - 1 - k := ⟨_, rfl⟩
  have hie : (len : Int) - 1 - k = i := by omega
  rw [hie]
  have hil : i < len := by omega
  obtain ⟨ad, rfl, hx0, hx1, hx2, hx3⟩ := at_T61 HC.out (i : Int) (by omega) (by omega)
  have hbk : (ad.add ((i : Int).toNat * 4)).block < n₀ := by rw [show (ad.add ((i : Int).toNat * 4)).block = ad.block by unfold Addr.add; split <;> rfl]; exact hA ad rfl (by omega)
  replace hx0 := (hnx.1.cell (p := ad.add ((i : Int).toNat * 4)) hbk).trans hx0;replace hx1 := (hnx.1.cell (p := ⟨(ad.add ((i : Int).toNat * 4)).block, (ad.add ((i : Int).toNat * 4)).off + 1, none⟩) hbk).trans hx1;replace hx2 := (hnx.1.cell (p := ⟨(ad.add ((i : Int).toNat * 4)).block, (ad.add ((i : Int).toNat * 4)).off + 2, none⟩) hbk).trans hx2;replace hx3 := (hnx.1.cell (p := ⟨(ad.add ((i : Int).toNat * 4)).block, (ad.add ((i : Int).toNat * 4)).off + 3, none⟩) hbk).trans hx3;clear hbk;simp only [Int.toNat_natCast] at hx0 hx1 hx2 hx3;obtain ⟨fn, tmps, assign, body, hy, hR⟩ := hY _ i wr hJs (by rw [api_Gate_51_upto_length]; exact hlt);have hnth : len - 1 - k = i := hi.symm;rw [api_Gate_51_enc_at xs len i hil] at hy;have HN := Aside0.mk hnth;have HI := Aside0.mk hi;have HIE := Aside0.mk hie;clear hnth hi hie
  have hi0 : 0 ≤ (i : Int) := by omega
  gi_wp2
  refine hR.mono ?_;rintro e W3 (⟨rfl, hJ3, hk3⟩ | ⟨rfl, hJx3⟩)
  ·gi_wp2
   go_roundw
   case rel => exact ⟨k + 1, by omega, by have := HIE.out; congr 1; omega, by rw [api_Gate_51_upto_succ, HN.out]; exact hJ3, api_Gate_51_Kp_t hnx hk3⟩
   case measure => have := HIE.out; simp [intOf]
  ·gi_wp2
   refine bodyPost_ret (results_none rfl _ _ _) rfl ?_;exact ⟨⟨_, rfl⟩, .inr ⟨_, ⟨k + 1, by omega, by rw [api_Gate_51_upto_succ, HN.out]⟩, hJx3⟩⟩
theorem api_Gate_51_mk (F : Fence) (n : Nat) (h5 : F.fn 51) (hro : F.round = none) (a : Option Addr) (len cap : Nat) (w : World) :
  CallsIn F n Try.prog 51 #[.slice a len cap] w fun e w' => e = .returned (.func (.func 77) #[] #[.pointer (some ⟨w.heap.size, 0, none⟩)]) ∧ w' = w.alloc (.cells #[.slice a len cap] 23) := by
 refine callsIn_of_wp Try.func51 rfl h5 ?_ hro;simp only [Try.ntmps51, List.size_toArray, List.length_cons, List.length_nil, Nat.reduceAdd, Nat.reduceSub, Array.replicate_succ, Array.replicate_zero, List.push_toArray, List.append_toArray, List.nil_append, List.cons_append]
 gi_wp2
 go_ret;exact ⟨rfl, rfl⟩
theorem api_Gate_51_stops (F : Fence) (n : Nat) (h7 : F.fn 77) (hro : F.round = none) (hn : 1 ≤ n) (Bs n₀ cap : Nat) (A : Option Addr) (len : Nat) (xs : List S61) (w : World) (hBs : Bs < w.heap.size) (hn₀ : n₀ ≤ w.heap.size) (hlen : len ≤ 9223372036854775807)
  (hc : w.cell? ⟨Bs, 0, none⟩ = some (.slice A len cap)) (hC : Kd.C k61 w A len xs) (hA : ∀ ad, A = some ad → 0 < len → ad.block < n₀) :
  SeqStopsK F n Try.prog 77 #[.pointer (some ⟨Bs, 0, none⟩)] (api_Gate_51_enc xs len) (api_Gate_51_Kp n₀ Bs) (fun ys => ys = api_Gate_51_upto (fun k => len - 1 - k) len)
   (fun pre => ∃ k, k ≤ len ∧ pre = api_Gate_51_upto (fun k => len - 1 - k) k) len w := fun l J Jx W hW _ _ hY h0 => by
 have hc' := (hW.cell (p := ⟨Bs, 0, none⟩) hBs).trans hc;exact api_Gate_51_in F n h7 hro hn l Bs n₀ cap A len xs hA J Jx hY W hc' hlen (Kd.C_below hC hW) h0
theorem api_Gate_51_rev (len : Nat) : api_Gate_51_upto (fun k => len - 1 - k) len = (List.range len).reverse := by
 apply List.ext_getElem
 ·simp [api_Gate_51_upto]
 ·intro i h1 h2
  simp [api_Gate_51_upto, List.getElem_reverse]
end
end Go.Proofs.Ytmlbliggbkfjnaa.J
namespace Go.Proofs.Ytmlbliggbkfjnaa.J
open Go.RowKit Go.Proofs.YtmlbliggbkfjnaaW.PrintWords Go.Proofs.YtmlbliggbkfjnaaW.PrintLast Go.Proofs.YtmlbliggbkfjnaaW.PrintMore
attribute [local go_sem] max2_int min2_int max_two min_two max_three min_three max_four min_four
open Go.Shelf
attribute [local go_sem] Oper.semAt_some
def tune_Prune.step (x1 : List S61) (a : List Bool) (i : Nat) : List Bool :=
 if rdOf false a i = true ∧ (rd_T61 x1 i).f0 ≠ 1 ∧ (rd_T61 x1 i).f0 ≠ 2 then
  (if (rd_T61 x1 i).f0 = 6 then a.set (rd_T61 x1 i).f1.toNat true else (a.set (rd_T61 x1 i).f1.toNat true).set (rd_T61 x1 i).f2.toNat true)
 else a
def tune_Prune.okG (x1 : List S61) : Bool := x1.all fun g => decide (g.f0 = 1 ∨ g.f0 = 2 ∨ (0 ≤ g.f1 ∧ g.f1 < (x1.length : Int) ∧ (g.f0 = 6 ∨ (0 ≤ g.f2 ∧ g.f2 < (x1.length : Int)))))
def tune_Prune.at (n x : Nat) : Nat := min x (n - 1)
def tune_Prune.mark (a : List Bool) (x1 : List S61) : Option (List Bool) :=
 if a.length = x1.length ∧ tune_Prune.okG x1 = true then some (((List.range x1.length).map fun k => x1.length - 1 - k).foldl (fun a x => tune_Prune.step x1 a (min x (x1.length - 1))) a) else none
def tune_Prune.st (l : List Bool) (i _ _ _ _ : Int) : Option Bool := if 0 ≤ i ∧ i < (l.length : Int) then some (rdOf false l i) else none
theorem tune_Prune.mark_some {a : List Bool} {x1 : List S61} {r : List Bool} (h : tune_Prune.mark a x1 = some r) : a.length = x1.length ∧ tune_Prune.okG x1 = true ∧ r = ((List.range x1.length).map fun k => x1.length - 1 - k).foldl (fun a x => tune_Prune.step x1 a (min x (x1.length - 1))) a := by
 unfold tune_Prune.mark at h
 split at h
 ·rename_i h2
  exact ⟨h2.1, h2.2, (Option.some.inj h).symm⟩
 ·cases h
theorem tune_Prune.step_length (x1 : List S61) (a : List Bool) (i : Nat) : (tune_Prune.step x1 a i).length = a.length := by
 unfold tune_Prune.step
 split
 ·split <;> simp
 ·rfl
theorem tune_Prune.fold_length (x1 : List S61) (a : List Bool) (l : List Nat) : (l.foldl (fun a x => tune_Prune.step x1 a (min x (x1.length - 1))) a).length = a.length := by
 induction l generalizing a with
 | nil => rfl
 | cons x l ih => rw [List.foldl_cons, ih, tune_Prune.step_length]
theorem tune_Prune.okG_at {x1 : List S61} (h : tune_Prune.okG x1 = true) (i : Nat) (hi : i < x1.length) : (rd_T61 x1 i).f0 = 1 ∨ (rd_T61 x1 i).f0 = 2 ∨ (0 ≤ (rd_T61 x1 i).f1 ∧ (rd_T61 x1 i).f1 < (x1.length : Int) ∧ ((rd_T61 x1 i).f0 = 6 ∨ (0 ≤ (rd_T61 x1 i).f2 ∧ (rd_T61 x1 i).f2 < (x1.length : Int)))) := by
 have h1 := List.all_eq_true.1 h x1[i] (List.getElem_mem hi)
 have h2 : rd_T61 x1 (i : Int) = x1[i] := by simp [rd_T61, List.getD_eq_getElem?_getD, hi]
 rw [h2];exact of_decide_eq_true h1
def tune_Prune.I (base B : Nat) (w0 : World) (v : Value) (l : List Nat → List Bool) (hs : List (Nat × Obj)) (pre : List Nat) (W : World) : Prop :=
 Kd.R Kd.bool 4 W base (fun k => k < B) v (l pre) ∧ (∀ p ∈ hs, W.heap[p.1]? = some p.2) ∧ Below base w0 W ∧ B ≤ W.heap.size
theorem tune_Prune.I_own {base B : Nat} {w0 : World} {v : Value} {l : List Nat → List Bool} {hs : List (Nat × Obj)} (hB : base ≤ B) (hw : base ≤ w0.heap.size) (hh : ∀ p ∈ hs, p.1 < B) : OwnFrom B (tune_Prune.I base B w0 v l hs) := by
 rintro s W W' row ⟨h1, h2, h3, h4⟩ hg hr;refine ⟨Kd.R_step h1 (fun k hk hl => hg.block k hl (fun e => by have := (hr k e.symm).1; omega)), fun p hp => ?_, ?_, Nat.le_trans h4 hg.size⟩
 ·have hp2 := h2 p hp
  exact (hg.block p.1 (Array.getElem?_eq_some_iff.1 hp2).1 (fun e => by have := (hr p.1 e.symm).1; have := hh p hp; omega)).trans hp2
 ·exact h3.grown hg (Nat.le_trans hw h3.size) (fun j hj => Nat.le_trans hB (hr j hj).1)
theorem tune_Prune.I_step {base B : Nat} {w0 : World} {v : Value} {l : List Nat → List Bool} {hs : List (Nat × Obj)} {pre : List Nat} {W W' : World} (hI : tune_Prune.I base B w0 v l hs pre W) (hB : base ≤ B) (hw : base ≤ w0.heap.size) (hg : W.grownBy W' none) : tune_Prune.I base B w0 v l hs pre W' := by
 obtain ⟨h1, h2, h3, h4⟩ := hI;refine ⟨Kd.R_step h1 (fun k hk hl => hg.block k hl (by simp)), fun p hp => ?_, h3.grown hg (Nat.le_trans hw h3.size) (fun j hj => by cases hj), Nat.le_trans h4 hg.size⟩;have hp2 := h2 p hp;exact (hg.block p.1 (Array.getElem?_eq_some_iff.1 hp2).1 (by simp)).trans hp2
theorem tune_Prune.box4 (W : World) (a b c d : Value) (z : Array Value) (hz : z.size = 4) :
  W.grownBy (((((W.alloc (.cells z 61 (0, 0))).setCell ⟨W.heap.size, 0, none⟩ a).setCell ⟨W.heap.size, 1, none⟩ b).setCell ⟨W.heap.size, 2, none⟩ c).setCell ⟨W.heap.size, 3, none⟩ d) none ∧
  (((((W.alloc (.cells z 61 (0, 0))).setCell ⟨W.heap.size, 0, none⟩ a).setCell ⟨W.heap.size, 1, none⟩ b).setCell ⟨W.heap.size, 2, none⟩ c).setCell ⟨W.heap.size, 3, none⟩ d).heap[W.heap.size]? = some (.cells #[a, b, c, d] 61 (0, 0)) := by
 obtain ⟨z0, z1, z2, z3, rfl⟩ : ∃ z0 z1 z2 z3, z = #[z0, z1, z2, z3] := by
  obtain ⟨l⟩ := z
  match l, hz with
  | [z0, z1, z2, z3], _ => exact ⟨z0, z1, z2, z3, rfl⟩
 constructor
 ·have hs : ∀ (w' : World) (j : Nat) (v : Value), W.grownBy w' none → W.grownBy (w'.setCell ⟨W.heap.size, j, none⟩ v) none := fun w' j v h =>
   ⟨h.os, h.tape, h.output, by rw [World.size_setCell]; exact h.size, fun k hk hne => (Below.heap_setCell w' ⟨W.heap.size, j, none⟩ v k (by simp only; omega)).trans (h.block k hk hne)⟩
  exact hs _ _ _ (hs _ _ _ (hs _ _ _ (hs _ _ _ (World.grownBy_alloc W _ none))))
 ·exact blk_put (blk_put (blk_put (blk_put (blk_new W (.cells #[z0, z1, z2, z3] 61 (0, 0))) 0 a rfl) 1 b rfl) 2 c rfl) 3 d rfl
theorem wpIn_range_box {F : Fence} {n : Nat} {P : Program} {α : Type} {g : Operand} {ps : Array Tmp} {assign body : Code} {Q : Exit → Act → World → Prop} {a : Act} {w : World} (A1 : α → Nat → Act) (VV : α → Array Value) (tb : TypeId)
  (hro : F.round = none) (h1 : 1 ≤ n) {gf : Nat} {lb : Array Value} (hg : a.eval g = .func (.func gf) #[] lb) (hFg : F.fn gf) (eg : ∀ args w, (callFunc gf args).run P w = .ok (.enter gf args) w)
  {encs : α → Array Value} {Kp : World → World → Prop} {S Sp : List α → Prop} {N : Nat} {w0 : World} (hseq : SeqStopsK F (n - 1) P gf lb encs Kp S Sp N w0)
  (hKt : ∀ {A B C : World}, Kp A B → Kp B C → Kp A C) (hKb : ∀ (W : World) (l : Nat) (o o' : Obj), w.heap.size ≤ l → W.heap[l]? = some o → o.isCells = false → o.isWalk = false → Kp W (W.putObj l o')) (hb0 : Below w0.heap.size w0 w) (hps : ∀ x, (encs x).size = ps.size)
  (I : List α → World → Prop) (hI : OwnFrom w.heap.size I) (h0 : I [] w)
  (hassign : ∀ (l : Nat) (pre : List α) (x : α) (W : World) (K : Act → World → Prop), I pre W → (∀ g13 W', w.heap.size ≤ g13 → KeepsFrom w.heap.size W W' → Kp W W' → I pre W' → W'.heap[g13]? = some (.cells (VV x) tb (0, 0)) → K (A1 x g13) W') →
   assign.wpIn (F.inRound l) (n - 1 - 1) P (Exit.then K (fun _ _ _ => False)) { tmps := (ps.zip (encs x)).foldl (fun t (p, v) => t.setIfInBounds p v) a.tmps, defers := [] } W)
  (hbody : ∀ (l : Nat) (pre : List α) (x : α) (g13 : Nat) (W : World), w.heap.size ≤ g13 → I pre W → W.heap[g13]? = some (.cells (VV x) tb (0, 0)) → pre.length < N → body.wpIn (F.inRound l) (n - 1 - 1) P (ownPostG w.heap.size Kp I (fun _ _ _ => False) (pre ++ [x]) W) (A1 x g13) W)
  (hdone : ∀ (D : Nat) (xs : List α) (W : World), w.heap.size ≤ D → S xs → I xs W → W.heap[D]? = some (.deferred (some [])) → Q .normal { a with defers := { target := .collected D, args := #[] } :: a.defers } W) :
  (Code.rangeFunc g ps assign body).wpIn F n P Q a w := by
 refine wpIn_rangeFunc_ownH hro h1 hg hFg eg hseq hKt hKb hb0 hps I (fun _ _ _ => False) hI (fun _ _ _ _ _ hs _ _ => hs) h0
  (fun x a' W => ∃ g13, w.heap.size ≤ g13 ∧ a' = A1 x g13 ∧ W.heap[g13]? = some (.cells (VV x) tb (0, 0))) ?_ ?_ ?_ hdone ?_
 ·rintro x a' - W W' row ⟨g13, h1, h2, h3⟩ hg hr
  refine ⟨g13, h1, h2, (hg.block g13 (Array.getElem?_eq_some_iff.1 h3).1 (fun e => ?_)).trans h3⟩;obtain ⟨_, o, ho, hc⟩ := hr g13 e.symm;rw [h3] at ho;cases ho;cases hc
 ·intro l pre x W K hI hK
  exact hassign l pre x W K hI (fun g13 W' h1 h2 h3 h4 h5 => hK _ _ h2 h3 h4 ⟨g13, h1, rfl, h5⟩)
 ·rintro l pre x a' W _ _ hI ⟨g13, h1, rfl, h5⟩ hlt
  exact hbody l pre x g13 W h1 hI h5 hlt
 ·intro D c pre W _ _ h _
  exact h.elim
theorem tune_Prune.calls1 (g : Nat) (A : Option Addr) (c : Nat) (l : List Bool) (W : World) (hx : W.cell? ⟨g, 0, none⟩ = some (.slice A l.length c)) (hC : Kd.C Kd.bool W A l.length l) (x0 x1 x2 x3 x4 : Int) (r : Bool) (h : tune_Prune.st l x0 x1 x2 x3 x4 = some r) :
  Calls Try.prog 52 (#[.int .i64 x0, .agg #[.int .i64 x1, .int .i64 x2, .int .i64 x3, .int .u64 x4]] ++ #[.pointer (some ⟨g, 0, none⟩)]) W fun e_ w' => e_ = .returned (.bool r) ∧ Below W.heap.size W w' := by
 unfold tune_Prune.st at h
 split at h
 ·rename_i hi
  obtain rfl := Option.some.inj h;obtain ⟨h0, h1⟩ := hi;obtain ⟨ad, rfl, hr⟩ := Kd.at_bool hC x0 h0 h1;clear hC h;replace hx := (World.grownBy_alloc W (.cells #[.int .i64 x1, .int .i64 x2, .int .i64 x3, .int .u64 x4] 61 (0, 0)) none).cell hx (by simp);replace hr := (World.grownBy_alloc W (.cells #[.int .i64 x1, .int .i64 x2, .int .i64 x3, .int .u64 x4] 61 (0, 0)) none).cell hr (by simp);replace h0 := eq_true h0; replace h1 := eq_true h1;go_enter Try.func52, Try.ntmps52;go_wp2;go_ret;exact ⟨rfl, by repeat (first | exact Below.refl _ _ | apply below_alloc)⟩
 ·cases h
theorem tune_Prune.calls2 (x0 r : Int) (W : World) (h : some x0 = some r) : Calls Try.prog 53 (#[.int .i64 x0] ++ #[]) W fun e_ w' => e_ = .returned (.int .i64 r) ∧ Below W.heap.size W w' := by
 obtain rfl := Option.some.inj h;go_enter Try.func53, Try.ntmps53;go_wp2;go_ret;exact ⟨rfl, by repeat (first | exact Below.refl _ _ | apply below_alloc)⟩
theorem calls_marks {P : Program} {f : FuncId} {fn : Func} {c : Code} {args : Array Value} {w : World} {R : Ending → World → Prop} (hf : P.funcs[f]? = some fn) (hb : fn.body = some c)
  (h : c.wp P (bodyPostM Fence.wide 5 P fn R) { tmps := args ++ Array.replicate (fn.ntmps - args.size) undef, defers := [] } w) : Calls P f args w R :=
 (callsIn_wide (n := 5)).1 (callsIn_of_wp_marks hf hb trivial (wpIn_wide.2 h) rfl)
theorem marks_ret {P : Program} {fn : Func} {R : Ending → World → Prop} {a : Act} {w : World} {v : Value}
  (hr : (results fn a.tmps).run P w = .ok v w) (hd : a.defers = []) (hR : R (.returned v) w) : bodyPostM Fence.wide 5 P fn R .ret a w := by
 show LeavesInM _ _ _ _ _ _ a.defers _ _
 rw [hd];exact ⟨v, hr, hR⟩
theorem marks_ret1 {P : Program} {fn : Func} {R : Ending → World → Prop} {a : Act} {w : World} {v : Value} {D : Nat} (hd : a.defers = [{ target := .collected D, args := #[] }]) (hD : w.heap[D]? = some (.deferred (some [])))
  (hr : (results fn a.tmps).run P (w.putObj D (.deferred none)) = .ok v (w.putObj D (.deferred none))) (hR : R (.returned v) (w.putObj D (.deferred none))) : bodyPostM Fence.wide 5 P fn R .ret a w := by
 show LeavesInM _ _ _ _ _ _ a.defers _ _
 rw [hd];exact ⟨by simp, .inl ⟨D, _, rfl, run_takeDeferred hD, v, hr, hR⟩⟩
theorem putO_blk {w : World} {D g : Nat} {o o' q : Obj} (hD : w.heap[D]? = some o) (ho : o.isCells = false) (hg : w.heap[g]? = some q) (hq : q.isCells = true) : (w.putObj D o').heap[g]? = some q := by
 rw [World.putObj_heap_other (fun e => by rw [e] at hg; rw [hg] at hD; cases hD; rw [hq] at ho; cases ho)];exact hg
theorem putO_R {α : Type} {d : Kd α} {e : TypeId} {w : World} {base : Nat} {v : Value} {xs : List α} {D : Nat} {o o' : Obj} (h : d.R e w base (fun _ => True) v xs) (hD : w.heap[D]? = some o) (ho : o.isCells = false) : d.R e (w.putObj D o') base (fun _ => True) v xs :=
 Kd.R_mono (Kd.R_step (Kd.R_bound h) (fun k hk _ => by
  obtain ⟨_, _, _, q, _, cs, hc⟩ := hk
  exact (putO_blk hD ho hc rfl).trans hc.symm)) (fun _ _ => trivial)
theorem putO_S {α : Type} {d : Kd α} {e : TypeId} {w : World} {base : Nat} {v : Value} {xs : List α} {D : Nat} {o o' : Obj} (h : d.S e w base (fun _ => True) v xs) (hD : w.heap[D]? = some o) (ho : o.isCells = false) : d.S e (w.putObj D o') base (fun _ => True) v xs :=
 Kd.S_mono (Kd.S_step (Kd.S_bound h) (fun k hk _ => by
  obtain ⟨_, _, _, q, _, cs, hc⟩ := hk
  exact (putO_blk hD ho hc rfl).trans hc.symm)) (fun _ _ => trivial)
mutual
def tune_Prune.l0 : Nat → List (S66) → Int → Int → List (S64) → List (S61) → List (S66) → List Bool → Option ((List (S64)) × (List (S61)) × (List (S66)) × Int)
 | 0, _, _, _, _, _, _, _ => none
 | k + 1, x26, x27, x28, ae, aa, af, ab => if x28 < x27 then (if 0 ≤ x28 then (if x28 < (x26.length : Int) then (tune_Prune.l1 k x26 x27 x28 ((rd_T66 x26 x28).f1) (((rd_T66 x26 x28).f1).length : Int) 0 ae aa af ab) else (none)) else (none)) else ((tune_Prune.mark ab aa).bind fun ah => ((tune_moved.f (tune_Prune.st ah) some k ae aa af).bind fun ag => (some (ag.1, ag.2.1, ag.2.2, 0))))
def tune_Prune.l1 : Nat → List (S66) → Int → Int → List Int → Int → Int → List (S64) → List (S61) → List (S66) → List Bool → Option ((List (S64)) × (List (S61)) × (List (S66)) × Int)
 | 0, _, _, _, _, _, _, _, _, _, _ => none
 | k + 1, x26, x27, x28, x33, x34, x35, ae, aa, af, ab => if x35 < x34 then (if 0 ≤ x35 then (if x35 < (x33.length : Int) then (if 0 ≤ (rd x33 x35) then (if (rd x33 x35) < (ab.length : Int) then (tune_Prune.l1 k x26 x27 x28 x33 x34 (wrap64 (x35 + 1)) ae aa af (ab.set ((rd x33 x35) : Int).toNat true)) else (none)) else (none)) else (none)) else (none)) else (tune_Prune.l0 k x26 x27 (wrap64 (x28 + 1)) ae aa af ab)
end
def tune_Prune.f (k : Nat) (a0 : Int) (ae : List (S64)) (aa : List (S61)) (ab : List (S66)) : Option ((List (S64)) × (List (S61)) × (List (S66)) × Int) := (circ_Check.f k a0 ae aa ab).bind fun af => (if af = 0 then (if 0 ≤ (aa.length : Int) then (if ((aa.length : Int) : Int).toNat ≤ 281474976710656 then (tune_Prune.l0 k ab (ab.length : Int) 0 ae aa ab (List.replicate ((aa.length : Int) : Int).toNat false)) else (none)) else (none)) else (some (([] : List (S64)), ([] : List (S61)), ([] : List (S66)), af)))
theorem tune_Prune.mono_l : ∀ k, (∀ y0 y1 y2 y3 y4 y5 y6, LeO (tune_Prune.l0 k y0 y1 y2 y3 y4 y5 y6) (tune_Prune.l0 (k + 1) y0 y1 y2 y3 y4 y5 y6)) ∧ (∀ y0 y1 y2 y3 y4 y5 y6 y7 y8 y9, LeO (tune_Prune.l1 k y0 y1 y2 y3 y4 y5 y6 y7 y8 y9) (tune_Prune.l1 (k + 1) y0 y1 y2 y3 y4 y5 y6 y7 y8 y9))
 | 0 => ⟨fun _ _ _ _ _ _ _ r h => by simp [tune_Prune.l0] at h, fun _ _ _ _ _ _ _ _ _ _ r h => by simp [tune_Prune.l1] at h⟩
 | k + 1 => by
  obtain ⟨ih0, ih1⟩ := tune_Prune.mono_l k;refine ⟨?_, ?_⟩
  ·intro y0 y1 y2 y3 y4 y5 y6
   unfold tune_Prune.l0
   repeat' first
   | (with_reducible exact ih0 _ _ _ _ _ _ _)
   | (with_reducible exact ih1 _ _ _ _ _ _ _ _ _ _)
   | (with_reducible exact circ_Check.mono _ _ _ _ _)
   | (with_reducible exact tune_moved.mono _ _ _ _ _ _)
   | (with_reducible exact LeO.refl _)
   | (with_reducible exact LeO.none _)
   | (with_reducible refine LeO.ite ?_ ?_)
   | (with_reducible refine LeO.bind ?_ (fun _ => ?_))
   | exact ih0 _ _ _ _ _ _ _
   | exact ih1 _ _ _ _ _ _ _ _ _ _
   | exact circ_Check.mono _ _ _ _ _
   | exact tune_moved.mono _ _ _ _ _ _
   | exact LeO.none _
   | refine LeO.ite ?_ ?_
   | refine LeO.bind ?_ (fun _ => ?_)
  ·intro y0 y1 y2 y3 y4 y5 y6 y7 y8 y9
   unfold tune_Prune.l1
   repeat' first
   | (with_reducible exact ih0 _ _ _ _ _ _ _)
   | (with_reducible exact ih1 _ _ _ _ _ _ _ _ _ _)
   | (with_reducible exact circ_Check.mono _ _ _ _ _)
   | (with_reducible exact tune_moved.mono _ _ _ _ _ _)
   | (with_reducible exact LeO.refl _)
   | (with_reducible exact LeO.none _)
   | (with_reducible refine LeO.ite ?_ ?_)
   | (with_reducible refine LeO.bind ?_ (fun _ => ?_))
   | exact ih0 _ _ _ _ _ _ _
   | exact ih1 _ _ _ _ _ _ _ _ _ _
   | exact circ_Check.mono _ _ _ _ _
   | exact tune_moved.mono _ _ _ _ _ _
   | exact LeO.none _
   | refine LeO.ite ?_ ?_
   | refine LeO.bind ?_ (fun _ => ?_)
theorem tune_Prune.mono : ∀ a0 a1 a2 a3 k, LeO (tune_Prune.f k a0 a1 a2 a3) (tune_Prune.f (k + 1) a0 a1 a2 a3) := by
 intro a0 a1 a2 a3 k;obtain ⟨ih0, ih1⟩ := tune_Prune.mono_l k;unfold tune_Prune.f
 repeat' first
   | (with_reducible exact ih0 _ _ _ _ _ _ _)
   | (with_reducible exact ih1 _ _ _ _ _ _ _ _ _ _)
   | (with_reducible exact circ_Check.mono _ _ _ _ _)
   | (with_reducible exact tune_moved.mono _ _ _ _ _ _)
   | (with_reducible exact LeO.refl _)
   | (with_reducible exact LeO.none _)
   | (with_reducible refine LeO.ite ?_ ?_)
   | (with_reducible refine LeO.bind ?_ (fun _ => ?_))
   | exact ih0 _ _ _ _ _ _ _
   | exact ih1 _ _ _ _ _ _ _ _ _ _
   | exact circ_Check.mono _ _ _ _ _
   | exact tune_moved.mono _ _ _ _ _ _
   | exact LeO.none _
   | refine LeO.ite ?_ ?_
   | refine LeO.bind ?_ (fun _ => ?_)
theorem tune_Prune.calls (k : Nat) (a0 : Int) (aC : Option Addr) (aD : Nat) (aq : List (S64)) (au : Option Addr) (av : Nat) (ab : List (S61)) (aH : Option Addr) (aE : Nat) (ag : List (S66)) (r1 : List (S64)) (r2 : List (S61)) (r3 : List (S66)) (r4 : Int) (w : World) (bI : Kd.C k64 w aC aq.length aq) (bJ : aq.length ≤ aD) (bK : Kd.C k61 w au ab.length ab) (bL : ab.length ≤ av) (bM : Kd.C k66 w aH ag.length ag) (bN : ag.length ≤ aE) (h : tune_Prune.f k a0 aq ab ag = some (r1, r2, r3, r4)) :
  Calls Try.prog 22 #[.int .u64 a0, .agg #[.slice aC aq.length aD, .slice au ab.length av, .slice aH ag.length aE]] w fun e w' => ∃ v0_ v1_ v2_ : Value, e = .returned (.tuple #[.agg #[v0_, v1_, v2_], .int .i64 r4]) ∧ Kd.R k64 64 w' w.heap.size (fun _ => True) v0_ r1 ∧ Kd.R k61 61 w' w.heap.size (fun _ => True) v1_ r2 ∧ Kd.S k66 66 w' w.heap.size (fun _ => True) v2_ r3 ∧ Below w.heap.size w w' := by
 have hu26 := Try.underlying26;have hu66 := Try.underlying66;have bm := Aside0.mk bI;have bn := Aside0.mk bJ;clear bI bJ;have aJ := Aside0.mk bK;have bo := Aside0.mk bL;clear bK bL;have aZ := Aside0.mk bM;have bp := Aside0.mk bN;clear bM bN;have HB := Aside0.mk (Below.refl w.heap.size w);have H : ((circ_Check.f k a0 aq ab ag).bind fun be => (if be = 0 then (if 0 ≤ (ab.length : Int) then (if ((ab.length : Int) : Int).toNat ≤ 281474976710656 then (tune_Prune.l0 k ag (ag.length : Int) 0 aq ab ag (List.replicate ((ab.length : Int) : Int).toNat false)) else (none)) else (none)) else (some (([] : List (S64)), ([] : List (S61)), ([] : List (S66)), be)))) = some (r1, r2, r3, r4) := h;clear h;replace H := Option.bind_eq_some_iff.mp H;obtain ⟨be, A30, H⟩ := H;(try dsimp only at H);have A3 := Aside0.mk A30;clear A30
 by_cases c4 : be = 0
 rotate_left
 ·rw [if_neg c4] at H
  have bX := beq_eq_false_iff_ne.mpr c4;have bY := bne_iff_ne.mpr c4;simp only [Option.some.injEq, Prod.mk.injEq] at H;obtain ⟨rfl, rfl, rfl, rfl⟩ := H;refine calls_marks Try.func22 rfl ?_;simp only [Try.ntmps22, List.size_toArray, List.length_cons, List.length_nil, Nat.reduceAdd, Nat.reduceSub, Array.replicate_succ, Array.replicate_zero, List.push_toArray, List.append_toArray, List.nil_append, List.cons_append];go_wp2_with (first | ((with_reducible refine gate_dst (N := 3) rfl ?_); refine box_event ?hg (N := 3) ?hd (cs := #[.slice aC aq.length aD, .slice au ab.length av, .slice aH ag.length aE]) (t := 26) ?hr ?_; (case hd => rfl); (case hg => rfl); (case hr => first | (go_simp; done) | (go_simp; rfl)); intro aV hg w58 hbox hb; have ae := am hbox; have bZ := kG HB hg; have ca := kG HB hg; replace HB := kH HB hb; clear hb hbox hg) | ((with_reducible refine gate_dst (N := 4) rfl ?_); refine box_event ?hg (N := 4) ?hd (cs := #[.slice none 0 0, .slice none 0 0, .slice none 0 0]) (t := 26) ?hr ?_; (case hd => rfl); (case hg => rfl); (case hr => first | (go_simp; done) | (go_simp; rfl)); intro ak hg w59 hbox hb; have ah := am hbox; have cb := kG HB hg; have ba := kG HB hg; replace HB := kH HB hb; have ax := kP ae hg; have ay := kQ ae hg; replace ae := kU ae hb; clear hb hbox hg; have cG := ax.out; have cH := ay.out; have Z61 := kz3 ae) | ((with_reducible refine gate_callee (f := 37) rfl ?_); refine goesL_ (some 16) rfl rfl Try.func37 (by kernel_rfl) rfl #[.int .u64 a0, .agg #[.slice aC aq.length aD, .slice au ab.length av, .slice aH ag.length aE]] rfl (by (try simp only [qM1, qM2, qM3]); first | done | rfl) ?_; (with_reducible refine (circ_Check.calls k a0 _ _ aq _ _ ab _ _ ag be _ ?side1 ?side2 ?side3 ?side4 ?side5 ?side6 A3.out).mono ?_); (case side1 => repeat (first | exact (Kd.C_below bm.out HB.out) | (with_reducible first | refine Kd.C_alloc ?_ _ | refine Kd.C_drewN ?_ _ | refine Kd.C_drew ?_))); (case side2 => exact bn.out); (case side3 => repeat (first | exact (Kd.C_below aJ.out HB.out) | (with_reducible first | refine Kd.C_alloc ?_ _ | refine Kd.C_drewN ?_ _ | refine Kd.C_drew ?_))); (case side4 => exact bo.out); (case side5 => repeat (first | exact (Kd.C_below aZ.out HB.out) | (with_reducible first | refine Kd.C_alloc ?_ _ | refine Kd.C_drewN ?_ _ | refine Kd.C_drew ?_))); (case side6 => exact bp.out); rintro e w62 ⟨rfl, hb⟩; refine ⟨_, rfl, ?_⟩; replace ae := kU ae hb; replace ah := kU ah hb; replace HB := kH HB hb; (try clear hb); (try clear hb2); (try clear hk); (try clear hi); have Z63 := kz3 ah));refine marks_ret (results_ct rfl _ _ ak 26 #[.slice none 0 0, .slice none 0 0, .slice none 0 0] (0, 0) _ rfl (kg ah) Try.underlying26 rfl (by kernel_rfl)) rfl ?_;exact ⟨_, _, _, er, by first | exact Kd.R_nil _ _ _ _ _ | exact Kd.N_nil _ _ _ _ _ | exact Kd.V_nil _ _ _ _ _ | exact Kd.Q_nil _ _ _ _ _ | exact Kd.S_nil _ _ _ _ _, by first | exact Kd.R_nil _ _ _ _ _ | exact Kd.N_nil _ _ _ _ _ | exact Kd.V_nil _ _ _ _ _ | exact Kd.Q_nil _ _ _ _ _ | exact Kd.S_nil _ _ _ _ _, by first | exact Kd.S_nil _ _ _ _ _ | exact Kd.N_nil _ _ _ _ _ | exact Kd.V_nil _ _ _ _ _ | exact Kd.Q_nil _ _ _ _ _ | exact Kd.R_nil _ _ _ _ _, kh HB⟩
 rw [if_pos c4] at H;have bX := beq_iff_eq.mpr c4;have bY := bne_eq_false_iff_eq.mpr c4;clear c4
 by_cases c5 : 0 ≤ (ab.length : Int)
 rotate_left
 ·rw [if_neg c5] at H
  exact absurd H (by simp)
 rw [if_pos c5] at H;have cr := eq_true c5;have ct := decide_eq_true c5;clear c5
 by_cases c6 : ((ab.length : Int) : Int).toNat ≤ 281474976710656
 rotate_left
 ·rw [if_neg c6] at H
  exact absurd H (by simp)
 rw [if_pos c6] at H;have cu := eq_true c6;have cv := decide_eq_true c6;clear c6;obtain ⟨bB, aW⟩ : ∃ y_ : List Bool, y_ = (List.replicate ((ab.length : Int) : Int).toNat false) := ⟨_, rfl⟩
 replace H : (tune_Prune.l0 k ag (ag.length : Int) 0 aq ab ag bB) = some (r1, r2, r3, r4) := by first | (rw [aW]; with_reducible exact H) | (have H2_ := (Option.bind_some _ _).symm.trans H; rw [aW]; with_reducible exact H2_) | (have H2_ := (Option.bind_some _ _).symm.trans H; with_reducible exact H2_) | with_reducible exact H | (rw [aW]; exact H) | exact H
 have bO := Aside0.mk aW;clear aW;have H' := Aside0.mk H;clear H;refine calls_marks Try.func22 rfl ?_;simp only [Try.ntmps22, List.size_toArray, List.length_cons, List.length_nil, Nat.reduceAdd, Nat.reduceSub, Array.replicate_succ, Array.replicate_zero, List.push_toArray, List.append_toArray, List.nil_append, List.cons_append];go_wp2_with (first | ((with_reducible refine gate_dst (N := 3) rfl ?_); refine box_event ?hg (N := 3) ?hd (cs := #[.slice aC aq.length aD, .slice au ab.length av, .slice aH ag.length aE]) (t := 26) ?hr ?_; (case hd => rfl); (case hg => rfl); (case hr => first | (go_simp; done) | (go_simp; rfl)); intro aV hg w7 hbox hb; have ae := am hbox; have bZ := kG HB hg; have ca := kG HB hg; replace HB := kH HB hb; clear hb hbox hg) | ((with_reducible refine gate_dst (N := 4) rfl ?_); refine box_event ?hg (N := 4) ?hd (cs := #[.slice none 0 0, .slice none 0 0, .slice none 0 0]) (t := 26) ?hr ?_; (case hd => rfl); (case hg => rfl); (case hr => first | (go_simp; done) | (go_simp; rfl)); intro ak hg w8 hbox hb; have ah := am hbox; have cb := kG HB hg; have ba := kG HB hg; replace HB := kH HB hb; have ax := kP ae hg; have ay := kQ ae hg; replace ae := kU ae hb; clear hb hbox hg; have dh := ax.out; have di := ay.out; have Z10 := kz3 ae) | ((with_reducible refine gate_callee (f := 37) rfl ?_); refine goesL_ (some 16) rfl rfl Try.func37 (by kernel_rfl) rfl #[.int .u64 a0, .agg #[.slice aC aq.length aD, .slice au ab.length av, .slice aH ag.length aE]] rfl (by (try simp only [qM1, qM2, qM3]); first | done | rfl) ?_; (with_reducible refine (circ_Check.calls k a0 _ _ aq _ _ ab _ _ ag be _ ?side1 ?side2 ?side3 ?side4 ?side5 ?side6 A3.out).mono ?_); (case side1 => repeat (first | exact (Kd.C_below bm.out HB.out) | (with_reducible first | refine Kd.C_alloc ?_ _ | refine Kd.C_drewN ?_ _ | refine Kd.C_drew ?_))); (case side2 => exact bn.out); (case side3 => repeat (first | exact (Kd.C_below aJ.out HB.out) | (with_reducible first | refine Kd.C_alloc ?_ _ | refine Kd.C_drewN ?_ _ | refine Kd.C_drew ?_))); (case side4 => exact bo.out); (case side5 => repeat (first | exact (Kd.C_below aZ.out HB.out) | (with_reducible first | refine Kd.C_alloc ?_ _ | refine Kd.C_drewN ?_ _ | refine Kd.C_drew ?_))); (case side6 => exact bp.out); rintro e w11 ⟨rfl, hb⟩; refine ⟨_, rfl, ?_⟩; replace ae := kU ae hb; replace ah := kU ah hb; replace HB := kH HB hb; (try clear hb); (try clear hb2); (try clear hk); (try clear hi); have Z12 := kz3 ae) | ((with_reducible refine gate_dst (N := 24) rfl ?_); refine Kd.R_make Kd.bool _ 4 rfl (N := 24) rfl 81 _ _ rfl (ab.length : Int) rfl rfl Try.underlying81 (.bool false) 1 info4 rfl (by decide) (by omega) false (ok := fun _ => True) (okp := fun _ => True) rfl (fun _ hk => hk) trivial od (Nat.le_trans (Nat.mul_le_mul_right _ (od : (ab.length : Int).toNat ≤ 281474976710656)) (by omega)) (Below.refl _ _) (Nat.le_refl _) ?_; intro dj w13 ho14 hb hg_ hnew_; clear hg_ hnew_; (first | rw [← bO.out] at ho14 | (simp only [Int.reduceToNat] at ho14; rw [← bO.out] at ho14)); have bb := kLR ho14 HB; replace ae := kU ae hb; replace ah := kU ah hb; replace HB := kH HB hb; clear hb ho14) | ((with_reducible refine gate_dst (N := 7) rfl ?_); refine box_event ?hg (N := 7) ?hd (cs := #[.slice none 0 0]) (t := 81) ?hr ?_; (case hd => rfl); (case hg => rfl); (case hr => first | (go_simp; done) | (go_simp; rfl)); intro ar hg w15 hbox hb; replace bb := kR bb hb; have an := am hbox; have cI := kG HB hg; have cJ := kG HB hg; replace HB := kH HB hb; have aK := kP ae hg; have aM := kQ ae hg; replace ae := kU ae hb; have aN := kP ah hg; have aQ := kQ ah hg; replace ah := kU ah hb; clear hb hbox hg; obtain ⟨cc, cd, cw⟩ := Kd.R_slice bb.out; subst cw; have cK := aM.out; have cL := aK.out; have cM := aQ.out; have cN := aN.out; have Z19 := kz1 an; have Z20 := kz3 ae));go_loopg [28] k (fun kq v28 w' => ∃ (ai : Int) (aa : List Bool) (ap : Value), v28 = .int .i64 ai ∧ Aside0 (tune_Prune.l0 kq ag (ag.length : Int) ai aq ab ag aa = some (r1, r2, r3, r4)) ∧ Aside0 (kq ≤ k) ∧ Aside0 (Kd.R Kd.bool 4 w' w.heap.size (fun _ => True) ap aa) ∧ Aside0 (w'.heap[aV]? = some (.cells #[(.slice aC aq.length aD), (.slice au ab.length av), (.slice aH ag.length aE)] 26 (0, 0))) ∧ Aside0 (w'.heap[ak]? = some (.cells #[(.slice none 0 0), (.slice none 0 0), (.slice none 0 0)] 26 (0, 0))) ∧ Aside0 (w'.heap[ar]? = some (.cells #[ap] 81 (0, 0))) ∧ Aside0 (Below w.heap.size w w'))
 case atStart => exact ⟨(0), (bB), (.slice cc bB.length cd), et, H', ⟨Nat.le_refl _⟩, ⟨by (with_reducible repeat first | apply Kd.R_alloc | apply Kd.R_drewN | apply Kd.R_drew); exact Kd.R_mono (Kd.R_far (p := ⟨ar, 0, none⟩) (Kd.R_types bb.out an.out (by decide)) (fun _ hk => hk.2) (.slice cc bB.length cd)) (fun _ hk => trivial)⟩, ⟨kg ae⟩, ⟨kg ah⟩, ⟨kg an⟩, ⟨kh HB⟩⟩
 case round =>
  clear H';(try clear bX bY cr ct cu cv Z10 Z12 Z19 Z20);obtain ⟨ai, aa, ap, rfl, HA, HK1, af, ae, ah, an, HB⟩ := hrel
  cases gk with
  | zero => exact absurd HA.out (by simp [tune_Prune.l0])
  | succ k1 =>
   have H := HA.out;clear HA;simp only [tune_Prune.l0] at H
   by_cases c21 : ai < (ag.length : Int)
   ·rw [if_pos c21] at H
    have bP := decide_eq_true c21;clear c21
    by_cases c22 : 0 ≤ ai
    rotate_left
    ·rw [if_neg c22] at H
     exact absurd H (by simp)
    rw [if_pos c22] at H;have ce := decide_eq_true c22;clear c22
    by_cases c23 : ai < (ag.length : Int)
    rotate_left
    ·rw [if_neg c23] at H
     exact absurd H (by simp)
    rw [if_pos c23] at H;have cf := decide_eq_true c23;clear c23;have H' := Aside0.mk H;clear H;have bC : 0 ≤ (ai : Int) := od;have bD : ai < (ag.length : Int) := od;obtain ⟨cg, bq, br, bt, bu, cx, az, aA, bc, hi297_0, bd, hi297_1⟩ := at_T66 aZ.out ai bC bD;cases cx;replace az := (HB.out.cell (World.block_lt_of_cell? w _ az)).trans az;replace aA := (HB.out.cell (World.block_lt_of_cell? w _ aA)).trans aA;have co := Aside0.mk hi297_0;have cp := Aside0.mk bc;clear hi297_0 bc;have bE := Aside0.mk hi297_1;have cq := Aside0.mk bd;clear hi297_1 bd; replace bC := eq_true bC; replace bD := eq_true bD;go_wp2_with (first | ((with_reducible refine gate_dst (N := 9) rfl ?_); refine box_event ?hg (N := 9) ?hd (cs := #[.slice none 0 0, .slice none 0 0]) (t := 66) ?hr ?_; (case hd => rfl); (case hg => rfl); (case hr => first | (go_simp; done) | (go_simp; rfl)); intro bv hg w24 hbox hb; replace af := kR af hb; have aG := am hbox; have cO := kG HB hg; have cP := kG HB hg; replace HB := kH HB hb; have bf := kP ae hg; have bg := kQ ae hg; replace ae := kU ae hb; have bh := kP ah hg; have bi := kQ ah hg; replace ah := kU ah hb; have aR := kP an hg; have aT := kQ an hg; replace an := kU an hb; clear hb hbox hg; have cQ := bg.out; have cR := bf.out; have cS := bi.out; have cT := bh.out; have cU := aT.out; have cV := aR.out; have Z28 := kz2 aG));go_loopg [35] k1 (fun kq v35 w' => ∃ (ao : Int) (aj : List Bool) (ap : Value), v35 = .int .i64 ao ∧ Aside0 (tune_Prune.l1 kq ag (ag.length : Int) ai ((rd_T66 ag ai).f1) (((rd_T66 ag ai).f1).length : Int) ao aq ab ag aj = some (r1, r2, r3, r4)) ∧ Aside0 (kq ≤ k1) ∧ Aside0 (Kd.R Kd.bool 4 w' w.heap.size (fun _ => True) ap aj) ∧ Aside0 (w'.heap[aV]? = some (.cells #[(.slice aC aq.length aD), (.slice au ab.length av), (.slice (some cg) ag.length aE)] 26 (0, 0))) ∧ Aside0 (w'.heap[ak]? = some (.cells #[(.slice none 0 0), (.slice none 0 0), (.slice none 0 0)] 26 (0, 0))) ∧ Aside0 (w'.heap[ar]? = some (.cells #[ap] 81 (0, 0))) ∧ Aside0 (w'.heap[bv]? = some (.cells #[(.slice bq ((rd_T66 ag ai).f0).length br), (.slice bt ((rd_T66 ag ai).f1).length bu)] 66 (0, 0))) ∧ Aside0 (Below w.heap.size w w'))
    case atStart => exact ⟨(0), (aa), (ap), et, H', ⟨Nat.le_refl _⟩, ⟨by (with_reducible repeat first | apply Kd.R_alloc | apply Kd.R_drewN | apply Kd.R_drew); exact Kd.R_mono (Kd.R_far (p := ⟨bv, 1, none⟩) (Kd.R_far (p := ⟨bv, 0, none⟩) (Kd.R_types af.out aG.out (by decide)) (fun _ hk => hk.2) (.slice bq ((rd_T66 ag ai).f0).length br)) (fun _ hk => hk.2) (.slice bt ((rd_T66 ag ai).f1).length bu)) (fun _ hk => trivial)⟩, ⟨kg ae⟩, ⟨kg ah⟩, ⟨kg an⟩, ⟨kg aG⟩, ⟨kh HB⟩⟩
    case round =>
     clear H';(try clear bP ce cf Z28 az aA bC bD);obtain ⟨ao, aj, ap, rfl, HA, HK2, af, ae, ah, an, aG, HB⟩ := hrel
     cases gk with
     | zero => exact absurd HA.out (by simp [tune_Prune.l1])
     | succ k2 =>
      have H := HA.out;clear HA;simp only [tune_Prune.l1] at H
      by_cases c29 : ao < (((rd_T66 ag ai).f1).length : Int)
      rotate_left
      ·rw [if_neg c29] at H
       have ch := decide_eq_false c29;clear c29;have H' := Aside0.mk H;clear H;go_wp2;go_roundg k2
       case measure => have := HK1.out; have := HK2.out; omega
       case rel => exact ⟨(wrap64 (ai + 1)), (aj), (ap), et, H', ⟨by have := HK1.out; have := HK2.out; omega⟩, ⟨krR af⟩, ⟨kg ae⟩, ⟨kg ah⟩, ⟨kg an⟩, ⟨kh HB⟩⟩
      rw [if_pos c29] at H;have ch := decide_eq_true c29;clear c29
      by_cases c30 : 0 ≤ ao
      rotate_left
      ·rw [if_neg c30] at H
       exact absurd H (by simp)
      rw [if_pos c30] at H;have cW := decide_eq_true c30;clear c30
      by_cases c31 : ao < (((rd_T66 ag ai).f1).length : Int)
      rotate_left
      ·rw [if_neg c31] at H
       exact absurd H (by simp)
      rw [if_pos c31] at H;have cX := decide_eq_true c31;clear c31
      by_cases c32 : 0 ≤ (rd ((rd_T66 ag ai).f1) ao)
      rotate_left
      ·rw [if_neg c32] at H
       exact absurd H (by simp)
      rw [if_pos c32] at H;have cY := decide_eq_true c32;clear c32
      by_cases c33 : (rd ((rd_T66 ag ai).f1) ao) < (aj.length : Int)
      rotate_left
      ·rw [if_neg c33] at H
       exact absurd H (by simp)
      rw [if_pos c33] at H;have cZ := decide_eq_true c33;clear c33;obtain ⟨bT, aX⟩ : ∃ y_ : List Bool, y_ = (aj.set ((rd ((rd_T66 ag ai).f1) ao) : Int).toNat true) := ⟨_, rfl⟩
      replace H : (tune_Prune.l1 k2 ag (ag.length : Int) ai ((rd_T66 ag ai).f1) (((rd_T66 ag ai).f1).length : Int) (wrap64 (ao + 1)) aq ab ag bT) = some (r1, r2, r3, r4) := by first | (rw [aX]; with_reducible exact H) | (have H2_ := (Option.bind_some _ _).symm.trans H; rw [aX]; with_reducible exact H2_) | (have H2_ := (Option.bind_some _ _).symm.trans H; with_reducible exact H2_) | with_reducible exact H | (rw [aX]; exact H) | exact H
      have ci := Aside0.mk aX;clear aX;have H' := Aside0.mk H;clear H;have bU : 0 ≤ (ao : Int) := od;have bV : ao < (((rd_T66 ag ai).f1).length : Int) := od;obtain ⟨da, cy, aU⟩ := Kd.at_int bE.out ao bU bV;cases cy;replace aU := (HB.out.cell (World.block_lt_of_cell? w _ aU)).trans aU;replace bU := eq_true bU; replace bV := eq_true bV;have db := aM.out;have dc := aK.out;have dd := aQ.out;have de := aN.out;have df := aR.out;have dg := aT.out;have Z38 := kz1 an;have p34 : 0 ≤ ((rd ((rd_T66 ag ai).f1) ao) : Int) := od;have q34 : ((rd ((rd_T66 ag ai).f1) ao) : Int) < ((aj.length : Int) : Int) := od;obtain ⟨bF, cj, ck, cl, gl34, cl34, HG34⟩ := Kd.R_form af.out (by omega);(first | cases ck | (injection ck with ea_ en_ ec_; (first | subst ea_ | (injection ea_ with ea_; subst ea_)); subst ec_; clear en_));have cz := Aside0.mk cl;have dk := Aside0.mk HG34;clear cl gl34 HG34;obtain ⟨cA, cB⟩ := Kd.R_celln false af.out ((rd ((rd_T66 ag ai).f1) ao) : Int) p34 q34;replace p34 := eq_true p34; replace q34 := eq_true q34;have bW := Kd.R_putg af.out ((rd ((rd_T66 ag ai).f1) ao) : Int) true;go_wp2_with (first | ((with_reducible refine gate_store (t := 4) (p := 41) rfl ?_); refine store_event (t := 4) (p := 41) (v := ?vo_w40) (w1 := (wr.setCell ⟨bF, ((rd ((rd_T66 ag ai).f1) ao) : Int).toNat, none⟩ (.bool true))) ?hg ?ho ?hn ?hr ?_; (case ho => rfl); (case hg => rfl); (case hn => rfl); (case hr => first | (go_simp; done) | (go_simp; rfl)); intro w40 hw; have hg : wr.grownBy w40 (some bF) := (by rw [hw]; exact bW.2); have hp_ : Kd.R Kd.bool 4 w40 w.heap.size (fun _ => True) (.slice (some ⟨bF, 0, none⟩) aj.length cj) bT := (by rw [hw, ci.out]; exact bW.1); clear bW; replace ae := kXR ae af hg; replace ah := kXR ah af hg; replace an := kXR an af hg; replace aG := kXR aG af hg; replace af := Aside0.mk (hp_); replace HB := Aside0.mk ((by rw [hw]; exact below_set (HB.out) cz.out : Below w.heap.size w w40)); clear hg hw hp_));go_roundg k2
      case measure => have := HK1.out; have := HK2.out; omega
      case rel => exact ⟨(wrap64 (ao + 1)), (bT), (.slice (some ⟨bF, 0, none⟩) aj.length cj), et, H', ⟨by have := HK1.out; have := HK2.out; omega⟩, ⟨krR af⟩, ⟨kg ae⟩, ⟨kg ah⟩, ⟨kg an⟩, ⟨kg aG⟩, ⟨kh HB⟩⟩
   rw [if_neg c21] at H;have bP := decide_eq_false c21;clear c21;replace H := Option.bind_eq_some_iff.mp H;obtain ⟨bw, cm, H⟩ := H;have A41 := Aside0.mk cm;clear cm;replace H := Option.bind_eq_some_iff.mp H;obtain ⟨⟨aY, bj, bx⟩, cn, H⟩ := H;(try dsimp only at H);have A42 := Aside0.mk cn;clear cn;simp only [Option.some.injEq, Prod.mk.injEq] at H;obtain ⟨rfl, rfl, rfl, rfl⟩ := H;have Z45 := ky3 ae;obtain ⟨aI, aw, cC⟩ := Kd.R_slice af.out;subst cC;go_wp2;refine (wpIn_wide (n := 5)).1 ?_;obtain ⟨W1, hW1⟩ : ∃ W1, wr.alloc (Obj.cells #[Value.slice au ab.length av] 23) = W1 := ⟨_, rfl⟩;rw [hW1];obtain ⟨B, hBd⟩ : ∃ B, B = W1.heap.size := ⟨_, rfl⟩
   have hsz : W1.heap.size = wr.heap.size + 1 := by rw [← hW1, World.size_alloc]
   have hbs : w.heap.size ≤ wr.heap.size := HB.out.size
   have hRa : Kd.R Kd.bool 4 W1 w.heap.size (fun k => k < B) (.slice aI aa.length aw) aa := by
    rw [← hW1];exact Kd.R_alloc (Kd.R_mono (Kd.R_bound af.out) (fun k hk => by obtain ⟨_, _, h3, _⟩ := hk; omega)) _
   have hbk : ∀ (g : Nat) (o : Obj), wr.heap[g]? = some o → W1.heap[g]? = some o := fun g o h => by rw [← hW1]; exact blk_below h (Below.alloc (Below.refl _ wr) (Nat.le_refl _) _)
   have hb1 : Below w.heap.size w W1 := by rw [← hW1]; exact Below.alloc HB.out hbs _
   have hgs : W1.heap[wr.heap.size]? = some (.cells #[Value.slice au ab.length av] 23 (0, 0)) := by rw [← hW1]; exact blk_new wr _
   have k278 := hbk _ _ ae.out;have k279 := hbk _ _ ah.out;have k284 := hbk _ _ an.out
   have hlt : ∀ (g : Nat) (o : Obj), W1.heap[g]? = some o → g < B := fun g o h => by rw [hBd]; exact (Array.getElem?_eq_some_iff.1 h).1
   have hA : ∀ ad, au = some ad → 0 < ab.length → ad.block < w.heap.size := by
    rintro ad rfl hl;obtain ⟨ad', e, h, -⟩ := at_T61 aJ.out 0 (by omega) (by omega);cases e;have := World.block_lt_of_cell? w _ h;rw [show (ad.add ((0 : Int).toNat * 4)).block = ad.block by unfold Addr.add; split <;> rfl] at this;exact this
   have hC1 : Kd.C k61 W1 au ab.length ab := Kd.C_below aJ.out hb1;have hlen : ab.length ≤ 9223372036854775807 := aJ.out.2.1;obtain ⟨hm1, hm2, hm3⟩ := tune_Prune.mark_some A41.out;obtain ⟨hs, hhs⟩ : ∃ hs : List (Nat × Obj), hs = [(aV, .cells #[.slice aC aq.length aD, .slice au ab.length av, .slice aH ag.length aE] 26 (0, 0)), (ak, .cells #[.slice none 0 0, .slice none 0 0, .slice none 0 0] 26 (0, 0)), (ar, .cells #[.slice aI aa.length aw] 81 (0, 0)), (wr.heap.size, .cells #[Value.slice au ab.length av] 23 (0, 0))] := ⟨_, rfl⟩
   have hhh : ∀ p ∈ hs, p.1 < B ∧ W1.heap[p.1]? = some p.2 ∧ ∀ c fr, p.2 ≠ .cells c 4 fr := by
    rw [hhs];intro p hp
    rcases List.mem_cons.1 hp with rfl | hp
    ·exact ⟨hlt _ _ k278, k278, fun c fr e => by cases e⟩
    rcases List.mem_cons.1 hp with rfl | hp
    ·exact ⟨hlt _ _ k279, k279, fun c fr e => by cases e⟩
    rcases List.mem_cons.1 hp with rfl | hp
    ·exact ⟨hlt _ _ k284, k284, fun c fr e => by cases e⟩
    rcases List.mem_cons.1 hp with rfl | hp
    ·exact ⟨hlt _ _ hgs, hgs, fun c fr e => by cases e⟩
    ·cases hp
   have hBase : w.heap.size ≤ B := by omega
   have hOwn := tune_Prune.I_own (v := .slice aI aa.length aw) (l := fun pre => pre.foldl (fun a x => tune_Prune.step ab a (min x (ab.length - 1))) aa) hBase (Nat.le_refl w.heap.size) (fun p hp => (hhh p hp).1);have hI0 : tune_Prune.I w.heap.size B w (.slice aI aa.length aw) (fun pre => pre.foldl (fun a x => tune_Prune.step ab a (min x (ab.length - 1))) aa) hs [] W1 := ⟨hRa, fun p hp => (hhh p hp).2.1, hb1, by omega⟩;subst hBd
   refine wpIn_range_box (fun x g => (?A1 : Nat → Nat → Act) (min x (ab.length - 1)) g) (fun x => #[.int .i64 (rd_T61 ab ((min x (ab.length - 1) : Nat) : Int)).f0, .int .i64 (rd_T61 ab ((min x (ab.length - 1) : Nat) : Int)).f1, .int .i64 (rd_T61 ab ((min x (ab.length - 1) : Nat) : Int)).f2, .int .u64 (rd_T61 ab ((min x (ab.length - 1) : Nat) : Int)).f3]) 61 rfl (by omega) (gf := 77) (lb := #[.pointer (some ⟨wr.heap.size, 0, none⟩)]) rfl trivial (enters_of Try.func77 (by kernel_rfl) rfl)
    (api_Gate_51_stops Fence.wide (5 - 1) trivial rfl (by omega) wr.heap.size w.heap.size av au ab.length ab W1 (by omega) (by omega) hlen (by simp only [World.cell?, hgs]; rfl) hC1 hA) api_Gate_51_Kp_t (api_Gate_51_Kp_b (by omega) (by omega)) (Below.refl _ _) (fun _ => rfl)
    (tune_Prune.I w.heap.size W1.heap.size w (.slice aI aa.length aw) (fun pre => pre.foldl (fun a x => tune_Prune.step ab a (min x (ab.length - 1))) aa) hs) hOwn hI0
    ?assign ?body ?done
   case assign =>
    intro l pre x W K hI hK;unfold api_Gate_51_enc api_Gate_51_val;generalize min x (ab.length - 1) = m at hK ⊢
    gi_wp2
    have hg := World.grownBy_alloc W (.cells #[.int .i64 (rd_T61 ab (m : Int)).f0, .int .i64 (rd_T61 ab (m : Int)).f1, .int .i64 (rd_T61 ab (m : Int)).f2, .int .u64 (rd_T61 ab (m : Int)).f3] 61 (0, 0)) none;have hn := blk_new W (.cells #[.int .i64 (rd_T61 ab (m : Int)).f0, .int .i64 (rd_T61 ab (m : Int)).f1, .int .i64 (rd_T61 ab (m : Int)).f2, .int .u64 (rd_T61 ab (m : Int)).f3] 61 (0, 0));have hsW := hI.2.2.2;have hI2 := tune_Prune.I_step hI hBase (Nat.le_refl _) hg
    have hKp : api_Gate_51_Kp w.heap.size wr.heap.size W (W.alloc (.cells #[.int .i64 (rd_T61 ab (m : Int)).f0, .int .i64 (rd_T61 ab (m : Int)).f1, .int .i64 (rd_T61 ab (m : Int)).f2, .int .u64 (rd_T61 ab (m : Int)).f3] 61 (0, 0))) :=
     ⟨Below.alloc (Below.refl _ W) (by omega) _, hg.block _ (by omega) (by simp)⟩
    have hKf := KeepsFrom.of_grownBy (B := W1.heap.size) hg (fun j hj => by cases hj);generalize W.alloc _ = W' at hg hn hI2 hKp hKf ⊢;generalize W.heap.size = g13 at hn hsW ⊢;exact hK g13 W' hsW hKf hKp hI2 hn
   case body =>
    intro l pre x g13 W hg13 hI hb13 hltn;obtain ⟨m, hm⟩ : ∃ m, m = min x (ab.length - 1) := ⟨_, rfl⟩
    have hml : m < ab.length := by omega
    rw [← hm] at hb13 ⊢;obtain ⟨hR, hks, hBW, hsW⟩ := hI;obtain ⟨al, hal⟩ : ∃ al, al = pre.foldl (fun a x => tune_Prune.step ab a (min x (ab.length - 1))) aa := ⟨_, rfl⟩
    have hll : al.length = ab.length := by rw [hal, tune_Prune.fold_length]; exact hm1
    have hfin : (pre ++ [x]).foldl (fun a x => tune_Prune.step ab a (min x (ab.length - 1))) aa = tune_Prune.step ab al m := by rw [List.foldl_append, ← hal, hm]; rfl
    replace hR : Kd.R Kd.bool 4 W w.heap.size (fun k => k < W1.heap.size) (.slice aI aa.length aw) al := by rw [hal]; exact hR
    obtain ⟨go, cap, eo, hgo1, hgo2, cells, hgc⟩ := Kd.R_form hR (by omega)
    injection eo with ea en ec
    clear en;subst ea;subst ec;have hgB : go < W1.heap.size := hR.1 go rfl
    have hne : ∀ p ∈ hs, p.1 ≠ go := by
     intro p hp e;have h1 := hks p hp;rw [e, hgc] at h1;exact (hhh p hp).2.2 _ _ (Option.some.inj h1).symm
    have hgsne : wr.heap.size ≠ go := hne (wr.heap.size, .cells #[Value.slice au ab.length av] 23 (0, 0)) (by rw [hhs]; simp)
    have hclose : ∀ W' al', Kd.R Kd.bool 4 W' w.heap.size (fun k => k < W1.heap.size) (.slice (some ⟨go, 0, none⟩) aa.length aw) al' → W.grownBy W' (some go) → al' = tune_Prune.step ab al m →
      KeepsFrom W1.heap.size W W' ∧ api_Gate_51_Kp w.heap.size wr.heap.size W W' ∧ tune_Prune.I w.heap.size W1.heap.size w (.slice (some ⟨go, 0, none⟩) aa.length aw) (fun pre => pre.foldl (fun a x => tune_Prune.step ab a (min x (ab.length - 1))) aa) hs (pre ++ [x]) W' := by
     intro W' al' hR' hg hal';have hbw : Below w.heap.size W W' := (Below.refl _ W).grown hg hBW.size (fun j hj => by cases hj; exact hgo1);refine ⟨KeepsFrom.of_grownBy hg (fun j hj => by cases hj; exact hgB), ⟨hbw, hg.block _ (by omega) (fun e => hgsne (Option.some.inj e))⟩, ?_, fun p hp => ?_, hBW.trans hbw, Nat.le_trans hsW hg.size⟩
     ·rw [hal', ← hfin] at hR'; exact hR'
     ·have hp2 := hks p hp
      exact (hg.block p.1 (Array.getElem?_eq_some_iff.1 hp2).1 (fun e => hne p hp (Option.some.inj e))).trans hp2
    have hbx := hks (ar, .cells #[.slice (some ⟨go, 0, none⟩) aa.length aw] 81 (0, 0)) (by rw [hhs]; simp);have hcx : W.cell? ⟨ar, 0, none⟩ = some (.slice (some ⟨go, 0, none⟩) aa.length aw) := (blk_cell hbx 0).trans rfl;have hc0 : W.cell? ⟨g13, 0, none⟩ = some (.int .i64 (rd_T61 ab (m : Int)).f0) := (blk_cell hb13 0).trans rfl;have hc1 : W.cell? ⟨g13, 1, none⟩ = some (.int .i64 (rd_T61 ab (m : Int)).f1) := (blk_cell hb13 1).trans rfl;have hc2 : W.cell? ⟨g13, 2, none⟩ = some (.int .i64 (rd_T61 ab (m : Int)).f2) := (blk_cell hb13 2).trans rfl;obtain ⟨hr0, hf0⟩ := Kd.R_celln false hR (m : Int) (by omega) (by omega);simp only [Int.toNat_natCast] at hr0 hf0;have hok := tune_Prune.okG_at hm2 m hml
    have hlenI : (m : Int) < (aa.length : Int) := by omega
    have hnn : 0 ≤ (m : Int) := by omega
    obtain ⟨q, hq⟩ : ∃ q, q = rd_T61 ab (m : Int) := ⟨_, rfl⟩
    have hst : tune_Prune.step ab al m = if rdOf false al m = true ∧ q.f0 ≠ 1 ∧ q.f0 ≠ 2 then (if q.f0 = 6 then al.set q.f1.toNat true else (al.set q.f1.toNat true).set q.f2.toNat true) else al := by rw [hq]; rfl
    rw [← hq] at hc0 hc1 hc2 hok;clear hq hm hal hm2 hm3 hA hC1 hOwn hhh hb1 hks hll; replace hlenI := eq_true hlenI; replace hnn := eq_true hnn
    have hg13ne : g13 ≠ go := fun e => by rw [e] at hg13; omega
    have hgbne : ar ≠ go := hne (ar, .cells #[.slice (some ⟨go, 0, none⟩) aa.length aw] 81 (0, 0)) (by rw [hhs]; simp);clear hne hfin
    by_cases b1 : rdOf false al m = true
    rotate_left
    ·have hcl := Aside0.mk (hclose W al hR (World.grownBy.refl _ _) (by rw [hst, if_neg (by simp [b1])]))
     rw [Bool.eq_false_iff.mpr b1] at hr0;clear hclose hst hok hR hsz hm1 hhs hsW hBase b1
     gi_wp2
     exact hcl.out
    rw [b1] at hr0
    by_cases b2 : q.f0 = 1
    ·have b2' : (q.f0 != 1) = false := bne_eq_false_iff_eq.mpr b2
     have hcl := Aside0.mk (hclose W al hR (World.grownBy.refl _ _) (by rw [hst, if_neg (by simp [b2])]));clear hclose hst hok hR hsz hm1 hhs hsW hBase
     gi_wp2
     exact hcl.out
    have b2' : (q.f0 != 1) = true := bne_iff_ne.mpr b2
    by_cases b3 : q.f0 = 2
    ·have b3' : (q.f0 != 2) = false := bne_eq_false_iff_eq.mpr b3
     have hcl := Aside0.mk (hclose W al hR (World.grownBy.refl _ _) (by rw [hst, if_neg (by simp [b3])]));clear hclose hst hok hR hsz hm1 hhs hsW hBase b2 b3
     gi_wp2
     exact hcl.out
    have b3' : (q.f0 != 2) = true := bne_iff_ne.mpr b3
    obtain ⟨p1, p2, p3⟩ : 0 ≤ q.f1 ∧ q.f1 < (ab.length : Int) ∧ (q.f0 = 6 ∨ (0 ≤ q.f2 ∧ q.f2 < (ab.length : Int))) := by
     rcases hok with h | h | h
     ·exact absurd h b2
     ·exact absurd h b3
     ·exact h
    have p2' : q.f1 < (aa.length : Int) := by omega
    obtain ⟨hrA, hfA⟩ := Kd.R_celln false hR q.f1 p1 p2';obtain ⟨hRA, hgA⟩ := Kd.R_putg hR q.f1 true
    by_cases b4 : q.f0 = 6
    ·have b4' : (q.f0 != 6) = false := bne_eq_false_iff_eq.mpr b4
     have hcl := Aside0.mk (hclose _ _ hRA hgA (by rw [hst, if_pos ⟨b1, b2, b3⟩, if_pos b4]));have hd0 : (W.setCell ⟨go, q.f1.toNat, none⟩ (.bool true)).cell? ⟨g13, 0, none⟩ = some (.int .i64 q.f0) := hgA.cell hc0 (fun e => hg13ne (Option.some.inj e));replace p1 := eq_true p1; replace p2' := eq_true p2'; clear hclose hst hok hR hRA hgA hsz hm1 hhs hsW hBase b2 b3 b4 p2 p3
     gi_wp2
     exact hcl.out
    have b4' : (q.f0 != 6) = true := bne_iff_ne.mpr b4
    obtain ⟨p4, p5⟩ : 0 ≤ q.f2 ∧ q.f2 < (ab.length : Int) := by
     rcases p3 with h | h
     ·exact absurd h b4
     ·exact h
    have p5' : q.f2 < (aa.length : Int) := by omega
    obtain ⟨hrB, hfB⟩ := Kd.R_celln false hRA q.f2 p4 p5';obtain ⟨hRB, hgB⟩ := Kd.R_putg hRA q.f2 true;have hcl := Aside0.mk (hclose _ _ hRB (World.grownBy.trans hgA hgB) (by rw [hst, if_pos ⟨b1, b2, b3⟩, if_neg b4]));have hd0 : (W.setCell ⟨go, q.f1.toNat, none⟩ (.bool true)).cell? ⟨g13, 0, none⟩ = some (.int .i64 q.f0) := hgA.cell hc0 (fun e => hg13ne (Option.some.inj e));have hd2 : (W.setCell ⟨go, q.f1.toNat, none⟩ (.bool true)).cell? ⟨g13, 2, none⟩ = some (.int .i64 q.f2) := hgA.cell hc2 (fun e => hg13ne (Option.some.inj e));have hdx : (W.setCell ⟨go, q.f1.toNat, none⟩ (.bool true)).cell? ⟨ar, 0, none⟩ = some (.slice (some ⟨go, 0, none⟩) aa.length aw) := hgA.cell hcx (fun e => hgbne (Option.some.inj e));replace p1 := eq_true p1; replace p2' := eq_true p2'; replace p4 := eq_true p4; replace p5' := eq_true p5'; clear hclose hst hok hR hRA hRB hgA hgB hsz hm1 hhs hsW hBase b2 b3 b4 p2 p3 p5
    gi_wp2
    exact hcl.out
   case done =>
    intro D xs W hD hS hI hD2;obtain ⟨hR0, hks, hBW, hsW⟩ := hI
    have hR : Kd.R Kd.bool 4 W w.heap.size (fun k => k < W1.heap.size) (.slice aI aa.length aw) bw := by rw [hm3, ← show xs = (List.range ab.length).map (fun k => ab.length - 1 - k) from hS]; exact hR0
    have hln : bw.length = aa.length := by rw [hm3, tune_Prune.fold_length]
    rw [← hln] at hR;have hkz := hks;rw [hhs] at hkz;have ae := Aside0.mk (hkz (aV, .cells #[.slice aC aq.length aD, .slice au ab.length av, .slice aH ag.length aE] 26 (0, 0)) (by simp));have ah := Aside0.mk (hkz (ak, .cells #[.slice none 0 0, .slice none 0 0, .slice none 0 0] 26 (0, 0)) (by simp));have an := Aside0.mk (hkz (ar, .cells #[.slice aI aa.length aw] 81 (0, 0)) (by simp));rw [← hln] at an;have HR := Aside0.mk hR;have HB := Aside0.mk hBW;have HD := Aside0.mk hD2;have HDge : Aside0 (w.heap.size ≤ D) := ⟨by omega⟩;have HDn : Aside0 (D ≠ ak) := ⟨fun e => by rw [e] at hD2; rw [ah.out] at hD2; cases hD2⟩;clear hks hkz hR hR0 hBW hD2 hln hm3 hm2 hm1 hS hI0 hOwn hhh hhs hsW hA hC1 hbk hlt k278 k279 k284 hgs hb1 hRa hsz hbs hD hBase hlen;have Z45 := ky3 ae;have hC1 := (Kd.R_reads' HR.out);have hbx : W.cell? ⟨ar, 0, none⟩ = some (.slice aI bw.length aw) := kk an 0;have HC := Aside0.mk hC1.2.2;have HX := Aside0.mk hbx;clear hC1 hbx;go_wp2_with (first | ((with_reducible refine gate_callee (f := 45) rfl ?_); refine goesL_ (some 76) rfl rfl Try.func45 (by kernel_rfl) rfl #[.agg #[.slice aC aq.length aD, .slice au ab.length av, .slice aH ag.length aE], .func (.func 52) #[] #[.pointer (some ⟨ar, 0, none⟩)], .func (.func 53) #[] #[]] rfl (by (try simp only [qM1, qM2, qM3]); first | done | rfl) ?_));refine (tune_moved.calls (tune_Prune.st bw) some 52 53 #[.pointer (some ⟨ar, 0, none⟩)] #[] k1 _ _ aq _ _ ab _ _ ag aY bj bx _ (Kd.C_below bm.out HB.out) bn.out (Kd.C_below aJ.out HB.out) bo.out (Kd.C_below aZ.out HB.out) bp.out (enters_of Try.func52 (by kernel_rfl) rfl) (enters_of Try.func53 (by kernel_rfl) rfl) (fun x0 x1 x2 x3 x4 r V hV hst => tune_Prune.calls1 ar aI aw bw V ((hV.cell (p := ⟨ar, 0, none⟩) (World.block_lt_of_cell? _ _ HX.out)).trans HX.out) (Kd.C_below HC.out hV) x0 x1 x2 x3 x4 r hst) (fun x0 r V hV hst => tune_Prune.calls2 x0 r V hst) A42.out).mono ?_;rintro e w53 ⟨dl, dm, dn, rfl, ho0, ho1, ho2, hb⟩;refine ⟨_, rfl, ?_⟩;replace ho2 := k66t_S ho2;have bQ := Aside0.mk (Kd.R_lower ho0 HB.out.size);have bR := Aside0.mk (Kd.R_lower ho1 HB.out.size);have bS := Aside0.mk (Kd.S_lower ho2 HB.out.size);have ah := Aside0.mk (blk_below ah.out hb);have HD := Aside0.mk (blk_below HD.out hb);have HB := Aside0.mk (below_step HB.out hb);clear ho0 ho1 ho2 hb;obtain ⟨bk, bl, cD⟩ := Kd.R_slice bQ.out;subst cD;obtain ⟨bz, bA, cE⟩ := Kd.R_slice bR.out;subst cE;obtain ⟨bG, bH, cF⟩ := Kd.S_slice bS.out;subst cF;have Z55 := kz3 ah;go_wp2;have hD3 : (((w53.setCell ⟨ak, 0, none⟩ (.slice bk aY.length bl)).setCell ⟨ak, 1, none⟩ (.slice bz bj.length bA)).setCell ⟨ak, 2, none⟩ (.slice bG bx.length bH)).heap[D]? = some (.deferred (some [])) := (Below.heap_setCell _ ⟨ak, 2, none⟩ _ D HDn.out).trans ((Below.heap_setCell _ ⟨ak, 1, none⟩ _ D HDn.out).trans ((Below.heap_setCell _ ⟨ak, 0, none⟩ _ D HDn.out).trans HD.out))
    have hB3 : (((w53.setCell ⟨ak, 0, none⟩ (.slice bk aY.length bl)).setCell ⟨ak, 1, none⟩ (.slice bz bj.length bA)).setCell ⟨ak, 2, none⟩ (.slice bG bx.length bH)).heap[ak]? = some (.cells #[.slice bk aY.length bl, .slice bz bj.length bA, .slice bG bx.length bH] 26 (0, 0)) := by
     refine blk_put (cs := #[.slice bk aY.length bl, .slice bz bj.length bA, .slice none 0 0]) ?_ 2 _ rfl;refine blk_put (cs := #[.slice bk aY.length bl, .slice none 0 0, .slice none 0 0]) ?_ 1 _ rfl;refine blk_put (cs := #[.slice none 0 0, .slice none 0 0, .slice none 0 0]) ?_ 0 _ rfl;exact ah.out
    have hBl : Below w.heap.size w (((w53.setCell ⟨ak, 0, none⟩ (.slice bk aY.length bl)).setCell ⟨ak, 1, none⟩ (.slice bz bj.length bA)).setCell ⟨ak, 2, none⟩ (.slice bG bx.length bH)) := by
     refine below_set ?_ ba.out;refine below_set ?_ ba.out;refine below_set ?_ ba.out;exact HB.out
    have hr1 := putO_R (o' := .deferred none) (kt bQ ah) hD3 rfl;have hr2 := putO_R (o' := .deferred none) (kt bR ah) hD3 rfl;have hr3 := putO_S (o' := .deferred none) (ks bS ah) hD3 rfl;have hB4 := putO_blk (o' := .deferred none) hD3 rfl hB3 rfl;have hBl4 := hBl.grown (grownBy_putObj' _ D (.deferred none)) hBl.size (fun j hj => by cases hj; exact HDge.out);refine marks_ret1 rfl hD3 (results_ct rfl _ _ ak 26 _ (0, 0) _ rfl hB4 Try.underlying26 rfl (by kernel_rfl)) ?_;exact ⟨_, _, _, rfl, hr1, hr2, hr3, hBl4⟩
end Go.Proofs.Ytmlbliggbkfjnaa.J
