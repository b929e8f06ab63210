/- Part 4 of the proof of TuneShares: what the functions compute as plain Lean functions, that the machine comes to just these answers, and that the answer is true; no conditions. -/
import Derived.Test.YtmlbliggbkfjnaaTuneSharesZ0
import Derived.Test.YtmlbliggbkfjnaaTuneSharesZ1
import Derived.Test.YtmlbliggbkfjnaaTuneSharesZ2
import Derived.Test.YtmlbliggbkfjnaaTuneSharesZ3
import Derived.RangeFuncBox
import Derived.RangeFuncLeaves
import Derived.RangeFuncCalls
import Derived.RangeFuncWrites
import Derived.RangeFuncNested
import Derived.Shelf.Abstract
import Derived.OwnWalkIn
import Derived.TacticsInMore
import Derived.LoopNIn
import Derived.LoopIn
import Derived.Laws.EntriesVeiled
set_option linter.unusedSimpArgs false
set_option linter.unusedVariables false
set_option maxHeartbeats 8000000
set_option maxRecDepth 100000
namespace Go.Proofs.Ytmlbliggbkfjnaa.J
open Go.RowKit Go.Proofs.YtmlbliggbkfjnaaW.PrintWords Go.Proofs.YtmlbliggbkfjnaaW.PrintLast Go.Proofs.YtmlbliggbkfjnaaW.PrintMore
attribute [local go_sem] max2_int min2_int max_two min_two max_three min_three max_four min_four
open Go.Shelf
attribute [local go_sem] Oper.semAt_some
def tune_Prune.step (x1 : List S61) (a : List Bool) (i : Nat) : List Bool :=
 if rdOf false a i = true ∧ (rd_T61 x1 i).f0 ≠ 1 ∧ (rd_T61 x1 i).f0 ≠ 2 then
  (if (rd_T61 x1 i).f0 = 6 then a.set (rd_T61 x1 i).f1.toNat true else (a.set (rd_T61 x1 i).f1.toNat true).set (rd_T61 x1 i).f2.toNat true)
 else a
def tune_Prune.okG (x1 : List S61) : Bool := x1.all fun g => decide (g.f0 = 1 ∨ g.f0 = 2 ∨ (0 ≤ g.f1 ∧ g.f1 < (x1.length : Int) ∧ (g.f0 = 6 ∨ (0 ≤ g.f2 ∧ g.f2 < (x1.length : Int)))))
def tune_Prune.at (n x : Nat) : Nat := min x (n - 1)
def tune_Prune.mark (a : List Bool) (x1 : List S61) : Option (List Bool) :=
 if a.length = x1.length ∧ tune_Prune.okG x1 = true then some (((List.range x1.length).map fun k => x1.length - 1 - k).foldl (fun a x => tune_Prune.step x1 a (min x (x1.length - 1))) a) else none
def tune_Prune.st (l : List Bool) (i _ _ _ _ : Int) : Option Bool := if 0 ≤ i ∧ i < (l.length : Int) then some (rdOf false l i) else none
theorem tune_Prune.mark_some {a : List Bool} {x1 : List S61} {r : List Bool} (h : tune_Prune.mark a x1 = some r) : a.length = x1.length ∧ tune_Prune.okG x1 = true ∧ r = ((List.range x1.length).map fun k => x1.length - 1 - k).foldl (fun a x => tune_Prune.step x1 a (min x (x1.length - 1))) a := by
 unfold tune_Prune.mark at h
 split at h
 ·rename_i h2
  exact ⟨h2.1, h2.2, (Option.some.inj h).symm⟩
 ·cases h
theorem tune_Prune.step_length (x1 : List S61) (a : List Bool) (i : Nat) : (tune_Prune.step x1 a i).length = a.length := by
 unfold tune_Prune.step
 split
 ·split <;> simp
 ·rfl
theorem tune_Prune.fold_length (x1 : List S61) (a : List Bool) (l : List Nat) : (l.foldl (fun a x => tune_Prune.step x1 a (min x (x1.length - 1))) a).length = a.length := by
 induction l generalizing a with
 | nil => rfl
 | cons x l ih => rw [List.foldl_cons, ih, tune_Prune.step_length]
theorem tune_Prune.okG_at {x1 : List S61} (h : tune_Prune.okG x1 = true) (i : Nat) (hi : i < x1.length) : (rd_T61 x1 i).f0 = 1 ∨ (rd_T61 x1 i).f0 = 2 ∨ (0 ≤ (rd_T61 x1 i).f1 ∧ (rd_T61 x1 i).f1 < (x1.length : Int) ∧ ((rd_T61 x1 i).f0 = 6 ∨ (0 ≤ (rd_T61 x1 i).f2 ∧ (rd_T61 x1 i).f2 < (x1.length : Int)))) := by
 have h1 := List.all_eq_true.1 h x1[i] (List.getElem_mem hi)
 have h2 : rd_T61 x1 (i : Int) = x1[i] := by simp [rd_T61, List.getD_eq_getElem?_getD, hi]
 rw [h2];exact of_decide_eq_true h1
def tune_Prune.I (base B : Nat) (w0 : World) (v : Value) (l : List Nat → List Bool) (hs : List (Nat × Obj)) (pre : List Nat) (W : World) : Prop :=
 Kd.R Kd.bool 4 W base (fun k => k < B) v (l pre) ∧ (∀ p ∈ hs, W.heap[p.1]? = some p.2) ∧ Below base w0 W ∧ B ≤ W.heap.size
theorem tune_Prune.I_own {base B : Nat} {w0 : World} {v : Value} {l : List Nat → List Bool} {hs : List (Nat × Obj)} (hB : base ≤ B) (hw : base ≤ w0.heap.size) (hh : ∀ p ∈ hs, p.1 < B) : OwnFrom B (tune_Prune.I base B w0 v l hs) := by
 rintro s W W' row ⟨h1, h2, h3, h4⟩ hg hr;refine ⟨Kd.R_step h1 (fun k hk hl => hg.block k hl (fun e => by have := (hr k e.symm).1; omega)), fun p hp => ?_, ?_, Nat.le_trans h4 hg.size⟩
 ·have hp2 := h2 p hp
  exact (hg.block p.1 (Array.getElem?_eq_some_iff.1 hp2).1 (fun e => by have := (hr p.1 e.symm).1; have := hh p hp; omega)).trans hp2
 ·exact h3.grown hg (Nat.le_trans hw h3.size) (fun j hj => Nat.le_trans hB (hr j hj).1)
theorem tune_Prune.I_step {base B : Nat} {w0 : World} {v : Value} {l : List Nat → List Bool} {hs : List (Nat × Obj)} {pre : List Nat} {W W' : World} (hI : tune_Prune.I base B w0 v l hs pre W) (hB : base ≤ B) (hw : base ≤ w0.heap.size) (hg : W.grownBy W' none) : tune_Prune.I base B w0 v l hs pre W' := by
 obtain ⟨h1, h2, h3, h4⟩ := hI;refine ⟨Kd.R_step h1 (fun k hk hl => hg.block k hl (by simp)), fun p hp => ?_, h3.grown hg (Nat.le_trans hw h3.size) (fun j hj => by cases hj), Nat.le_trans h4 hg.size⟩;have hp2 := h2 p hp;exact (hg.block p.1 (Array.getElem?_eq_some_iff.1 hp2).1 (by simp)).trans hp2
theorem tune_Prune.box4 (W : World) (a b c d : Value) (z : Array Value) (hz : z.size = 4) :
  W.grownBy (((((W.alloc (.cells z 61 (0, 0))).setCell ⟨W.heap.size, 0, none⟩ a).setCell ⟨W.heap.size, 1, none⟩ b).setCell ⟨W.heap.size, 2, none⟩ c).setCell ⟨W.heap.size, 3, none⟩ d) none ∧
  (((((W.alloc (.cells z 61 (0, 0))).setCell ⟨W.heap.size, 0, none⟩ a).setCell ⟨W.heap.size, 1, none⟩ b).setCell ⟨W.heap.size, 2, none⟩ c).setCell ⟨W.heap.size, 3, none⟩ d).heap[W.heap.size]? = some (.cells #[a, b, c, d] 61 (0, 0)) := by
 obtain ⟨z0, z1, z2, z3, rfl⟩ : ∃ z0 z1 z2 z3, z = #[z0, z1, z2, z3] := by
  obtain ⟨l⟩ := z
  match l, hz with
  | [z0, z1, z2, z3], _ => exact ⟨z0, z1, z2, z3, rfl⟩
 constructor
 ·have hs : ∀ (w' : World) (j : Nat) (v : Value), W.grownBy w' none → W.grownBy (w'.setCell ⟨W.heap.size, j, none⟩ v) none := fun w' j v h =>
   ⟨h.os, h.tape, h.output, by rw [World.size_setCell]; exact h.size, fun k hk hne => (Below.heap_setCell w' ⟨W.heap.size, j, none⟩ v k (by simp only; omega)).trans (h.block k hk hne)⟩
  exact hs _ _ _ (hs _ _ _ (hs _ _ _ (hs _ _ _ (World.grownBy_alloc W _ none))))
 ·exact blk_put (blk_put (blk_put (blk_put (blk_new W (.cells #[z0, z1, z2, z3] 61 (0, 0))) 0 a rfl) 1 b rfl) 2 c rfl) 3 d rfl
theorem wpIn_range_box {F : Fence} {n : Nat} {P : Program} {α : Type} {g : Operand} {ps : Array Tmp} {assign body : Code} {Q : Exit → Act → World → Prop} {a : Act} {w : World} (A1 : α → Nat → Act) (VV : α → Array Value) (tb : TypeId)
  (hro : F.round = none) (h1 : 1 ≤ n) {gf : Nat} {lb : Array Value} (hg : a.eval g = .func (.func gf) #[] lb) (hFg : F.fn gf) (eg : ∀ args w, (callFunc gf args).run P w = .ok (.enter gf args) w)
  {encs : α → Array Value} {Kp : World → World → Prop} {S Sp : List α → Prop} {N : Nat} {w0 : World} (hseq : SeqStopsK F (n - 1) P gf lb encs Kp S Sp N w0)
  (hKt : ∀ {A B C : World}, Kp A B → Kp B C → Kp A C) (hKb : ∀ (W : World) (l : Nat) (o o' : Obj), w.heap.size ≤ l → W.heap[l]? = some o → o.isCells = false → o.isWalk = false → Kp W (W.putObj l o')) (hb0 : Below w0.heap.size w0 w) (hps : ∀ x, (encs x).size = ps.size)
  (I : List α → World → Prop) (hI : OwnFrom w.heap.size I) (h0 : I [] w)
  (hassign : ∀ (l : Nat) (pre : List α) (x : α) (W : World) (K : Act → World → Prop), I pre W → (∀ g13 W', w.heap.size ≤ g13 → KeepsFrom w.heap.size W W' → Kp W W' → I pre W' → W'.heap[g13]? = some (.cells (VV x) tb (0, 0)) → K (A1 x g13) W') →
   assign.wpIn (F.inRound l) (n - 1 - 1) P (Exit.then K (fun _ _ _ => False)) { tmps := (ps.zip (encs x)).foldl (fun t (p, v) => t.setIfInBounds p v) a.tmps, defers := [] } W)
  (hbody : ∀ (l : Nat) (pre : List α) (x : α) (g13 : Nat) (W : World), w.heap.size ≤ g13 → I pre W → W.heap[g13]? = some (.cells (VV x) tb (0, 0)) → pre.length < N → body.wpIn (F.inRound l) (n - 1 - 1) P (ownPostG w.heap.size Kp I (fun _ _ _ => False) (pre ++ [x]) W) (A1 x g13) W)
  (hdone : ∀ (D : Nat) (xs : List α) (W : World), w.heap.size ≤ D → S xs → I xs W → W.heap[D]? = some (.deferred (some [])) → Q .normal { a with defers := { target := .collected D, args := #[] } :: a.defers } W) :
  (Code.rangeFunc g ps assign body).wpIn F n P Q a w := by
 refine wpIn_rangeFunc_ownH hro h1 hg hFg eg hseq hKt hKb hb0 hps I (fun _ _ _ => False) hI (fun _ _ _ _ _ hs _ _ => hs) h0
  (fun x a' W => ∃ g13, w.heap.size ≤ g13 ∧ a' = A1 x g13 ∧ W.heap[g13]? = some (.cells (VV x) tb (0, 0))) ?_ ?_ ?_ hdone ?_
 ·rintro x a' - W W' row ⟨g13, h1, h2, h3⟩ hg hr
  refine ⟨g13, h1, h2, (hg.block g13 (Array.getElem?_eq_some_iff.1 h3).1 (fun e => ?_)).trans h3⟩;obtain ⟨_, o, ho, hc⟩ := hr g13 e.symm;rw [h3] at ho;cases ho;cases hc
 ·intro l pre x W K hI hK
  exact hassign l pre x W K hI (fun g13 W' h1 h2 h3 h4 h5 => hK _ _ h2 h3 h4 ⟨g13, h1, rfl, h5⟩)
 ·rintro l pre x a' W _ _ hI ⟨g13, h1, rfl, h5⟩ hlt
  exact hbody l pre x g13 W h1 hI h5 hlt
 ·intro D c pre W _ _ h _
  exact h.elim
theorem tune_Prune.calls1 (g : Nat) (A : Option Addr) (c : Nat) (l : List Bool) (W : World) (hx : W.cell? ⟨g, 0, none⟩ = some (.slice A l.length c)) (hC : Kd.C Kd.bool W A l.length l) (x0 x1 x2 x3 x4 : Int) (r : Bool) (h : tune_Prune.st l x0 x1 x2 x3 x4 = some r) :
  Calls Try.prog 52 (#[.int .i64 x0, .agg #[.int .i64 x1, .int .i64 x2, .int .i64 x3, .int .u64 x4]] ++ #[.pointer (some ⟨g, 0, none⟩)]) W fun e_ w' => e_ = .returned (.bool r) ∧ Below W.heap.size W w' := by
 unfold tune_Prune.st at h
 split at h
 ·rename_i hi
  obtain rfl := Option.some.inj h;obtain ⟨h0, h1⟩ := hi;obtain ⟨ad, rfl, hr⟩ := Kd.at_bool hC x0 h0 h1;clear hC h;replace hx := (World.grownBy_alloc W (.cells #[.int .i64 x1, .int .i64 x2, .int .i64 x3, .int .u64 x4] 61 (0, 0)) none).cell hx (by simp);replace hr := (World.grownBy_alloc W (.cells #[.int .i64 x1, .int .i64 x2, .int .i64 x3, .int .u64 x4] 61 (0, 0)) none).cell hr (by simp);replace h0 := eq_true h0; replace h1 := eq_true h1;go_enter Try.func52, Try.ntmps52;go_wp2;go_ret;exact ⟨rfl, by repeat (first | exact Below.refl _ _ | apply below_alloc)⟩
 ·cases h
theorem tune_Prune.calls2 (x0 r : Int) (W : World) (h : some x0 = some r) : Calls Try.prog 53 (#[.int .i64 x0] ++ #[]) W fun e_ w' => e_ = .returned (.int .i64 r) ∧ Below W.heap.size W w' := by
 obtain rfl := Option.some.inj h;go_enter Try.func53, Try.ntmps53;go_wp2;go_ret;exact ⟨rfl, by repeat (first | exact Below.refl _ _ | apply below_alloc)⟩
theorem calls_marks {P : Program} {f : FuncId} {fn : Func} {c : Code} {args : Array Value} {w : World} {R : Ending → World → Prop} (hf : P.funcs[f]? = some fn) (hb : fn.body = some c)
  (h : c.wp P (bodyPostM Fence.wide 5 P fn R) { tmps := args ++ Array.replicate (fn.ntmps - args.size) undef, defers := [] } w) : Calls P f args w R :=
 (callsIn_wide (n := 5)).1 (callsIn_of_wp_marks hf hb trivial (wpIn_wide.2 h) rfl)
theorem marks_ret {P : Program} {fn : Func} {R : Ending → World → Prop} {a : Act} {w : World} {v : Value}
  (hr : (results fn a.tmps).run P w = .ok v w) (hd : a.defers = []) (hR : R (.returned v) w) : bodyPostM Fence.wide 5 P fn R .ret a w := by
 show LeavesInM _ _ _ _ _ _ a.defers _ _
 rw [hd];exact ⟨v, hr, hR⟩
theorem marks_ret1 {P : Program} {fn : Func} {R : Ending → World → Prop} {a : Act} {w : World} {v : Value} {D : Nat} (hd : a.defers = [{ target := .collected D, args := #[] }]) (hD : w.heap[D]? = some (.deferred (some [])))
  (hr : (results fn a.tmps).run P (w.putObj D (.deferred none)) = .ok v (w.putObj D (.deferred none))) (hR : R (.returned v) (w.putObj D (.deferred none))) : bodyPostM Fence.wide 5 P fn R .ret a w := by
 show LeavesInM _ _ _ _ _ _ a.defers _ _
 rw [hd];exact ⟨by simp, .inl ⟨D, _, rfl, run_takeDeferred hD, v, hr, hR⟩⟩
theorem putO_blk {w : World} {D g : Nat} {o o' q : Obj} (hD : w.heap[D]? = some o) (ho : o.isCells = false) (hg : w.heap[g]? = some q) (hq : q.isCells = true) : (w.putObj D o').heap[g]? = some q := by
 rw [World.putObj_heap_other (fun e => by rw [e] at hg; rw [hg] at hD; cases hD; rw [hq] at ho; cases ho)];exact hg
theorem putO_R {α : Type} {d : Kd α} {e : TypeId} {w : World} {base : Nat} {v : Value} {xs : List α} {D : Nat} {o o' : Obj} (h : d.R e w base (fun _ => True) v xs) (hD : w.heap[D]? = some o) (ho : o.isCells = false) : d.R e (w.putObj D o') base (fun _ => True) v xs :=
 Kd.R_mono (Kd.R_step (Kd.R_bound h) (fun k hk _ => by
  obtain ⟨_, _, _, q, _, cs, hc⟩ := hk
  exact (putO_blk hD ho hc rfl).trans hc.symm)) (fun _ _ => trivial)
theorem putO_S {α : Type} {d : Kd α} {e : TypeId} {w : World} {base : Nat} {v : Value} {xs : List α} {D : Nat} {o o' : Obj} (h : d.S e w base (fun _ => True) v xs) (hD : w.heap[D]? = some o) (ho : o.isCells = false) : d.S e (w.putObj D o') base (fun _ => True) v xs :=
 Kd.S_mono (Kd.S_step (Kd.S_bound h) (fun k hk _ => by
  obtain ⟨_, _, _, q, _, cs, hc⟩ := hk
  exact (putO_blk hD ho hc rfl).trans hc.symm)) (fun _ _ => trivial)
mutual
def tune_Prune.l0 : Nat → List (S66) → Int → Int → List (S64) → List (S61) → List (S66) → List Bool → Option ((List (S64)) × (List (S61)) × (List (S66)) × Int)
 | 0, _, _, _, _, _, _, _ => none
 | k + 1, x26, x27, x28, ae, aa, af, ab => if x28 < x27 then (if 0 ≤ x28 then (if x28 < (x26.length : Int) then (tune_Prune.l1 k x26 x27 x28 ((rd_T66 x26 x28).f1) (((rd_T66 x26 x28).f1).length : Int) 0 ae aa af ab) else (none)) else (none)) else ((tune_Prune.mark ab aa).bind fun ah => ((tune_moved.f (tune_Prune.st ah) some k ae aa af).bind fun ag => (some (ag.1, ag.2.1, ag.2.2, 0))))
def tune_Prune.l1 : Nat → List (S66) → Int → Int → List Int → Int → Int → List (S64) → List (S61) → List (S66) → List Bool → Option ((List (S64)) × (List (S61)) × (List (S66)) × Int)
 | 0, _, _, _, _, _, _, _, _, _, _ => none
 | k + 1, x26, x27, x28, x33, x34, x35, ae, aa, af, ab => if x35 < x34 then (if 0 ≤ x35 then (if x35 < (x33.length : Int) then (if 0 ≤ (rd x33 x35) then (if (rd x33 x35) < (ab.length : Int) then (tune_Prune.l1 k x26 x27 x28 x33 x34 (wrap64 (x35 + 1)) ae aa af (ab.set ((rd x33 x35) : Int).toNat true)) else (none)) else (none)) else (none)) else (none)) else (tune_Prune.l0 k x26 x27 (wrap64 (x28 + 1)) ae aa af ab)
end
def tune_Prune.f (k : Nat) (a0 : Int) (ae : List (S64)) (aa : List (S61)) (ab : List (S66)) : Option ((List (S64)) × (List (S61)) × (List (S66)) × Int) := (circ_Check.f k a0 ae aa ab).bind fun af => (if af = 0 then (if 0 ≤ (aa.length : Int) then (if ((aa.length : Int) : Int).toNat ≤ 281474976710656 then (tune_Prune.l0 k ab (ab.length : Int) 0 ae aa ab (List.replicate ((aa.length : Int) : Int).toNat false)) else (none)) else (none)) else (some (([] : List (S64)), ([] : List (S61)), ([] : List (S66)), af)))
theorem tune_Prune.mono_l : ∀ k, (∀ y0 y1 y2 y3 y4 y5 y6, LeO (tune_Prune.l0 k y0 y1 y2 y3 y4 y5 y6) (tune_Prune.l0 (k + 1) y0 y1 y2 y3 y4 y5 y6)) ∧ (∀ y0 y1 y2 y3 y4 y5 y6 y7 y8 y9, LeO (tune_Prune.l1 k y0 y1 y2 y3 y4 y5 y6 y7 y8 y9) (tune_Prune.l1 (k + 1) y0 y1 y2 y3 y4 y5 y6 y7 y8 y9))
 | 0 => ⟨fun _ _ _ _ _ _ _ r h => by simp [tune_Prune.l0] at h, fun _ _ _ _ _ _ _ _ _ _ r h => by simp [tune_Prune.l1] at h⟩
 | k + 1 => by
  obtain ⟨ih0, ih1⟩ := tune_Prune.mono_l k;refine ⟨?_, ?_⟩
  ·intro y0 y1 y2 y3 y4 y5 y6
   unfold tune_Prune.l0
   repeat' first
   | (with_reducible exact ih0 _ _ _ _ _ _ _)
   | (with_reducible exact ih1 _ _ _ _ _ _ _ _ _ _)
   | (with_reducible exact circ_Check.mono _ _ _ _ _)
   | (with_reducible exact tune_moved.mono _ _ _ _ _ _)
   | (with_reducible exact LeO.refl _)
   | (with_reducible exact LeO.none _)
   | (with_reducible refine LeO.ite ?_ ?_)
   | (with_reducible refine LeO.bind ?_ (fun _ => ?_))
   | exact ih0 _ _ _ _ _ _ _
   | exact ih1 _ _ _ _ _ _ _ _ _ _
   | exact circ_Check.mono _ _ _ _ _
   | exact tune_moved.mono _ _ _ _ _ _
   | exact LeO.none _
   | refine LeO.ite ?_ ?_
   | refine LeO.bind ?_ (fun _ => ?_)
  ·intro y0 y1 y2 y3 y4 y5 y6 y7 y8 y9
   unfold tune_Prune.l1
   repeat' first
   | (with_reducible exact ih0 _ _ _ _ _ _ _)
   | (with_reducible exact ih1 _ _ _ _ _ _ _ _ _ _)
   | (with_reducible exact circ_Check.mono _ _ _ _ _)
   | (with_reducible exact tune_moved.mono _ _ _ _ _ _)
   | (with_reducible exact LeO.refl _)
   | (with_reducible exact LeO.none _)
   | (with_reducible refine LeO.ite ?_ ?_)
   | (with_reducible refine LeO.bind ?_ (fun _ => ?_))
   | exact ih0 _ _ _ _ _ _ _
   | exact ih1 _ _ _ _ _ _ _ _ _ _
   | exact circ_Check.mono _ _ _ _ _
   | exact tune_moved.mono _ _ _ _ _ _
   | exact LeO.none _
   | refine LeO.ite ?_ ?_
   | refine LeO.bind ?_ (fun _ => ?_)
theorem tune_Prune.mono : ∀ a0 a1 a2 a3 k, LeO (tune_Prune.f k a0 a1 a2 a3) (tune_Prune.f (k + 1) a0 a1 a2 a3) := by
 intro a0 a1 a2 a3 k;obtain ⟨ih0, ih1⟩ := tune_Prune.mono_l k;unfold tune_Prune.f
 repeat' first
   | (with_reducible exact ih0 _ _ _ _ _ _ _)
   | (with_reducible exact ih1 _ _ _ _ _ _ _ _ _ _)
   | (with_reducible exact circ_Check.mono _ _ _ _ _)
   | (with_reducible exact tune_moved.mono _ _ _ _ _ _)
   | (with_reducible exact LeO.refl _)
   | (with_reducible exact LeO.none _)
   | (with_reducible refine LeO.ite ?_ ?_)
   | (with_reducible refine LeO.bind ?_ (fun _ => ?_))
   | exact ih0 _ _ _ _ _ _ _
   | exact ih1 _ _ _ _ _ _ _ _ _ _
   | exact circ_Check.mono _ _ _ _ _
   | exact tune_moved.mono _ _ _ _ _ _
   | exact LeO.none _
   | refine LeO.ite ?_ ?_
   | refine LeO.bind ?_ (fun _ => ?_)
theorem tune_Prune.calls (k : Nat) (a0 : Int) (aB : Option Addr) (aC : Nat) (aq : List (S64)) (au : Option Addr) (av : Nat) (ab : List (S61)) (aF : Option Addr) (aD : Nat) (ag : List (S66)) (r1 : List (S64)) (r2 : List (S61)) (r3 : List (S66)) (r4 : Int) (w : World) (bC : Kd.C k64 w aB aq.length aq) (bD : aq.length ≤ aC) (bE : Kd.C k61 w au ab.length ab) (bF : ab.length ≤ av) (bG : Kd.C k66 w aF ag.length ag) (bH : ag.length ≤ aD) (h : tune_Prune.f k a0 aq ab ag = some (r1, r2, r3, r4)) :
  Calls Try.prog 22 #[.int .u64 a0, .agg #[.slice aB aq.length aC, .slice au ab.length av, .slice aF ag.length aD]] w fun e w' => ∃ v0_ v1_ v2_ : Value, e = .returned (.tuple #[.agg #[v0_, v1_, v2_], .int .i64 r4]) ∧ Kd.R k64 64 w' w.heap.size (fun _ => True) v0_ r1 ∧ Kd.R k61 61 w' w.heap.size (fun _ => True) v1_ r2 ∧ Kd.S k66 66 w' w.heap.size (fun _ => True) v2_ r3 ∧ Below w.heap.size w w' := by
 have hu26 := Try.underlying26;have hu66 := Try.underlying66;have bg := Aside0.mk bC;have bh := Aside0.mk bD;clear bC bD;have aH := Aside0.mk bE;have bi := Aside0.mk bF;clear bE bF;have aT := Aside0.mk bG;have bj := Aside0.mk bH;clear bG bH;have HB := Aside0.mk (Below.refl w.heap.size w);have H : ((circ_Check.f k a0 aq ab ag).bind fun aY => (if aY = 0 then (if 0 ≤ (ab.length : Int) then (if ((ab.length : Int) : Int).toNat ≤ 281474976710656 then (tune_Prune.l0 k ag (ag.length : Int) 0 aq ab ag (List.replicate ((ab.length : Int) : Int).toNat false)) else (none)) else (none)) else (some (([] : List (S64)), ([] : List (S61)), ([] : List (S66)), aY)))) = some (r1, r2, r3, r4) := h;clear h;replace H := Option.bind_eq_some_iff.mp H;obtain ⟨aY, A30, H⟩ := H;(try dsimp only at H);have A3 := Aside0.mk A30;clear A30
 by_cases c4 : aY = 0
 rotate_left
 ·rw [if_neg c4] at H
  have bR := beq_eq_false_iff_ne.mpr c4;have bS := bne_iff_ne.mpr c4;simp only [Option.some.injEq, Prod.mk.injEq] at H;obtain ⟨rfl, rfl, rfl, rfl⟩ := H;refine calls_marks Try.func22 rfl ?_;simp only [Try.ntmps22, List.size_toArray, List.length_cons, List.length_nil, Nat.reduceAdd, Nat.reduceSub, Array.replicate_succ, Array.replicate_zero, List.push_toArray, List.append_toArray, List.nil_append, List.cons_append];go_wp2_with (first | ((with_reducible refine qea (N := 3) rfl ?_); refine box_event ?hg (N := 3) ?hd (cs := #[.slice aB aq.length aC, .slice au ab.length av, .slice aF ag.length aD]) (t := 26) ?hr ?_; (case hd => rfl); (case hg => rfl); (case hr => first | (go_simp; done) | (go_simp; rfl)); intro aP hg w58 hbox hb; have ae := am hbox; have bT := kG HB hg; have bU := kG HB hg; replace HB := kH HB hb; clear hb hbox hg) | ((with_reducible refine qea (N := 4) rfl ?_); refine box_event ?hg (N := 4) ?hd (cs := #[.slice none 0 0, .slice none 0 0, .slice none 0 0]) (t := 26) ?hr ?_; (case hd => rfl); (case hg => rfl); (case hr => first | (go_simp; done) | (go_simp; rfl)); intro ak hg w59 hbox hb; have ah := am hbox; have bV := kG HB hg; have aU := kG HB hg; replace HB := kH HB hb; have ax := kP ae hg; have ay := kQ ae hg; replace ae := kU ae hb; clear hb hbox hg; have cA := ax.out; have cB := ay.out; have Z61 := kz3 ae) | ((with_reducible refine gate_callee (f := 37) rfl ?_); refine goesL_ (some 16) rfl rfl Try.func37 (by kernel_rfl) rfl #[.int .u64 a0, .agg #[.slice aB aq.length aC, .slice au ab.length av, .slice aF ag.length aD]] rfl (by (try simp only [qM1, qM2, qM3]); first | done | rfl) ?_; (with_reducible refine (circ_Check.calls k a0 _ _ aq _ _ ab _ _ ag aY _ ?side1 ?side2 ?side3 ?side4 ?side5 ?side6 A3.out).mono ?_); (case side1 => repeat (first | exact (Kd.C_below bg.out HB.out) | (with_reducible first | refine Kd.C_alloc ?_ _ | refine Kd.C_drewN ?_ _ | refine Kd.C_drew ?_))); (case side2 => exact bh.out); (case side3 => repeat (first | exact (Kd.C_below aH.out HB.out) | (with_reducible first | refine Kd.C_alloc ?_ _ | refine Kd.C_drewN ?_ _ | refine Kd.C_drew ?_))); (case side4 => exact bi.out); (case side5 => repeat (first | exact (Kd.C_below aT.out HB.out) | (with_reducible first | refine Kd.C_alloc ?_ _ | refine Kd.C_drewN ?_ _ | refine Kd.C_drew ?_))); (case side6 => exact bj.out); rintro e w62 ⟨rfl, hb⟩; refine ⟨_, rfl, ?_⟩; replace ae := kU ae hb; replace ah := kU ah hb; replace HB := kH HB hb; (try clear hb); (try clear hb2); (try clear hk); (try clear hi); have Z63 := kz3 ah));refine marks_ret (results_ct rfl _ _ ak 26 #[.slice none 0 0, .slice none 0 0, .slice none 0 0] (0, 0) _ rfl (kg ah) Try.underlying26 rfl (by kernel_rfl)) rfl ?_;exact ⟨_, _, _, er, by first | exact Kd.R_nil _ _ _ _ _ | exact Kd.N_nil _ _ _ _ _ | exact Kd.V_nil _ _ _ _ _ | exact Kd.Q_nil _ _ _ _ _ | exact Kd.S_nil _ _ _ _ _, by first | exact Kd.R_nil _ _ _ _ _ | exact Kd.N_nil _ _ _ _ _ | exact Kd.V_nil _ _ _ _ _ | exact Kd.Q_nil _ _ _ _ _ | exact Kd.S_nil _ _ _ _ _, by first | exact Kd.S_nil _ _ _ _ _ | exact Kd.N_nil _ _ _ _ _ | exact Kd.V_nil _ _ _ _ _ | exact Kd.Q_nil _ _ _ _ _ | exact Kd.R_nil _ _ _ _ _, kh HB⟩
 rw [if_pos c4] at H;have bR := beq_iff_eq.mpr c4;have bS := bne_eq_false_iff_eq.mpr c4;clear c4
 by_cases c5 : 0 ≤ (ab.length : Int)
 rotate_left
 ·rw [if_neg c5] at H
  exact absurd H (by simp)
 rw [if_pos c5] at H;have cl := eq_true c5;have cm := decide_eq_true c5;clear c5
 by_cases c6 : ((ab.length : Int) : Int).toNat ≤ 281474976710656
 rotate_left
 ·rw [if_neg c6] at H
  exact absurd H (by simp)
 rw [if_pos c6] at H;have cn := eq_true c6;have co := decide_eq_true c6;clear c6;obtain ⟨bu, aQ⟩ : ∃ y_ : List Bool, y_ = (List.replicate ((ab.length : Int) : Int).toNat false) := ⟨_, rfl⟩
 replace H : (tune_Prune.l0 k ag (ag.length : Int) 0 aq ab ag bu) = some (r1, r2, r3, r4) := by first | (rw [aQ]; with_reducible exact H) | (have H2_ := (Option.bind_some _ _).symm.trans H; rw [aQ]; with_reducible exact H2_) | (have H2_ := (Option.bind_some _ _).symm.trans H; with_reducible exact H2_) | with_reducible exact H | (rw [aQ]; exact H) | exact H
 have bI := Aside0.mk aQ;clear aQ;have H' := Aside0.mk H;clear H;refine calls_marks Try.func22 rfl ?_;simp only [Try.ntmps22, List.size_toArray, List.length_cons, List.length_nil, Nat.reduceAdd, Nat.reduceSub, Array.replicate_succ, Array.replicate_zero, List.push_toArray, List.append_toArray, List.nil_append, List.cons_append];go_wp2_with (first | ((with_reducible refine qea (N := 3) rfl ?_); refine box_event ?hg (N := 3) ?hd (cs := #[.slice aB aq.length aC, .slice au ab.length av, .slice aF ag.length aD]) (t := 26) ?hr ?_; (case hd => rfl); (case hg => rfl); (case hr => first | (go_simp; done) | (go_simp; rfl)); intro aP hg w7 hbox hb; have ae := am hbox; have bT := kG HB hg; have bU := kG HB hg; replace HB := kH HB hb; clear hb hbox hg) | ((with_reducible refine qea (N := 4) rfl ?_); refine box_event ?hg (N := 4) ?hd (cs := #[.slice none 0 0, .slice none 0 0, .slice none 0 0]) (t := 26) ?hr ?_; (case hd => rfl); (case hg => rfl); (case hr => first | (go_simp; done) | (go_simp; rfl)); intro ak hg w8 hbox hb; have ah := am hbox; have bV := kG HB hg; have aU := kG HB hg; replace HB := kH HB hb; have ax := kP ae hg; have ay := kQ ae hg; replace ae := kU ae hb; clear hb hbox hg; have db := ax.out; have dc := ay.out; have Z10 := kz3 ae) | ((with_reducible refine gate_callee (f := 37) rfl ?_); refine goesL_ (some 16) rfl rfl Try.func37 (by kernel_rfl) rfl #[.int .u64 a0, .agg #[.slice aB aq.length aC, .slice au ab.length av, .slice aF ag.length aD]] rfl (by (try simp only [qM1, qM2, qM3]); first | done | rfl) ?_; (with_reducible refine (circ_Check.calls k a0 _ _ aq _ _ ab _ _ ag aY _ ?side1 ?side2 ?side3 ?side4 ?side5 ?side6 A3.out).mono ?_); (case side1 => repeat (first | exact (Kd.C_below bg.out HB.out) | (with_reducible first | refine Kd.C_alloc ?_ _ | refine Kd.C_drewN ?_ _ | refine Kd.C_drew ?_))); (case side2 => exact bh.out); (case side3 => repeat (first | exact (Kd.C_below aH.out HB.out) | (with_reducible first | refine Kd.C_alloc ?_ _ | refine Kd.C_drewN ?_ _ | refine Kd.C_drew ?_))); (case side4 => exact bi.out); (case side5 => repeat (first | exact (Kd.C_below aT.out HB.out) | (with_reducible first | refine Kd.C_alloc ?_ _ | refine Kd.C_drewN ?_ _ | refine Kd.C_drew ?_))); (case side6 => exact bj.out); rintro e w11 ⟨rfl, hb⟩; refine ⟨_, rfl, ?_⟩; replace ae := kU ae hb; replace ah := kU ah hb; replace HB := kH HB hb; (try clear hb); (try clear hb2); (try clear hk); (try clear hi); have Z12 := kz3 ae) | ((with_reducible refine qea (N := 24) rfl ?_); refine Kd.R_make Kd.bool _ 4 rfl (N := 24) rfl 81 _ _ rfl (ab.length : Int) rfl rfl Try.underlying81 (.bool false) 1 info4 rfl (by decide) (by omega) false (ok := fun _ => True) (okp := fun _ => True) rfl (fun _ hk => hk) trivial od (Nat.le_trans (Nat.mul_le_mul_right _ (od : (ab.length : Int).toNat ≤ 281474976710656)) (by omega)) (Below.refl _ _) (Nat.le_refl _) ?_; intro dd w13 ho14 hb hg_ hnew_; clear hg_ hnew_; (first | rw [← bI.out] at ho14 | (simp only [Int.reduceToNat] at ho14; rw [← bI.out] at ho14)); have aV := kLR ho14 HB; replace ae := kU ae hb; replace ah := kU ah hb; replace HB := kH HB hb; clear hb ho14) | ((with_reducible refine qea (N := 7) rfl ?_); refine box_event ?hg (N := 7) ?hd (cs := #[.slice none 0 0]) (t := 81) ?hr ?_; (case hd => rfl); (case hg => rfl); (case hr => first | (go_simp; done) | (go_simp; rfl)); intro ar hg w15 hbox hb; replace aV := kR aV hb; have an := am hbox; have cC := kG HB hg; have cD := kG HB hg; replace HB := kH HB hb; have aI := kP ae hg; have aJ := kQ ae hg; replace ae := kU ae hb; have aK := kP ah hg; have aL := kQ ah hg; replace ah := kU ah hb; clear hb hbox hg; obtain ⟨bW, bX, cp⟩ := Kd.R_slice aV.out; subst cp; have cE := aJ.out; have cF := aI.out; have cG := aL.out; have cH := aK.out; have Z19 := kz1 an; have Z20 := kz3 ae));go_loopg [28] k (fun kq v28 w' => ∃ (ai : Int) (aa : List Bool) (ap : Value), v28 = .int .i64 ai ∧ Aside0 (tune_Prune.l0 kq ag (ag.length : Int) ai aq ab ag aa = some (r1, r2, r3, r4)) ∧ Aside0 (kq ≤ k) ∧ Aside0 (Kd.R Kd.bool 4 w' w.heap.size (fun _ => True) ap aa) ∧ Aside0 (w'.heap[aP]? = some (.cells #[(.slice aB aq.length aC), (.slice au ab.length av), (.slice aF ag.length aD)] 26 (0, 0))) ∧ Aside0 (w'.heap[ak]? = some (.cells #[(.slice none 0 0), (.slice none 0 0), (.slice none 0 0)] 26 (0, 0))) ∧ Aside0 (w'.heap[ar]? = some (.cells #[ap] 81 (0, 0))) ∧ Aside0 (Below w.heap.size w w'))
 case atStart => exact ⟨(0), (bu), (.slice bW bu.length bX), et, H', ⟨Nat.le_refl _⟩, ⟨by (with_reducible repeat first | apply Kd.R_alloc | apply Kd.R_drewN | apply Kd.R_drew); exact Kd.R_mono (Kd.R_far (p := ⟨ar, 0, none⟩) (Kd.R_types aV.out an.out (by decide)) (fun _ hk => hk.2) (.slice bW bu.length bX)) (fun _ hk => trivial)⟩, ⟨kg ae⟩, ⟨kg ah⟩, ⟨kg an⟩, ⟨kh HB⟩⟩
 case round =>
  clear H';(try clear bR bS cl cm cn co Z10 Z12 Z19 Z20);obtain ⟨ai, aa, ap, rfl, HA, HK1, af, ae, ah, an, HB⟩ := hrel
  cases gk with
  | zero => exact absurd HA.out (by simp [tune_Prune.l0])
  | succ k1 =>
   have H := HA.out;clear HA;simp only [tune_Prune.l0] at H
   by_cases c21 : ai < (ag.length : Int)
   ·rw [if_pos c21] at H
    have bJ := decide_eq_true c21;clear c21
    by_cases c22 : 0 ≤ ai
    rotate_left
    ·rw [if_neg c22] at H
     exact absurd H (by simp)
    rw [if_pos c22] at H;have bY := decide_eq_true c22;clear c22
    by_cases c23 : ai < (ag.length : Int)
    rotate_left
    ·rw [if_neg c23] at H
     exact absurd H (by simp)
    rw [if_pos c23] at H;have bZ := decide_eq_true c23;clear c23;have H' := Aside0.mk H;clear H;have bv : 0 ≤ (ai : Int) := od;have bw : ai < (ag.length : Int) := od;obtain ⟨ca, bk, bl, bm, bn, cq, az, aA, aW, hi297_0, aX, hi297_1⟩ := at_T66 aT.out ai bv bw;cases cq;replace az := (HB.out.cell (World.block_lt_of_cell? w _ az)).trans az;replace aA := (HB.out.cell (World.block_lt_of_cell? w _ aA)).trans aA;have ci := Aside0.mk hi297_0;have cj := Aside0.mk aW;clear hi297_0 aW;have bx := Aside0.mk hi297_1;have ck := Aside0.mk aX;clear hi297_1 aX; replace bv := eq_true bv; replace bw := eq_true bw;go_wp2_with (first | ((with_reducible refine qea (N := 9) rfl ?_); refine box_event ?hg (N := 9) ?hd (cs := #[.slice none 0 0, .slice none 0 0]) (t := 66) ?hr ?_; (case hd => rfl); (case hg => rfl); (case hr => first | (go_simp; done) | (go_simp; rfl)); intro bo hg w24 hbox hb; replace af := kR af hb; have aE := am hbox; have cI := kG HB hg; have cJ := kG HB hg; replace HB := kH HB hb; have aZ := kP ae hg; have ba := kQ ae hg; replace ae := kU ae hb; have bb := kP ah hg; have bc := kQ ah hg; replace ah := kU ah hb; have aM := kP an hg; have aN := kQ an hg; replace an := kU an hb; clear hb hbox hg; have cK := ba.out; have cL := aZ.out; have cM := bc.out; have cN := bb.out; have cO := aN.out; have cP := aM.out; have Z28 := kz2 aE));go_loopg [35] k1 (fun kq v35 w' => ∃ (ao : Int) (aj : List Bool) (ap : Value), v35 = .int .i64 ao ∧ Aside0 (tune_Prune.l1 kq ag (ag.length : Int) ai ((rd_T66 ag ai).f1) (((rd_T66 ag ai).f1).length : Int) ao aq ab ag aj = some (r1, r2, r3, r4)) ∧ Aside0 (kq ≤ k1) ∧ Aside0 (Kd.R Kd.bool 4 w' w.heap.size (fun _ => True) ap aj) ∧ Aside0 (w'.heap[aP]? = some (.cells #[(.slice aB aq.length aC), (.slice au ab.length av), (.slice (some ca) ag.length aD)] 26 (0, 0))) ∧ Aside0 (w'.heap[ak]? = some (.cells #[(.slice none 0 0), (.slice none 0 0), (.slice none 0 0)] 26 (0, 0))) ∧ Aside0 (w'.heap[ar]? = some (.cells #[ap] 81 (0, 0))) ∧ Aside0 (w'.heap[bo]? = some (.cells #[(.slice bk ((rd_T66 ag ai).f0).length bl), (.slice bm ((rd_T66 ag ai).f1).length bn)] 66 (0, 0))) ∧ Aside0 (Below w.heap.size w w'))
    case atStart => exact ⟨(0), (aa), (ap), et, H', ⟨Nat.le_refl _⟩, ⟨by (with_reducible repeat first | apply Kd.R_alloc | apply Kd.R_drewN | apply Kd.R_drew); exact Kd.R_mono (Kd.R_far (p := ⟨bo, 1, none⟩) (Kd.R_far (p := ⟨bo, 0, none⟩) (Kd.R_types af.out aE.out (by decide)) (fun _ hk => hk.2) (.slice bk ((rd_T66 ag ai).f0).length bl)) (fun _ hk => hk.2) (.slice bm ((rd_T66 ag ai).f1).length bn)) (fun _ hk => trivial)⟩, ⟨kg ae⟩, ⟨kg ah⟩, ⟨kg an⟩, ⟨kg aE⟩, ⟨kh HB⟩⟩
    case round =>
     clear H';(try clear bJ bY bZ Z28 az aA bv bw);obtain ⟨ao, aj, ap, rfl, HA, HK2, af, ae, ah, an, aE, HB⟩ := hrel
     cases gk with
     | zero => exact absurd HA.out (by simp [tune_Prune.l1])
     | succ k2 =>
      have H := HA.out;clear HA;simp only [tune_Prune.l1] at H
      by_cases c29 : ao < (((rd_T66 ag ai).f1).length : Int)
      rotate_left
      ·rw [if_neg c29] at H
       have cb := decide_eq_false c29;clear c29;have H' := Aside0.mk H;clear H;go_wp2;go_roundg k2
       case measure => have := HK1.out; have := HK2.out; omega
       case rel => exact ⟨(wrap64 (ai + 1)), (aj), (ap), et, H', ⟨by have := HK1.out; have := HK2.out; omega⟩, ⟨krR af⟩, ⟨kg ae⟩, ⟨kg ah⟩, ⟨kg an⟩, ⟨kh HB⟩⟩
      rw [if_pos c29] at H;have cb := decide_eq_true c29;clear c29
      by_cases c30 : 0 ≤ ao
      rotate_left
      ·rw [if_neg c30] at H
       exact absurd H (by simp)
      rw [if_pos c30] at H;have cQ := decide_eq_true c30;clear c30
      by_cases c31 : ao < (((rd_T66 ag ai).f1).length : Int)
      rotate_left
      ·rw [if_neg c31] at H
       exact absurd H (by simp)
      rw [if_pos c31] at H;have cR := decide_eq_true c31;clear c31
      by_cases c32 : 0 ≤ (rd ((rd_T66 ag ai).f1) ao)
      rotate_left
      ·rw [if_neg c32] at H
       exact absurd H (by simp)
      rw [if_pos c32] at H;have cS := decide_eq_true c32;clear c32
      by_cases c33 : (rd ((rd_T66 ag ai).f1) ao) < (aj.length : Int)
      rotate_left
      ·rw [if_neg c33] at H
       exact absurd H (by simp)
      rw [if_pos c33] at H;have cT := decide_eq_true c33;clear c33;obtain ⟨bN, aR⟩ : ∃ y_ : List Bool, y_ = (aj.set ((rd ((rd_T66 ag ai).f1) ao) : Int).toNat true) := ⟨_, rfl⟩
      replace H : (tune_Prune.l1 k2 ag (ag.length : Int) ai ((rd_T66 ag ai).f1) (((rd_T66 ag ai).f1).length : Int) (wrap64 (ao + 1)) aq ab ag bN) = some (r1, r2, r3, r4) := by first | (rw [aR]; with_reducible exact H) | (have H2_ := (Option.bind_some _ _).symm.trans H; rw [aR]; with_reducible exact H2_) | (have H2_ := (Option.bind_some _ _).symm.trans H; with_reducible exact H2_) | with_reducible exact H | (rw [aR]; exact H) | exact H
      have cc := Aside0.mk aR;clear aR;have H' := Aside0.mk H;clear H;have bO : 0 ≤ (ao : Int) := od;have bP : ao < (((rd_T66 ag ai).f1).length : Int) := od;obtain ⟨cU, cr, aO⟩ := Kd.at_int bx.out ao bO bP;cases cr;replace aO := (HB.out.cell (World.block_lt_of_cell? w _ aO)).trans aO;replace bO := eq_true bO; replace bP := eq_true bP;have cV := aJ.out;have cW := aI.out;have cX := aL.out;have cY := aK.out;have cZ := aM.out;have da := aN.out;have Z38 := kz1 an;have p34 : 0 ≤ ((rd ((rd_T66 ag ai).f1) ao) : Int) := od;have q34 : ((rd ((rd_T66 ag ai).f1) ao) : Int) < ((aj.length : Int) : Int) := od;obtain ⟨bz, cd, ce, cf, gl34, cl34, HG34⟩ := Kd.R_form af.out (by omega);(first | cases ce | (injection ce with ea_ en_ ec_; (first | subst ea_ | (injection ea_ with ea_; subst ea_)); subst ec_; clear en_));have ct := Aside0.mk cf;have de := Aside0.mk HG34;clear cf gl34 HG34;obtain ⟨cu, cv⟩ := Kd.R_celln false af.out ((rd ((rd_T66 ag ai).f1) ao) : Int) p34 q34;replace p34 := eq_true p34; replace q34 := eq_true q34;have bQ := Kd.R_putg af.out ((rd ((rd_T66 ag ai).f1) ao) : Int) true;go_wp2_with (first | ((with_reducible refine gate_store (t := 4) (p := 41) rfl ?_); refine store_event (t := 4) (p := 41) (v := ?vo_w40) (w1 := (wr.setCell ⟨bz, ((rd ((rd_T66 ag ai).f1) ao) : Int).toNat, none⟩ (.bool true))) ?hg ?ho ?hn ?hr ?_; (case ho => rfl); (case hg => rfl); (case hn => rfl); (case hr => first | (go_simp; done) | (go_simp; rfl)); intro w40 hw; have hg : wr.grownBy w40 (some bz) := (by rw [hw]; exact bQ.2); have hp_ : Kd.R Kd.bool 4 w40 w.heap.size (fun _ => True) (.slice (some ⟨bz, 0, none⟩) aj.length cd) bN := (by rw [hw, cc.out]; exact bQ.1); clear bQ; replace ae := kXR ae af hg; replace ah := kXR ah af hg; replace an := kXR an af hg; replace aE := kXR aE af hg; replace af := Aside0.mk (hp_); replace HB := Aside0.mk ((by rw [hw]; exact below_set (HB.out) ct.out : Below w.heap.size w w40)); clear hg hw hp_));go_roundg k2
      case measure => have := HK1.out; have := HK2.out; omega
      case rel => exact ⟨(wrap64 (ao + 1)), (bN), (.slice (some ⟨bz, 0, none⟩) aj.length cd), et, H', ⟨by have := HK1.out; have := HK2.out; omega⟩, ⟨krR af⟩, ⟨kg ae⟩, ⟨kg ah⟩, ⟨kg an⟩, ⟨kg aE⟩, ⟨kh HB⟩⟩
   rw [if_neg c21] at H;have bJ := decide_eq_false c21;clear c21;replace H := Option.bind_eq_some_iff.mp H;obtain ⟨bp, cg, H⟩ := H;have A41 := Aside0.mk cg;clear cg;replace H := Option.bind_eq_some_iff.mp H;obtain ⟨⟨aS, bd, bq⟩, ch, H⟩ := H;(try dsimp only at H);have A42 := Aside0.mk ch;clear ch;simp only [Option.some.injEq, Prod.mk.injEq] at H;obtain ⟨rfl, rfl, rfl, rfl⟩ := H;have Z45 := ky3 ae;obtain ⟨aG, aw, cw⟩ := Kd.R_slice af.out;subst cw;go_wp2;refine (wpIn_wide (n := 5)).1 ?_;obtain ⟨W1, hW1⟩ : ∃ W1, wr.alloc (Obj.cells #[Value.slice au ab.length av] 23) = W1 := ⟨_, rfl⟩;rw [hW1];obtain ⟨B, hBd⟩ : ∃ B, B = W1.heap.size := ⟨_, rfl⟩
   have hsz : W1.heap.size = wr.heap.size + 1 := by rw [← hW1, World.size_alloc]
   have hbs : w.heap.size ≤ wr.heap.size := HB.out.size
   have hRa : Kd.R Kd.bool 4 W1 w.heap.size (fun k => k < B) (.slice aG aa.length aw) aa := by
    rw [← hW1];exact Kd.R_alloc (Kd.R_mono (Kd.R_bound af.out) (fun k hk => by obtain ⟨_, _, h3, _⟩ := hk; omega)) _
   have hbk : ∀ (g : Nat) (o : Obj), wr.heap[g]? = some o → W1.heap[g]? = some o := fun g o h => by rw [← hW1]; exact blk_below h (Below.alloc (Below.refl _ wr) (Nat.le_refl _) _)
   have hb1 : Below w.heap.size w W1 := by rw [← hW1]; exact Below.alloc HB.out hbs _
   have hgs : W1.heap[wr.heap.size]? = some (.cells #[Value.slice au ab.length av] 23 (0, 0)) := by rw [← hW1]; exact blk_new wr _
   have k278 := hbk _ _ ae.out;have k279 := hbk _ _ ah.out;have k284 := hbk _ _ an.out
   have hlt : ∀ (g : Nat) (o : Obj), W1.heap[g]? = some o → g < B := fun g o h => by rw [hBd]; exact (Array.getElem?_eq_some_iff.1 h).1
   have hA : ∀ ad, au = some ad → 0 < ab.length → ad.block < w.heap.size := by
    rintro ad rfl hl;obtain ⟨ad', e, h, -⟩ := at_T61 aH.out 0 (by omega) (by omega);cases e;have := World.block_lt_of_cell? w _ h;rw [show (ad.add ((0 : Int).toNat * 4)).block = ad.block by unfold Addr.add; split <;> rfl] at this;exact this
   have hC1 : Kd.C k61 W1 au ab.length ab := Kd.C_below aH.out hb1;have hlen : ab.length ≤ 9223372036854775807 := aH.out.2.1;obtain ⟨hm1, hm2, hm3⟩ := tune_Prune.mark_some A41.out;obtain ⟨hs, hhs⟩ : ∃ hs : List (Nat × Obj), hs = [(aP, .cells #[.slice aB aq.length aC, .slice au ab.length av, .slice aF ag.length aD] 26 (0, 0)), (ak, .cells #[.slice none 0 0, .slice none 0 0, .slice none 0 0] 26 (0, 0)), (ar, .cells #[.slice aG aa.length aw] 81 (0, 0)), (wr.heap.size, .cells #[Value.slice au ab.length av] 23 (0, 0))] := ⟨_, rfl⟩
   have hhh : ∀ p ∈ hs, p.1 < B ∧ W1.heap[p.1]? = some p.2 ∧ ∀ c fr, p.2 ≠ .cells c 4 fr := by
    rw [hhs];intro p hp
    rcases List.mem_cons.1 hp with rfl | hp
    ·exact ⟨hlt _ _ k278, k278, fun c fr e => by cases e⟩
    rcases List.mem_cons.1 hp with rfl | hp
    ·exact ⟨hlt _ _ k279, k279, fun c fr e => by cases e⟩
    rcases List.mem_cons.1 hp with rfl | hp
    ·exact ⟨hlt _ _ k284, k284, fun c fr e => by cases e⟩
    rcases List.mem_cons.1 hp with rfl | hp
    ·exact ⟨hlt _ _ hgs, hgs, fun c fr e => by cases e⟩
    ·cases hp
   have hBase : w.heap.size ≤ B := by omega
   have hOwn := tune_Prune.I_own (v := .slice aG aa.length aw) (l := fun pre => pre.foldl (fun a x => tune_Prune.step ab a (min x (ab.length - 1))) aa) hBase (Nat.le_refl w.heap.size) (fun p hp => (hhh p hp).1);have hI0 : tune_Prune.I w.heap.size B w (.slice aG aa.length aw) (fun pre => pre.foldl (fun a x => tune_Prune.step ab a (min x (ab.length - 1))) aa) hs [] W1 := ⟨hRa, fun p hp => (hhh p hp).2.1, hb1, by omega⟩;subst hBd
   refine wpIn_range_box (fun x g => (?A1 : Nat → Nat → Act) (min x (ab.length - 1)) g) (fun x => #[.int .i64 (rd_T61 ab ((min x (ab.length - 1) : Nat) : Int)).f0, .int .i64 (rd_T61 ab ((min x (ab.length - 1) : Nat) : Int)).f1, .int .i64 (rd_T61 ab ((min x (ab.length - 1) : Nat) : Int)).f2, .int .u64 (rd_T61 ab ((min x (ab.length - 1) : Nat) : Int)).f3]) 61 rfl (by omega) (gf := 77) (lb := #[.pointer (some ⟨wr.heap.size, 0, none⟩)]) rfl trivial (enters_of Try.func77 (by kernel_rfl) rfl)
    (api_Gate_51_stops Fence.wide (5 - 1) trivial rfl (by omega) wr.heap.size w.heap.size av au ab.length ab W1 (by omega) (by omega) hlen (by simp only [World.cell?, hgs]; rfl) hC1 hA) api_Gate_51_Kp_t (api_Gate_51_Kp_b (by omega) (by omega)) (Below.refl _ _) (fun _ => rfl)
    (tune_Prune.I w.heap.size W1.heap.size w (.slice aG aa.length aw) (fun pre => pre.foldl (fun a x => tune_Prune.step ab a (min x (ab.length - 1))) aa) hs) hOwn hI0
    ?assign ?body ?done
   case assign =>
    intro l pre x W K hI hK;unfold api_Gate_51_enc api_Gate_51_val;generalize min x (ab.length - 1) = m at hK ⊢
    gi_wp2
    have hg := World.grownBy_alloc W (.cells #[.int .i64 (rd_T61 ab (m : Int)).f0, .int .i64 (rd_T61 ab (m : Int)).f1, .int .i64 (rd_T61 ab (m : Int)).f2, .int .u64 (rd_T61 ab (m : Int)).f3] 61 (0, 0)) none;have hn := blk_new W (.cells #[.int .i64 (rd_T61 ab (m : Int)).f0, .int .i64 (rd_T61 ab (m : Int)).f1, .int .i64 (rd_T61 ab (m : Int)).f2, .int .u64 (rd_T61 ab (m : Int)).f3] 61 (0, 0));have hsW := hI.2.2.2;have hI2 := tune_Prune.I_step hI hBase (Nat.le_refl _) hg
    have hKp : api_Gate_51_Kp w.heap.size wr.heap.size W (W.alloc (.cells #[.int .i64 (rd_T61 ab (m : Int)).f0, .int .i64 (rd_T61 ab (m : Int)).f1, .int .i64 (rd_T61 ab (m : Int)).f2, .int .u64 (rd_T61 ab (m : Int)).f3] 61 (0, 0))) :=
     ⟨Below.alloc (Below.refl _ W) (by omega) _, hg.block _ (by omega) (by simp)⟩
    have hKf := KeepsFrom.of_grownBy (B := W1.heap.size) hg (fun j hj => by cases hj);generalize W.alloc _ = W' at hg hn hI2 hKp hKf ⊢;generalize W.heap.size = g13 at hn hsW ⊢;exact hK g13 W' hsW hKf hKp hI2 hn
   case body =>
    intro l pre x g13 W hg13 hI hb13 hltn;obtain ⟨m, hm⟩ : ∃ m, m = min x (ab.length - 1) := ⟨_, rfl⟩
    have hml : m < ab.length := by omega
    rw [← hm] at hb13 ⊢;obtain ⟨hR, hks, hBW, hsW⟩ := hI;obtain ⟨al, hal⟩ : ∃ al, al = pre.foldl (fun a x => tune_Prune.step ab a (min x (ab.length - 1))) aa := ⟨_, rfl⟩
    have hll : al.length = ab.length := by rw [hal, tune_Prune.fold_length]; exact hm1
    have hfin : (pre ++ [x]).foldl (fun a x => tune_Prune.step ab a (min x (ab.length - 1))) aa = tune_Prune.step ab al m := by rw [List.foldl_append, ← hal, hm]; rfl
    replace hR : Kd.R Kd.bool 4 W w.heap.size (fun k => k < W1.heap.size) (.slice aG aa.length aw) al := by rw [hal]; exact hR
    obtain ⟨go, cap, eo, hgo1, hgo2, cells, hgc⟩ := Kd.R_form hR (by omega)
    injection eo with ea en ec
    clear en;subst ea;subst ec;have hgB : go < W1.heap.size := hR.1 go rfl
    have hne : ∀ p ∈ hs, p.1 ≠ go := by
     intro p hp e;have h1 := hks p hp;rw [e, hgc] at h1;exact (hhh p hp).2.2 _ _ (Option.some.inj h1).symm
    have hgsne : wr.heap.size ≠ go := hne (wr.heap.size, .cells #[Value.slice au ab.length av] 23 (0, 0)) (by rw [hhs]; simp)
    have hclose : ∀ W' al', Kd.R Kd.bool 4 W' w.heap.size (fun k => k < W1.heap.size) (.slice (some ⟨go, 0, none⟩) aa.length aw) al' → W.grownBy W' (some go) → al' = tune_Prune.step ab al m →
      KeepsFrom W1.heap.size W W' ∧ api_Gate_51_Kp w.heap.size wr.heap.size W W' ∧ tune_Prune.I w.heap.size W1.heap.size w (.slice (some ⟨go, 0, none⟩) aa.length aw) (fun pre => pre.foldl (fun a x => tune_Prune.step ab a (min x (ab.length - 1))) aa) hs (pre ++ [x]) W' := by
     intro W' al' hR' hg hal';have hbw : Below w.heap.size W W' := (Below.refl _ W).grown hg hBW.size (fun j hj => by cases hj; exact hgo1);refine ⟨KeepsFrom.of_grownBy hg (fun j hj => by cases hj; exact hgB), ⟨hbw, hg.block _ (by omega) (fun e => hgsne (Option.some.inj e))⟩, ?_, fun p hp => ?_, hBW.trans hbw, Nat.le_trans hsW hg.size⟩
     ·rw [hal', ← hfin] at hR'; exact hR'
     ·have hp2 := hks p hp
      exact (hg.block p.1 (Array.getElem?_eq_some_iff.1 hp2).1 (fun e => hne p hp (Option.some.inj e))).trans hp2
    have hbx := hks (ar, .cells #[.slice (some ⟨go, 0, none⟩) aa.length aw] 81 (0, 0)) (by rw [hhs]; simp);have hcx : W.cell? ⟨ar, 0, none⟩ = some (.slice (some ⟨go, 0, none⟩) aa.length aw) := (blk_cell hbx 0).trans rfl;have hc0 : W.cell? ⟨g13, 0, none⟩ = some (.int .i64 (rd_T61 ab (m : Int)).f0) := (blk_cell hb13 0).trans rfl;have hc1 : W.cell? ⟨g13, 1, none⟩ = some (.int .i64 (rd_T61 ab (m : Int)).f1) := (blk_cell hb13 1).trans rfl;have hc2 : W.cell? ⟨g13, 2, none⟩ = some (.int .i64 (rd_T61 ab (m : Int)).f2) := (blk_cell hb13 2).trans rfl;obtain ⟨hr0, hf0⟩ := Kd.R_celln false hR (m : Int) (by omega) (by omega);simp only [Int.toNat_natCast] at hr0 hf0;have hok := tune_Prune.okG_at hm2 m hml
    have hlenI : (m : Int) < (aa.length : Int) := by omega
    have hnn : 0 ≤ (m : Int) := by omega
    obtain ⟨q, hq⟩ : ∃ q, q = rd_T61 ab (m : Int) := ⟨_, rfl⟩
    have hst : tune_Prune.step ab al m = if rdOf false al m = true ∧ q.f0 ≠ 1 ∧ q.f0 ≠ 2 then (if q.f0 = 6 then al.set q.f1.toNat true else (al.set q.f1.toNat true).set q.f2.toNat true) else al := by rw [hq]; rfl
    rw [← hq] at hc0 hc1 hc2 hok;clear hq hm hal hm2 hm3 hA hC1 hOwn hhh hb1 hks hll; replace hlenI := eq_true hlenI; replace hnn := eq_true hnn
    have hg13ne : g13 ≠ go := fun e => by rw [e] at hg13; omega
    have hgbne : ar ≠ go := hne (ar, .cells #[.slice (some ⟨go, 0, none⟩) aa.length aw] 81 (0, 0)) (by rw [hhs]; simp);clear hne hfin
    by_cases b1 : rdOf false al m = true
    rotate_left
    ·have hcl := Aside0.mk (hclose W al hR (World.grownBy.refl _ _) (by rw [hst, if_neg (by simp [b1])]))
     rw [Bool.eq_false_iff.mpr b1] at hr0;clear hclose hst hok hR hsz hm1 hhs hsW hBase b1
     gi_wp2
     exact hcl.out
    rw [b1] at hr0
    by_cases b2 : q.f0 = 1
    ·have b2' : (q.f0 != 1) = false := bne_eq_false_iff_eq.mpr b2
     have hcl := Aside0.mk (hclose W al hR (World.grownBy.refl _ _) (by rw [hst, if_neg (by simp [b2])]));clear hclose hst hok hR hsz hm1 hhs hsW hBase
     gi_wp2
     exact hcl.out
    have b2' : (q.f0 != 1) = true := bne_iff_ne.mpr b2
    by_cases b3 : q.f0 = 2
    ·have b3' : (q.f0 != 2) = false := bne_eq_false_iff_eq.mpr b3
     have hcl := Aside0.mk (hclose W al hR (World.grownBy.refl _ _) (by rw [hst, if_neg (by simp [b3])]));clear hclose hst hok hR hsz hm1 hhs hsW hBase b2 b3
     gi_wp2
     exact hcl.out
    have b3' : (q.f0 != 2) = true := bne_iff_ne.mpr b3
    obtain ⟨p1, p2, p3⟩ : 0 ≤ q.f1 ∧ q.f1 < (ab.length : Int) ∧ (q.f0 = 6 ∨ (0 ≤ q.f2 ∧ q.f2 < (ab.length : Int))) := by
     rcases hok with h | h | h
     ·exact absurd h b2
     ·exact absurd h b3
     ·exact h
    have p2' : q.f1 < (aa.length : Int) := by omega
    obtain ⟨hrA, hfA⟩ := Kd.R_celln false hR q.f1 p1 p2';obtain ⟨hRA, hgA⟩ := Kd.R_putg hR q.f1 true
    by_cases b4 : q.f0 = 6
    ·have b4' : (q.f0 != 6) = false := bne_eq_false_iff_eq.mpr b4
     have hcl := Aside0.mk (hclose _ _ hRA hgA (by rw [hst, if_pos ⟨b1, b2, b3⟩, if_pos b4]));have hd0 : (W.setCell ⟨go, q.f1.toNat, none⟩ (.bool true)).cell? ⟨g13, 0, none⟩ = some (.int .i64 q.f0) := hgA.cell hc0 (fun e => hg13ne (Option.some.inj e));replace p1 := eq_true p1; replace p2' := eq_true p2'; clear hclose hst hok hR hRA hgA hsz hm1 hhs hsW hBase b2 b3 b4 p2 p3
     gi_wp2
     exact hcl.out
    have b4' : (q.f0 != 6) = true := bne_iff_ne.mpr b4
    obtain ⟨p4, p5⟩ : 0 ≤ q.f2 ∧ q.f2 < (ab.length : Int) := by
     rcases p3 with h | h
     ·exact absurd h b4
     ·exact h
    have p5' : q.f2 < (aa.length : Int) := by omega
    obtain ⟨hrB, hfB⟩ := Kd.R_celln false hRA q.f2 p4 p5';obtain ⟨hRB, hgB⟩ := Kd.R_putg hRA q.f2 true;have hcl := Aside0.mk (hclose _ _ hRB (World.grownBy.trans hgA hgB) (by rw [hst, if_pos ⟨b1, b2, b3⟩, if_neg b4]));have hd0 : (W.setCell ⟨go, q.f1.toNat, none⟩ (.bool true)).cell? ⟨g13, 0, none⟩ = some (.int .i64 q.f0) := hgA.cell hc0 (fun e => hg13ne (Option.some.inj e));have hd2 : (W.setCell ⟨go, q.f1.toNat, none⟩ (.bool true)).cell? ⟨g13, 2, none⟩ = some (.int .i64 q.f2) := hgA.cell hc2 (fun e => hg13ne (Option.some.inj e));have hdx : (W.setCell ⟨go, q.f1.toNat, none⟩ (.bool true)).cell? ⟨ar, 0, none⟩ = some (.slice (some ⟨go, 0, none⟩) aa.length aw) := hgA.cell hcx (fun e => hgbne (Option.some.inj e));replace p1 := eq_true p1; replace p2' := eq_true p2'; replace p4 := eq_true p4; replace p5' := eq_true p5'; clear hclose hst hok hR hRA hRB hgA hgB hsz hm1 hhs hsW hBase b2 b3 b4 p2 p3 p5
    gi_wp2
    exact hcl.out
   case done =>
    intro D xs W hD hS hI hD2;obtain ⟨hR0, hks, hBW, hsW⟩ := hI
    have hR : Kd.R Kd.bool 4 W w.heap.size (fun k => k < W1.heap.size) (.slice aG aa.length aw) bp := by rw [hm3, ← show xs = (List.range ab.length).map (fun k => ab.length - 1 - k) from hS]; exact hR0
    have hln : bp.length = aa.length := by rw [hm3, tune_Prune.fold_length]
    rw [← hln] at hR;have hkz := hks;rw [hhs] at hkz;have ae := Aside0.mk (hkz (aP, .cells #[.slice aB aq.length aC, .slice au ab.length av, .slice aF ag.length aD] 26 (0, 0)) (by simp));have ah := Aside0.mk (hkz (ak, .cells #[.slice none 0 0, .slice none 0 0, .slice none 0 0] 26 (0, 0)) (by simp));have an := Aside0.mk (hkz (ar, .cells #[.slice aG aa.length aw] 81 (0, 0)) (by simp));rw [← hln] at an;have HR := Aside0.mk hR;have HB := Aside0.mk hBW;have HD := Aside0.mk hD2;have HDge : Aside0 (w.heap.size ≤ D) := ⟨by omega⟩;have HDn : Aside0 (D ≠ ak) := ⟨fun e => by rw [e] at hD2; rw [ah.out] at hD2; cases hD2⟩;clear hks hkz hR hR0 hBW hD2 hln hm3 hm2 hm1 hS hI0 hOwn hhh hhs hsW hA hC1 hbk hlt k278 k279 k284 hgs hb1 hRa hsz hbs hD hBase hlen;have Z45 := ky3 ae;have hC1 := (Kd.R_reads' HR.out);have hbx : W.cell? ⟨ar, 0, none⟩ = some (.slice aG bp.length aw) := kk an 0;have HC := Aside0.mk hC1.2.2;have HX := Aside0.mk hbx;clear hC1 hbx;go_wp2_with (first | ((with_reducible refine gate_callee (f := 45) rfl ?_); refine goesL_ (some 76) rfl rfl Try.func45 (by kernel_rfl) rfl #[.agg #[.slice aB aq.length aC, .slice au ab.length av, .slice aF ag.length aD], .func (.func 52) #[] #[.pointer (some ⟨ar, 0, none⟩)], .func (.func 53) #[] #[]] rfl (by (try simp only [qM1, qM2, qM3]); first | done | rfl) ?_));refine (tune_moved.calls (tune_Prune.st bp) some 52 53 #[.pointer (some ⟨ar, 0, none⟩)] #[] k1 _ _ aq _ _ ab _ _ ag aS bd bq _ (Kd.C_below bg.out HB.out) bh.out (Kd.C_below aH.out HB.out) bi.out (Kd.C_below aT.out HB.out) bj.out (enters_of Try.func52 (by kernel_rfl) rfl) (enters_of Try.func53 (by kernel_rfl) rfl) (fun x0 x1 x2 x3 x4 r V hV hst => tune_Prune.calls1 ar aG aw bp V ((hV.cell (p := ⟨ar, 0, none⟩) (World.block_lt_of_cell? _ _ HX.out)).trans HX.out) (Kd.C_below HC.out hV) x0 x1 x2 x3 x4 r hst) (fun x0 r V hV hst => tune_Prune.calls2 x0 r V hst) A42.out).mono ?_;rintro e w53 ⟨df, dg, dh, rfl, ho0, ho1, ho2, hb⟩;refine ⟨_, rfl, ?_⟩;replace ho2 := k66t_S ho2;have bK := Aside0.mk (Kd.R_lower ho0 HB.out.size);have bL := Aside0.mk (Kd.R_lower ho1 HB.out.size);have bM := Aside0.mk (Kd.S_lower ho2 HB.out.size);have ah := Aside0.mk (blk_below ah.out hb);have HD := Aside0.mk (blk_below HD.out hb);have HB := Aside0.mk (below_step HB.out hb);clear ho0 ho1 ho2 hb;obtain ⟨be, bf, cx⟩ := Kd.R_slice bK.out;subst cx;obtain ⟨br, bt, cy⟩ := Kd.R_slice bL.out;subst cy;obtain ⟨bA, bB, cz⟩ := Kd.S_slice bM.out;subst cz;have Z55 := kz3 ah;go_wp2;have hD3 : (((w53.setCell ⟨ak, 0, none⟩ (.slice be aS.length bf)).setCell ⟨ak, 1, none⟩ (.slice br bd.length bt)).setCell ⟨ak, 2, none⟩ (.slice bA bq.length bB)).heap[D]? = some (.deferred (some [])) := (Below.heap_setCell _ ⟨ak, 2, none⟩ _ D HDn.out).trans ((Below.heap_setCell _ ⟨ak, 1, none⟩ _ D HDn.out).trans ((Below.heap_setCell _ ⟨ak, 0, none⟩ _ D HDn.out).trans HD.out))
    have hB3 : (((w53.setCell ⟨ak, 0, none⟩ (.slice be aS.length bf)).setCell ⟨ak, 1, none⟩ (.slice br bd.length bt)).setCell ⟨ak, 2, none⟩ (.slice bA bq.length bB)).heap[ak]? = some (.cells #[.slice be aS.length bf, .slice br bd.length bt, .slice bA bq.length bB] 26 (0, 0)) := by
     refine blk_put (cs := #[.slice be aS.length bf, .slice br bd.length bt, .slice none 0 0]) ?_ 2 _ rfl;refine blk_put (cs := #[.slice be aS.length bf, .slice none 0 0, .slice none 0 0]) ?_ 1 _ rfl;refine blk_put (cs := #[.slice none 0 0, .slice none 0 0, .slice none 0 0]) ?_ 0 _ rfl;exact ah.out
    have hBl : Below w.heap.size w (((w53.setCell ⟨ak, 0, none⟩ (.slice be aS.length bf)).setCell ⟨ak, 1, none⟩ (.slice br bd.length bt)).setCell ⟨ak, 2, none⟩ (.slice bA bq.length bB)) := by
     refine below_set ?_ aU.out;refine below_set ?_ aU.out;refine below_set ?_ aU.out;exact HB.out
    have hr1 := putO_R (o' := .deferred none) (kt bK ah) hD3 rfl;have hr2 := putO_R (o' := .deferred none) (kt bL ah) hD3 rfl;have hr3 := putO_S (o' := .deferred none) (ks bM ah) hD3 rfl;have hB4 := putO_blk (o' := .deferred none) hD3 rfl hB3 rfl;have hBl4 := hBl.grown (grownBy_putObj' _ D (.deferred none)) hBl.size (fun j hj => by cases hj; exact HDge.out);refine marks_ret1 rfl hD3 (results_ct rfl _ _ ak 26 _ (0, 0) _ rfl hB4 Try.underlying26 rfl (by kernel_rfl)) ?_;exact ⟨_, _, _, rfl, hr1, hr2, hr3, hBl4⟩
end Go.Proofs.Ytmlbliggbkfjnaa.J
namespace Go.Proofs.Ytmlbliggbkfjnaa.J
open Go.RowKit Go.Proofs.YtmlbliggbkfjnaaW.PrintWords Go.Proofs.YtmlbliggbkfjnaaW.PrintLast Go.Proofs.YtmlbliggbkfjnaaW.PrintMore
attribute [local go_sem] max2_int min2_int max_two min_two max_three min_three max_four min_four
def tune_Tune.f (k : Nat) (a0 : Int) (af : List (S64)) (ag : List (S61)) (ah : List (S66)) : Option ((List (S64)) × (List (S61)) × (List (S66)) × Int) := (tune_Fold.f k a0 af ag ah).bind fun aa => (if aa.2.2.2 = 0 then ((tune_Share.f k a0 aa.1 aa.2.1 aa.2.2.1).bind fun ab => (if ab.2.2.2 = 0 then ((tune_Prune.f k a0 ab.1 ab.2.1 ab.2.2.1).bind fun ae => (if ae.2.2.2 = 0 then (some (ae.1, ae.2.1, ae.2.2.1, 0)) else (some (([] : List (S64)), ([] : List (S61)), ([] : List (S66)), ae.2.2.2)))) else (some (([] : List (S64)), ([] : List (S61)), ([] : List (S66)), ab.2.2.2)))) else (some (([] : List (S64)), ([] : List (S61)), ([] : List (S66)), aa.2.2.2)))
theorem tune_Tune.mono : ∀ a0 a1 a2 a3 k, LeO (tune_Tune.f k a0 a1 a2 a3) (tune_Tune.f (k + 1) a0 a1 a2 a3) := by
 intro a0 a1 a2 a3 k;unfold tune_Tune.f
 repeat' first
   | (with_reducible exact tune_Fold.mono _ _ _ _ _)
   | (with_reducible exact tune_Prune.mono _ _ _ _ _)
   | (with_reducible exact tune_Share.mono _ _ _ _ _)
   | (with_reducible exact LeO.refl _)
   | (with_reducible exact LeO.none _)
   | (with_reducible refine LeO.ite ?_ ?_)
   | (with_reducible refine LeO.bind ?_ (fun _ => ?_))
   | exact tune_Fold.mono _ _ _ _ _
   | exact tune_Prune.mono _ _ _ _ _
   | exact tune_Share.mono _ _ _ _ _
   | exact LeO.none _
   | refine LeO.ite ?_ ?_
   | refine LeO.bind ?_ (fun _ => ?_)
theorem tune_Tune.calls (k : Nat) (a0 : Int) (aD : Option Addr) (aE : Nat) (ax : List (S64)) (aF : Option Addr) (aG : Nat) (ay : List (S61)) (aH : Option Addr) (aI : Nat) (az : List (S66)) (r1 : List (S64)) (r2 : List (S61)) (r3 : List (S66)) (r4 : Int) (w : World) (bq : Kd.C k64 w aD ax.length ax) (br : ax.length ≤ aE) (bt : Kd.C k61 w aF ay.length ay) (bu : ay.length ≤ aG) (bv : Kd.C k66 w aH az.length az) (bw : az.length ≤ aI) (h : tune_Tune.f k a0 ax ay az = some (r1, r2, r3, r4)) :
  Calls Try.prog 24 #[.int .u64 a0, .agg #[.slice aD ax.length aE, .slice aF ay.length aG, .slice aH az.length aI]] w fun e w' => ∃ v0_ v1_ v2_ : Value, e = .returned (.tuple #[.agg #[v0_, v1_, v2_], .int .i64 r4]) ∧ Kd.R k64 64 w' w.heap.size (fun _ => True) v0_ r1 ∧ Kd.R k61 61 w' w.heap.size (fun _ => True) v1_ r2 ∧ Kd.S k66 66 w' w.heap.size (fun _ => True) v2_ r3 ∧ Below w.heap.size w w' := by
 have hu26 := Try.underlying26;have hu85 := Try.underlying85;have aY := Aside0.mk bq;have aZ := Aside0.mk br;clear bq br;have ba := Aside0.mk bt;have bb := Aside0.mk bu;clear bt bu;have bc := Aside0.mk bv;have bd := Aside0.mk bw;clear bv bw;have HB := Aside0.mk (Below.refl w.heap.size w);have H : ((tune_Fold.f k a0 ax ay az).bind fun aP => (if aP.2.2.2 = 0 then ((tune_Share.f k a0 aP.1 aP.2.1 aP.2.2.1).bind fun aQ => (if aQ.2.2.2 = 0 then ((tune_Prune.f k a0 aQ.1 aQ.2.1 aQ.2.2.1).bind fun aR => (if aR.2.2.2 = 0 then (some (aR.1, aR.2.1, aR.2.2.1, 0)) else (some (([] : List (S64)), ([] : List (S61)), ([] : List (S66)), aR.2.2.2)))) else (some (([] : List (S64)), ([] : List (S61)), ([] : List (S66)), aQ.2.2.2)))) else (some (([] : List (S64)), ([] : List (S61)), ([] : List (S66)), aP.2.2.2)))) = some (r1, r2, r3, r4) := h;clear h;replace H := Option.bind_eq_some_iff.mp H;obtain ⟨⟨aA, aB, aC, bh⟩, A30, H⟩ := H;(try dsimp only at H);have A3 := Aside0.mk A30;clear A30
 by_cases c4 : bh = 0
 rotate_left
 ·rw [if_neg c4] at H
  have cm := beq_eq_false_iff_ne.mpr c4;have cn := bne_iff_ne.mpr c4;simp only [Option.some.injEq, Prod.mk.injEq] at H;obtain ⟨rfl, rfl, rfl, rfl⟩ := H;go_enter Try.func24, Try.ntmps24
  have bx : ∀ w : World, (Instr.index 85 (.agg #[.func (.func 16) #[] #[], .func (.func 20) #[] #[], .func (.func 22) #[] #[]]) (.int .i64 0)).run Try.prog w = .ok (.func (.func 16) #[] #[]) w := fun w => by kernel_rfl
  have bz : ∀ w : World, (Instr.index 85 (.agg #[.func (.func 16) #[] #[], .func (.func 20) #[] #[], .func (.func 22) #[] #[]]) (.int .i64 1)).run Try.prog w = .ok (.func (.func 20) #[] #[]) w := fun w => by kernel_rfl
  have bA : ∀ w : World, (Instr.index 85 (.agg #[.func (.func 16) #[] #[], .func (.func 20) #[] #[], .func (.func 22) #[] #[]]) (.int .i64 2)).run Try.prog w = .ok (.func (.func 22) #[] #[]) w := fun w => by kernel_rfl
  go_wp2_with (first | ((with_reducible refine qea (N := 3) rfl ?_); refine box_event ?hg (N := 3) ?hd (cs := #[.slice aD ax.length aE, .slice aF ay.length aG, .slice aH az.length aI]) (t := 26) ?hr ?_; (case hd => rfl); (case hg => rfl); (case hr => first | (go_simp; done) | (go_simp; rfl)); intro aw hg w76 hbox hb; have aa := am hbox; have bi := kG HB hg; have bj := kG HB hg; replace HB := kH HB hb; clear hb hbox hg) | ((with_reducible refine qea (N := 4) rfl ?_); refine box_event ?hg (N := 4) ?hd (cs := #[.slice none 0 0, .slice none 0 0, .slice none 0 0]) (t := 26) ?hr ?_; (case hd => rfl); (case hg => rfl); (case hr => first | (go_simp; done) | (go_simp; rfl)); intro aq hg w77 hbox hb; have ab := am hbox; have bk := kG HB hg; have bl := kG HB hg; replace HB := kH HB hb; have ai := kP aa hg; have aj := kQ aa hg; replace aa := kU aa hb; clear hb hbox hg) | ((with_reducible refine qea (N := 6) rfl ?_); refine box_event ?hg (N := 6) ?hd (cs := #[.nilFunc, .nilFunc, .nilFunc]) (t := 85) ?hr ?_; (case hd => rfl); (case hg => rfl); (case hr => first | (go_simp; done) | (go_simp; rfl)); intro bm hg w78 hbox hb; have ah := am hbox; have bn := kG HB hg; have bo := kG HB hg; replace HB := kH HB hb; have ak := kP aa hg; have an := kQ aa hg; replace aa := kU aa hb; have ao := kP ab hg; have ap := kQ ab hg; replace ab := kU ab hb; clear hb hbox hg; have cX := an.out; have cY := ak.out; have cZ := ap.out; have da := ao.out; have Z81 := kz3 ah; have db := ai.out; have dc := aj.out; have Z83 := kz3 aa));refine wp_loop_rounds 4 ?_;rw [rounds_succ];go_wp2_with (first | ((with_reducible refine qea (N := 19) rfl ?_); refine api_Slot_78.goesT0 (some 19) rfl rfl Try.func16 (by kernel_rfl) rfl #[.int .u64 a0, .agg #[.slice aD ax.length aE, .slice aF ay.length aG, .slice aH az.length aI]] rfl rfl (by (try simp only [qM1, qM2, qM3]); first | done | rfl) ?_; (with_reducible refine (tune_Fold.calls k a0 _ _ ax _ _ ay _ _ az aA aB aC bh _ ?side1 ?side2 ?side3 ?side4 ?side5 ?side6 A3.out).mono ?_); (case side1 => exact Kd.C_below aY.out (kh HB)); (case side2 => exact aZ.out); (case side3 => exact Kd.C_below ba.out (kh HB)); (case side4 => exact bb.out); (case side5 => exact Kd.C_below bc.out (kh HB)); (case side6 => exact bd.out); rintro e w84 ⟨bB, bC, bD, rfl, ho0, ho1, ho2, hb⟩; refine ⟨_, rfl, ?_⟩; have ae := kLR ho0 HB; have af := kLR ho1 HB; have ag := kLS ho2 HB; replace aa := kU aa hb; replace ab := kU ab hb; replace ah := kO (o' := .cells #[.func (.func 16) #[] #[], .func (.func 20) #[] #[], .func (.func 22) #[] #[]] 85 (0, 0)) ah hb; replace HB := kH HB hb; (try clear hb); (try clear hb2); (try clear hk); (try clear hi); (try clear ho0); (try clear ho1); (try clear ho2); obtain ⟨dx, dy, co⟩ := Kd.R_slice ae.out; subst co; have Z86 := kz3 aa; obtain ⟨dz, dA, cp⟩ := Kd.R_slice af.out; subst cp; obtain ⟨dB, dC, cq⟩ := Kd.S_slice ag.out; subst cq; have Z89 := kz3 ab));refine bodyPost_ret (results_ct rfl _ _ aq 26 #[.slice none 0 0, .slice none 0 0, .slice none 0 0] (0, 0) _ rfl (kg ab) Try.underlying26 rfl (by kernel_rfl)) rfl ?_;exact ⟨_, _, _, er, by first | exact Kd.R_nil _ _ _ _ _ | exact Kd.N_nil _ _ _ _ _ | exact Kd.V_nil _ _ _ _ _ | exact Kd.Q_nil _ _ _ _ _ | exact Kd.S_nil _ _ _ _ _, by first | exact Kd.R_nil _ _ _ _ _ | exact Kd.N_nil _ _ _ _ _ | exact Kd.V_nil _ _ _ _ _ | exact Kd.Q_nil _ _ _ _ _ | exact Kd.S_nil _ _ _ _ _, by first | exact Kd.S_nil _ _ _ _ _ | exact Kd.N_nil _ _ _ _ _ | exact Kd.V_nil _ _ _ _ _ | exact Kd.Q_nil _ _ _ _ _ | exact Kd.R_nil _ _ _ _ _, kh HB⟩
 rw [if_pos c4] at H;have cm := beq_iff_eq.mpr c4;have cn := bne_eq_false_iff_eq.mpr c4;clear c4;replace H := Option.bind_eq_some_iff.mp H;obtain ⟨⟨aJ, aK, aL, bp⟩, A50, H⟩ := H;(try dsimp only at H);have A5 := Aside0.mk A50;clear A50
 by_cases c6 : bp = 0
 rotate_left
 ·rw [if_neg c6] at H
  have cr := beq_eq_false_iff_ne.mpr c6;have ct := bne_iff_ne.mpr c6;simp only [Option.some.injEq, Prod.mk.injEq] at H;obtain ⟨rfl, rfl, rfl, rfl⟩ := H;go_enter Try.func24, Try.ntmps24
  have bx : ∀ w : World, (Instr.index 85 (.agg #[.func (.func 16) #[] #[], .func (.func 20) #[] #[], .func (.func 22) #[] #[]]) (.int .i64 0)).run Try.prog w = .ok (.func (.func 16) #[] #[]) w := fun w => by kernel_rfl
  have bz : ∀ w : World, (Instr.index 85 (.agg #[.func (.func 16) #[] #[], .func (.func 20) #[] #[], .func (.func 22) #[] #[]]) (.int .i64 1)).run Try.prog w = .ok (.func (.func 20) #[] #[]) w := fun w => by kernel_rfl
  have bA : ∀ w : World, (Instr.index 85 (.agg #[.func (.func 16) #[] #[], .func (.func 20) #[] #[], .func (.func 22) #[] #[]]) (.int .i64 2)).run Try.prog w = .ok (.func (.func 22) #[] #[]) w := fun w => by kernel_rfl
  go_wp2_with (first | ((with_reducible refine qea (N := 3) rfl ?_); refine box_event ?hg (N := 3) ?hd (cs := #[.slice aD ax.length aE, .slice aF ay.length aG, .slice aH az.length aI]) (t := 26) ?hr ?_; (case hd => rfl); (case hg => rfl); (case hr => first | (go_simp; done) | (go_simp; rfl)); intro aw hg w57 hbox hb; have aa := am hbox; have bi := kG HB hg; have bj := kG HB hg; replace HB := kH HB hb; clear hb hbox hg) | ((with_reducible refine qea (N := 4) rfl ?_); refine box_event ?hg (N := 4) ?hd (cs := #[.slice none 0 0, .slice none 0 0, .slice none 0 0]) (t := 26) ?hr ?_; (case hd => rfl); (case hg => rfl); (case hr => first | (go_simp; done) | (go_simp; rfl)); intro aq hg w58 hbox hb; have ab := am hbox; have bk := kG HB hg; have bl := kG HB hg; replace HB := kH HB hb; have ai := kP aa hg; have aj := kQ aa hg; replace aa := kU aa hb; clear hb hbox hg) | ((with_reducible refine qea (N := 6) rfl ?_); refine box_event ?hg (N := 6) ?hd (cs := #[.nilFunc, .nilFunc, .nilFunc]) (t := 85) ?hr ?_; (case hd => rfl); (case hg => rfl); (case hr => first | (go_simp; done) | (go_simp; rfl)); intro bm hg w59 hbox hb; have ah := am hbox; have bn := kG HB hg; have bo := kG HB hg; replace HB := kH HB hb; have ak := kP aa hg; have an := kQ aa hg; replace aa := kU aa hb; have ao := kP ab hg; have ap := kQ ab hg; replace ab := kU ab hb; clear hb hbox hg; have dd := an.out; have de := ak.out; have df := ap.out; have dg := ao.out; have Z62 := kz3 ah; have dh := ai.out; have di := aj.out; have Z64 := kz3 aa));refine wp_loop_rounds 4 ?_;rw [rounds_succ];go_wp2_with (first | ((with_reducible refine qea (N := 19) rfl ?_); refine api_Slot_78.goesT0 (some 19) rfl rfl Try.func16 (by kernel_rfl) rfl #[.int .u64 a0, .agg #[.slice aD ax.length aE, .slice aF ay.length aG, .slice aH az.length aI]] rfl rfl (by (try simp only [qM1, qM2, qM3]); first | done | rfl) ?_; (with_reducible refine (tune_Fold.calls k a0 _ _ ax _ _ ay _ _ az aA aB aC bh _ ?side1 ?side2 ?side3 ?side4 ?side5 ?side6 A3.out).mono ?_); (case side1 => exact Kd.C_below aY.out (kh HB)); (case side2 => exact aZ.out); (case side3 => exact Kd.C_below ba.out (kh HB)); (case side4 => exact bb.out); (case side5 => exact Kd.C_below bc.out (kh HB)); (case side6 => exact bd.out); rintro e w65 ⟨bB, bC, bD, rfl, ho0, ho1, ho2, hb⟩; refine ⟨_, rfl, ?_⟩; have ae := kLR ho0 HB; have af := kLR ho1 HB; have ag := kLS ho2 HB; replace aa := kU aa hb; replace ab := kU ab hb; replace ah := kO (o' := .cells #[.func (.func 16) #[] #[], .func (.func 20) #[] #[], .func (.func 22) #[] #[]] 85 (0, 0)) ah hb; replace HB := kH HB hb; (try clear hb); (try clear hb2); (try clear hk); (try clear hi); (try clear ho0); (try clear ho1); (try clear ho2); obtain ⟨bF, bG, cu⟩ := Kd.R_slice ae.out; subst cu; have Z67 := kz3 aa; obtain ⟨bH, bI, cv⟩ := Kd.R_slice af.out; subst cv; obtain ⟨bJ, bK, cw⟩ := Kd.S_slice ag.out; subst cw));rw [rounds_succ];go_wp2_with (first | ((with_reducible refine qea (N := 19) rfl ?_); refine api_Slot_78.goesT0 (some 19) rfl rfl Try.func20 (by kernel_rfl) rfl #[.int .u64 a0, .agg #[.slice bF aA.length bG, .slice bH aB.length bI, .slice bJ aC.length bK]] rfl rfl (by (try simp only [qM1, qM2, qM3]); first | done | rfl) ?_; (with_reducible refine (tune_Share.calls k a0 _ _ aA _ _ aB _ _ aC aJ aK aL bp _ ?side1 ?side2 ?side3 ?side4 ?side5 ?side6 A5.out).mono ?_); (case side1 => exact (Kd.R_reads' (kt ae aa)).2.2); (case side2 => exact (Kd.R_reads' ae.out).2.1); (case side3 => exact (Kd.R_reads' (kt af aa)).2.2); (case side4 => exact (Kd.R_reads' af.out).2.1); (case side5 => exact (Kd.S_reads' (ks ag aa)).2.2); (case side6 => exact (Kd.S_reads' ag.out).2.1); rintro e w70 ⟨bL, bM, bN, rfl, ho0, ho1, ho2, hb⟩; refine ⟨_, rfl, ?_⟩; have ar := Aside0.mk (Kd.R_lower (Kd.R_new' ho0 (Kd.R_lt (kt ae aa))) (below_size (kh HB))); replace ae := Aside0.mk (Kd.R_elder' (kt ae aa) (Kd.R_base ho0) hb); have au := Aside0.mk (Kd.R_lower (Kd.R_new' ho1 (Kd.R_lt (kt af aa))) (below_size (kh HB))); replace af := Aside0.mk (Kd.R_elder' (kt af aa) (Kd.R_base ho1) hb); have av := Aside0.mk (Kd.S_lower (Kd.S_new' ho2 (Kd.S_lt (ks ag aa))) (below_size (kh HB))); replace ag := Aside0.mk (Kd.S_elder' (ks ag aa) (Kd.S_base ho2) hb); replace aa := kO (o' := .cells #[.slice bF aA.length bG, .slice bH aB.length bI, .slice bJ aC.length bK] 26 (0, 0)) aa hb; replace ab := kU ab hb; replace ah := kU ah hb; replace HB := kH HB hb; (try clear hb); (try clear hb2); (try clear hk); (try clear hi); (try clear ho0); (try clear ho1); (try clear ho2); obtain ⟨dD, dE, cx⟩ := Kd.R_slice ar.out; subst cx; have Z72 := kz3 aa; obtain ⟨dF, dG, cy⟩ := Kd.R_slice au.out; subst cy; obtain ⟨dH, dI, cz⟩ := Kd.S_slice av.out; subst cz; have Z75 := kz3 ab));refine bodyPost_ret (results_ct rfl _ _ aq 26 #[.slice none 0 0, .slice none 0 0, .slice none 0 0] (0, 0) _ rfl (kg ab) Try.underlying26 rfl (by kernel_rfl)) rfl ?_;exact ⟨_, _, _, er, by first | exact Kd.R_nil _ _ _ _ _ | exact Kd.N_nil _ _ _ _ _ | exact Kd.V_nil _ _ _ _ _ | exact Kd.Q_nil _ _ _ _ _ | exact Kd.S_nil _ _ _ _ _, by first | exact Kd.R_nil _ _ _ _ _ | exact Kd.N_nil _ _ _ _ _ | exact Kd.V_nil _ _ _ _ _ | exact Kd.Q_nil _ _ _ _ _ | exact Kd.S_nil _ _ _ _ _, by first | exact Kd.S_nil _ _ _ _ _ | exact Kd.N_nil _ _ _ _ _ | exact Kd.V_nil _ _ _ _ _ | exact Kd.Q_nil _ _ _ _ _ | exact Kd.R_nil _ _ _ _ _, kh HB⟩
 rw [if_pos c6] at H;have cr := beq_iff_eq.mpr c6;have ct := bne_eq_false_iff_eq.mpr c6;clear c6;replace H := Option.bind_eq_some_iff.mp H;obtain ⟨⟨aM, aN, aO, bE⟩, A70, H⟩ := H;(try dsimp only at H);have A7 := Aside0.mk A70;clear A70
 by_cases c8 : bE = 0
 rotate_left
 ·rw [if_neg c8] at H
  have cA := beq_eq_false_iff_ne.mpr c8;have cB := bne_iff_ne.mpr c8;simp only [Option.some.injEq, Prod.mk.injEq] at H;obtain ⟨rfl, rfl, rfl, rfl⟩ := H;go_enter Try.func24, Try.ntmps24
  have bx : ∀ w : World, (Instr.index 85 (.agg #[.func (.func 16) #[] #[], .func (.func 20) #[] #[], .func (.func 22) #[] #[]]) (.int .i64 0)).run Try.prog w = .ok (.func (.func 16) #[] #[]) w := fun w => by kernel_rfl
  have bz : ∀ w : World, (Instr.index 85 (.agg #[.func (.func 16) #[] #[], .func (.func 20) #[] #[], .func (.func 22) #[] #[]]) (.int .i64 1)).run Try.prog w = .ok (.func (.func 20) #[] #[]) w := fun w => by kernel_rfl
  have bA : ∀ w : World, (Instr.index 85 (.agg #[.func (.func 16) #[] #[], .func (.func 20) #[] #[], .func (.func 22) #[] #[]]) (.int .i64 2)).run Try.prog w = .ok (.func (.func 22) #[] #[]) w := fun w => by kernel_rfl
  go_wp2_with (first | ((with_reducible refine qea (N := 3) rfl ?_); refine box_event ?hg (N := 3) ?hd (cs := #[.slice aD ax.length aE, .slice aF ay.length aG, .slice aH az.length aI]) (t := 26) ?hr ?_; (case hd => rfl); (case hg => rfl); (case hr => first | (go_simp; done) | (go_simp; rfl)); intro aw hg w33 hbox hb; have aa := am hbox; have bi := kG HB hg; have bj := kG HB hg; replace HB := kH HB hb; clear hb hbox hg) | ((with_reducible refine qea (N := 4) rfl ?_); refine box_event ?hg (N := 4) ?hd (cs := #[.slice none 0 0, .slice none 0 0, .slice none 0 0]) (t := 26) ?hr ?_; (case hd => rfl); (case hg => rfl); (case hr => first | (go_simp; done) | (go_simp; rfl)); intro aq hg w34 hbox hb; have ab := am hbox; have bk := kG HB hg; have bl := kG HB hg; replace HB := kH HB hb; have ai := kP aa hg; have aj := kQ aa hg; replace aa := kU aa hb; clear hb hbox hg) | ((with_reducible refine qea (N := 6) rfl ?_); refine box_event ?hg (N := 6) ?hd (cs := #[.nilFunc, .nilFunc, .nilFunc]) (t := 85) ?hr ?_; (case hd => rfl); (case hg => rfl); (case hr => first | (go_simp; done) | (go_simp; rfl)); intro bm hg w35 hbox hb; have ah := am hbox; have bn := kG HB hg; have bo := kG HB hg; replace HB := kH HB hb; have ak := kP aa hg; have an := kQ aa hg; replace aa := kU aa hb; have ao := kP ab hg; have ap := kQ ab hg; replace ab := kU ab hb; clear hb hbox hg; have dj := an.out; have dk := ak.out; have dl := ap.out; have dm := ao.out; have Z38 := kz3 ah; have dn := ai.out; have dp := aj.out; have Z40 := kz3 aa));refine wp_loop_rounds 4 ?_;rw [rounds_succ];go_wp2_with (first | ((with_reducible refine qea (N := 19) rfl ?_); refine api_Slot_78.goesT0 (some 19) rfl rfl Try.func16 (by kernel_rfl) rfl #[.int .u64 a0, .agg #[.slice aD ax.length aE, .slice aF ay.length aG, .slice aH az.length aI]] rfl rfl (by (try simp only [qM1, qM2, qM3]); first | done | rfl) ?_; (with_reducible refine (tune_Fold.calls k a0 _ _ ax _ _ ay _ _ az aA aB aC bh _ ?side1 ?side2 ?side3 ?side4 ?side5 ?side6 A3.out).mono ?_); (case side1 => exact Kd.C_below aY.out (kh HB)); (case side2 => exact aZ.out); (case side3 => exact Kd.C_below ba.out (kh HB)); (case side4 => exact bb.out); (case side5 => exact Kd.C_below bc.out (kh HB)); (case side6 => exact bd.out); rintro e w41 ⟨bB, bC, bD, rfl, ho0, ho1, ho2, hb⟩; refine ⟨_, rfl, ?_⟩; have ae := kLR ho0 HB; have af := kLR ho1 HB; have ag := kLS ho2 HB; replace aa := kU aa hb; replace ab := kU ab hb; replace ah := kO (o' := .cells #[.func (.func 16) #[] #[], .func (.func 20) #[] #[], .func (.func 22) #[] #[]] 85 (0, 0)) ah hb; replace HB := kH HB hb; (try clear hb); (try clear hb2); (try clear hk); (try clear hi); (try clear ho0); (try clear ho1); (try clear ho2); obtain ⟨bO, bP, cC⟩ := Kd.R_slice ae.out; subst cC; have Z43 := kz3 aa; obtain ⟨bQ, bR, cD⟩ := Kd.R_slice af.out; subst cD; obtain ⟨bS, bT, cE⟩ := Kd.S_slice ag.out; subst cE));rw [rounds_succ];go_wp2_with (first | ((with_reducible refine qea (N := 19) rfl ?_); refine api_Slot_78.goesT0 (some 19) rfl rfl Try.func20 (by kernel_rfl) rfl #[.int .u64 a0, .agg #[.slice bO aA.length bP, .slice bQ aB.length bR, .slice bS aC.length bT]] rfl rfl (by (try simp only [qM1, qM2, qM3]); first | done | rfl) ?_; (with_reducible refine (tune_Share.calls k a0 _ _ aA _ _ aB _ _ aC aJ aK aL bp _ ?side1 ?side2 ?side3 ?side4 ?side5 ?side6 A5.out).mono ?_); (case side1 => exact (Kd.R_reads' (kt ae aa)).2.2); (case side2 => exact (Kd.R_reads' ae.out).2.1); (case side3 => exact (Kd.R_reads' (kt af aa)).2.2); (case side4 => exact (Kd.R_reads' af.out).2.1); (case side5 => exact (Kd.S_reads' (ks ag aa)).2.2); (case side6 => exact (Kd.S_reads' ag.out).2.1); rintro e w46 ⟨bL, bM, bN, rfl, ho0, ho1, ho2, hb⟩; refine ⟨_, rfl, ?_⟩; have ar := Aside0.mk (Kd.R_lower (Kd.R_new' ho0 (Kd.R_lt (kt ae aa))) (below_size (kh HB))); replace ae := Aside0.mk (Kd.R_elder' (kt ae aa) (Kd.R_base ho0) hb); have au := Aside0.mk (Kd.R_lower (Kd.R_new' ho1 (Kd.R_lt (kt af aa))) (below_size (kh HB))); replace af := Aside0.mk (Kd.R_elder' (kt af aa) (Kd.R_base ho1) hb); have av := Aside0.mk (Kd.S_lower (Kd.S_new' ho2 (Kd.S_lt (ks ag aa))) (below_size (kh HB))); replace ag := Aside0.mk (Kd.S_elder' (ks ag aa) (Kd.S_base ho2) hb); replace aa := kO (o' := .cells #[.slice bO aA.length bP, .slice bQ aB.length bR, .slice bS aC.length bT] 26 (0, 0)) aa hb; replace ab := kU ab hb; replace ah := kU ah hb; replace HB := kH HB hb; (try clear hb); (try clear hb2); (try clear hk); (try clear hi); (try clear ho0); (try clear ho1); (try clear ho2); obtain ⟨bU, bV, cF⟩ := Kd.R_slice ar.out; subst cF; have Z48 := kz3 aa; obtain ⟨bW, bX, cG⟩ := Kd.R_slice au.out; subst cG; obtain ⟨bY, bZ, cH⟩ := Kd.S_slice av.out; subst cH));rw [rounds_succ];go_wp2_with (first | ((with_reducible refine qea (N := 19) rfl ?_); refine api_Slot_78.goesT0 (some 19) rfl rfl Try.func22 (by kernel_rfl) rfl #[.int .u64 a0, .agg #[.slice bU aJ.length bV, .slice bW aK.length bX, .slice bY aL.length bZ]] rfl rfl (by (try simp only [qM1, qM2, qM3]); first | done | rfl) ?_; (with_reducible refine (tune_Prune.calls k a0 _ _ aJ _ _ aK _ _ aL aM aN aO bE _ ?side1 ?side2 ?side3 ?side4 ?side5 ?side6 A7.out).mono ?_); (case side1 => exact (Kd.R_reads' (kt ar aa)).2.2); (case side2 => exact (Kd.R_reads' ar.out).2.1); (case side3 => exact (Kd.R_reads' (kt au aa)).2.2); (case side4 => exact (Kd.R_reads' au.out).2.1); (case side5 => exact (Kd.S_reads' (ks av aa)).2.2); (case side6 => exact (Kd.S_reads' av.out).2.1); rintro e w51 ⟨cI, cJ, cK, rfl, ho0, ho1, ho2, hb⟩; refine ⟨_, rfl, ?_⟩; have be := Aside0.mk (Kd.R_lower (Kd.R_new' (Kd.R_new' ho0 (Kd.R_lt (kt ae aa))) (Kd.R_lt (kt ar aa))) (below_size (kh HB))); replace ae := Aside0.mk (Kd.R_elder' (kt ae aa) (Kd.R_base ho0) hb); replace ar := Aside0.mk (Kd.R_elder' (kt ar aa) (Kd.R_base ho0) hb); have bf := Aside0.mk (Kd.R_lower (Kd.R_new' (Kd.R_new' ho1 (Kd.R_lt (kt af aa))) (Kd.R_lt (kt au aa))) (below_size (kh HB))); replace af := Aside0.mk (Kd.R_elder' (kt af aa) (Kd.R_base ho1) hb); replace au := Aside0.mk (Kd.R_elder' (kt au aa) (Kd.R_base ho1) hb); have bg := Aside0.mk (Kd.S_lower (Kd.S_new' (Kd.S_new' ho2 (Kd.S_lt (ks ag aa))) (Kd.S_lt (ks av aa))) (below_size (kh HB))); replace ag := Aside0.mk (Kd.S_elder' (ks ag aa) (Kd.S_base ho2) hb); replace av := Aside0.mk (Kd.S_elder' (ks av aa) (Kd.S_base ho2) hb); replace aa := kO (o' := .cells #[.slice bU aJ.length bV, .slice bW aK.length bX, .slice bY aL.length bZ] 26 (0, 0)) aa hb; replace ab := kU ab hb; replace ah := kU ah hb; replace HB := kH HB hb; (try clear hb); (try clear hb2); (try clear hk); (try clear hi); (try clear ho0); (try clear ho1); (try clear ho2); obtain ⟨dJ, dK, cL⟩ := Kd.R_slice be.out; subst cL; have Z53 := kz3 aa; obtain ⟨dL, dM, cM⟩ := Kd.R_slice bf.out; subst cM; obtain ⟨dN, dO, cN⟩ := Kd.S_slice bg.out; subst cN; have Z56 := kz3 ab));refine bodyPost_ret (results_ct rfl _ _ aq 26 #[.slice none 0 0, .slice none 0 0, .slice none 0 0] (0, 0) _ rfl (kg ab) Try.underlying26 rfl (by kernel_rfl)) rfl ?_;exact ⟨_, _, _, er, by first | exact Kd.R_nil _ _ _ _ _ | exact Kd.N_nil _ _ _ _ _ | exact Kd.V_nil _ _ _ _ _ | exact Kd.Q_nil _ _ _ _ _ | exact Kd.S_nil _ _ _ _ _, by first | exact Kd.R_nil _ _ _ _ _ | exact Kd.N_nil _ _ _ _ _ | exact Kd.V_nil _ _ _ _ _ | exact Kd.Q_nil _ _ _ _ _ | exact Kd.S_nil _ _ _ _ _, by first | exact Kd.S_nil _ _ _ _ _ | exact Kd.N_nil _ _ _ _ _ | exact Kd.V_nil _ _ _ _ _ | exact Kd.Q_nil _ _ _ _ _ | exact Kd.R_nil _ _ _ _ _, kh HB⟩
 rw [if_pos c8] at H;have cA := beq_iff_eq.mpr c8;have cB := bne_eq_false_iff_eq.mpr c8;clear c8;simp only [Option.some.injEq, Prod.mk.injEq] at H;obtain ⟨rfl, rfl, rfl, rfl⟩ := H;go_enter Try.func24, Try.ntmps24
 have bx : ∀ w : World, (Instr.index 85 (.agg #[.func (.func 16) #[] #[], .func (.func 20) #[] #[], .func (.func 22) #[] #[]]) (.int .i64 0)).run Try.prog w = .ok (.func (.func 16) #[] #[]) w := fun w => by kernel_rfl
 have bz : ∀ w : World, (Instr.index 85 (.agg #[.func (.func 16) #[] #[], .func (.func 20) #[] #[], .func (.func 22) #[] #[]]) (.int .i64 1)).run Try.prog w = .ok (.func (.func 20) #[] #[]) w := fun w => by kernel_rfl
 have bA : ∀ w : World, (Instr.index 85 (.agg #[.func (.func 16) #[] #[], .func (.func 20) #[] #[], .func (.func 22) #[] #[]]) (.int .i64 2)).run Try.prog w = .ok (.func (.func 22) #[] #[]) w := fun w => by kernel_rfl
 go_wp2_with (first | ((with_reducible refine qea (N := 3) rfl ?_); refine box_event ?hg (N := 3) ?hd (cs := #[.slice aD ax.length aE, .slice aF ay.length aG, .slice aH az.length aI]) (t := 26) ?hr ?_; (case hd => rfl); (case hg => rfl); (case hr => first | (go_simp; done) | (go_simp; rfl)); intro aw hg w9 hbox hb; have aa := am hbox; have bi := kG HB hg; have bj := kG HB hg; replace HB := kH HB hb; clear hb hbox hg) | ((with_reducible refine qea (N := 4) rfl ?_); refine box_event ?hg (N := 4) ?hd (cs := #[.slice none 0 0, .slice none 0 0, .slice none 0 0]) (t := 26) ?hr ?_; (case hd => rfl); (case hg => rfl); (case hr => first | (go_simp; done) | (go_simp; rfl)); intro aq hg w10 hbox hb; have ab := am hbox; have bk := kG HB hg; have bl := kG HB hg; replace HB := kH HB hb; have ai := kP aa hg; have aj := kQ aa hg; replace aa := kU aa hb; clear hb hbox hg) | ((with_reducible refine qea (N := 6) rfl ?_); refine box_event ?hg (N := 6) ?hd (cs := #[.nilFunc, .nilFunc, .nilFunc]) (t := 85) ?hr ?_; (case hd => rfl); (case hg => rfl); (case hr => first | (go_simp; done) | (go_simp; rfl)); intro bm hg w11 hbox hb; have ah := am hbox; have bn := kG HB hg; have bo := kG HB hg; replace HB := kH HB hb; have ak := kP aa hg; have an := kQ aa hg; replace aa := kU aa hb; have ao := kP ab hg; have ap := kQ ab hg; replace ab := kU ab hb; clear hb hbox hg; have dq := an.out; have dr := ak.out; have dt := ap.out; have du := ao.out; have Z14 := kz3 ah; have dv := ai.out; have dw := aj.out; have Z16 := kz3 aa));refine wp_loop_rounds 4 ?_;rw [rounds_succ];go_wp2_with (first | ((with_reducible refine qea (N := 19) rfl ?_); refine api_Slot_78.goesT0 (some 19) rfl rfl Try.func16 (by kernel_rfl) rfl #[.int .u64 a0, .agg #[.slice aD ax.length aE, .slice aF ay.length aG, .slice aH az.length aI]] rfl rfl (by (try simp only [qM1, qM2, qM3]); first | done | rfl) ?_; (with_reducible refine (tune_Fold.calls k a0 _ _ ax _ _ ay _ _ az aA aB aC bh _ ?side1 ?side2 ?side3 ?side4 ?side5 ?side6 A3.out).mono ?_); (case side1 => exact Kd.C_below aY.out (kh HB)); (case side2 => exact aZ.out); (case side3 => exact Kd.C_below ba.out (kh HB)); (case side4 => exact bb.out); (case side5 => exact Kd.C_below bc.out (kh HB)); (case side6 => exact bd.out); rintro e w17 ⟨bB, bC, bD, rfl, ho0, ho1, ho2, hb⟩; refine ⟨_, rfl, ?_⟩; have ae := kLR ho0 HB; have af := kLR ho1 HB; have ag := kLS ho2 HB; replace aa := kU aa hb; replace ab := kU ab hb; replace ah := kO (o' := .cells #[.func (.func 16) #[] #[], .func (.func 20) #[] #[], .func (.func 22) #[] #[]] 85 (0, 0)) ah hb; replace HB := kH HB hb; (try clear hb); (try clear hb2); (try clear hk); (try clear hi); (try clear ho0); (try clear ho1); (try clear ho2); obtain ⟨ca, cb, cO⟩ := Kd.R_slice ae.out; subst cO; have Z19 := kz3 aa; obtain ⟨cc, cd, cP⟩ := Kd.R_slice af.out; subst cP; obtain ⟨ce, cf, cQ⟩ := Kd.S_slice ag.out; subst cQ));rw [rounds_succ];go_wp2_with (first | ((with_reducible refine qea (N := 19) rfl ?_); refine api_Slot_78.goesT0 (some 19) rfl rfl Try.func20 (by kernel_rfl) rfl #[.int .u64 a0, .agg #[.slice ca aA.length cb, .slice cc aB.length cd, .slice ce aC.length cf]] rfl rfl (by (try simp only [qM1, qM2, qM3]); first | done | rfl) ?_; (with_reducible refine (tune_Share.calls k a0 _ _ aA _ _ aB _ _ aC aJ aK aL bp _ ?side1 ?side2 ?side3 ?side4 ?side5 ?side6 A5.out).mono ?_); (case side1 => exact (Kd.R_reads' (kt ae aa)).2.2); (case side2 => exact (Kd.R_reads' ae.out).2.1); (case side3 => exact (Kd.R_reads' (kt af aa)).2.2); (case side4 => exact (Kd.R_reads' af.out).2.1); (case side5 => exact (Kd.S_reads' (ks ag aa)).2.2); (case side6 => exact (Kd.S_reads' ag.out).2.1); rintro e w22 ⟨bL, bM, bN, rfl, ho0, ho1, ho2, hb⟩; refine ⟨_, rfl, ?_⟩; have ar := Aside0.mk (Kd.R_lower (Kd.R_new' ho0 (Kd.R_lt (kt ae aa))) (below_size (kh HB))); replace ae := Aside0.mk (Kd.R_elder' (kt ae aa) (Kd.R_base ho0) hb); have au := Aside0.mk (Kd.R_lower (Kd.R_new' ho1 (Kd.R_lt (kt af aa))) (below_size (kh HB))); replace af := Aside0.mk (Kd.R_elder' (kt af aa) (Kd.R_base ho1) hb); have av := Aside0.mk (Kd.S_lower (Kd.S_new' ho2 (Kd.S_lt (ks ag aa))) (below_size (kh HB))); replace ag := Aside0.mk (Kd.S_elder' (ks ag aa) (Kd.S_base ho2) hb); replace aa := kO (o' := .cells #[.slice ca aA.length cb, .slice cc aB.length cd, .slice ce aC.length cf] 26 (0, 0)) aa hb; replace ab := kU ab hb; replace ah := kU ah hb; replace HB := kH HB hb; (try clear hb); (try clear hb2); (try clear hk); (try clear hi); (try clear ho0); (try clear ho1); (try clear ho2); obtain ⟨cg, ch, cR⟩ := Kd.R_slice ar.out; subst cR; have Z24 := kz3 aa; obtain ⟨ci, cj, cS⟩ := Kd.R_slice au.out; subst cS; obtain ⟨ck, cl, cT⟩ := Kd.S_slice av.out; subst cT));rw [rounds_succ];go_wp2_with (first | ((with_reducible refine qea (N := 19) rfl ?_); refine api_Slot_78.goesT0 (some 19) rfl rfl Try.func22 (by kernel_rfl) rfl #[.int .u64 a0, .agg #[.slice cg aJ.length ch, .slice ci aK.length cj, .slice ck aL.length cl]] rfl rfl (by (try simp only [qM1, qM2, qM3]); first | done | rfl) ?_; (with_reducible refine (tune_Prune.calls k a0 _ _ aJ _ _ aK _ _ aL aM aN aO bE _ ?side1 ?side2 ?side3 ?side4 ?side5 ?side6 A7.out).mono ?_); (case side1 => exact (Kd.R_reads' (kt ar aa)).2.2); (case side2 => exact (Kd.R_reads' ar.out).2.1); (case side3 => exact (Kd.R_reads' (kt au aa)).2.2); (case side4 => exact (Kd.R_reads' au.out).2.1); (case side5 => exact (Kd.S_reads' (ks av aa)).2.2); (case side6 => exact (Kd.S_reads' av.out).2.1); rintro e w27 ⟨cI, cJ, cK, rfl, ho0, ho1, ho2, hb⟩; refine ⟨_, rfl, ?_⟩; have be := Aside0.mk (Kd.R_lower (Kd.R_new' (Kd.R_new' ho0 (Kd.R_lt (kt ae aa))) (Kd.R_lt (kt ar aa))) (below_size (kh HB))); replace ae := Aside0.mk (Kd.R_elder' (kt ae aa) (Kd.R_base ho0) hb); replace ar := Aside0.mk (Kd.R_elder' (kt ar aa) (Kd.R_base ho0) hb); have bf := Aside0.mk (Kd.R_lower (Kd.R_new' (Kd.R_new' ho1 (Kd.R_lt (kt af aa))) (Kd.R_lt (kt au aa))) (below_size (kh HB))); replace af := Aside0.mk (Kd.R_elder' (kt af aa) (Kd.R_base ho1) hb); replace au := Aside0.mk (Kd.R_elder' (kt au aa) (Kd.R_base ho1) hb); have bg := Aside0.mk (Kd.S_lower (Kd.S_new' (Kd.S_new' ho2 (Kd.S_lt (ks ag aa))) (Kd.S_lt (ks av aa))) (below_size (kh HB))); replace ag := Aside0.mk (Kd.S_elder' (ks ag aa) (Kd.S_base ho2) hb); replace av := Aside0.mk (Kd.S_elder' (ks av aa) (Kd.S_base ho2) hb); replace aa := kO (o' := .cells #[.slice cg aJ.length ch, .slice ci aK.length cj, .slice ck aL.length cl] 26 (0, 0)) aa hb; replace ab := kU ab hb; replace ah := kU ah hb; replace HB := kH HB hb; (try clear hb); (try clear hb2); (try clear hk); (try clear hi); (try clear ho0); (try clear ho1); (try clear ho2); obtain ⟨aS, aT, cU⟩ := Kd.R_slice be.out; subst cU; have Z29 := kz3 aa; obtain ⟨aU, aV, cV⟩ := Kd.R_slice bf.out; subst cV; obtain ⟨aW, aX, cW⟩ := Kd.S_slice bg.out; subst cW; have Z32 := kz3 ab));rw [rounds_succ];go_wp2;refine bodyPost_ret (results_ct rfl _ _ aq 26 #[.slice aS aM.length aT, .slice aU aN.length aV, .slice aW aO.length aX] (0, 0) _ rfl (kg ab) Try.underlying26 rfl (by kernel_rfl)) rfl ?_;exact ⟨_, _, _, er, by (with_reducible repeat first | apply Kd.R_alloc | apply Kd.R_drewN | apply Kd.R_drew); exact Kd.R_mono (Kd.R_far (p := ⟨aq, 2, none⟩) (Kd.R_far (p := ⟨aq, 1, none⟩) (Kd.R_far (p := ⟨aq, 0, none⟩) (Kd.R_far (p := ⟨aw, 2, none⟩) (Kd.R_far (p := ⟨aw, 1, none⟩) (Kd.R_far (p := ⟨aw, 0, none⟩) (Kd.R_types (Kd.R_types be.out aa.out (by decide)) ab.out (by decide)) (fun _ hk => hk.1.2) (.slice aS aM.length aT)) (fun _ hk => hk.1.2) (.slice aU aN.length aV)) (fun _ hk => hk.1.2) (.slice aW aO.length aX)) (fun _ hk => hk.2) (.slice aS aM.length aT)) (fun _ hk => hk.2) (.slice aU aN.length aV)) (fun _ hk => hk.2) (.slice aW aO.length aX)) (fun _ hk => trivial), by (with_reducible repeat first | apply Kd.R_alloc | apply Kd.R_drewN | apply Kd.R_drew); exact Kd.R_mono (Kd.R_far (p := ⟨aq, 2, none⟩) (Kd.R_far (p := ⟨aq, 1, none⟩) (Kd.R_far (p := ⟨aq, 0, none⟩) (Kd.R_far (p := ⟨aw, 2, none⟩) (Kd.R_far (p := ⟨aw, 1, none⟩) (Kd.R_far (p := ⟨aw, 0, none⟩) (Kd.R_types (Kd.R_types bf.out aa.out (by decide)) ab.out (by decide)) (fun _ hk => hk.1.2) (.slice aS aM.length aT)) (fun _ hk => hk.1.2) (.slice aU aN.length aV)) (fun _ hk => hk.1.2) (.slice aW aO.length aX)) (fun _ hk => hk.2) (.slice aS aM.length aT)) (fun _ hk => hk.2) (.slice aU aN.length aV)) (fun _ hk => hk.2) (.slice aW aO.length aX)) (fun _ hk => trivial), by (with_reducible repeat first | apply Kd.S_alloc | apply Kd.S_drewN | apply Kd.S_drew); exact Kd.S_mono (Kd.S_far (p := ⟨aq, 2, none⟩) (Kd.S_far (p := ⟨aq, 1, none⟩) (Kd.S_far (p := ⟨aq, 0, none⟩) (Kd.S_far (p := ⟨aw, 2, none⟩) (Kd.S_far (p := ⟨aw, 1, none⟩) (Kd.S_far (p := ⟨aw, 0, none⟩) (Kd.S_types (Kd.S_types bg.out aa.out (by decide)) ab.out (by decide)) (fun _ hk => hk.1.2) (.slice aS aM.length aT)) (fun _ hk => hk.1.2) (.slice aU aN.length aV)) (fun _ hk => hk.1.2) (.slice aW aO.length aX)) (fun _ hk => hk.2) (.slice aS aM.length aT)) (fun _ hk => hk.2) (.slice aU aN.length aV)) (fun _ hk => hk.2) (.slice aW aO.length aX)) (fun _ hk => trivial), kh HB⟩
theorem eqA61 (d : Nat) (w : World) (x0 y0 : Int) (x1 y1 : Int) (x2 y2 : Int) (x3 y3 : Int) :
  (Op.equalIn (d + 2) 61 (.agg #[.int .i64 x0, .int .i64 x1, .int .i64 x2, .int .u64 x3]) (.agg #[.int .i64 y0, .int .i64 y1, .int .i64 y2, .int .u64 y3])).run Try.prog w = .ok (x0 == y0 && (x1 == y1 && (x2 == y2 && (x3 == y3)))) w := by
 refine eqA_of Try.underlying61 (by kernel_rfl) ?_;refine eqf_cons (by rfl) (by go_simp; rfl) (by go_simp; rfl) (by go_simp) ?_;refine eqf_cons (by rfl) (by go_simp; rfl) (by go_simp; rfl) (by go_simp) ?_;refine eqf_cons (by rfl) (by go_simp; rfl) (by go_simp; rfl) (by go_simp) ?_;exact eqf_last (by rfl) (by go_simp; rfl) (by go_simp; rfl) (by go_simp)
theorem eqA64 (d : Nat) (w : World) (x0 y0 : Int) (x1 y1 : Bool) :
  (Op.equalIn (d + 2) 64 (.agg #[.int .i64 x0, .bool x1]) (.agg #[.int .i64 y0, .bool y1])).run Try.prog w = .ok (x0 == y0 && (x1 == y1)) w := by
 refine eqA_of Try.underlying64 (by kernel_rfl) ?_;refine eqf_cons (by rfl) (by go_simp; rfl) (by go_simp; rfl) (by go_simp) ?_;exact eqf_last (by rfl) (by go_simp; rfl) (by go_simp; rfl) (by go_simp)
def qha.l0 : Nat → List Int → List Int → Int → Int → Option (Bool)
 | 0, _, _, _, _ => none
 | k + 1, x0, x1, x12, x13 => if x13 < x12 then (if 0 ≤ x13 then (if x13 < (x0.length : Int) then (if x13 < (x1.length : Int) then (if (rd x0 x13) = (rd x1 x13) then (qha.l0 k x0 x1 x12 (wrap64 (x13 + 1))) else (some false)) else (none)) else (none)) else (none)) else (some true)
def qha.f (k : Nat) (l0 : List Int) (l1 : List Int) : Option (Bool) := if (l0.length : Int) = (l1.length : Int) then (qha.l0 k l0 l1 (l0.length : Int) 0) else (some false)
theorem qha.mono_l : ∀ k, (∀ y0 y1 y2 y3, LeO (qha.l0 k y0 y1 y2 y3) (qha.l0 (k + 1) y0 y1 y2 y3))
 | 0 => fun _ _ _ _ r h => by simp [qha.l0] at h
 | k + 1 => by
  have ih0 := qha.mono_l k
  ·intro y0 y1 y2 y3
   unfold qha.l0
   repeat' first
   | (with_reducible exact ih0 _ _ _ _)
   | (with_reducible exact LeO.refl _)
   | (with_reducible exact LeO.none _)
   | (with_reducible refine LeO.ite ?_ ?_)
   | (with_reducible refine LeO.bind ?_ (fun _ => ?_))
   | exact ih0 _ _ _ _
   | exact LeO.none _
   | refine LeO.ite ?_ ?_
   | refine LeO.bind ?_ (fun _ => ?_)
theorem qha.mono : ∀ a0 a1 k, LeO (qha.f k a0 a1) (qha.f (k + 1) a0 a1) := by
 intro a0 a1 k;have ih0 := qha.mono_l k;unfold qha.f
 repeat' first
   | (with_reducible exact ih0 _ _ _ _)
   | (with_reducible exact LeO.refl _)
   | (with_reducible exact LeO.none _)
   | (with_reducible refine LeO.ite ?_ ?_)
   | (with_reducible refine LeO.bind ?_ (fun _ => ?_))
   | exact ih0 _ _ _ _
   | exact LeO.none _
   | refine LeO.ite ?_ ?_
   | refine LeO.bind ?_ (fun _ => ?_)
theorem qha.calls (k : Nat) (A0 : Option Addr) (c0 : Nat) (l0 : List Int) (A1 : Option Addr) (c1 : Nat) (l1 : List Int) (r : Bool) (w : World) (hr0 : Kd.C (Kd.int .i64) w A0 l0.length l0) (hc0 : l0.length ≤ c0) (hr1 : Kd.C (Kd.int .i64) w A1 l1.length l1) (hc1 : l1.length ≤ c1) (h : qha.f k l0 l1 = some r) :
  Calls Try.prog 56 #[.slice A0 l0.length c0, .slice A1 l1.length c1] w fun e w' => e = .returned (.bool r) ∧ Drawn0 w w' := by
 have HR0 := Aside0.mk hr0;have HC0 := Aside0.mk hc0;clear hr0 hc0;have HR1 := Aside0.mk hr1;have HC1 := Aside0.mk hc1;clear hr1 hc1;have H : (if (l0.length : Int) = (l1.length : Int) then (qha.l0 k l0 l1 (l0.length : Int) 0) else (some false)) = some r := h;clear h
 by_cases c3 : (l0.length : Int) = (l1.length : Int)
 rotate_left
 ·rw [if_neg c3] at H
  have an := beq_eq_false_iff_ne.mpr c3;have ao := bne_iff_ne.mpr c3
  have ap : (l0.length == l1.length) = false := by first | simpa using c3 | (simp at c3 ⊢; omega)
  obtain rfl := Option.some.inj H;go_enter Try.func56, Try.ntmps56;go_wp2
  repeat (go_quiet (fail); try go_wp2)
  go_ret;exact ⟨et, by repeat (first | exact Drawn0.refl _ | apply Drawn0.step)⟩
 rw [if_pos c3] at H;have an := beq_iff_eq.mpr c3;have ao := bne_eq_false_iff_eq.mpr c3
 have ap : (l0.length == l1.length) = true := by first | simpa using c3 | (simp at c3 ⊢; omega)
 clear c3;have H' := Aside0.mk H;clear H;go_enter Try.func56, Try.ntmps56;go_wp2
 repeat (go_quiet (fail); try go_wp2)
 go_loopg [13] k (fun kq v13 w' => ∃ (aa : Int), v13 = .int .i64 aa ∧ Aside0 (qha.l0 kq l0 l1 (l0.length : Int) aa = some r) ∧ Aside0 (kq ≤ k) ∧ Drawn0 w w')
 case atStart => exact ⟨(0), et, H', ⟨Nat.le_refl _⟩, by repeat (first | exact Drawn0.refl _ | apply Drawn0.step)⟩
 case round =>
  clear H';(try clear an ao ap);obtain ⟨aa, rfl, HA, HK1, ⟨m1, rfl⟩⟩ := hrel
  cases gk with
  | zero => exact absurd HA.out (by simp [qha.l0])
  | succ k1 =>
   have H := HA.out;clear HA;simp only [qha.l0] at H
   by_cases c4 : aa < (l0.length : Int)
   rotate_left
   ·rw [if_neg c4] at H
    have au := decide_eq_false c4;clear c4;obtain rfl := Option.some.inj H;go_wp2
    repeat (go_quiet (fail); try go_wp2)
    go_ret;exact ⟨et, by repeat (first | exact Drawn0.refl _ | apply Drawn0.step)⟩
   rw [if_pos c4] at H;have au := decide_eq_true c4;clear c4
   by_cases c5 : 0 ≤ aa
   rotate_left
   ·rw [if_neg c5] at H
    exact absurd H (by simp)
   rw [if_pos c5] at H;have ax := decide_eq_true c5;clear c5
   by_cases c6 : aa < (l0.length : Int)
   rotate_left
   ·rw [if_neg c6] at H
    exact absurd H (by simp)
   rw [if_pos c6] at H;have ay := decide_eq_true c6;clear c6
   by_cases c7 : aa < (l1.length : Int)
   rotate_left
   ·rw [if_neg c7] at H
    exact absurd H (by simp)
   rw [if_pos c7] at H;have az := decide_eq_true c7;clear c7
   by_cases c8 : (rd l0 aa) = (rd l1 aa)
   rotate_left
   ·rw [if_neg c8] at H
    have av := beq_eq_false_iff_ne.mpr c8;have aw := bne_iff_ne.mpr c8;obtain rfl := Option.some.inj H;have ab : 0 ≤ (aa : Int) := od;have ae : aa < (l0.length : Int) := od;obtain ⟨aq, aj, ah⟩ := Kd.at_int HR0.out aa ab ae;cases aj;replace ab := eq_true ab; replace ae := eq_true ae;have af : 0 ≤ (aa : Int) := od;have ag : aa < (l1.length : Int) := od;obtain ⟨ar, ak, ai⟩ := Kd.at_int HR1.out aa af ag;cases ak;replace af := eq_true af; replace ag := eq_true ag;go_wp2
    repeat (go_quiet (fail); try go_wp2)
    go_ret;exact ⟨et, by repeat (first | exact Drawn0.refl _ | apply Drawn0.step)⟩
   rw [if_pos c8] at H;have av := beq_iff_eq.mpr c8;have aw := bne_eq_false_iff_eq.mpr c8;clear c8;have H' := Aside0.mk H;clear H;have ab : 0 ≤ (aa : Int) := od;have ae : aa < (l0.length : Int) := od;obtain ⟨aq, aj, ah⟩ := Kd.at_int HR0.out aa ab ae;cases aj;replace ab := eq_true ab; replace ae := eq_true ae;have af : 0 ≤ (aa : Int) := od;have ag : aa < (l1.length : Int) := od;obtain ⟨ar, ak, ai⟩ := Kd.at_int HR1.out aa af ag;cases ak;replace af := eq_true af; replace ag := eq_true ag;go_wp2
   repeat (go_quiet (fail); try go_wp2)
   go_roundg k1
   case measure => have := HK1.out; omega
   case rel => exact ⟨(wrap64 (aa + 1)), et, H', ⟨by have := HK1.out; omega⟩, by repeat (first | exact Drawn0.refl _ | apply Drawn0.step)⟩
end Go.Proofs.Ytmlbliggbkfjnaa.J
namespace Go.Proofs.Ytmlbliggbkfjnaa.J
open Go.RowKit Go.Proofs.YtmlbliggbkfjnaaW.PrintWords Go.Proofs.YtmlbliggbkfjnaaW.PrintLast Go.Proofs.YtmlbliggbkfjnaaW.PrintMore
attribute [local go_sem] max2_int min2_int max_two min_two max_three min_three max_four min_four
attribute [local go_sem high] eqA61 eqA64
mutual
def qba.j0 : Nat → Bool → List (S64) → List (S61) → List (S66) → List (S64) → List (S61) → List (S66) → Option (Bool)
 | 0, _, _, _, _, _, _, _ => none
 | k + 1, x32, ae, aa, af, ag, ab, ah => if x32 = true then (some false) else (qba.l0 k (ae.length : Int) 0 ae aa af ag ab ah)
def qba.l0 : Nat → Int → Int → List (S64) → List (S61) → List (S66) → List (S64) → List (S61) → List (S66) → Option (Bool)
 | 0, _, _, _, _, _, _, _, _ => none
 | k + 1, x35, x36, ae, aa, af, ag, ab, ah => if x36 < x35 then (if 0 ≤ x36 then (if x36 < (ae.length : Int) then (if x36 < (ag.length : Int) then (if (!(((rd_T64 ae x36).f0) == ((rd_T64 ag x36).f0)) || (!(((rd_T64 ae x36).f1) == ((rd_T64 ag x36).f1)))) = true then (some false) else (qba.l0 k x35 (wrap64 (x36 + 1)) ae aa af ag ab ah)) else (none)) else (none)) else (none)) else (qba.l1 k (aa.length : Int) 0 ae aa af ag ab ah)
def qba.l1 : Nat → Int → Int → List (S64) → List (S61) → List (S66) → List (S64) → List (S61) → List (S66) → Option (Bool)
 | 0, _, _, _, _, _, _, _, _ => none
 | k + 1, x53, x54, ae, aa, af, ag, ab, ah => if x54 < x53 then (if 0 ≤ x54 then (if x54 < (aa.length : Int) then (if x54 < (ab.length : Int) then (if (!(((rd_T61 aa x54).f0) == ((rd_T61 ab x54).f0)) || (!(((rd_T61 aa x54).f1) == ((rd_T61 ab x54).f1)) || (!(((rd_T61 aa x54).f2) == ((rd_T61 ab x54).f2)) || (!(((rd_T61 aa x54).f3) == ((rd_T61 ab x54).f3)))))) = true then (some false) else (qba.l1 k x53 (wrap64 (x54 + 1)) ae aa af ag ab ah)) else (none)) else (none)) else (none)) else (qba.l2 k (af.length : Int) 0 ae aa af ag ab ah)
def qba.l2 : Nat → Int → Int → List (S64) → List (S61) → List (S66) → List (S64) → List (S61) → List (S66) → Option (Bool)
 | 0, _, _, _, _, _, _, _, _ => none
 | k + 1, x71, x72, ae, aa, af, ag, ab, ah => if x72 < x71 then (if 0 ≤ x72 then (if x72 < (af.length : Int) then (if x72 < (ah.length : Int) then ((qha.f k ((rd_T66 af x72).f0) ((rd_T66 ah x72).f0)).bind fun ai => (if ai = true then ((qha.f k ((rd_T66 af x72).f1) ((rd_T66 ah x72).f1)).bind fun aj => (if aj = true then (qba.l2 k x71 (wrap64 (x72 + 1)) ae aa af ag ab ah) else (some false))) else (some false))) else (none)) else (none)) else (none)) else (some true)
end
def qba.f (k : Nat) (aa : List (S64)) (ab : List (S61)) (ae : List (S66)) (af : List (S64)) (ag : List (S61)) (ah : List (S66)) : Option (Bool) := if (aa.length : Int) = (af.length : Int) then (if (ab.length : Int) = (ag.length : Int) then (qba.j0 k ((ae.length : Int) != (ah.length : Int)) aa ab ae af ag ah) else (qba.j0 k true aa ab ae af ag ah)) else (qba.j0 k true aa ab ae af ag ah)
theorem qba.mono_l : ∀ k, (∀ y0 y1 y2 y3 y4 y5 y6, LeO (qba.j0 k y0 y1 y2 y3 y4 y5 y6) (qba.j0 (k + 1) y0 y1 y2 y3 y4 y5 y6)) ∧ (∀ y0 y1 y2 y3 y4 y5 y6 y7, LeO (qba.l0 k y0 y1 y2 y3 y4 y5 y6 y7) (qba.l0 (k + 1) y0 y1 y2 y3 y4 y5 y6 y7)) ∧ (∀ y0 y1 y2 y3 y4 y5 y6 y7, LeO (qba.l1 k y0 y1 y2 y3 y4 y5 y6 y7) (qba.l1 (k + 1) y0 y1 y2 y3 y4 y5 y6 y7)) ∧ (∀ y0 y1 y2 y3 y4 y5 y6 y7, LeO (qba.l2 k y0 y1 y2 y3 y4 y5 y6 y7) (qba.l2 (k + 1) y0 y1 y2 y3 y4 y5 y6 y7))
 | 0 => ⟨fun _ _ _ _ _ _ _ r h => by simp [qba.j0] at h, fun _ _ _ _ _ _ _ _ r h => by simp [qba.l0] at h, fun _ _ _ _ _ _ _ _ r h => by simp [qba.l1] at h, fun _ _ _ _ _ _ _ _ r h => by simp [qba.l2] at h⟩
 | k + 1 => by
  obtain ⟨ih0, ih1, ih2, ih3⟩ := qba.mono_l k;refine ⟨?_, ?_, ?_, ?_⟩
  ·intro y0 y1 y2 y3 y4 y5 y6
   unfold qba.j0
   repeat' first
   | (with_reducible exact ih0 _ _ _ _ _ _ _)
   | (with_reducible exact ih1 _ _ _ _ _ _ _ _)
   | (with_reducible exact ih2 _ _ _ _ _ _ _ _)
   | (with_reducible exact ih3 _ _ _ _ _ _ _ _)
   | (with_reducible exact qha.mono _ _ _)
   | (with_reducible exact LeO.refl _)
   | (with_reducible exact LeO.none _)
   | (with_reducible refine LeO.ite ?_ ?_)
   | (with_reducible refine LeO.bind ?_ (fun _ => ?_))
   | exact ih0 _ _ _ _ _ _ _
   | exact ih1 _ _ _ _ _ _ _ _
   | exact ih2 _ _ _ _ _ _ _ _
   | exact ih3 _ _ _ _ _ _ _ _
   | exact qha.mono _ _ _
   | exact LeO.none _
   | refine LeO.ite ?_ ?_
   | refine LeO.bind ?_ (fun _ => ?_)
  ·intro y0 y1 y2 y3 y4 y5 y6 y7
   unfold qba.l0
   repeat' first
   | (with_reducible exact ih0 _ _ _ _ _ _ _)
   | (with_reducible exact ih1 _ _ _ _ _ _ _ _)
   | (with_reducible exact ih2 _ _ _ _ _ _ _ _)
   | (with_reducible exact ih3 _ _ _ _ _ _ _ _)
   | (with_reducible exact qha.mono _ _ _)
   | (with_reducible exact LeO.refl _)
   | (with_reducible exact LeO.none _)
   | (with_reducible refine LeO.ite ?_ ?_)
   | (with_reducible refine LeO.bind ?_ (fun _ => ?_))
   | exact ih0 _ _ _ _ _ _ _
   | exact ih1 _ _ _ _ _ _ _ _
   | exact ih2 _ _ _ _ _ _ _ _
   | exact ih3 _ _ _ _ _ _ _ _
   | exact qha.mono _ _ _
   | exact LeO.none _
   | refine LeO.ite ?_ ?_
   | refine LeO.bind ?_ (fun _ => ?_)
  ·intro y0 y1 y2 y3 y4 y5 y6 y7
   unfold qba.l1
   repeat' first
   | (with_reducible exact ih0 _ _ _ _ _ _ _)
   | (with_reducible exact ih1 _ _ _ _ _ _ _ _)
   | (with_reducible exact ih2 _ _ _ _ _ _ _ _)
   | (with_reducible exact ih3 _ _ _ _ _ _ _ _)
   | (with_reducible exact qha.mono _ _ _)
   | (with_reducible exact LeO.refl _)
   | (with_reducible exact LeO.none _)
   | (with_reducible refine LeO.ite ?_ ?_)
   | (with_reducible refine LeO.bind ?_ (fun _ => ?_))
   | exact ih0 _ _ _ _ _ _ _
   | exact ih1 _ _ _ _ _ _ _ _
   | exact ih2 _ _ _ _ _ _ _ _
   | exact ih3 _ _ _ _ _ _ _ _
   | exact qha.mono _ _ _
   | exact LeO.none _
   | refine LeO.ite ?_ ?_
   | refine LeO.bind ?_ (fun _ => ?_)
  ·intro y0 y1 y2 y3 y4 y5 y6 y7
   unfold qba.l2
   repeat' first
   | (with_reducible exact ih0 _ _ _ _ _ _ _)
   | (with_reducible exact ih1 _ _ _ _ _ _ _ _)
   | (with_reducible exact ih2 _ _ _ _ _ _ _ _)
   | (with_reducible exact ih3 _ _ _ _ _ _ _ _)
   | (with_reducible exact qha.mono _ _ _)
   | (with_reducible exact LeO.refl _)
   | (with_reducible exact LeO.none _)
   | (with_reducible refine LeO.ite ?_ ?_)
   | (with_reducible refine LeO.bind ?_ (fun _ => ?_))
   | exact ih0 _ _ _ _ _ _ _
   | exact ih1 _ _ _ _ _ _ _ _
   | exact ih2 _ _ _ _ _ _ _ _
   | exact ih3 _ _ _ _ _ _ _ _
   | exact qha.mono _ _ _
   | exact LeO.none _
   | refine LeO.ite ?_ ?_
   | refine LeO.bind ?_ (fun _ => ?_)
theorem qba.mono : ∀ a0 a1 a2 a3 a4 a5 k, LeO (qba.f k a0 a1 a2 a3 a4 a5) (qba.f (k + 1) a0 a1 a2 a3 a4 a5) := by
 intro a0 a1 a2 a3 a4 a5 k;obtain ⟨ih0, ih1, ih2, ih3⟩ := qba.mono_l k;unfold qba.f
 repeat' first
   | (with_reducible exact ih0 _ _ _ _ _ _ _)
   | (with_reducible exact ih1 _ _ _ _ _ _ _ _)
   | (with_reducible exact ih2 _ _ _ _ _ _ _ _)
   | (with_reducible exact ih3 _ _ _ _ _ _ _ _)
   | (with_reducible exact qha.mono _ _ _)
   | (with_reducible exact LeO.refl _)
   | (with_reducible exact LeO.none _)
   | (with_reducible refine LeO.ite ?_ ?_)
   | (with_reducible refine LeO.bind ?_ (fun _ => ?_))
   | exact ih0 _ _ _ _ _ _ _
   | exact ih1 _ _ _ _ _ _ _ _
   | exact ih2 _ _ _ _ _ _ _ _
   | exact ih3 _ _ _ _ _ _ _ _
   | exact qha.mono _ _ _
   | exact LeO.none _
   | refine LeO.ite ?_ ?_
   | refine LeO.bind ?_ (fun _ => ?_)
def qba.T6 : Bool × List (List Nat × List Nat) := (true, [([], []), ([0], [0]), ([], []), ([1, 2], [1, 2]), ([3], [3]), ([], []), ([5], [5]), ([], []), ([6, 7], [6, 7]), ([8], [8]), ([4, 9], [4, 9])])
def qba.B6 : List Nat := [0, 1, 0, 7, 15, 0, 32, 0, 224, 480, 1023]
theorem qba.tab6 : rtab .any (opsOf Try.f29 6) = qba.T6 := by kernel_rfl
theorem qba.bits6 : waitsOk qba.T6.2 qba.B6 = true := by kernel_rfl
def qba.T12 : Bool × List (List Nat × List Nat) := (true, [([], []), ([0], [0]), ([], []), ([1, 2], [1, 2]), ([3], [3]), ([], []), ([5], [5]), ([], []), ([6, 7], [6, 7]), ([8], [8]), ([4, 9], [4, 9])])
def qba.B12 : List Nat := [0, 1, 0, 7, 15, 0, 32, 0, 224, 480, 1023]
theorem qba.tab12 : rtab .any (opsOf Try.f29 12) = qba.T12 := by kernel_rfl
theorem qba.bits12 : waitsOk qba.T12.2 qba.B12 = true := by kernel_rfl
def qba.T18 : Bool × List (List Nat × List Nat) := (true, [([], []), ([0], [0]), ([], []), ([1, 2], [1, 2]), ([3], [3]), ([4], [4]), ([], []), ([6], [6]), ([], []), ([7, 8], [7, 8]), ([9], [9]), ([10], [10]), ([5, 11], [5, 11]), ([12], [12]), ([13, 12], [13]), ([14], [14]), ([15, 14], [14, 15]), ([14], [14]), ([16, 17, 14], [14, 16, 17]), ([18, 14], [14, 18]), ([19, 14], [14, 19]), ([14], [14]), ([21, 14], [14, 21]), ([14], [14]), ([22, 23, 14], [14, 22, 23]), ([24, 14], [14, 24]), ([25, 14], [14, 25]), ([20, 26, 14, 14], [14, 20, 26]), ([27, 14], [14, 27]), ([14, 28], [14, 28])])
def qba.B18 : List Nat := [0, 1, 0, 7, 15, 31, 0, 64, 0, 448, 960, 1984, 4095, 8191, 16383, 32767, 65535, 32767, 262143, 524287, 1048575, 32767, 2129919, 32767, 14712831, 31490047, 65044479, 134217727, 268435455, 536870911]
theorem qba.tab18 : rtab .any (opsOf Try.f29 18) = qba.T18 := by kernel_rfl
theorem qba.bits18 : waitsOk qba.T18.2 qba.B18 = true := by kernel_rfl
theorem qba.calls (k : Nat) (bJ : Option Addr) (bp : Nat) (ar : List (S64)) (bK : Option Addr) (bq : Nat) (ai : List (S61)) (bN : Option Addr) (br : Nat) (ah : List (S66)) (bL : Option Addr) (bt : Nat) (au : List (S64)) (bM : Option Addr) (bu : Nat) (ak : List (S61)) (bO : Option Addr) (bv : Nat) (aj : List (S66)) (r : Bool) (w : World) (cI : Kd.C k64 w bJ ar.length ar) (cJ : ar.length ≤ bp) (cK : Kd.C k61 w bK ai.length ai) (cL : ai.length ≤ bq) (cM : Kd.C k66 w bN ah.length ah) (cN : ah.length ≤ br) (cO : Kd.C k64 w bL au.length au) (cP : au.length ≤ bt) (cQ : Kd.C k61 w bM ak.length ak) (cR : ak.length ≤ bu) (cS : Kd.C k66 w bO aj.length aj) (cT : aj.length ≤ bv) (h : qba.f k ar ai ah au ak aj = some r) :
  Calls Try.prog 29 #[.agg #[.slice bJ ar.length bp, .slice bK ai.length bq, .slice bN ah.length br], .agg #[.slice bL au.length bt, .slice bM ak.length bu, .slice bO aj.length bv]] w fun e w' => e = .returned (.bool r) ∧ Below w.heap.size w w' := by
 have hu26 := Try.underlying26;have hu64 := Try.underlying64;have hu61 := Try.underlying61;have cU := Aside0.mk cI;have dC := Aside0.mk cJ;clear cI cJ;have cV := Aside0.mk cK;have dD := Aside0.mk cL;clear cK cL;have cj := Aside0.mk cM;have dE := Aside0.mk cN;clear cM cN;have cW := Aside0.mk cO;have dF := Aside0.mk cP;clear cO cP;have cX := Aside0.mk cQ;have dG := Aside0.mk cR;clear cQ cR;have ck := Aside0.mk cS;have dH := Aside0.mk cT;clear cS cT;have HB := Aside0.mk (Below.refl w.heap.size w);have H : (if (ar.length : Int) = (au.length : Int) then (if (ai.length : Int) = (ak.length : Int) then (qba.j0 k ((ah.length : Int) != (aj.length : Int)) ar ai ah au ak aj) else (qba.j0 k true ar ai ah au ak aj)) else (qba.j0 k true ar ai ah au ak aj)) = some r := h;clear h;have HC3 := Aside0.mk H;clear H;go_enter Try.func29, Try.ntmps29;go_upto_region 1 with (first | ((with_reducible refine qea (N := 2) rfl ?_); (try (refine gate_guard (by rfl) ?_; dsimp only)); refine box_event ?hg (N := 2) ?hd (cs := #[.slice bJ ar.length bp, .slice bK ai.length bq, .slice bN ah.length br]) (t := 26) ?hr ?_; (case hd => rfl); (case hg => rfl); (case hr => first | (go_simp; done) | (go_simp; rfl)); intro av hg w4 hbox hb; have ae := am hbox; have dI := kG HB hg; have dJ := kG HB hg; replace HB := kH HB hb; clear hb hbox hg) | ((with_reducible refine qea (N := 3) rfl ?_); (try (refine gate_guard (by rfl) ?_; dsimp only)); refine box_event ?hg (N := 3) ?hd (cs := #[.slice bL au.length bt, .slice bM ak.length bu, .slice bO aj.length bv]) (t := 26) ?hr ?_; (case hd => rfl); (case hg => rfl); (case hr => first | (go_simp; done) | (go_simp; rfl)); intro aw hg w5 hbox hb; have af := am hbox; have dK := kG HB hg; have dL := kG HB hg; replace HB := kH HB hb; have aV := kP ae hg; have aW := kQ ae hg; replace ae := kU ae hb; clear hb hbox hg));(try simp only [Act.put, qS1, qS2, qS3]);go_cut [32] (fun v32 wc => ∃ (kq : Nat) (cy : Bool), v32 = .bool cy ∧ Aside0 (qba.j0 kq cy ar ai ah au ak aj = some r) ∧ Aside0 (kq ≤ k) ∧ Aside0 (wc.heap[av]? = some (.cells #[(.slice bJ ar.length bp), (.slice bK ai.length bq), (.slice bN ah.length br)] 26 (0, 0))) ∧ Aside0 (wc.heap[aw]? = some (.cells #[(.slice bL au.length bt), (.slice bM ak.length bu), (.slice bO aj.length bv)] 26 (0, 0))) ∧ Aside0 (Below w.heap.size w wc))
 case first =>
  have H := HC3.out;clear HC3
  by_cases c6 : (ar.length : Int) = (au.length : Int)
  rotate_left
  ·rw [if_neg c6] at H
   have cB := beq_eq_false_iff_ne.mpr c6;have dv := bne_iff_ne.mpr c6
   have dw : (ar.length == au.length) = false := by first | simpa using c6 | (simp at c6 ⊢; omega)
   (first | rw [cB] | (simp only [i64_w, i32_w]; rw [cB]) | skip);have H' := Aside0.mk H;clear H;have dM := aV.out;have dN := aW.out;have Z15 := kz3 ae;have Z16 := kz3 af;go_wp2;go_meet
   case rel => exact ⟨_, (true), et, H', ⟨by first | omega | exact Nat.le_refl _⟩, ⟨kg ae⟩, ⟨kg af⟩, ⟨kh HB⟩⟩
  rw [if_pos c6] at H;have cB := beq_iff_eq.mpr c6;have dv := bne_eq_false_iff_eq.mpr c6
  have dw : (ar.length == au.length) = true := by first | simpa using c6 | (simp at c6 ⊢; omega)
  clear c6;(first | rw [cB] | (simp only [i64_w, i32_w]; rw [cB]) | skip)
  by_cases c7 : (ai.length : Int) = (ak.length : Int)
  rotate_left
  ·rw [if_neg c7] at H
   have dx := beq_eq_false_iff_ne.mpr c7;have dy := bne_iff_ne.mpr c7
   have dz : (ai.length == ak.length) = false := by first | simpa using c7 | (simp at c7 ⊢; omega)
   have H' := Aside0.mk H;clear H;have dO := aV.out;have dP := aW.out;have Z12 := kz3 ae;have Z13 := kz3 af;go_wp2;go_meet
   case rel => exact ⟨_, (true), et, H', ⟨by first | omega | exact Nat.le_refl _⟩, ⟨kg ae⟩, ⟨kg af⟩, ⟨kh HB⟩⟩
  rw [if_pos c7] at H;have dx := beq_iff_eq.mpr c7;have dy := bne_eq_false_iff_eq.mpr c7
  have dz : (ai.length == ak.length) = true := by first | simpa using c7 | (simp at c7 ⊢; omega)
  clear c7;have H' := Aside0.mk H;clear H;have ei := aV.out;have ej := aW.out;have Z9 := kz3 ae;have Z10 := kz3 af;go_wp2;go_meet
  case rel => exact ⟨_, (((ah.length : Int) != (aj.length : Int))), et, H', ⟨by first | omega | exact Nat.le_refl _⟩, ⟨kg ae⟩, ⟨kg af⟩, ⟨kh HB⟩⟩
 clear HC3;obtain ⟨kq, cy, rfl, HA, HJ2, ae, af, HB⟩ := hcut
 cases kq with
 | zero => exact absurd HA.out (by simp [qba.j0])
 | succ kj2 =>
  have H := HA.out;clear HA;simp only [qba.j0] at H
  by_cases c17 : cy = true
  ·subst c17
   replace H := ifT H;obtain rfl := Option.some.inj H;go_wp2;go_ret;exact ⟨er, kh HB⟩
  replace c17 := Bool.eq_false_iff.mpr c17;subst c17;replace H := ifF H;have H' := Aside0.mk H;clear H;have dQ := aV.out;have dR := aW.out;have Z19 := kz3 ae;go_wp2;go_loopg [36] kj2 (fun kq v36 w' => ∃ (ag : Int), v36 = .int .i64 ag ∧ Aside0 (qba.l0 kq (ar.length : Int) ag ar ai ah au ak aj = some r) ∧ Aside0 (kq ≤ kj2) ∧ Aside0 (w'.heap[av]? = some (.cells #[(.slice bJ ar.length bp), (.slice bK ai.length bq), (.slice bN ah.length br)] 26 (0, 0))) ∧ Aside0 (w'.heap[aw]? = some (.cells #[(.slice bL au.length bt), (.slice bM ak.length bu), (.slice bO aj.length bv)] 26 (0, 0))) ∧ Aside0 (Below w.heap.size w w'))
  case atStart => exact ⟨(0), et, H', ⟨Nat.le_refl _⟩, ⟨kg ae⟩, ⟨kg af⟩, ⟨kh HB⟩⟩
  case round =>
   clear H';(try clear c17 Z19);obtain ⟨ag, rfl, HA, HK2, ae, af, HB⟩ := hrel
   cases gk with
   | zero => exact absurd HA.out (by simp [qba.l0])
   | succ k2 =>
    have H := HA.out;clear HA;simp only [qba.l0] at H
    by_cases c20 : ag < (ar.length : Int)
    ·rw [if_pos c20] at H
     have cY := decide_eq_true c20;clear c20
     by_cases c21 : 0 ≤ ag
     rotate_left
     ·rw [if_neg c21] at H
      exact absurd H (by simp)
     rw [if_pos c21] at H;have dS := decide_eq_true c21;clear c21
     by_cases c22 : ag < (ar.length : Int)
     rotate_left
     ·rw [if_neg c22] at H
      exact absurd H (by simp)
     rw [if_pos c22] at H;have dT := decide_eq_true c22;clear c22
     by_cases c23 : ag < (au.length : Int)
     rotate_left
     ·rw [if_neg c23] at H
      exact absurd H (by simp)
     rw [if_pos c23] at H;have dU := decide_eq_true c23;clear c23
     by_cases c24 : (!(((rd_T64 ar ag).f0) == ((rd_T64 au ag).f0)) || (!(((rd_T64 ar ag).f1) == ((rd_T64 au ag).f1)))) = true
     ·rw [if_pos c24] at H
      have dp : (!(((rd_T64 ar ag).f0) == ((rd_T64 au ag).f0)) || (!(((rd_T64 ar ag).f1) == ((rd_T64 au ag).f1)))) = true := c24;clear c24;obtain rfl := Option.some.inj H;(try go_wp2);replace ae := kD ae; replace af := kD af; replace HB := kE HB;have cl : 0 ≤ (ag : Int) := od;have cm : ag < (ar.length : Int) := od;obtain ⟨bw, da, aD, aE⟩ := at_T64 cU.out ag cl cm;have bT := aE; have bU := aD;cases da;replace aD := (HB.out.cell (World.block_lt_of_cell? w _ aD)).trans aD;replace aE := (HB.out.cell (World.block_lt_of_cell? w _ aE)).trans aE;replace cl := eq_true cl; replace cm := eq_true cm;have cn : 0 ≤ (ag : Int) := od;have co : ag < (au.length : Int) := od;obtain ⟨bx, db, aF, aG⟩ := at_T64 cW.out ag cn co;have bV := aG; have bW := aF;cases db;replace aF := (HB.out.cell (World.block_lt_of_cell? w _ aF)).trans aF;replace aG := (HB.out.cell (World.block_lt_of_cell? w _ aG)).trans aG;replace cn := eq_true cn; replace co := eq_true co;refine start_ (n := 11) (S := fun w' => w'.cell? ⟨av, 0, none⟩ = some (.slice (some bw) ar.length bp) ∧ w'.cell? ⟨av, 1, none⟩ = some (.slice bK ai.length bq) ∧ w'.cell? ⟨av, 2, none⟩ = some (.slice bN ah.length br) ∧ w'.cell? ⟨aw, 0, none⟩ = some (.slice (some bx) au.length bt) ∧ w'.cell? ⟨aw, 1, none⟩ = some (.slice bM ak.length bu) ∧ w'.cell? ⟨aw, 2, none⟩ = some (.slice bO aj.length bv) ∧ w'.cell? (bw.add ((ag).toNat * 2)) = some (.int .i64 ((rd_T64 ar ag).f0)) ∧ w'.cell? ⟨(bw.add ((ag).toNat * 2)).block, (bw.add ((ag).toNat * 2)).off + 1, none⟩ = some (.bool ((rd_T64 ar ag).f1)) ∧ w'.cell? (bx.add ((ag).toNat * 2)) = some (.int .i64 ((rd_T64 au ag).f0)) ∧ w'.cell? ⟨(bx.add ((ag).toNat * 2)).block, (bx.add ((ag).toNat * 2)).off + 1, none⟩ = some (.bool ((rd_T64 au ag).f1))) (ds := []) (bs 11 0) (by kernel_rfl) rfl rfl ⟨kk ae 0, kk ae 1, kk ae 2, kk af 0, kk af 1, kk af 2, (kq HB bU), (kq HB bT), (kq HB bW), (kq HB bV)⟩ (fun hHeld => ?_); refine with_tabW qba.tab6 qba.bits6 (fun HT_ HW_ => ?_);generalize wr.drew = w25 at ae af HB aD aE aF aG hHeld ⊢;refine pu 0 (some 39) (bs 11 1) HT_ ?_;refine pu 2 (some 41) (bs 11 5) HT_ ?_;refine pu 5 (some 44) (bs 11 37) HT_ ?_;refine pu 7 (some 46) (bs 11 165) HT_ ?_;refine ta 1 (some 40) (bs 11 167) HT_ HW_ hHeld ?_;refine pu 3 (some 42) (bs 11 175) HT_ ?_;refine ta 4 (some 43) (bs 11 191) HT_ HW_ hHeld ?_;refine ta 6 (some 45) (bs 11 255) HT_ HW_ hHeld ?_;refine pu 8 (some 47) (bs 11 511) HT_ ?_;refine ta 9 (some 48) (bs 11 1023) HT_ HW_ hHeld ?_;refine pu 10 (some 49) (bs 11 2047) HT_ ?_;refine done_ (done_of HT_.out (by kernel_rfl)) ?_;(try go_wp2);go_ret;exact ⟨er, kh HB⟩
     rw [if_neg c24] at H
     have dp : (!(((rd_T64 ar ag).f0) == ((rd_T64 au ag).f0)) || (!(((rd_T64 ar ag).f1) == ((rd_T64 au ag).f1)))) = false := by simpa using c24
     clear c24;have H' := Aside0.mk H;clear H;(try go_wp2);replace ae := kD ae; replace af := kD af; replace HB := kE HB;have cl : 0 ≤ (ag : Int) := od;have cm : ag < (ar.length : Int) := od;obtain ⟨bw, da, aD, aE⟩ := at_T64 cU.out ag cl cm;have bT := aE; have bU := aD;cases da;replace aD := (HB.out.cell (World.block_lt_of_cell? w _ aD)).trans aD;replace aE := (HB.out.cell (World.block_lt_of_cell? w _ aE)).trans aE;replace cl := eq_true cl; replace cm := eq_true cm;have cn : 0 ≤ (ag : Int) := od;have co : ag < (au.length : Int) := od;obtain ⟨bx, db, aF, aG⟩ := at_T64 cW.out ag cn co;have bV := aG; have bW := aF;cases db;replace aF := (HB.out.cell (World.block_lt_of_cell? w _ aF)).trans aF;replace aG := (HB.out.cell (World.block_lt_of_cell? w _ aG)).trans aG;replace cn := eq_true cn; replace co := eq_true co;refine start_ (n := 11) (S := fun w' => w'.cell? ⟨av, 0, none⟩ = some (.slice (some bw) ar.length bp) ∧ w'.cell? ⟨av, 1, none⟩ = some (.slice bK ai.length bq) ∧ w'.cell? ⟨av, 2, none⟩ = some (.slice bN ah.length br) ∧ w'.cell? ⟨aw, 0, none⟩ = some (.slice (some bx) au.length bt) ∧ w'.cell? ⟨aw, 1, none⟩ = some (.slice bM ak.length bu) ∧ w'.cell? ⟨aw, 2, none⟩ = some (.slice bO aj.length bv) ∧ w'.cell? (bw.add ((ag).toNat * 2)) = some (.int .i64 ((rd_T64 ar ag).f0)) ∧ w'.cell? ⟨(bw.add ((ag).toNat * 2)).block, (bw.add ((ag).toNat * 2)).off + 1, none⟩ = some (.bool ((rd_T64 ar ag).f1)) ∧ w'.cell? (bx.add ((ag).toNat * 2)) = some (.int .i64 ((rd_T64 au ag).f0)) ∧ w'.cell? ⟨(bx.add ((ag).toNat * 2)).block, (bx.add ((ag).toNat * 2)).off + 1, none⟩ = some (.bool ((rd_T64 au ag).f1))) (ds := []) (bs 11 0) (by kernel_rfl) rfl rfl ⟨kk ae 0, kk ae 1, kk ae 2, kk af 0, kk af 1, kk af 2, (kq HB bU), (kq HB bT), (kq HB bW), (kq HB bV)⟩ (fun hHeld => ?_); refine with_tabW qba.tab6 qba.bits6 (fun HT_ HW_ => ?_);generalize wr.drew = w26 at ae af HB aD aE aF aG hHeld ⊢;refine pu 0 (some 39) (bs 11 1) HT_ ?_;refine pu 2 (some 41) (bs 11 5) HT_ ?_;refine pu 5 (some 44) (bs 11 37) HT_ ?_;refine pu 7 (some 46) (bs 11 165) HT_ ?_;refine ta 1 (some 40) (bs 11 167) HT_ HW_ hHeld ?_;refine pu 3 (some 42) (bs 11 175) HT_ ?_;refine ta 4 (some 43) (bs 11 191) HT_ HW_ hHeld ?_;refine ta 6 (some 45) (bs 11 255) HT_ HW_ hHeld ?_;refine pu 8 (some 47) (bs 11 511) HT_ ?_;refine ta 9 (some 48) (bs 11 1023) HT_ HW_ hHeld ?_;refine pu 10 (some 49) (bs 11 2047) HT_ ?_;refine done_ (done_of HT_.out (by kernel_rfl)) ?_;(try go_wp2);go_roundg k2
     case measure => have := HJ2.out; have := HK2.out; omega
     case rel => exact ⟨(wrap64 (ag + 1)), et, H', ⟨by have := HJ2.out; have := HK2.out; omega⟩, ⟨kg ae⟩, ⟨kg af⟩, ⟨kh HB⟩⟩
    rw [if_neg c20] at H;have cY := decide_eq_false c20;clear c20;have H' := Aside0.mk H;clear H;have dV := aV.out;have dW := aW.out;have Z28 := kz3 ae;go_wp2;go_loopg [54] k2 (fun kq v54 w' => ∃ (ab : Int), v54 = .int .i64 ab ∧ Aside0 (qba.l1 kq (ai.length : Int) ab ar ai ah au ak aj = some r) ∧ Aside0 (kq ≤ k2) ∧ Aside0 (w'.heap[av]? = some (.cells #[(.slice bJ ar.length bp), (.slice bK ai.length bq), (.slice bN ah.length br)] 26 (0, 0))) ∧ Aside0 (w'.heap[aw]? = some (.cells #[(.slice bL au.length bt), (.slice bM ak.length bu), (.slice bO aj.length bv)] 26 (0, 0))) ∧ Aside0 (Below w.heap.size w w'))
    case atStart => exact ⟨(0), et, H', ⟨Nat.le_refl _⟩, ⟨kg ae⟩, ⟨kg af⟩, ⟨kh HB⟩⟩
    case round =>
     clear H';(try clear cY c21 Z28);obtain ⟨ab, rfl, HA, HK3, ae, af, HB⟩ := hrel
     cases gk with
     | zero => exact absurd HA.out (by simp [qba.l1])
     | succ k3 =>
      have H := HA.out;clear HA;simp only [qba.l1] at H
      by_cases c29 : ab < (ai.length : Int)
      ·rw [if_pos c29] at H
       have cZ := decide_eq_true c29;clear c29
       by_cases c30 : 0 ≤ ab
       rotate_left
       ·rw [if_neg c30] at H
        exact absurd H (by simp)
       rw [if_pos c30] at H;have dX := decide_eq_true c30;clear c30
       by_cases c31 : ab < (ai.length : Int)
       rotate_left
       ·rw [if_neg c31] at H
        exact absurd H (by simp)
       rw [if_pos c31] at H;have dY := decide_eq_true c31;clear c31
       by_cases c32 : ab < (ak.length : Int)
       rotate_left
       ·rw [if_neg c32] at H
        exact absurd H (by simp)
       rw [if_pos c32] at H;have dZ := decide_eq_true c32;clear c32
       by_cases c33 : (!(((rd_T61 ai ab).f0) == ((rd_T61 ak ab).f0)) || (!(((rd_T61 ai ab).f1) == ((rd_T61 ak ab).f1)) || (!(((rd_T61 ai ab).f2) == ((rd_T61 ak ab).f2)) || (!(((rd_T61 ai ab).f3) == ((rd_T61 ak ab).f3)))))) = true
       ·rw [if_pos c33] at H
        have dq : (!(((rd_T61 ai ab).f0) == ((rd_T61 ak ab).f0)) || (!(((rd_T61 ai ab).f1) == ((rd_T61 ak ab).f1)) || (!(((rd_T61 ai ab).f2) == ((rd_T61 ak ab).f2)) || (!(((rd_T61 ai ab).f3) == ((rd_T61 ak ab).f3)))))) = true := c33;clear c33;obtain rfl := Option.some.inj H;(try go_wp2);replace ae := kD ae; replace af := kD af; replace HB := kE HB;have cp : 0 ≤ (ab : Int) := od;have cq : ab < (ai.length : Int) := od;obtain ⟨aT, dc, aH, aI, aJ, aK⟩ := at_T61 cV.out ab cp cq;have bX := aK; have bY := aJ; have bZ := aI; have ca := aH;cases dc;replace aH := (HB.out.cell (World.block_lt_of_cell? w _ aH)).trans aH;replace aI := (HB.out.cell (World.block_lt_of_cell? w _ aI)).trans aI;replace aJ := (HB.out.cell (World.block_lt_of_cell? w _ aJ)).trans aJ;replace aK := (HB.out.cell (World.block_lt_of_cell? w _ aK)).trans aK;replace cp := eq_true cp; replace cq := eq_true cq;have cr : 0 ≤ (ab : Int) := od;have ct : ab < (ak.length : Int) := od;obtain ⟨aU, dd, aL, aM, aN, aO⟩ := at_T61 cX.out ab cr ct;have cb := aO; have cc := aN; have cd := aM; have ce := aL;cases dd;replace aL := (HB.out.cell (World.block_lt_of_cell? w _ aL)).trans aL;replace aM := (HB.out.cell (World.block_lt_of_cell? w _ aM)).trans aM;replace aN := (HB.out.cell (World.block_lt_of_cell? w _ aN)).trans aN;replace aO := (HB.out.cell (World.block_lt_of_cell? w _ aO)).trans aO;replace cr := eq_true cr; replace ct := eq_true ct;refine start_ (n := 11) (S := fun w' => w'.cell? ⟨av, 0, none⟩ = some (.slice bJ ar.length bp) ∧ w'.cell? ⟨av, 1, none⟩ = some (.slice (some aT) ai.length bq) ∧ w'.cell? ⟨av, 2, none⟩ = some (.slice bN ah.length br) ∧ w'.cell? ⟨aw, 0, none⟩ = some (.slice bL au.length bt) ∧ w'.cell? ⟨aw, 1, none⟩ = some (.slice (some aU) ak.length bu) ∧ w'.cell? ⟨aw, 2, none⟩ = some (.slice bO aj.length bv) ∧ w'.cell? (aT.add ((ab).toNat * 4)) = some (.int .i64 ((rd_T61 ai ab).f0)) ∧ w'.cell? ⟨(aT.add ((ab).toNat * 4)).block, (aT.add ((ab).toNat * 4)).off + 1, none⟩ = some (.int .i64 ((rd_T61 ai ab).f1)) ∧ w'.cell? ⟨(aT.add ((ab).toNat * 4)).block, (aT.add ((ab).toNat * 4)).off + 2, none⟩ = some (.int .i64 ((rd_T61 ai ab).f2)) ∧ w'.cell? ⟨(aT.add ((ab).toNat * 4)).block, (aT.add ((ab).toNat * 4)).off + 3, none⟩ = some (.int .u64 ((rd_T61 ai ab).f3)) ∧ w'.cell? (aU.add ((ab).toNat * 4)) = some (.int .i64 ((rd_T61 ak ab).f0)) ∧ w'.cell? ⟨(aU.add ((ab).toNat * 4)).block, (aU.add ((ab).toNat * 4)).off + 1, none⟩ = some (.int .i64 ((rd_T61 ak ab).f1)) ∧ w'.cell? ⟨(aU.add ((ab).toNat * 4)).block, (aU.add ((ab).toNat * 4)).off + 2, none⟩ = some (.int .i64 ((rd_T61 ak ab).f2)) ∧ w'.cell? ⟨(aU.add ((ab).toNat * 4)).block, (aU.add ((ab).toNat * 4)).off + 3, none⟩ = some (.int .u64 ((rd_T61 ak ab).f3))) (ds := []) (bs 11 0) (by kernel_rfl) rfl rfl ⟨kk ae 0, kk ae 1, kk ae 2, kk af 0, kk af 1, kk af 2, (kq HB ca), (kq HB bZ), (kq HB bY), (kq HB bX), (kq HB ce), (kq HB cd), (kq HB cc), (kq HB cb)⟩ (fun hHeld => ?_); refine with_tabW qba.tab12 qba.bits12 (fun HT_ HW_ => ?_);generalize wr.drew = w34 at ae af HB aH aI aJ aK aL aM aN aO hHeld ⊢;refine pu 0 (some 57) (bs 11 1) HT_ ?_;refine pu 2 (some 59) (bs 11 5) HT_ ?_;refine pu 5 (some 62) (bs 11 37) HT_ ?_;refine pu 7 (some 64) (bs 11 165) HT_ ?_;refine ta 1 (some 58) (bs 11 167) HT_ HW_ hHeld ?_;refine pu 3 (some 60) (bs 11 175) HT_ ?_;refine ta 4 (some 61) (bs 11 191) HT_ HW_ hHeld ?_;refine ta 6 (some 63) (bs 11 255) HT_ HW_ hHeld ?_;refine pu 8 (some 65) (bs 11 511) HT_ ?_;refine ta 9 (some 66) (bs 11 1023) HT_ HW_ hHeld ?_;refine pu 10 (some 67) (bs 11 2047) HT_ ?_;refine done_ (done_of HT_.out (by kernel_rfl)) ?_;(try go_wp2);go_ret;exact ⟨er, kh HB⟩
       rw [if_neg c33] at H
       have dq : (!(((rd_T61 ai ab).f0) == ((rd_T61 ak ab).f0)) || (!(((rd_T61 ai ab).f1) == ((rd_T61 ak ab).f1)) || (!(((rd_T61 ai ab).f2) == ((rd_T61 ak ab).f2)) || (!(((rd_T61 ai ab).f3) == ((rd_T61 ak ab).f3)))))) = false := by simpa using c33
       clear c33;have H' := Aside0.mk H;clear H;(try go_wp2);replace ae := kD ae; replace af := kD af; replace HB := kE HB;have cp : 0 ≤ (ab : Int) := od;have cq : ab < (ai.length : Int) := od;obtain ⟨aT, dc, aH, aI, aJ, aK⟩ := at_T61 cV.out ab cp cq;have bX := aK; have bY := aJ; have bZ := aI; have ca := aH;cases dc;replace aH := (HB.out.cell (World.block_lt_of_cell? w _ aH)).trans aH;replace aI := (HB.out.cell (World.block_lt_of_cell? w _ aI)).trans aI;replace aJ := (HB.out.cell (World.block_lt_of_cell? w _ aJ)).trans aJ;replace aK := (HB.out.cell (World.block_lt_of_cell? w _ aK)).trans aK;replace cp := eq_true cp; replace cq := eq_true cq;have cr : 0 ≤ (ab : Int) := od;have ct : ab < (ak.length : Int) := od;obtain ⟨aU, dd, aL, aM, aN, aO⟩ := at_T61 cX.out ab cr ct;have cb := aO; have cc := aN; have cd := aM; have ce := aL;cases dd;replace aL := (HB.out.cell (World.block_lt_of_cell? w _ aL)).trans aL;replace aM := (HB.out.cell (World.block_lt_of_cell? w _ aM)).trans aM;replace aN := (HB.out.cell (World.block_lt_of_cell? w _ aN)).trans aN;replace aO := (HB.out.cell (World.block_lt_of_cell? w _ aO)).trans aO;replace cr := eq_true cr; replace ct := eq_true ct;refine start_ (n := 11) (S := fun w' => w'.cell? ⟨av, 0, none⟩ = some (.slice bJ ar.length bp) ∧ w'.cell? ⟨av, 1, none⟩ = some (.slice (some aT) ai.length bq) ∧ w'.cell? ⟨av, 2, none⟩ = some (.slice bN ah.length br) ∧ w'.cell? ⟨aw, 0, none⟩ = some (.slice bL au.length bt) ∧ w'.cell? ⟨aw, 1, none⟩ = some (.slice (some aU) ak.length bu) ∧ w'.cell? ⟨aw, 2, none⟩ = some (.slice bO aj.length bv) ∧ w'.cell? (aT.add ((ab).toNat * 4)) = some (.int .i64 ((rd_T61 ai ab).f0)) ∧ w'.cell? ⟨(aT.add ((ab).toNat * 4)).block, (aT.add ((ab).toNat * 4)).off + 1, none⟩ = some (.int .i64 ((rd_T61 ai ab).f1)) ∧ w'.cell? ⟨(aT.add ((ab).toNat * 4)).block, (aT.add ((ab).toNat * 4)).off + 2, none⟩ = some (.int .i64 ((rd_T61 ai ab).f2)) ∧ w'.cell? ⟨(aT.add ((ab).toNat * 4)).block, (aT.add ((ab).toNat * 4)).off + 3, none⟩ = some (.int .u64 ((rd_T61 ai ab).f3)) ∧ w'.cell? (aU.add ((ab).toNat * 4)) = some (.int .i64 ((rd_T61 ak ab).f0)) ∧ w'.cell? ⟨(aU.add ((ab).toNat * 4)).block, (aU.add ((ab).toNat * 4)).off + 1, none⟩ = some (.int .i64 ((rd_T61 ak ab).f1)) ∧ w'.cell? ⟨(aU.add ((ab).toNat * 4)).block, (aU.add ((ab).toNat * 4)).off + 2, none⟩ = some (.int .i64 ((rd_T61 ak ab).f2)) ∧ w'.cell? ⟨(aU.add ((ab).toNat * 4)).block, (aU.add ((ab).toNat * 4)).off + 3, none⟩ = some (.int .u64 ((rd_T61 ak ab).f3))) (ds := []) (bs 11 0) (by kernel_rfl) rfl rfl ⟨kk ae 0, kk ae 1, kk ae 2, kk af 0, kk af 1, kk af 2, (kq HB ca), (kq HB bZ), (kq HB bY), (kq HB bX), (kq HB ce), (kq HB cd), (kq HB cc), (kq HB cb)⟩ (fun hHeld => ?_); refine with_tabW qba.tab12 qba.bits12 (fun HT_ HW_ => ?_);generalize wr.drew = w35 at ae af HB aH aI aJ aK aL aM aN aO hHeld ⊢;refine pu 0 (some 57) (bs 11 1) HT_ ?_;refine pu 2 (some 59) (bs 11 5) HT_ ?_;refine pu 5 (some 62) (bs 11 37) HT_ ?_;refine pu 7 (some 64) (bs 11 165) HT_ ?_;refine ta 1 (some 58) (bs 11 167) HT_ HW_ hHeld ?_;refine pu 3 (some 60) (bs 11 175) HT_ ?_;refine ta 4 (some 61) (bs 11 191) HT_ HW_ hHeld ?_;refine ta 6 (some 63) (bs 11 255) HT_ HW_ hHeld ?_;refine pu 8 (some 65) (bs 11 511) HT_ ?_;refine ta 9 (some 66) (bs 11 1023) HT_ HW_ hHeld ?_;refine pu 10 (some 67) (bs 11 2047) HT_ ?_;refine done_ (done_of HT_.out (by kernel_rfl)) ?_;(try go_wp2);go_roundg k3
       case measure => have := HJ2.out; have := HK2.out; have := HK3.out; omega
       case rel => exact ⟨(wrap64 (ab + 1)), et, H', ⟨by have := HJ2.out; have := HK2.out; have := HK3.out; omega⟩, ⟨kg ae⟩, ⟨kg af⟩, ⟨kh HB⟩⟩
      rw [if_neg c29] at H;have cZ := decide_eq_false c29;clear c29;have H' := Aside0.mk H;clear H;have eb := aV.out;have ed := aW.out;have Z37 := kz3 ae;go_wp2;go_loopg [72] k3 (fun kq v72 w' => ∃ (aa : Int), v72 = .int .i64 aa ∧ Aside0 (qba.l2 kq (ah.length : Int) aa ar ai ah au ak aj = some r) ∧ Aside0 (kq ≤ k3) ∧ Aside0 (w'.heap[av]? = some (.cells #[(.slice bJ ar.length bp), (.slice bK ai.length bq), (.slice bN ah.length br)] 26 (0, 0))) ∧ Aside0 (w'.heap[aw]? = some (.cells #[(.slice bL au.length bt), (.slice bM ak.length bu), (.slice bO aj.length bv)] 26 (0, 0))) ∧ Aside0 (Below w.heap.size w w'))
      case atStart => exact ⟨(0), et, H', ⟨Nat.le_refl _⟩, ⟨kg ae⟩, ⟨kg af⟩, ⟨kh HB⟩⟩
      case round =>
       clear H';(try clear cZ c30 Z37);obtain ⟨aa, rfl, HA, HK4, ae, af, HB⟩ := hrel
       cases gk with
       | zero => exact absurd HA.out (by simp [qba.l2])
       | succ k4 =>
        have H := HA.out;clear HA;simp only [qba.l2] at H
        by_cases c38 : aa < (ah.length : Int)
        rotate_left
        ·rw [if_neg c38] at H
         have dr := decide_eq_false c38;clear c38;obtain rfl := Option.some.inj H;go_wp2;go_ret;exact ⟨er, kh HB⟩
        rw [if_pos c38] at H;have dr := decide_eq_true c38;clear c38
        by_cases c39 : 0 ≤ aa
        rotate_left
        ·rw [if_neg c39] at H
         exact absurd H (by simp)
        rw [if_pos c39] at H;have ee := decide_eq_true c39;clear c39
        by_cases c40 : aa < (ah.length : Int)
        rotate_left
        ·rw [if_neg c40] at H
         exact absurd H (by simp)
        rw [if_pos c40] at H;have ef := decide_eq_true c40;clear c40
        by_cases c41 : aa < (aj.length : Int)
        rotate_left
        ·rw [if_neg c41] at H
         exact absurd H (by simp)
        rw [if_pos c41] at H;have eh := decide_eq_true c41;clear c41;replace H := Option.bind_eq_some_iff.mp H;obtain ⟨dA, dt, H⟩ := H;(try dsimp only at H);have A42 := Aside0.mk dt;clear dt
        by_cases c43 : dA = true
        rotate_left
        ·replace c43 := Bool.eq_false_iff.mpr c43
         subst c43;replace H := ifF H;obtain rfl := Option.some.inj H;(try go_wp2);replace ae := kD ae; replace af := kD af; replace HB := kE HB;have bP : 0 ≤ (aa : Int) := od;have bQ : aa < (ah.length : Int) := od;obtain ⟨aB, bd, be, bh, bi, cC, an, ao, aX, hi286_0, aY, hi286_1⟩ := at_T66 cj.out aa bP bQ;have aP := ao; have aQ := an;cases cC;replace an := (HB.out.cell (World.block_lt_of_cell? w _ an)).trans an;replace ao := (HB.out.cell (World.block_lt_of_cell? w _ ao)).trans ao;have aZ := Aside0.mk hi286_0;have bz := Aside0.mk aX;clear hi286_0 aX;have bA := Aside0.mk hi286_1;have cz := Aside0.mk aY;clear hi286_1 aY; replace bP := eq_true bP; replace bQ := eq_true bQ;have bR : 0 ≤ (aa : Int) := od;have bS : aa < (aj.length : Int) := od;obtain ⟨aC, bf, bg, bj, bk, cD, ap, aq, ba, hi287_0, bb, hi287_1⟩ := at_T66 ck.out aa bR bS;have aR := aq; have aS := ap;cases cD;replace ap := (HB.out.cell (World.block_lt_of_cell? w _ ap)).trans ap;replace aq := (HB.out.cell (World.block_lt_of_cell? w _ aq)).trans aq;have bc := Aside0.mk hi287_0;have bB := Aside0.mk ba;clear hi287_0 ba;have bC := Aside0.mk hi287_1;have cA := Aside0.mk bb;clear hi287_1 bb; replace bR := eq_true bR; replace bS := eq_true bS;refine start_ (n := 30) (S := fun w' => w'.cell? ⟨av, 0, none⟩ = some (.slice bJ ar.length bp) ∧ w'.cell? ⟨av, 1, none⟩ = some (.slice bK ai.length bq) ∧ w'.cell? ⟨av, 2, none⟩ = some (.slice (some aB) ah.length br) ∧ w'.cell? ⟨aw, 0, none⟩ = some (.slice bL au.length bt) ∧ w'.cell? ⟨aw, 1, none⟩ = some (.slice bM ak.length bu) ∧ w'.cell? ⟨aw, 2, none⟩ = some (.slice (some aC) aj.length bv) ∧ w'.cell? (aB.add ((aa).toNat * 2)) = some (.slice bd ((rd_T66 ah aa).f0).length be) ∧ w'.cell? ⟨(aB.add ((aa).toNat * 2)).block, (aB.add ((aa).toNat * 2)).off + 1, none⟩ = some (.slice bh ((rd_T66 ah aa).f1).length bi) ∧ w'.cell? (aC.add ((aa).toNat * 2)) = some (.slice bf ((rd_T66 aj aa).f0).length bg) ∧ w'.cell? ⟨(aC.add ((aa).toNat * 2)).block, (aC.add ((aa).toNat * 2)).off + 1, none⟩ = some (.slice bj ((rd_T66 aj aa).f1).length bk)) (ds := []) (bs 30 0) (by kernel_rfl) rfl rfl ⟨kk ae 0, kk ae 1, kk ae 2, kk af 0, kk af 1, kk af 2, (kq HB aQ), (kq HB aP), (kq HB aS), (kq HB aR)⟩ (fun hHeld => ?_); refine with_tabW qba.tab18 qba.bits18 (fun HT_ HW_ => ?_);generalize wr.drew = w48 at ae af HB aZ bA bc bC an ao ap aq hHeld ⊢;refine pu 0 (some 75) (bs 30 1) HT_ ?_;refine pu 2 (some 77) (bs 30 5) HT_ ?_;refine pu 6 (some 81) (bs 30 69) HT_ ?_;refine pu 8 (some 83) (bs 30 325) HT_ ?_;refine ta 1 (some 76) (bs 30 327) HT_ HW_ hHeld ?_;refine pu 3 (some 78) (bs 30 335) HT_ ?_;refine pu 4 (some 79) (bs 30 351) HT_ ?_;refine ta 5 (some 80) (bs 30 383) HT_ HW_ hHeld ?_;refine ta 7 (some 82) (bs 30 511) HT_ HW_ hHeld ?_;refine pu 9 (some 84) (bs 30 1023) HT_ ?_;refine pu 10 (some 85) (bs 30 2047) HT_ ?_;refine ta 11 (some 86) (bs 30 4095) HT_ HW_ hHeld ?_;refine one_ (i := 12) (N := some 87) (bs 30 8191) rfl rfl (one_of HT_.out (by kernel_rfl)) (by decide) (fun K hK => ?_);refine goes_ Try.func56 (by kernel_rfl) rfl #[.slice bd ((rd_T66 ah aa).f0).length be, .slice bf ((rd_T66 aj aa).f0).length bg] (by rfl) rfl rfl (by (try simp only [qM1, qM2, qM3]); first | done | rfl) ?_;(with_reducible refine (qha.calls k4 _ _ ((rd_T66 ah aa).f0) _ _ ((rd_T66 aj aa).f0) false _ ?side1 ?side2 ?side3 ?side4 A42.out).mono ?_);(case side1 => repeat (first | exact (Kd.C_below aZ.out HB.out) | (with_reducible first | refine Kd.C_alloc ?_ _ | refine Kd.C_drewN ?_ _ | refine Kd.C_drew ?_)));(case side2 => exact bz.out);(case side3 => repeat (first | exact (Kd.C_below bc.out HB.out) | (with_reducible first | refine Kd.C_alloc ?_ _ | refine Kd.C_drewN ?_ _ | refine Kd.C_drew ?_)));(case side4 => exact bB.out);rintro e w' ⟨rfl, ⟨nd, rfl⟩⟩;refine ⟨_, rfl, ?_⟩;refine hK.out _ _ ⟨kk ae 0, kk ae 1, kk ae 2, kk af 0, kk af 1, kk af 2, (kq HB aQ), (kq HB aP), (kq HB aS), (kq HB aR)⟩ (fun hHeld => ?_);clear hK K;refine no (some 87) ?_;refine pu 13 (some 88) (bs 30 16383) HT_ ?_;refine pu 14 (some 89) (bs 30 32767) HT_ ?_;refine pure_ (i := 15) (N := some 90) (v := undef) (a' := ?_) (bs 30 65535) rfl rfl (any_of HT_.out (by kernel_rfl)) (fun _ _ _ h => h) (Or.inr ⟨by rfl, rfl⟩) ?_ ?_
         rotate_left
         ·simp only [Act.put, qS1, qS2, qS3, i64_w, i32_w]
          rfl
         refine pure_ (i := 16) (N := some 91) (v := undef) (a' := ?_) (bs 30 131071) rfl rfl (any_of HT_.out (by kernel_rfl)) (fun _ _ _ h => h) (Or.inr ⟨by rfl, rfl⟩) ?_ ?_
         rotate_left
         ·simp only [Act.put, qS1, qS2, qS3, i64_w, i32_w]
          rfl
         refine pure_ (i := 17) (N := some 92) (v := undef) (a' := ?_) (bs 30 262143) rfl rfl (any_of HT_.out (by kernel_rfl)) (fun _ _ _ h => h) (Or.inr ⟨by rfl, rfl⟩) ?_ ?_
         rotate_left
         ·simp only [Act.put, qS1, qS2, qS3, i64_w, i32_w]
          rfl
         refine pure_ (i := 18) (N := some 93) (v := undef) (a' := ?_) (bs 30 524287) rfl rfl (any_of HT_.out (by kernel_rfl)) (fun _ _ _ h => h) (Or.inr ⟨by rfl, rfl⟩) ?_ ?_
         rotate_left
         ·simp only [Act.put, qS1, qS2, qS3, i64_w, i32_w]
          rfl
         refine pure_ (i := 19) (N := some 94) (v := undef) (a' := ?_) (bs 30 1048575) rfl rfl (any_of HT_.out (by kernel_rfl)) (fun _ _ _ h => h) (Or.inr ⟨by rfl, rfl⟩) ?_ ?_
         rotate_left
         ·simp only [Act.put, qS1, qS2, qS3, i64_w, i32_w]
          rfl
         refine pure_ (i := 20) (N := some 95) (v := undef) (a' := ?_) (bs 30 2097151) rfl rfl (any_of HT_.out (by kernel_rfl)) (fun _ _ _ h => h) (Or.inr ⟨by rfl, rfl⟩) ?_ ?_
         rotate_left
         ·simp only [Act.put, qS1, qS2, qS3, i64_w, i32_w]
          rfl
         refine pure_ (i := 21) (N := some 96) (v := undef) (a' := ?_) (bs 30 4194303) rfl rfl (any_of HT_.out (by kernel_rfl)) (fun _ _ _ h => h) (Or.inr ⟨by rfl, rfl⟩) ?_ ?_
         rotate_left
         ·simp only [Act.put, qS1, qS2, qS3, i64_w, i32_w]
          rfl
         refine pure_ (i := 22) (N := some 97) (v := undef) (a' := ?_) (bs 30 8388607) rfl rfl (any_of HT_.out (by kernel_rfl)) (fun _ _ _ h => h) (Or.inr ⟨by rfl, rfl⟩) ?_ ?_
         rotate_left
         ·simp only [Act.put, qS1, qS2, qS3, i64_w, i32_w]
          rfl
         refine pure_ (i := 23) (N := some 98) (v := undef) (a' := ?_) (bs 30 16777215) rfl rfl (any_of HT_.out (by kernel_rfl)) (fun _ _ _ h => h) (Or.inr ⟨by rfl, rfl⟩) ?_ ?_
         rotate_left
         ·simp only [Act.put, qS1, qS2, qS3, i64_w, i32_w]
          rfl
         refine pure_ (i := 24) (N := some 99) (v := undef) (a' := ?_) (bs 30 33554431) rfl rfl (any_of HT_.out (by kernel_rfl)) (fun _ _ _ h => h) (Or.inr ⟨by rfl, rfl⟩) ?_ ?_
         rotate_left
         ·simp only [Act.put, qS1, qS2, qS3, i64_w, i32_w]
          rfl
         refine pure_ (i := 25) (N := some 100) (v := undef) (a' := ?_) (bs 30 67108863) rfl rfl (any_of HT_.out (by kernel_rfl)) (fun _ _ _ h => h) (Or.inr ⟨by rfl, rfl⟩) ?_ ?_
         rotate_left
         ·simp only [Act.put, qS1, qS2, qS3, i64_w, i32_w]
          rfl
         refine pure_ (i := 26) (N := some 101) (v := undef) (a' := ?_) (bs 30 134217727) rfl rfl (any_of HT_.out (by kernel_rfl)) (fun _ _ _ h => h) (Or.inr ⟨by rfl, rfl⟩) ?_ ?_
         rotate_left
         ·simp only [Act.put, qS1, qS2, qS3, i64_w, i32_w]
          rfl
         refine pure_ (i := 27) (N := some 102) (v := undef) (a' := ?_) (bs 30 268435455) rfl rfl (any_of HT_.out (by kernel_rfl)) (fun _ _ _ h => h) (Or.inr ⟨by rfl, rfl⟩) ?_ ?_
         rotate_left
         ·simp only [Act.put, qS1, qS2, qS3, i64_w, i32_w]
          rfl
         refine pure_ (i := 28) (N := some 103) (v := undef) (a' := ?_) (bs 30 536870911) rfl rfl (any_of HT_.out (by kernel_rfl)) (fun _ _ _ h => h) (Or.inr ⟨by rfl, rfl⟩) ?_ ?_
         rotate_left
         ·simp only [Act.put, qS1, qS2, qS3, i64_w, i32_w]
          rfl
         refine pu 29 (some 104) (bs 30 1073741823) HT_ ?_;refine done_ (done_of HT_.out (by kernel_rfl)) ?_;(try go_wp2);go_ret;exact ⟨er, kh HB⟩
        subst c43;replace H := ifT H;replace H := Option.bind_eq_some_iff.mp H;obtain ⟨dB, du, H⟩ := H;(try dsimp only at H);have A44 := Aside0.mk du;clear du
        by_cases c45 : dB = true
        rotate_left
        ·replace c45 := Bool.eq_false_iff.mpr c45
         subst c45;replace H := ifF H;obtain rfl := Option.some.inj H;(try go_wp2);replace ae := kD ae; replace af := kD af; replace HB := kE HB;have bP : 0 ≤ (aa : Int) := od;have bQ : aa < (ah.length : Int) := od;obtain ⟨aB, bd, be, bh, bi, cC, an, ao, aX, hi286_0, aY, hi286_1⟩ := at_T66 cj.out aa bP bQ;have aP := ao; have aQ := an;cases cC;replace an := (HB.out.cell (World.block_lt_of_cell? w _ an)).trans an;replace ao := (HB.out.cell (World.block_lt_of_cell? w _ ao)).trans ao;have aZ := Aside0.mk hi286_0;have bz := Aside0.mk aX;clear hi286_0 aX;have bA := Aside0.mk hi286_1;have cz := Aside0.mk aY;clear hi286_1 aY; replace bP := eq_true bP; replace bQ := eq_true bQ;have bR : 0 ≤ (aa : Int) := od;have bS : aa < (aj.length : Int) := od;obtain ⟨aC, bf, bg, bj, bk, cD, ap, aq, ba, hi287_0, bb, hi287_1⟩ := at_T66 ck.out aa bR bS;have aR := aq; have aS := ap;cases cD;replace ap := (HB.out.cell (World.block_lt_of_cell? w _ ap)).trans ap;replace aq := (HB.out.cell (World.block_lt_of_cell? w _ aq)).trans aq;have bc := Aside0.mk hi287_0;have bB := Aside0.mk ba;clear hi287_0 ba;have bC := Aside0.mk hi287_1;have cA := Aside0.mk bb;clear hi287_1 bb; replace bR := eq_true bR; replace bS := eq_true bS;have cu : 0 ≤ (aa : Int) := od;have cv : aa < (ah.length : Int) := od;obtain ⟨cE, de, df, dg, dh, di, ax, ay, bD, hi289_0, bE, hi289_1⟩ := at_T66 cj.out aa cu cv;have bl := ay; have bm := ax;obtain rfl : aB = cE := (by injection di);replace ax := (HB.out.cell (World.block_lt_of_cell? w _ ax)).trans ax;replace ay := (HB.out.cell (World.block_lt_of_cell? w _ ay)).trans ay;have cf := Aside0.mk hi289_0;have cG := Aside0.mk bD;clear hi289_0 bD;have bF := Aside0.mk hi289_1;have cg := Aside0.mk bE;clear hi289_1 bE; replace cu := eq_true cu; replace cv := eq_true cv;have ea_ := Option.some.inj (an.symm.trans ax)
         injection ea_ with ea_ en_ ec_
         subst ea_;subst ec_;clear en_;have ea_ := Option.some.inj (ao.symm.trans ay)
         injection ea_ with ea_ en_ ec_
         subst ea_;subst ec_;clear en_;have cw : 0 ≤ (aa : Int) := od;have cx : aa < (aj.length : Int) := od;obtain ⟨cF, dj, dk, dl, dm, dn, az, aA, bG, hi290_0, bH, hi290_1⟩ := at_T66 ck.out aa cw cx;have bn := aA; have bo := az;obtain rfl : aC = cF := (by injection dn);replace az := (HB.out.cell (World.block_lt_of_cell? w _ az)).trans az;replace aA := (HB.out.cell (World.block_lt_of_cell? w _ aA)).trans aA;have ch := Aside0.mk hi290_0;have cH := Aside0.mk bG;clear hi290_0 bG;have bI := Aside0.mk hi290_1;have ci := Aside0.mk bH;clear hi290_1 bH; replace cw := eq_true cw; replace cx := eq_true cx;have ea_ := Option.some.inj (ap.symm.trans az)
         injection ea_ with ea_ en_ ec_
         subst ea_;subst ec_;clear en_;have ea_ := Option.some.inj (aq.symm.trans aA)
         injection ea_ with ea_ en_ ec_
         subst ea_;subst ec_;clear en_;refine start_ (n := 30) (S := fun w' => w'.cell? ⟨av, 0, none⟩ = some (.slice bJ ar.length bp) ∧ w'.cell? ⟨av, 1, none⟩ = some (.slice bK ai.length bq) ∧ w'.cell? ⟨av, 2, none⟩ = some (.slice (some aB) ah.length br) ∧ w'.cell? ⟨aw, 0, none⟩ = some (.slice bL au.length bt) ∧ w'.cell? ⟨aw, 1, none⟩ = some (.slice bM ak.length bu) ∧ w'.cell? ⟨aw, 2, none⟩ = some (.slice (some aC) aj.length bv) ∧ w'.cell? (aB.add ((aa).toNat * 2)) = some (.slice bd ((rd_T66 ah aa).f0).length be) ∧ w'.cell? ⟨(aB.add ((aa).toNat * 2)).block, (aB.add ((aa).toNat * 2)).off + 1, none⟩ = some (.slice bh ((rd_T66 ah aa).f1).length bi) ∧ w'.cell? (aC.add ((aa).toNat * 2)) = some (.slice bf ((rd_T66 aj aa).f0).length bg) ∧ w'.cell? ⟨(aC.add ((aa).toNat * 2)).block, (aC.add ((aa).toNat * 2)).off + 1, none⟩ = some (.slice bj ((rd_T66 aj aa).f1).length bk) ∧ w'.cell? (aB.add ((aa).toNat * 2)) = some (.slice bd ((rd_T66 ah aa).f0).length be) ∧ w'.cell? ⟨(aB.add ((aa).toNat * 2)).block, (aB.add ((aa).toNat * 2)).off + 1, none⟩ = some (.slice bh ((rd_T66 ah aa).f1).length bi) ∧ w'.cell? (aC.add ((aa).toNat * 2)) = some (.slice bf ((rd_T66 aj aa).f0).length bg) ∧ w'.cell? ⟨(aC.add ((aa).toNat * 2)).block, (aC.add ((aa).toNat * 2)).off + 1, none⟩ = some (.slice bj ((rd_T66 aj aa).f1).length bk)) (ds := []) (bs 30 0) (by kernel_rfl) rfl rfl ⟨kk ae 0, kk ae 1, kk ae 2, kk af 0, kk af 1, kk af 2, (kq HB aQ), (kq HB aP), (kq HB aS), (kq HB aR), (kq HB bm), (kq HB bl), (kq HB bo), (kq HB bn)⟩ (fun hHeld => ?_); refine with_tabW qba.tab18 qba.bits18 (fun HT_ HW_ => ?_);generalize wr.drew = w47 at ae af HB aZ bA bc bC cf bF ch bI an ao ap aq ax ay az aA hHeld ⊢;refine pu 0 (some 75) (bs 30 1) HT_ ?_;refine pu 2 (some 77) (bs 30 5) HT_ ?_;refine pu 6 (some 81) (bs 30 69) HT_ ?_;refine pu 8 (some 83) (bs 30 325) HT_ ?_;refine ta 1 (some 76) (bs 30 327) HT_ HW_ hHeld ?_;refine pu 3 (some 78) (bs 30 335) HT_ ?_;refine pu 4 (some 79) (bs 30 351) HT_ ?_;refine ta 5 (some 80) (bs 30 383) HT_ HW_ hHeld ?_;refine ta 7 (some 82) (bs 30 511) HT_ HW_ hHeld ?_;refine pu 9 (some 84) (bs 30 1023) HT_ ?_;refine pu 10 (some 85) (bs 30 2047) HT_ ?_;refine ta 11 (some 86) (bs 30 4095) HT_ HW_ hHeld ?_;refine one_ (i := 12) (N := some 87) (bs 30 8191) rfl rfl (one_of HT_.out (by kernel_rfl)) (by decide) (fun K hK => ?_);refine goes_ Try.func56 (by kernel_rfl) rfl #[.slice bd ((rd_T66 ah aa).f0).length be, .slice bf ((rd_T66 aj aa).f0).length bg] (by rfl) rfl rfl (by (try simp only [qM1, qM2, qM3]); first | done | rfl) ?_;(with_reducible refine (qha.calls k4 _ _ ((rd_T66 ah aa).f0) _ _ ((rd_T66 aj aa).f0) true _ ?side1 ?side2 ?side3 ?side4 A42.out).mono ?_);(case side1 => repeat (first | exact (Kd.C_below aZ.out HB.out) | (with_reducible first | refine Kd.C_alloc ?_ _ | refine Kd.C_drewN ?_ _ | refine Kd.C_drew ?_)));(case side2 => exact bz.out);(case side3 => repeat (first | exact (Kd.C_below bc.out HB.out) | (with_reducible first | refine Kd.C_alloc ?_ _ | refine Kd.C_drewN ?_ _ | refine Kd.C_drew ?_)));(case side4 => exact bB.out);rintro e w' ⟨rfl, ⟨nd, rfl⟩⟩;refine ⟨_, rfl, ?_⟩;refine hK.out _ _ ⟨kk ae 0, kk ae 1, kk ae 2, kk af 0, kk af 1, kk af 2, (kq HB aQ), (kq HB aP), (kq HB aS), (kq HB aR), (kq HB bm), (kq HB bl), (kq HB bo), (kq HB bn)⟩ (fun hHeld => ?_);clear hK K;refine no (some 87) ?_;refine pu 13 (some 88) (bs 30 16383) HT_ ?_;refine pu 14 (some 89) (bs 30 32767) HT_ ?_;refine pu 15 (some 90) (bs 30 65535) HT_ ?_;refine pu 17 (some 92) (bs 30 196607) HT_ ?_;refine pu 21 (some 96) (bs 30 2293759) HT_ ?_;refine pu 23 (some 98) (bs 30 10682367) HT_ ?_;refine ta 16 (some 91) (bs 30 10747903) HT_ HW_ hHeld ?_;refine pu 18 (some 93) (bs 30 11010047) HT_ ?_;refine pu 19 (some 94) (bs 30 11534335) HT_ ?_;refine ta 20 (some 95) (bs 30 12582911) HT_ HW_ hHeld ?_;refine ta 22 (some 97) (bs 30 16777215) HT_ HW_ hHeld ?_;refine pu 24 (some 99) (bs 30 33554431) HT_ ?_;refine pu 25 (some 100) (bs 30 67108863) HT_ ?_;refine ta 26 (some 101) (bs 30 134217727) HT_ HW_ hHeld ?_;refine one_ (i := 27) (N := some 102) (bs 30 268435455) rfl rfl (one_of HT_.out (by kernel_rfl)) (by decide) (fun K hK => ?_);refine goes_ Try.func56 (by kernel_rfl) rfl #[.slice bh ((rd_T66 ah aa).f1).length bi, .slice bj ((rd_T66 aj aa).f1).length bk] (by rfl) rfl rfl (by (try simp only [qM1, qM2, qM3]); first | done | rfl) ?_;(with_reducible refine (qha.calls k4 _ _ ((rd_T66 ah aa).f1) _ _ ((rd_T66 aj aa).f1) false _ ?side1 ?side2 ?side3 ?side4 A44.out).mono ?_);(case side1 => repeat (first | exact (Kd.C_below bF.out (kh HB)) | (with_reducible first | refine Kd.C_alloc ?_ _ | refine Kd.C_drewN ?_ _ | refine Kd.C_drew ?_)));(case side2 => exact cg.out);(case side3 => repeat (first | exact (Kd.C_below bI.out (kh HB)) | (with_reducible first | refine Kd.C_alloc ?_ _ | refine Kd.C_drewN ?_ _ | refine Kd.C_drew ?_)));(case side4 => exact ci.out);rintro e w' ⟨rfl, ⟨nd, rfl⟩⟩;refine ⟨_, rfl, ?_⟩;refine hK.out _ _ ⟨kk ae 0, kk ae 1, kk ae 2, kk af 0, kk af 1, kk af 2, (kq HB aQ), (kq HB aP), (kq HB aS), (kq HB aR), (kq HB bm), (kq HB bl), (kq HB bo), (kq HB bn)⟩ (fun hHeld => ?_);clear hK K;refine no (some 102) ?_;refine pu 28 (some 103) (bs 30 536870911) HT_ ?_;refine pu 29 (some 104) (bs 30 1073741823) HT_ ?_;refine done_ (done_of HT_.out (by kernel_rfl)) ?_;(try go_wp2);go_ret;exact ⟨er, kh HB⟩
        subst c45;replace H := ifT H;have H' := Aside0.mk H;clear H;(try go_wp2);replace ae := kD ae; replace af := kD af; replace HB := kE HB;have bP : 0 ≤ (aa : Int) := od;have bQ : aa < (ah.length : Int) := od;obtain ⟨aB, bd, be, bh, bi, cC, an, ao, aX, hi286_0, aY, hi286_1⟩ := at_T66 cj.out aa bP bQ;have aP := ao; have aQ := an;cases cC;replace an := (HB.out.cell (World.block_lt_of_cell? w _ an)).trans an;replace ao := (HB.out.cell (World.block_lt_of_cell? w _ ao)).trans ao;have aZ := Aside0.mk hi286_0;have bz := Aside0.mk aX;clear hi286_0 aX;have bA := Aside0.mk hi286_1;have cz := Aside0.mk aY;clear hi286_1 aY; replace bP := eq_true bP; replace bQ := eq_true bQ;have bR : 0 ≤ (aa : Int) := od;have bS : aa < (aj.length : Int) := od;obtain ⟨aC, bf, bg, bj, bk, cD, ap, aq, ba, hi287_0, bb, hi287_1⟩ := at_T66 ck.out aa bR bS;have aR := aq; have aS := ap;cases cD;replace ap := (HB.out.cell (World.block_lt_of_cell? w _ ap)).trans ap;replace aq := (HB.out.cell (World.block_lt_of_cell? w _ aq)).trans aq;have bc := Aside0.mk hi287_0;have bB := Aside0.mk ba;clear hi287_0 ba;have bC := Aside0.mk hi287_1;have cA := Aside0.mk bb;clear hi287_1 bb; replace bR := eq_true bR; replace bS := eq_true bS;have cu : 0 ≤ (aa : Int) := od;have cv : aa < (ah.length : Int) := od;obtain ⟨cE, de, df, dg, dh, di, ax, ay, bD, hi289_0, bE, hi289_1⟩ := at_T66 cj.out aa cu cv;have bl := ay; have bm := ax;obtain rfl : aB = cE := (by injection di);replace ax := (HB.out.cell (World.block_lt_of_cell? w _ ax)).trans ax;replace ay := (HB.out.cell (World.block_lt_of_cell? w _ ay)).trans ay;have cf := Aside0.mk hi289_0;have cG := Aside0.mk bD;clear hi289_0 bD;have bF := Aside0.mk hi289_1;have cg := Aside0.mk bE;clear hi289_1 bE; replace cu := eq_true cu; replace cv := eq_true cv;have ea_ := Option.some.inj (an.symm.trans ax)
        injection ea_ with ea_ en_ ec_
        subst ea_;subst ec_;clear en_;have ea_ := Option.some.inj (ao.symm.trans ay)
        injection ea_ with ea_ en_ ec_
        subst ea_;subst ec_;clear en_;have cw : 0 ≤ (aa : Int) := od;have cx : aa < (aj.length : Int) := od;obtain ⟨cF, dj, dk, dl, dm, dn, az, aA, bG, hi290_0, bH, hi290_1⟩ := at_T66 ck.out aa cw cx;have bn := aA; have bo := az;obtain rfl : aC = cF := (by injection dn);replace az := (HB.out.cell (World.block_lt_of_cell? w _ az)).trans az;replace aA := (HB.out.cell (World.block_lt_of_cell? w _ aA)).trans aA;have ch := Aside0.mk hi290_0;have cH := Aside0.mk bG;clear hi290_0 bG;have bI := Aside0.mk hi290_1;have ci := Aside0.mk bH;clear hi290_1 bH; replace cw := eq_true cw; replace cx := eq_true cx;have ea_ := Option.some.inj (ap.symm.trans az)
        injection ea_ with ea_ en_ ec_
        subst ea_;subst ec_;clear en_;have ea_ := Option.some.inj (aq.symm.trans aA)
        injection ea_ with ea_ en_ ec_
        subst ea_;subst ec_;clear en_;refine start_ (n := 30) (S := fun w' => w'.cell? ⟨av, 0, none⟩ = some (.slice bJ ar.length bp) ∧ w'.cell? ⟨av, 1, none⟩ = some (.slice bK ai.length bq) ∧ w'.cell? ⟨av, 2, none⟩ = some (.slice (some aB) ah.length br) ∧ w'.cell? ⟨aw, 0, none⟩ = some (.slice bL au.length bt) ∧ w'.cell? ⟨aw, 1, none⟩ = some (.slice bM ak.length bu) ∧ w'.cell? ⟨aw, 2, none⟩ = some (.slice (some aC) aj.length bv) ∧ w'.cell? (aB.add ((aa).toNat * 2)) = some (.slice bd ((rd_T66 ah aa).f0).length be) ∧ w'.cell? ⟨(aB.add ((aa).toNat * 2)).block, (aB.add ((aa).toNat * 2)).off + 1, none⟩ = some (.slice bh ((rd_T66 ah aa).f1).length bi) ∧ w'.cell? (aC.add ((aa).toNat * 2)) = some (.slice bf ((rd_T66 aj aa).f0).length bg) ∧ w'.cell? ⟨(aC.add ((aa).toNat * 2)).block, (aC.add ((aa).toNat * 2)).off + 1, none⟩ = some (.slice bj ((rd_T66 aj aa).f1).length bk) ∧ w'.cell? (aB.add ((aa).toNat * 2)) = some (.slice bd ((rd_T66 ah aa).f0).length be) ∧ w'.cell? ⟨(aB.add ((aa).toNat * 2)).block, (aB.add ((aa).toNat * 2)).off + 1, none⟩ = some (.slice bh ((rd_T66 ah aa).f1).length bi) ∧ w'.cell? (aC.add ((aa).toNat * 2)) = some (.slice bf ((rd_T66 aj aa).f0).length bg) ∧ w'.cell? ⟨(aC.add ((aa).toNat * 2)).block, (aC.add ((aa).toNat * 2)).off + 1, none⟩ = some (.slice bj ((rd_T66 aj aa).f1).length bk)) (ds := []) (bs 30 0) (by kernel_rfl) rfl rfl ⟨kk ae 0, kk ae 1, kk ae 2, kk af 0, kk af 1, kk af 2, (kq HB aQ), (kq HB aP), (kq HB aS), (kq HB aR), (kq HB bm), (kq HB bl), (kq HB bo), (kq HB bn)⟩ (fun hHeld => ?_); refine with_tabW qba.tab18 qba.bits18 (fun HT_ HW_ => ?_);generalize wr.drew = w46 at ae af HB aZ bA bc bC cf bF ch bI an ao ap aq ax ay az aA hHeld ⊢;refine pu 0 (some 75) (bs 30 1) HT_ ?_;refine pu 2 (some 77) (bs 30 5) HT_ ?_;refine pu 6 (some 81) (bs 30 69) HT_ ?_;refine pu 8 (some 83) (bs 30 325) HT_ ?_;refine ta 1 (some 76) (bs 30 327) HT_ HW_ hHeld ?_;refine pu 3 (some 78) (bs 30 335) HT_ ?_;refine pu 4 (some 79) (bs 30 351) HT_ ?_;refine ta 5 (some 80) (bs 30 383) HT_ HW_ hHeld ?_;refine ta 7 (some 82) (bs 30 511) HT_ HW_ hHeld ?_;refine pu 9 (some 84) (bs 30 1023) HT_ ?_;refine pu 10 (some 85) (bs 30 2047) HT_ ?_;refine ta 11 (some 86) (bs 30 4095) HT_ HW_ hHeld ?_;refine one_ (i := 12) (N := some 87) (bs 30 8191) rfl rfl (one_of HT_.out (by kernel_rfl)) (by decide) (fun K hK => ?_);refine goes_ Try.func56 (by kernel_rfl) rfl #[.slice bd ((rd_T66 ah aa).f0).length be, .slice bf ((rd_T66 aj aa).f0).length bg] (by rfl) rfl rfl (by (try simp only [qM1, qM2, qM3]); first | done | rfl) ?_;(with_reducible refine (qha.calls k4 _ _ ((rd_T66 ah aa).f0) _ _ ((rd_T66 aj aa).f0) true _ ?side1 ?side2 ?side3 ?side4 A42.out).mono ?_);(case side1 => repeat (first | exact (Kd.C_below aZ.out HB.out) | (with_reducible first | refine Kd.C_alloc ?_ _ | refine Kd.C_drewN ?_ _ | refine Kd.C_drew ?_)));(case side2 => exact bz.out);(case side3 => repeat (first | exact (Kd.C_below bc.out HB.out) | (with_reducible first | refine Kd.C_alloc ?_ _ | refine Kd.C_drewN ?_ _ | refine Kd.C_drew ?_)));(case side4 => exact bB.out);rintro e w' ⟨rfl, ⟨nd, rfl⟩⟩;refine ⟨_, rfl, ?_⟩;refine hK.out _ _ ⟨kk ae 0, kk ae 1, kk ae 2, kk af 0, kk af 1, kk af 2, (kq HB aQ), (kq HB aP), (kq HB aS), (kq HB aR), (kq HB bm), (kq HB bl), (kq HB bo), (kq HB bn)⟩ (fun hHeld => ?_);clear hK K;refine no (some 87) ?_;refine pu 13 (some 88) (bs 30 16383) HT_ ?_;refine pu 14 (some 89) (bs 30 32767) HT_ ?_;refine pu 15 (some 90) (bs 30 65535) HT_ ?_;refine pu 17 (some 92) (bs 30 196607) HT_ ?_;refine pu 21 (some 96) (bs 30 2293759) HT_ ?_;refine pu 23 (some 98) (bs 30 10682367) HT_ ?_;refine ta 16 (some 91) (bs 30 10747903) HT_ HW_ hHeld ?_;refine pu 18 (some 93) (bs 30 11010047) HT_ ?_;refine pu 19 (some 94) (bs 30 11534335) HT_ ?_;refine ta 20 (some 95) (bs 30 12582911) HT_ HW_ hHeld ?_;refine ta 22 (some 97) (bs 30 16777215) HT_ HW_ hHeld ?_;refine pu 24 (some 99) (bs 30 33554431) HT_ ?_;refine pu 25 (some 100) (bs 30 67108863) HT_ ?_;refine ta 26 (some 101) (bs 30 134217727) HT_ HW_ hHeld ?_;refine one_ (i := 27) (N := some 102) (bs 30 268435455) rfl rfl (one_of HT_.out (by kernel_rfl)) (by decide) (fun K hK => ?_);refine goes_ Try.func56 (by kernel_rfl) rfl #[.slice bh ((rd_T66 ah aa).f1).length bi, .slice bj ((rd_T66 aj aa).f1).length bk] (by rfl) rfl rfl (by (try simp only [qM1, qM2, qM3]); first | done | rfl) ?_;(with_reducible refine (qha.calls k4 _ _ ((rd_T66 ah aa).f1) _ _ ((rd_T66 aj aa).f1) true _ ?side1 ?side2 ?side3 ?side4 A44.out).mono ?_);(case side1 => repeat (first | exact (Kd.C_below bF.out (kh HB)) | (with_reducible first | refine Kd.C_alloc ?_ _ | refine Kd.C_drewN ?_ _ | refine Kd.C_drew ?_)));(case side2 => exact cg.out);(case side3 => repeat (first | exact (Kd.C_below bI.out (kh HB)) | (with_reducible first | refine Kd.C_alloc ?_ _ | refine Kd.C_drewN ?_ _ | refine Kd.C_drew ?_)));(case side4 => exact ci.out);rintro e w' ⟨rfl, ⟨nd, rfl⟩⟩;refine ⟨_, rfl, ?_⟩;refine hK.out _ _ ⟨kk ae 0, kk ae 1, kk ae 2, kk af 0, kk af 1, kk af 2, (kq HB aQ), (kq HB aP), (kq HB aS), (kq HB aR), (kq HB bm), (kq HB bl), (kq HB bo), (kq HB bn)⟩ (fun hHeld => ?_);clear hK K;refine no (some 102) ?_;refine pu 28 (some 103) (bs 30 536870911) HT_ ?_;refine pu 29 (some 104) (bs 30 1073741823) HT_ ?_;refine done_ (done_of HT_.out (by kernel_rfl)) ?_;(try go_wp2);go_roundg k4
        case measure => have := HJ2.out; have := HK2.out; have := HK3.out; have := HK4.out; omega
        case rel => exact ⟨(wrap64 (aa + 1)), et, H', ⟨by have := HJ2.out; have := HK2.out; have := HK3.out; have := HK4.out; omega⟩, ⟨kg ae⟩, ⟨kg af⟩, ⟨kh HB⟩⟩
end Go.Proofs.Ytmlbliggbkfjnaa.J
namespace Go.Proofs.Ytmlbliggbkfjnaa.J
open Go.RowKit Go.Proofs.YtmlbliggbkfjnaaW.PrintWords Go.Proofs.YtmlbliggbkfjnaaW.PrintLast Go.Proofs.YtmlbliggbkfjnaaW.PrintMore
attribute [local go_sem] max2_int min2_int max_two min_two max_three min_three max_four min_four
def qra.f (k : Nat)  : Option (Bool) := (some (([(⟨1, false⟩ : S64)] : List (S64)) : List (S64))).bind fun ab => ((tune_Tune.f k 7 ab (([(⟨2, 0, 0, 2⟩ : S61), (⟨1, 0, 0, 0⟩ : S61), (⟨5, 0, 1, 0⟩ : S61), (⟨5, 2, 2, 0⟩ : S61)] : List (S61))) (([(⟨([] : List Int), (([3] : List Int))⟩ : S66)] : List (S66)))).bind fun aa => (if aa.2.2.2 = 0 then ((qba.f k aa.1 aa.2.1 aa.2.2.1 ab (([(⟨1, 0, 0, 0⟩ : S61), (⟨6, 0, 0, 2⟩ : S61), (⟨5, 1, 1, 0⟩ : S61)] : List (S61))) (([(⟨([] : List Int), (([2] : List Int))⟩ : S66)] : List (S66)))).bind fun ae => (if ae = true then ((tune_Levels.f k aa.1 aa.2.1 aa.2.2.1).bind fun af => ((qja.f k af (([0, 0, 1] : List Int))).bind fun ag => (some ag))) else (some false))) else (some false)))
theorem qra.mono : ∀ k, LeO (qra.f k ) (qra.f (k + 1) ) := by
 intro  k;unfold qra.f
 repeat' first
   | (with_reducible exact qja.mono _ _ _)
   | (with_reducible exact qba.mono _ _ _ _ _ _ _)
   | (with_reducible exact tune_Levels.mono _ _ _ _)
   | (with_reducible exact tune_Tune.mono _ _ _ _ _)
   | (with_reducible exact LeO.refl _)
   | (with_reducible exact LeO.none _)
   | (with_reducible refine LeO.ite ?_ ?_)
   | (with_reducible refine LeO.bind ?_ (fun _ => ?_))
   | exact qja.mono _ _ _
   | exact qba.mono _ _ _ _ _ _ _
   | exact tune_Levels.mono _ _ _ _
   | exact tune_Tune.mono _ _ _ _ _
   | exact LeO.none _
   | refine LeO.ite ?_ ?_
   | refine LeO.bind ?_ (fun _ => ?_)
theorem qra.calls (k : Nat)  (r : Bool) (w : World) (h : qra.f k  = some r) (hrt : r = true := by rfl) :
  Calls Try.prog 15 #[] w fun e w' => e = .returned (.bool r) ∧ Below w.heap.size w w' := by
 have HRT := Aside0.mk hrt;clear hrt;have hu64 := Try.underlying64;have hu61 := Try.underlying61;have hu66 := Try.underlying66;have hu26 := Try.underlying26;have HB := Aside0.mk (Below.refl w.heap.size w);have H : ((some (([(⟨1, false⟩ : S64)] : List (S64)) : List (S64))).bind fun aj => ((tune_Tune.f k 7 aj (([(⟨2, 0, 0, 2⟩ : S61), (⟨1, 0, 0, 0⟩ : S61), (⟨5, 0, 1, 0⟩ : S61), (⟨5, 2, 2, 0⟩ : S61)] : List (S61))) (([(⟨([] : List Int), (([3] : List Int))⟩ : S66)] : List (S66)))).bind fun aa => (if aa.2.2.2 = 0 then ((qba.f k aa.1 aa.2.1 aa.2.2.1 aj (([(⟨1, 0, 0, 0⟩ : S61), (⟨6, 0, 0, 2⟩ : S61), (⟨5, 1, 1, 0⟩ : S61)] : List (S61))) (([(⟨([] : List Int), (([2] : List Int))⟩ : S66)] : List (S66)))).bind fun aD => (if aD = true then ((tune_Levels.f k aa.1 aa.2.1 aa.2.2.1).bind fun aA => ((qja.f k aA (([0, 0, 1] : List Int))).bind fun aB => (some aB))) else (some false))) else (some false)))) = some r := h;clear h;obtain ⟨aj, aU⟩ : ∃ y_ : List (S64), y_ = (([(⟨1, false⟩ : S64)] : List (S64))) := ⟨_, rfl⟩
 replace H : ((tune_Tune.f k 7 aj (([(⟨2, 0, 0, 2⟩ : S61), (⟨1, 0, 0, 0⟩ : S61), (⟨5, 0, 1, 0⟩ : S61), (⟨5, 2, 2, 0⟩ : S61)] : List (S61))) (([(⟨([] : List Int), (([3] : List Int))⟩ : S66)] : List (S66)))).bind fun aa => (if aa.2.2.2 = 0 then ((qba.f k aa.1 aa.2.1 aa.2.2.1 aj (([(⟨1, 0, 0, 0⟩ : S61), (⟨6, 0, 0, 2⟩ : S61), (⟨5, 1, 1, 0⟩ : S61)] : List (S61))) (([(⟨([] : List Int), (([2] : List Int))⟩ : S66)] : List (S66)))).bind fun aD => (if aD = true then ((tune_Levels.f k aa.1 aa.2.1 aa.2.2.1).bind fun aA => ((qja.f k aA (([0, 0, 1] : List Int))).bind fun aB => (some aB))) else (some false))) else (some false))) = some r := by first | (rw [aU]; with_reducible exact H) | (have H2_ := (Option.bind_some _ _).symm.trans H; rw [aU]; with_reducible exact H2_) | (have H2_ := (Option.bind_some _ _).symm.trans H; with_reducible exact H2_) | with_reducible exact H | (rw [aU]; exact H) | exact H
 have bv := Aside0.mk aU;clear aU;obtain ⟨av, aV⟩ : ∃ y_ : List (S61), y_ = (([(⟨2, 0, 0, 2⟩ : S61), (⟨1, 0, 0, 0⟩ : S61), (⟨5, 0, 1, 0⟩ : S61), (⟨5, 2, 2, 0⟩ : S61)] : List (S61))) := ⟨_, rfl⟩
 replace H : ((tune_Tune.f k 7 aj av (([(⟨([] : List Int), (([3] : List Int))⟩ : S66)] : List (S66)))).bind fun aa => (if aa.2.2.2 = 0 then ((qba.f k aa.1 aa.2.1 aa.2.2.1 aj (([(⟨1, 0, 0, 0⟩ : S61), (⟨6, 0, 0, 2⟩ : S61), (⟨5, 1, 1, 0⟩ : S61)] : List (S61))) (([(⟨([] : List Int), (([2] : List Int))⟩ : S66)] : List (S66)))).bind fun aD => (if aD = true then ((tune_Levels.f k aa.1 aa.2.1 aa.2.2.1).bind fun aA => ((qja.f k aA (([0, 0, 1] : List Int))).bind fun aB => (some aB))) else (some false))) else (some false))) = some r := by first | (rw [aV]; with_reducible exact H) | (have H2_ := (Option.bind_some _ _).symm.trans H; rw [aV]; with_reducible exact H2_) | (have H2_ := (Option.bind_some _ _).symm.trans H; with_reducible exact H2_) | with_reducible exact H | (rw [aV]; exact H) | exact H
 have bw := Aside0.mk aV;clear aV;obtain ⟨bd, aW⟩ : ∃ y_ : List Int, y_ = (([3] : List Int)) := ⟨_, rfl⟩
 replace H : ((tune_Tune.f k 7 aj av (([(⟨([] : List Int), bd⟩ : S66)] : List (S66)))).bind fun aa => (if aa.2.2.2 = 0 then ((qba.f k aa.1 aa.2.1 aa.2.2.1 aj (([(⟨1, 0, 0, 0⟩ : S61), (⟨6, 0, 0, 2⟩ : S61), (⟨5, 1, 1, 0⟩ : S61)] : List (S61))) (([(⟨([] : List Int), (([2] : List Int))⟩ : S66)] : List (S66)))).bind fun aD => (if aD = true then ((tune_Levels.f k aa.1 aa.2.1 aa.2.2.1).bind fun aA => ((qja.f k aA (([0, 0, 1] : List Int))).bind fun aB => (some aB))) else (some false))) else (some false))) = some r := by first | (rw [aW]; with_reducible exact H) | (have H2_ := (Option.bind_some _ _).symm.trans H; rw [aW]; with_reducible exact H2_) | (have H2_ := (Option.bind_some _ _).symm.trans H; with_reducible exact H2_) | with_reducible exact H | (rw [aW]; exact H) | exact H
 have bx := Aside0.mk aW;clear aW;obtain ⟨aE, aX⟩ : ∃ y_ : List (S66), y_ = (([(⟨([] : List Int), bd⟩ : S66)] : List (S66))) := ⟨_, rfl⟩
 replace H : ((tune_Tune.f k 7 aj av aE).bind fun aa => (if aa.2.2.2 = 0 then ((qba.f k aa.1 aa.2.1 aa.2.2.1 aj (([(⟨1, 0, 0, 0⟩ : S61), (⟨6, 0, 0, 2⟩ : S61), (⟨5, 1, 1, 0⟩ : S61)] : List (S61))) (([(⟨([] : List Int), (([2] : List Int))⟩ : S66)] : List (S66)))).bind fun aD => (if aD = true then ((tune_Levels.f k aa.1 aa.2.1 aa.2.2.1).bind fun aA => ((qja.f k aA (([0, 0, 1] : List Int))).bind fun aB => (some aB))) else (some false))) else (some false))) = some r := by first | (rw [aX]; with_reducible exact H) | (have H2_ := (Option.bind_some _ _).symm.trans H; rw [aX]; with_reducible exact H2_) | (have H2_ := (Option.bind_some _ _).symm.trans H; with_reducible exact H2_) | with_reducible exact H | (rw [aX]; exact H) | exact H
 have bz := Aside0.mk aX;clear aX;replace H := Option.bind_eq_some_iff.mp H;obtain ⟨⟨aC, aw, az, bp⟩, A10, H⟩ := H;(try dsimp only at H);have A1 := Aside0.mk A10;clear A10;obtain ⟨aK, aY⟩ : ∃ y_ : List (S61), y_ = (([(⟨1, 0, 0, 0⟩ : S61), (⟨6, 0, 0, 2⟩ : S61), (⟨5, 1, 1, 0⟩ : S61)] : List (S61))) := ⟨_, rfl⟩
 replace H : (if bp = 0 then ((qba.f k aC aw az aj aK (([(⟨([] : List Int), (([2] : List Int))⟩ : S66)] : List (S66)))).bind fun aD => (if aD = true then ((tune_Levels.f k aC aw az).bind fun aA => ((qja.f k aA (([0, 0, 1] : List Int))).bind fun aB => (some aB))) else (some false))) else (some false)) = some r := by first | (rw [aY]; with_reducible exact H) | (have H2_ := (Option.bind_some _ _).symm.trans H; rw [aY]; with_reducible exact H2_) | (have H2_ := (Option.bind_some _ _).symm.trans H; with_reducible exact H2_) | with_reducible exact H | (rw [aY]; exact H) | exact H
 have bA := Aside0.mk aY;clear aY;obtain ⟨be, aZ⟩ : ∃ y_ : List Int, y_ = (([2] : List Int)) := ⟨_, rfl⟩
 replace H : (if bp = 0 then ((qba.f k aC aw az aj aK (([(⟨([] : List Int), be⟩ : S66)] : List (S66)))).bind fun aD => (if aD = true then ((tune_Levels.f k aC aw az).bind fun aA => ((qja.f k aA (([0, 0, 1] : List Int))).bind fun aB => (some aB))) else (some false))) else (some false)) = some r := by first | (rw [aZ]; with_reducible exact H) | (have H2_ := (Option.bind_some _ _).symm.trans H; rw [aZ]; with_reducible exact H2_) | (have H2_ := (Option.bind_some _ _).symm.trans H; with_reducible exact H2_) | with_reducible exact H | (rw [aZ]; exact H) | exact H
 have bB := Aside0.mk aZ;clear aZ;obtain ⟨aS, ba⟩ : ∃ y_ : List (S66), y_ = (([(⟨([] : List Int), be⟩ : S66)] : List (S66))) := ⟨_, rfl⟩
 replace H : (if bp = 0 then ((qba.f k aC aw az aj aK aS).bind fun aD => (if aD = true then ((tune_Levels.f k aC aw az).bind fun aA => ((qja.f k aA (([0, 0, 1] : List Int))).bind fun aB => (some aB))) else (some false))) else (some false)) = some r := by first | (rw [ba]; with_reducible exact H) | (have H2_ := (Option.bind_some _ _).symm.trans H; rw [ba]; with_reducible exact H2_) | (have H2_ := (Option.bind_some _ _).symm.trans H; with_reducible exact H2_) | with_reducible exact H | (rw [ba]; exact H) | exact H
 have bC := Aside0.mk ba;clear ba
 by_cases c2 : bp = 0
 rotate_left
 ·rw [if_neg c2] at H
  have bJ := beq_eq_false_iff_ne.mpr c2;have bK := bne_iff_ne.mpr c2;exact absurd ((Option.some.inj H).trans HRT.out) (by decide)
 rw [if_pos c2] at H;have bJ := beq_iff_eq.mpr c2;have bK := bne_eq_false_iff_eq.mpr c2;clear c2;replace H := Option.bind_eq_some_iff.mp H;obtain ⟨aD, A30, H⟩ := H;(try dsimp only at H);have A3 := Aside0.mk A30;clear A30
 by_cases c4 : aD = true
 rotate_left
 ·replace c4 := Bool.eq_false_iff.mpr c4
  subst c4;replace H := ifF H;exact absurd ((Option.some.inj H).trans HRT.out) (by decide)
 subst c4;replace H := ifT H;replace H := Option.bind_eq_some_iff.mp H;obtain ⟨aA, A50, H⟩ := H;(try dsimp only at H);have A5 := Aside0.mk A50;clear A50;obtain ⟨bE, bb⟩ : ∃ y_ : List Int, y_ = (([0, 0, 1] : List Int)) := ⟨_, rfl⟩
 replace H : ((qja.f k aA bE).bind fun aB => (some aB)) = some r := by first | (rw [bb]; with_reducible exact H) | (have H2_ := (Option.bind_some _ _).symm.trans H; rw [bb]; with_reducible exact H2_) | (have H2_ := (Option.bind_some _ _).symm.trans H; with_reducible exact H2_) | with_reducible exact H | (rw [bb]; exact H) | exact H
 have bD := Aside0.mk bb;clear bb;replace H := Option.bind_eq_some_iff.mp H;obtain ⟨aB, A60, H⟩ := H;(try dsimp only at H);have A6 := Aside0.mk A60;clear A60;obtain rfl := Option.some.inj H;go_enter Try.func15, Try.ntmps15;go_wp2_with (first | ((with_reducible refine qea (N := 6) rfl ?_); (try (refine gate_guard (by rfl) ?_; dsimp only)); refine Kd.R_lit k64 _ 64 ?hg (N := 6) ?hd (xs := ([(⟨1, false⟩ : S64)] : List (S64))) (inner := [.int .i64 1, .bool false]) (ok := fun _ => True) (okp := fun _ => True) ?hr ?hp (fun _ hk => hk) trivial (Below.refl _ _) (Nat.le_refl _) (by simp) ?_; (case hd => rfl); (case hg => rfl); (case hr => first | (go_simp; done) | (go_simp; rfl)); (case hp => exact (Reps.c2 (show Kd.M k64 _ _ _ (⟨1, false⟩ : S64) [.int .i64 1, .bool false] from (k64_mkM _ _ _ (⟨1, false⟩ : S64) )) (Reps.none _ _))); intro bq w7 ho8 hb hg_ hnew_; clear hg_ hnew_; (first | rw [← bv.out] at ho8 | (simp only [Int.reduceToNat] at ho8; rw [← bv.out] at ho8)); have ab := kLR ho8 HB; replace HB := kH HB hb; clear hb ho8) | ((with_reducible refine qea (N := 11) rfl ?_); (try (refine gate_guard (by rfl) ?_; dsimp only)); refine Kd.R_lit k61 _ 61 ?hg (N := 11) ?hd (xs := ([(⟨2, 0, 0, 2⟩ : S61), (⟨1, 0, 0, 0⟩ : S61), (⟨5, 0, 1, 0⟩ : S61), (⟨5, 2, 2, 0⟩ : S61)] : List (S61))) (inner := [.int .i64 2, .int .i64 0, .int .i64 0, .int .u64 2, .int .i64 1, .int .i64 0, .int .i64 0, .int .u64 0, .int .i64 5, .int .i64 0, .int .i64 1, .int .u64 0, .int .i64 5, .int .i64 2, .int .i64 2, .int .u64 0]) (ok := fun _ => True) (okp := fun _ => True) ?hr ?hp (fun _ hk => hk) trivial (Below.refl _ _) (Nat.le_refl _) (by simp) ?_; (case hd => rfl); (case hg => rfl); (case hr => first | (go_simp; done) | (go_simp; rfl)); (case hp => exact (Reps.c4 (show Kd.M k61 _ _ _ (⟨2, 0, 0, 2⟩ : S61) [.int .i64 2, .int .i64 0, .int .i64 0, .int .u64 2] from (k61_mkM _ _ _ (⟨2, 0, 0, 2⟩ : S61) )) (Reps.c4 (show Kd.M k61 _ _ _ (⟨1, 0, 0, 0⟩ : S61) [.int .i64 1, .int .i64 0, .int .i64 0, .int .u64 0] from (k61_mkM _ _ _ (⟨1, 0, 0, 0⟩ : S61) )) (Reps.c4 (show Kd.M k61 _ _ _ (⟨5, 0, 1, 0⟩ : S61) [.int .i64 5, .int .i64 0, .int .i64 1, .int .u64 0] from (k61_mkM _ _ _ (⟨5, 0, 1, 0⟩ : S61) )) (Reps.c4 (show Kd.M k61 _ _ _ (⟨5, 2, 2, 0⟩ : S61) [.int .i64 5, .int .i64 2, .int .i64 2, .int .u64 0] from (k61_mkM _ _ _ (⟨5, 2, 2, 0⟩ : S61) )) (Reps.none _ _)))))); intro br w9 ho10 hb hg_ hnew_; clear hg_ hnew_; (first | rw [← bw.out] at ho10 | (simp only [Int.reduceToNat] at ho10; rw [← bw.out] at ho10)); replace ab := kR ab hb; have ae := kLR ho10 HB; replace HB := kH HB hb; clear hb ho10) | ((with_reducible refine qea (N := 12) rfl ?_); (try (refine gate_guard (by rfl) ?_; dsimp only)); refine Kd.R_lit (Kd.int .i64) _ 3 ?hg (N := 12) ?hd (xs := ([3] : List Int)) (inner := [.int .i64 3]) (ok := fun _ => True) (okp := fun _ => True) ?hr ?hp (fun _ hk => hk) trivial (Below.refl _ _) (Nat.le_refl _) (by simp) ?_; (case hd => rfl); (case hg => rfl); (case hr => first | (go_simp; done) | (go_simp; rfl)); (case hp => exact (Reps.one (show Kd.M (Kd.int .i64) _ _ _ 3 [.int .i64 3] from rfl) (Reps.none _ _))); intro cl w11 ho12 hb hg_ hnew_; clear hg_ hnew_; (first | rw [← bx.out] at ho12 | (simp only [Int.reduceToNat] at ho12; rw [← bx.out] at ho12)); replace ab := kR ab hb; replace ae := kR ae hb; have bg := kLR ho12 HB; replace HB := kH HB hb; clear hb ho12; obtain ⟨bF, bG, bL⟩ := Kd.R_slice bg.out; subst bL) | ((with_reducible refine qea (N := 14) rfl ?_); (try (refine gate_guard (by rfl) ?_; dsimp only)); refine Kd.N_lit k66 _ 66 ?hg (N' := 14) ?hd (xs := ([(⟨([] : List Int), bd⟩ : S66)] : List (S66))) (inner := [.slice none 0 0, .slice bF bd.length bG]) (ok := (fun k_ => some k_ ≠ (bq : Value).ownBlock ∧ some k_ ≠ (br : Value).ownBlock)) (okp := (fun k_ => some k_ ≠ (bq : Value).ownBlock ∧ some k_ ≠ (br : Value).ownBlock)) ?hr ?hp (fun _ hk => hk) ((show ∀ k_, w11.heap.size ≤ k_ → (fun k_ => some k_ ≠ (bq : Value).ownBlock ∧ some k_ ≠ (br : Value).ownBlock) k_ from fun k_ hk => ⟨Kd.fresh' (Kd.R_lt (krR ab)) k_ hk, Kd.fresh' (Kd.R_lt (krR ae)) k_ hk⟩) _ (Nat.le_refl _)) (Below.refl _ _) (Nat.le_refl _) (by simp) ?_; (case hd => rfl); (case hg => rfl); (case hr => first | (go_simp; done) | (go_simp; rfl)); (case hp => exact (Reps.c2 (show Kd.FK k66 _ _ (⟨([] : List Int), bd⟩ : S66) [.slice none 0 0, .slice bF bd.length bG] from (k66_mkF _ _ (⟨([] : List Int), bd⟩ : S66) (Nat.le_refl _) (Kd.F_nil _ _ _) (Kd.R_reads' (Kd.R_mono (ok' := (fun k_ => some k_ ≠ (bq : Value).ownBlock ∧ some k_ ≠ (br : Value).ownBlock)) (Kd.R_apart' (Kd.R_apart' (bg.out) (Kd.R_typed ab.out) (by decide)) (Kd.R_typed ae.out) (by decide)) (fun k_ hk => ⟨hk.1.2, hk.2⟩))).2.1 (Kd.R_F (Kd.R_mono (ok' := (fun k_ => some k_ ≠ (bq : Value).ownBlock ∧ some k_ ≠ (br : Value).ownBlock)) (Kd.R_apart' (Kd.R_apart' (bg.out) (Kd.R_typed ab.out) (by decide)) (Kd.R_typed ae.out) (by decide)) (fun k_ hk => ⟨hk.1.2, hk.2⟩))))) (Reps.none _ _))); intro cm w14 ho15 hb hg_ hnew_; clear hg_ hnew_; (first | rw [← bz.out] at ho15 | (simp only [Int.reduceToNat] at ho15; rw [← bz.out] at ho15)); replace ab := kR ab hb; replace ae := kR ae hb; have ah := kLN ho15 HB; replace HB := kH HB hb; clear bg; clear hb ho15; obtain ⟨aJ, aI, bM⟩ := Kd.N_slice ah.out; subst bM; obtain ⟨aF, aG, bN⟩ := Kd.R_slice ae.out; subst bN; obtain ⟨ax, ay, bO⟩ := Kd.R_slice ab.out; subst bO) | ((with_reducible refine qea (N := 1) rfl ?_); (try (refine gate_guard (by rfl) ?_; dsimp only)); refine box_event ?hg (N := 1) ?hd (cs := #[.slice none 0 0, .slice none 0 0, .slice none 0 0]) (t := 26) ?hr ?_; (case hd => rfl); (case hg => rfl); (case hr => first | (go_simp; done) | (go_simp; rfl)); intro ap hg w19 hbox hb; replace ab := kR ab hb; replace ae := kR ae hb; replace ah := Aside0.mk (Kd.N_below (Kd.N_elderB (krN ah) ap (Nat.le_of_eq hg.symm)) hb); have af := am hbox; have bZ := kG HB hg; have ca := kG HB hg; replace HB := kH HB hb; clear hb hbox hg; have Z20 := kz3 af) | ((with_reducible refine gate_callee (f := 24) rfl ?_); refine goesL_ (some 18) rfl rfl Try.func24 (by kernel_rfl) rfl #[.int .u64 7, .agg #[.slice ax aj.length ay, .slice aF av.length aG, .slice aJ aE.length aI]] rfl (by (try simp only [qM1, qM2, qM3]); first | done | rfl) ?_; (with_reducible refine (tune_Tune.calls k 7 _ _ aj _ _ av _ _ aE aC aw az bp _ ?side1 ?side2 ?side3 ?side4 ?side5 ?side6 A1.out).mono ?_); (case side1 => exact (Kd.R_reads' (kt ab af)).2.2); (case side2 => exact (Kd.R_reads' ab.out).2.1); (case side3 => exact (Kd.R_reads' (kt ae af)).2.2); (case side4 => exact (Kd.R_reads' ae.out).2.1); (case side5 => refine (Kd.N_reads' (e := 66) (base := w.heap.size) (ok := fun k_ => ((some k_ ≠ (.slice ax aj.length ay : Value).ownBlock ∧ some k_ ≠ (.slice aF av.length aG : Value).ownBlock) ∧ k_ ≠ ap)) (n := aE.length) (c := aI) ?_).2.2; exact (by (with_reducible repeat first | apply Kd.N_alloc | apply Kd.N_drewN | apply Kd.N_drew); exact (Kd.N_mono (Kd.N_far (p := ⟨ap, 2, none⟩) (Kd.N_far (p := ⟨ap, 1, none⟩) (Kd.N_far (p := ⟨ap, 0, none⟩) (Kd.N_mono ah.out (fun k_ hk => (⟨hk, hk.2⟩ : _ ∧ k_ ≠ ap))) (fun _ hk => hk.2) (.slice ax aj.length ay)) (fun _ hk => hk.2) (.slice aF av.length aG)) (fun _ hk => hk.2) (.slice aJ aE.length aI)) (fun _ h_ => h_.1)))); (case side6 => exact (Kd.N_reads' ah.out).2.1); rintro e w21 ⟨bP, bQ, cn, rfl, ho0, ho1, ho2, hb⟩; refine ⟨_, rfl, ?_⟩; have ak := Aside0.mk (Kd.R_lower (Kd.R_new' ho0 (Kd.R_lt (kt ab af))) (below_size (kh HB))); have ai := Aside0.mk (Kd.R_lower (Kd.R_new' ho1 (Kd.R_lt (kt ae af))) (below_size (kh HB))); have an := Aside0.mk (Kd.N_lower (Kd.N_mono (ok' := fun k_ => some k_ ≠ (bP : Value).ownBlock ∧ some k_ ≠ (bQ : Value).ownBlock ∧ some k_ ≠ (.slice ax aj.length ay : Value).ownBlock ∧ some k_ ≠ (.slice aF av.length aG : Value).ownBlock ∧ some k_ ≠ (.slice aJ aE.length aI : Value).ownBlock ∧ k_ ≠ ap) (Kd.S_N (Kd.S_bound (Kd.S_apart' (Kd.S_apart' ho2 (Kd.R_typed ho0) (by decide)) (Kd.R_typed ho1) (by decide)))) (fun k_ hk_ => ⟨hk_.1.1.2, hk_.1.2, (Kd.fresh' (Kd.R_lt (kt ab af)) k_ hk_.2.1), (Kd.fresh' (Kd.R_lt (kt ae af)) k_ hk_.2.1), (Kd.fresh' (Kd.N_lt (by (with_reducible repeat first | apply Kd.N_alloc | apply Kd.N_drewN | apply Kd.N_drew); exact (Kd.N_mono (Kd.N_far (p := ⟨ap, 2, none⟩) (Kd.N_far (p := ⟨ap, 1, none⟩) (Kd.N_far (p := ⟨ap, 0, none⟩) (Kd.N_mono ah.out (fun k_ hk => (⟨hk, hk.2⟩ : _ ∧ k_ ≠ ap))) (fun _ hk => hk.2) (.slice ax aj.length ay)) (fun _ hk => hk.2) (.slice aF av.length aG)) (fun _ hk => hk.2) (.slice aJ aE.length aI)) (fun _ h_ => h_.1)))) k_ hk_.2.1), (Kd.freshB (g := ap) (o := .cells #[.slice ax aj.length ay, .slice aF av.length aG, .slice aJ aE.length aI] 26 (0, 0)) (kg af) k_ hk_.2.1)⟩)) (below_size (kh HB))); replace ab := Aside0.mk (Kd.R_elder' (kt ab af) (Kd.R_base ho0) hb); replace ae := Aside0.mk (Kd.R_elder' (kt ae af) (Kd.R_base ho1) hb); replace ah := Aside0.mk (Kd.N_mono (Kd.N_told (Kd.N_told (Kd.N_told (Kd.N_old (by (with_reducible repeat first | apply Kd.N_alloc | apply Kd.N_drewN | apply Kd.N_drew); exact (Kd.N_mono (Kd.N_far (p := ⟨ap, 2, none⟩) (Kd.N_far (p := ⟨ap, 1, none⟩) (Kd.N_far (p := ⟨ap, 0, none⟩) (Kd.N_mono ah.out (fun k_ hk => (⟨hk, hk.2⟩ : _ ∧ k_ ≠ ap))) (fun _ hk => hk.2) (.slice ax aj.length ay)) (fun _ hk => hk.2) (.slice aF av.length aG)) (fun _ hk => hk.2) (.slice aJ aE.length aI)) (fun _ h_ => h_.1))) hb) (Kd.R_base ho0)) (Kd.R_base ho1)) (Kd.S_base ho2)) (fun _ h_ => h_.1)); replace af := kO (o' := .cells #[.slice ax aj.length ay, .slice aF av.length aG, .slice aJ aE.length aI] 26 (0, 0)) af hb; replace HB := kH HB hb; (try clear hb); (try clear hb2); (try clear hk); (try clear hi); (try clear ho0); (try clear ho1); (try clear ho2)) | ((with_reducible refine qea (N := 2) rfl ?_); (try (refine gate_guard (by rfl) ?_; dsimp only)); refine box_event ?hg (N := 2) ?hd (cs := #[.slice none 0 0, .slice none 0 0, .slice none 0 0]) (t := 26) ?hr ?_; (case hd => rfl); (case hg => rfl); (case hr => first | (go_simp; done) | (go_simp; rfl)); intro ar hg w22 hbox hb; replace ab := kR ab hb; replace ae := kR ae hb; replace ah := Aside0.mk (Kd.N_below (Kd.N_elderB (krN ah) ar (Nat.le_of_eq hg.symm)) hb); replace ak := kR ak hb; replace ai := kR ai hb; replace an := Aside0.mk (Kd.N_below (Kd.N_elderB (krN an) ar (Nat.le_of_eq hg.symm)) hb); have ag := am hbox; have cb := kG HB hg; have cc := kG HB hg; replace HB := kH HB hb; have bi := kP af hg; have bj := kQ af hg; replace af := kU af hb; clear hb hbox hg; obtain ⟨aO, aP, bR⟩ := Kd.R_slice ak.out; subst bR; have cd := bj.out; have ce := bi.out; have Z25 := kz3 ag; obtain ⟨aM, aL, bS⟩ := Kd.R_slice ai.out; subst bS; obtain ⟨aQ, aN, bT⟩ := Kd.N_slice an.out; subst bT; have Z28 := kz3 af) | ((with_reducible refine qea (N := 26) rfl ?_); (try (refine gate_guard (by rfl) ?_; dsimp only)); refine Kd.R_lit k61 _ 61 ?hg (N := 26) ?hd (xs := ([(⟨1, 0, 0, 0⟩ : S61), (⟨6, 0, 0, 2⟩ : S61), (⟨5, 1, 1, 0⟩ : S61)] : List (S61))) (inner := [.int .i64 1, .int .i64 0, .int .i64 0, .int .u64 0, .int .i64 6, .int .i64 0, .int .i64 0, .int .u64 2, .int .i64 5, .int .i64 1, .int .i64 1, .int .u64 0]) (ok := fun _ => True) (okp := fun _ => True) ?hr ?hp (fun _ hk => hk) trivial (Below.refl _ _) (Nat.le_refl _) (by simp) ?_; (case hd => rfl); (case hg => rfl); (case hr => first | (go_simp; done) | (go_simp; rfl)); (case hp => exact (Reps.c4 (show Kd.M k61 _ _ _ (⟨1, 0, 0, 0⟩ : S61) [.int .i64 1, .int .i64 0, .int .i64 0, .int .u64 0] from (k61_mkM _ _ _ (⟨1, 0, 0, 0⟩ : S61) )) (Reps.c4 (show Kd.M k61 _ _ _ (⟨6, 0, 0, 2⟩ : S61) [.int .i64 6, .int .i64 0, .int .i64 0, .int .u64 2] from (k61_mkM _ _ _ (⟨6, 0, 0, 2⟩ : S61) )) (Reps.c4 (show Kd.M k61 _ _ _ (⟨5, 1, 1, 0⟩ : S61) [.int .i64 5, .int .i64 1, .int .i64 1, .int .u64 0] from (k61_mkM _ _ _ (⟨5, 1, 1, 0⟩ : S61) )) (Reps.none _ _))))); intro bt w29 ho30 hb hg_ hnew_; clear hg_ hnew_; (first | rw [← bA.out] at ho30 | (simp only [Int.reduceToNat] at ho30; rw [← bA.out] at ho30)); replace ab := Aside0.mk (Kd.R_below (kt ab ag) hb); replace ah := Aside0.mk (Kd.N_elder' (by (with_reducible repeat first | apply Kd.N_alloc | apply Kd.N_drewN | apply Kd.N_drew); exact (Kd.N_mono (Kd.N_far (p := ⟨ar, 2, none⟩) (Kd.N_far (p := ⟨ar, 1, none⟩) (Kd.N_far (p := ⟨ar, 0, none⟩) (Kd.N_mono ah.out (fun k_ hk => (⟨hk, hk.2⟩ : _ ∧ k_ ≠ ar))) (fun _ hk => hk.2) (.slice aO aC.length aP)) (fun _ hk => hk.2) (.slice aM aw.length aL)) (fun _ hk => hk.2) (.slice aQ az.length aN)) (fun _ h_ => h_.1))) (Kd.R_base ho30) hb); replace ak := Aside0.mk (Kd.R_below (kt ak ag) hb); replace an := Aside0.mk (Kd.N_elder' (by (with_reducible repeat first | apply Kd.N_alloc | apply Kd.N_drewN | apply Kd.N_drew); exact (Kd.N_mono (Kd.N_far (p := ⟨ar, 2, none⟩) (Kd.N_far (p := ⟨ar, 1, none⟩) (Kd.N_far (p := ⟨ar, 0, none⟩) (Kd.N_mono an.out (fun k_ hk => (⟨hk, hk.2⟩ : _ ∧ k_ ≠ ar))) (fun _ hk => hk.2) (.slice aO aC.length aP)) (fun _ hk => hk.2) (.slice aM aw.length aL)) (fun _ hk => hk.2) (.slice aQ az.length aN)) (fun _ h_ => h_.1))) (Kd.R_base ho30) hb); have aq := Aside0.mk (Kd.R_lower (Kd.R_new' (Kd.R_new' ho30 (Kd.R_lt (kt ae ag))) (Kd.R_lt (kt ai ag))) (below_size (kh HB))); replace ae := Aside0.mk (Kd.R_elder' (kt ae ag) (Kd.R_base ho30) hb); replace ai := Aside0.mk (Kd.R_elder' (kt ai ag) (Kd.R_base ho30) hb); replace af := kU af hb; replace ag := kO (o' := .cells #[.slice aO aC.length aP, .slice aM aw.length aL, .slice aQ az.length aN] 26 (0, 0)) ag hb; replace HB := kH HB hb; clear hb ho30) | ((with_reducible refine qea (N := 27) rfl ?_); (try (refine gate_guard (by rfl) ?_; dsimp only)); refine Kd.R_lit (Kd.int .i64) _ 3 ?hg (N := 27) ?hd (xs := ([2] : List Int)) (inner := [.int .i64 2]) (ok := fun _ => True) (okp := fun _ => True) ?hr ?hp (fun _ hk => hk) trivial (Below.refl _ _) (Nat.le_refl _) (by simp) ?_; (case hd => rfl); (case hg => rfl); (case hr => first | (go_simp; done) | (go_simp; rfl)); (case hp => exact (Reps.one (show Kd.M (Kd.int .i64) _ _ _ 2 [.int .i64 2] from rfl) (Reps.none _ _))); intro co w31 ho32 hb hg_ hnew_; clear hg_ hnew_; (first | rw [← bB.out] at ho32 | (simp only [Int.reduceToNat] at ho32; rw [← bB.out] at ho32)); replace ab := kR ab hb; replace ae := kR ae hb; replace ah := Aside0.mk (Kd.N_elder' (krN ah) (Kd.R_base ho32) hb); replace ak := kR ak hb; replace ai := kR ai hb; replace an := Aside0.mk (Kd.N_elder' (krN an) (Kd.R_base ho32) hb); replace aq := kR aq hb; have bh := kLR ho32 HB; replace af := kU af hb; replace ag := kU ag hb; replace HB := kH HB hb; clear hb ho32; obtain ⟨bH, bI, bU⟩ := Kd.R_slice bh.out; subst bU) | ((with_reducible refine qea (N := 29) rfl ?_); (try (refine gate_guard (by rfl) ?_; dsimp only)); refine Kd.N_lit k66 _ 66 ?hg (N' := 29) ?hd (xs := ([(⟨([] : List Int), be⟩ : S66)] : List (S66))) (inner := [.slice none 0 0, .slice bH be.length bI]) (ok := (fun k_ => some k_ ≠ (.slice ax aj.length ay : Value).ownBlock ∧ some k_ ≠ (.slice aF av.length aG : Value).ownBlock ∧ some k_ ≠ (.slice aJ aE.length aI : Value).ownBlock ∧ some k_ ≠ (.slice aO aC.length aP : Value).ownBlock ∧ some k_ ≠ (.slice aM aw.length aL : Value).ownBlock ∧ some k_ ≠ (.slice aQ az.length aN : Value).ownBlock ∧ some k_ ≠ (bt : Value).ownBlock ∧ k_ ≠ ap ∧ k_ ≠ ar)) (okp := (fun k_ => some k_ ≠ (.slice ax aj.length ay : Value).ownBlock ∧ some k_ ≠ (.slice aF av.length aG : Value).ownBlock ∧ some k_ ≠ (.slice aJ aE.length aI : Value).ownBlock ∧ some k_ ≠ (.slice aO aC.length aP : Value).ownBlock ∧ some k_ ≠ (.slice aM aw.length aL : Value).ownBlock ∧ some k_ ≠ (.slice aQ az.length aN : Value).ownBlock ∧ some k_ ≠ (bt : Value).ownBlock ∧ k_ ≠ ap ∧ k_ ≠ ar)) ?hr ?hp (fun _ hk => hk) ((show ∀ k_, w31.heap.size ≤ k_ → (fun k_ => some k_ ≠ (.slice ax aj.length ay : Value).ownBlock ∧ some k_ ≠ (.slice aF av.length aG : Value).ownBlock ∧ some k_ ≠ (.slice aJ aE.length aI : Value).ownBlock ∧ some k_ ≠ (.slice aO aC.length aP : Value).ownBlock ∧ some k_ ≠ (.slice aM aw.length aL : Value).ownBlock ∧ some k_ ≠ (.slice aQ az.length aN : Value).ownBlock ∧ some k_ ≠ (bt : Value).ownBlock ∧ k_ ≠ ap ∧ k_ ≠ ar) k_ from fun k_ hk => ⟨Kd.fresh' (Kd.R_lt (krR ab)) k_ hk, Kd.fresh' (Kd.R_lt (krR ae)) k_ hk, Kd.fresh' (Kd.N_lt (krN ah)) k_ hk, Kd.fresh' (Kd.R_lt (krR ak)) k_ hk, Kd.fresh' (Kd.R_lt (krR ai)) k_ hk, Kd.fresh' (Kd.N_lt (krN an)) k_ hk, Kd.fresh' (Kd.R_lt (krR aq)) k_ hk, Kd.freshB (g := ap) (o := .cells #[.slice ax aj.length ay, .slice aF av.length aG, .slice aJ aE.length aI] 26 (0, 0)) (kb af) k_ hk, Kd.freshB (g := ar) (o := .cells #[.slice aO aC.length aP, .slice aM aw.length aL, .slice aQ az.length aN] 26 (0, 0)) (kb ag) k_ hk⟩) _ (Nat.le_refl _)) (Below.refl _ _) (Nat.le_refl _) (by simp) ?_; (case hd => rfl); (case hg => rfl); (case hr => first | (go_simp; done) | (go_simp; rfl)); (case hp => exact (Reps.c2 (show Kd.FK k66 _ _ (⟨([] : List Int), be⟩ : S66) [.slice none 0 0, .slice bH be.length bI] from (k66_mkF _ _ (⟨([] : List Int), be⟩ : S66) (Nat.le_refl _) (Kd.F_nil _ _ _) (Kd.R_reads' (Kd.R_mono (ok' := (fun k_ => some k_ ≠ (.slice ax aj.length ay : Value).ownBlock ∧ some k_ ≠ (.slice aF av.length aG : Value).ownBlock ∧ some k_ ≠ (.slice aJ aE.length aI : Value).ownBlock ∧ some k_ ≠ (.slice aO aC.length aP : Value).ownBlock ∧ some k_ ≠ (.slice aM aw.length aL : Value).ownBlock ∧ some k_ ≠ (.slice aQ az.length aN : Value).ownBlock ∧ some k_ ≠ (bt : Value).ownBlock ∧ k_ ≠ ap ∧ k_ ≠ ar)) (Kd.R_types (Kd.R_types (Kd.R_apart' (Kd.R_apart' (Kd.R_apart' (Kd.R_apart' (Kd.R_apart' (Kd.R_apart' (Kd.R_apart' (bh.out) (Kd.R_typed ab.out) (by decide)) (Kd.R_typed ae.out) (by decide)) (Kd.N_typed ah.out) (by decide)) (Kd.R_typed ak.out) (by decide)) (Kd.R_typed ai.out) (by decide)) (Kd.N_typed an.out) (by decide)) (Kd.R_typed aq.out) (by decide)) af.out (by decide)) ag.out (by decide)) (fun k_ hk => ⟨hk.1.1.1.1.1.1.1.1.2, ⟨hk.1.1.1.1.1.1.1.2, ⟨hk.1.1.1.1.1.1.2, ⟨hk.1.1.1.1.1.2, ⟨hk.1.1.1.1.2, ⟨hk.1.1.1.2, ⟨hk.1.1.2, ⟨hk.1.2, hk.2⟩⟩⟩⟩⟩⟩⟩⟩))).2.1 (Kd.R_F (Kd.R_mono (ok' := (fun k_ => some k_ ≠ (.slice ax aj.length ay : Value).ownBlock ∧ some k_ ≠ (.slice aF av.length aG : Value).ownBlock ∧ some k_ ≠ (.slice aJ aE.length aI : Value).ownBlock ∧ some k_ ≠ (.slice aO aC.length aP : Value).ownBlock ∧ some k_ ≠ (.slice aM aw.length aL : Value).ownBlock ∧ some k_ ≠ (.slice aQ az.length aN : Value).ownBlock ∧ some k_ ≠ (bt : Value).ownBlock ∧ k_ ≠ ap ∧ k_ ≠ ar)) (Kd.R_types (Kd.R_types (Kd.R_apart' (Kd.R_apart' (Kd.R_apart' (Kd.R_apart' (Kd.R_apart' (Kd.R_apart' (Kd.R_apart' (bh.out) (Kd.R_typed ab.out) (by decide)) (Kd.R_typed ae.out) (by decide)) (Kd.N_typed ah.out) (by decide)) (Kd.R_typed ak.out) (by decide)) (Kd.R_typed ai.out) (by decide)) (Kd.N_typed an.out) (by decide)) (Kd.R_typed aq.out) (by decide)) af.out (by decide)) ag.out (by decide)) (fun k_ hk => ⟨hk.1.1.1.1.1.1.1.1.2, ⟨hk.1.1.1.1.1.1.1.2, ⟨hk.1.1.1.1.1.1.2, ⟨hk.1.1.1.1.1.2, ⟨hk.1.1.1.1.2, ⟨hk.1.1.1.2, ⟨hk.1.1.2, ⟨hk.1.2, hk.2⟩⟩⟩⟩⟩⟩⟩⟩))))) (Reps.none _ _))); intro cp w34 ho35 hb hg_ hnew_; clear hg_ hnew_; (first | rw [← bC.out] at ho35 | (simp only [Int.reduceToNat] at ho35; rw [← bC.out] at ho35)); replace ab := kR ab hb; replace ae := kR ae hb; replace ah := Aside0.mk (Kd.N_elder' (krN ah) (Kd.N_base ho35) hb); replace ak := kR ak hb; replace ai := kR ai hb; replace an := Aside0.mk (Kd.N_elder' (krN an) (Kd.N_base ho35) hb); replace aq := kR aq hb; have aH := kLN ho35 HB; replace af := kU af hb; replace ag := kU ag hb; replace HB := kH HB hb; clear bh; clear hb ho35; obtain ⟨bk, bf, bV⟩ := Kd.N_slice aH.out; subst bV; obtain ⟨bc, aT, bW⟩ := Kd.R_slice aq.out; subst bW) | ((with_reducible refine qea (N := 4) rfl ?_); (try (refine gate_guard (by rfl) ?_; dsimp only)); refine box_event ?hg (N := 4) ?hd (cs := #[.slice none 0 0, .slice none 0 0, .slice none 0 0]) (t := 26) ?hr ?_; (case hd => rfl); (case hg => rfl); (case hr => first | (go_simp; done) | (go_simp; rfl)); intro ao hg w38 hbox hb; replace ab := kR ab hb; replace ae := kR ae hb; replace ah := Aside0.mk (Kd.N_below (Kd.N_elderB (krN ah) ao (Nat.le_of_eq hg.symm)) hb); replace ak := kR ak hb; replace ai := kR ai hb; replace an := Aside0.mk (Kd.N_below (Kd.N_elderB (krN an) ao (Nat.le_of_eq hg.symm)) hb); replace aq := kR aq hb; replace aH := Aside0.mk (Kd.N_below (Kd.N_elderB (krN aH) ao (Nat.le_of_eq hg.symm)) hb); have au := am hbox; have cf := kG HB hg; have cg := kG HB hg; replace HB := kH HB hb; have bl := kP af hg; have bm := kQ af hg; replace af := kU af hb; have bn := kP ag hg; have bo := kQ ag hg; replace ag := kU ag hb; clear hb hbox hg; have ch := bm.out; have ci := bl.out; have cj := bo.out; have ck := bn.out; have Z41 := kz3 au; have Z42 := kz3 ag) | (go_at_call 29; (with_reducible refine (qba.calls k _ _ aC _ _ aw _ _ az _ _ aj _ _ aK _ _ aS true _ ?side1 ?side2 ?side3 ?side4 ?side5 ?side6 ?side7 ?side8 ?side9 ?side10 ?side11 ?side12 A3.out).mono ?_); (case side1 => exact (Kd.R_reads' (kt ak au)).2.2); (case side2 => exact (Kd.R_reads' ak.out).2.1); (case side3 => refine (Kd.R_reads' (e := 61) (base := w.heap.size) (ok := fun k_ => ((True ∧ some k_ ≠ (.slice aF av.length aG : Value).ownBlock) ∧ some k_ ≠ (.slice bc aK.length aT : Value).ownBlock)) (n := aw.length) (c := aL) ?_).2.2; exact (kt ai au)); (case side4 => exact (Kd.R_reads' ai.out).2.1); (case side5 => exact (Kd.N_reads' (e := 66) (base := w.heap.size) (n := az.length) (c := aN) (by (with_reducible repeat first | apply Kd.N_alloc | apply Kd.N_drewN | apply Kd.N_drew); exact (Kd.N_mono (Kd.N_far (p := ⟨ao, 2, none⟩) (Kd.N_far (p := ⟨ao, 1, none⟩) (Kd.N_far (p := ⟨ao, 0, none⟩) (Kd.N_mono an.out (fun k_ hk => (⟨hk, hk.2⟩ : _ ∧ k_ ≠ ao))) (fun _ hk => hk.2) (.slice ax aj.length ay)) (fun _ hk => hk.2) (.slice bc aK.length aT)) (fun _ hk => hk.2) (.slice bk aS.length bf)) (fun _ h_ => h_.1)))).2.2); (case side6 => exact (Kd.N_reads' an.out).2.1); (case side7 => exact (Kd.R_reads' (kt ab au)).2.2); (case side8 => exact (Kd.R_reads' ab.out).2.1); (case side9 => refine (Kd.R_reads' (e := 61) (base := w.heap.size) (ok := fun k_ => ((True ∧ some k_ ≠ (.slice aF av.length aG : Value).ownBlock) ∧ some k_ ≠ (.slice aM aw.length aL : Value).ownBlock)) (n := aK.length) (c := aT) ?_).2.2; exact (kt aq au)); (case side10 => exact (Kd.R_reads' aq.out).2.1); (case side11 => refine (Kd.N_reads' (e := 66) (base := w.heap.size) (ok := fun k_ => ((some k_ ≠ (.slice ax aj.length ay : Value).ownBlock ∧ (some k_ ≠ (.slice aF av.length aG : Value).ownBlock ∧ (some k_ ≠ (.slice aJ aE.length aI : Value).ownBlock ∧ (some k_ ≠ (.slice aO aC.length aP : Value).ownBlock ∧ (some k_ ≠ (.slice aM aw.length aL : Value).ownBlock ∧ (some k_ ≠ (.slice aQ az.length aN : Value).ownBlock ∧ (some k_ ≠ (.slice bc aK.length aT : Value).ownBlock ∧ (k_ ≠ ap ∧ k_ ≠ ar)))))))) ∧ k_ ≠ ao)) (n := aS.length) (c := bf) ?_).2.2; exact (by (with_reducible repeat first | apply Kd.N_alloc | apply Kd.N_drewN | apply Kd.N_drew); exact (Kd.N_mono (Kd.N_far (p := ⟨ao, 2, none⟩) (Kd.N_far (p := ⟨ao, 1, none⟩) (Kd.N_far (p := ⟨ao, 0, none⟩) (Kd.N_mono aH.out (fun k_ hk => (⟨hk, hk.2⟩ : _ ∧ k_ ≠ ao))) (fun _ hk => hk.2) (.slice ax aj.length ay)) (fun _ hk => hk.2) (.slice bc aK.length aT)) (fun _ hk => hk.2) (.slice bk aS.length bf)) (fun _ h_ => h_.1)))); (case side12 => exact (Kd.N_reads' aH.out).2.1); rintro e w43 ⟨rfl, hb⟩; replace ab := Aside0.mk (Kd.R_below (kt ab au) hb); replace ae := Aside0.mk (Kd.R_below (kt ae au) hb); replace ah := Aside0.mk (Kd.N_below (by (with_reducible repeat first | apply Kd.N_alloc | apply Kd.N_drewN | apply Kd.N_drew); exact (Kd.N_mono (Kd.N_far (p := ⟨ao, 2, none⟩) (Kd.N_far (p := ⟨ao, 1, none⟩) (Kd.N_far (p := ⟨ao, 0, none⟩) (Kd.N_mono ah.out (fun k_ hk => (⟨hk, hk.2⟩ : _ ∧ k_ ≠ ao))) (fun _ hk => hk.2) (.slice ax aj.length ay)) (fun _ hk => hk.2) (.slice bc aK.length aT)) (fun _ hk => hk.2) (.slice bk aS.length bf)) (fun _ h_ => h_.1))) hb); replace ak := Aside0.mk (Kd.R_below (kt ak au) hb); replace ai := Aside0.mk (Kd.R_below (kt ai au) hb); replace an := Aside0.mk (Kd.N_below (by (with_reducible repeat first | apply Kd.N_alloc | apply Kd.N_drewN | apply Kd.N_drew); exact (Kd.N_mono (Kd.N_far (p := ⟨ao, 2, none⟩) (Kd.N_far (p := ⟨ao, 1, none⟩) (Kd.N_far (p := ⟨ao, 0, none⟩) (Kd.N_mono an.out (fun k_ hk => (⟨hk, hk.2⟩ : _ ∧ k_ ≠ ao))) (fun _ hk => hk.2) (.slice ax aj.length ay)) (fun _ hk => hk.2) (.slice bc aK.length aT)) (fun _ hk => hk.2) (.slice bk aS.length bf)) (fun _ h_ => h_.1))) hb); replace aq := Aside0.mk (Kd.R_below (kt aq au) hb); replace aH := Aside0.mk (Kd.N_below (by (with_reducible repeat first | apply Kd.N_alloc | apply Kd.N_drewN | apply Kd.N_drew); exact (Kd.N_mono (Kd.N_far (p := ⟨ao, 2, none⟩) (Kd.N_far (p := ⟨ao, 1, none⟩) (Kd.N_far (p := ⟨ao, 0, none⟩) (Kd.N_mono aH.out (fun k_ hk => (⟨hk, hk.2⟩ : _ ∧ k_ ≠ ao))) (fun _ hk => hk.2) (.slice ax aj.length ay)) (fun _ hk => hk.2) (.slice bc aK.length aT)) (fun _ hk => hk.2) (.slice bk aS.length bf)) (fun _ h_ => h_.1))) hb); replace af := kU af hb; replace ag := kU ag hb; replace au := kO (o' := .cells #[.slice ax aj.length ay, .slice bc aK.length aT, .slice bk aS.length bf] 26 (0, 0)) au hb; replace HB := kH HB hb; (try clear hb); (try clear hb2); (try clear hk); (try clear hi); have Z44 := kz3 ag) | (go_at_call 14; (with_reducible refine (tune_Levels.calls k _ _ aC _ _ aw _ _ az aA _ ?side1 ?side2 ?side3 ?side4 ?side5 ?side6 A5.out).mono ?_); (case side1 => repeat (first | exact (Kd.R_reads' ak.out).2.2 | (with_reducible first | refine Kd.C_alloc ?_ _ | refine Kd.C_drewN ?_ _ | refine Kd.C_drew ?_))); (case side2 => exact (Kd.R_reads' ak.out).2.1); (case side3 => repeat (first | exact (Kd.R_reads' ai.out).2.2 | (with_reducible first | refine Kd.C_alloc ?_ _ | refine Kd.C_drewN ?_ _ | refine Kd.C_drew ?_))); (case side4 => exact (Kd.R_reads' ai.out).2.1); (case side5 => repeat (first | exact (Kd.N_reads' an.out).2.2 | (with_reducible first | refine Kd.C_alloc ?_ _ | refine Kd.C_drewN ?_ _ | refine Kd.C_drew ?_))); (case side6 => exact (Kd.N_reads' an.out).2.1); rintro e w45 ⟨cq, rfl, ho0, hb⟩; replace ab := kR ab hb; replace ae := kR ae hb; replace ah := Aside0.mk (Kd.N_elder' (krN ah) (Kd.R_base ho0) hb); replace ak := kR ak hb; replace ai := kR ai hb; replace an := Aside0.mk (Kd.N_elder' (krN an) (Kd.R_base ho0) hb); replace aq := kR aq hb; replace aH := Aside0.mk (Kd.N_elder' (krN aH) (Kd.R_base ho0) hb); have aR := kLR ho0 HB; replace af := kU af hb; replace ag := kU ag hb; replace au := kU au hb; replace HB := kH HB hb; (try clear hb); (try clear hb2); (try clear hk); (try clear hi); (try clear ho0)) | ((with_reducible refine qea (N := 41) rfl ?_); (try (refine gate_guard (by rfl) ?_; dsimp only)); refine Kd.R_lit (Kd.int .i64) _ 3 ?hg (N := 41) ?hd (xs := ([0, 0, 1] : List Int)) (inner := [.int .i64 0, .int .i64 0, .int .i64 1]) (ok := fun _ => True) (okp := fun _ => True) ?hr ?hp (fun _ hk => hk) trivial (Below.refl _ _) (Nat.le_refl _) (by simp) ?_; (case hd => rfl); (case hg => rfl); (case hr => first | (go_simp; done) | (go_simp; rfl)); (case hp => exact (Reps.one (show Kd.M (Kd.int .i64) _ _ _ 0 [.int .i64 0] from rfl) (Reps.one (show Kd.M (Kd.int .i64) _ _ _ 0 [.int .i64 0] from rfl) (Reps.one (show Kd.M (Kd.int .i64) _ _ _ 1 [.int .i64 1] from rfl) (Reps.none _ _))))); intro cr w46 ho47 hb hg_ hnew_; clear hg_ hnew_; (first | rw [← bD.out] at ho47 | (simp only [Int.reduceToNat] at ho47; rw [← bD.out] at ho47)); replace ab := kR ab hb; replace ae := kR ae hb; replace ah := Aside0.mk (Kd.N_elder' (krN ah) (Kd.R_base ho47) hb); replace ak := kR ak hb; replace ai := kR ai hb; replace an := Aside0.mk (Kd.N_elder' (krN an) (Kd.R_base ho47) hb); replace aq := kR aq hb; replace aH := Aside0.mk (Kd.N_elder' (krN aH) (Kd.R_base ho47) hb); have bu := Aside0.mk (Kd.R_lower (Kd.R_new' ho47 (Kd.R_lt (krR aR))) (below_size (kh HB))); replace aR := Aside0.mk (Kd.R_elder' (krR aR) (Kd.R_base ho47) hb); replace af := kU af hb; replace ag := kU ag hb; replace au := kU au hb; replace HB := kH HB hb; clear hb ho47; obtain ⟨ct, cu, bX⟩ := Kd.R_slice aR.out; subst bX; obtain ⟨cv, cw, bY⟩ := Kd.R_slice bu.out; subst bY) | (go_at_call 13; (with_reducible refine (qja.calls k _ _ aA _ _ bE aB _ ?side1 ?side2 ?side3 ?side4 A6.out).mono ?_); (case side1 => repeat (first | exact (Kd.R_reads' aR.out).2.2 | (with_reducible first | refine Kd.C_alloc ?_ _ | refine Kd.C_drewN ?_ _ | refine Kd.C_drew ?_))); (case side2 => exact (Kd.R_reads' aR.out).2.1); (case side3 => repeat (first | exact (Kd.R_reads' bu.out).2.2 | (with_reducible first | refine Kd.C_alloc ?_ _ | refine Kd.C_drewN ?_ _ | refine Kd.C_drew ?_))); (case side4 => exact (Kd.R_reads' bu.out).2.1); rintro e w' ⟨rfl, ⟨nd, rfl⟩⟩))
 go_ret;exact ⟨er, kh HB⟩
mutual
def qla.j0 : Nat → Int → Bool → Option (Bool)
 | 0, _, _ => none
 | k + 1, x0, x9 => if x9 = true then (some false) else (qla.l0 k x0 2)
def qla.l0 : Nat → Int → Int → Option (Bool)
 | 0, _, _ => none
 | k + 1, x0, x3 => if (IntKind.u64.wrap (x3 * x3)) ≤ x0 then (if x3 = 0 then (none) else (if (Int.tmod x0 x3) = 0 then (some false) else (qla.l0 k x0 (IntKind.u64.wrap (x3 + 1))))) else (some true)
end
def qla.f (k : Nat) (a0 : Int) : Option (Bool) := if a0 < 3 then (qla.j0 k a0 true) else (qla.j0 k a0 (decide (a0 > 65537)))
theorem qla.calls (k : Nat) (a0 : Int) (r : Bool) (w : World) (h : qla.f k a0 = some r) :
  Calls Try.prog 40 #[.int .u64 a0] w fun e w' => e = .returned (.bool r) ∧ Drawn0 w w' := by
 have H : (if a0 < 3 then (qla.j0 k a0 true) else (qla.j0 k a0 (decide (a0 > 65537)))) = some r := h;clear h;have HC2 := Aside0.mk H;clear H;go_enter Try.func40, Try.ntmps40;go_upto_region 1 with (fail);go_cut [9] (fun v9 wc => ∃ (kq : Nat) (ae : Bool), v9 = .bool ae ∧ Aside0 (qla.j0 kq a0 ae = some r) ∧ Aside0 (kq ≤ k) ∧ Drawn0 w wc)
 case first =>
  have H := HC2.out;clear HC2
  by_cases c3 : a0 < 3
  ·rw [if_pos c3] at H
   have ab := decide_eq_true c3;clear c3;(first | rw [ab] | (simp only [i64_w, i32_w]; rw [ab]) | skip);have H' := Aside0.mk H;clear H;go_wp2;go_meet
   case rel => exact ⟨_, (true), et, H', ⟨by first | omega | exact Nat.le_refl _⟩, by repeat (first | exact Drawn0.refl _ | apply Drawn0.step)⟩
  rw [if_neg c3] at H;have ab := decide_eq_false c3;clear c3;(first | rw [ab] | (simp only [i64_w, i32_w]; rw [ab]) | skip);have H' := Aside0.mk H;clear H;go_wp2;go_meet
  case rel => exact ⟨_, (decide (a0 > 65537)), et, H', ⟨by first | omega | exact Nat.le_refl _⟩, by repeat (first | exact Drawn0.refl _ | apply Drawn0.step)⟩
 clear HC2;obtain ⟨kq, ae, rfl, HA, HJ1, ⟨mc1, rfl⟩⟩ := hcut
 cases kq with
 | zero => exact absurd HA.out (by simp [qla.j0])
 | succ kj1 =>
  have H := HA.out;clear HA;simp only [qla.j0] at H
  by_cases c4 : ae = true
  ·subst c4
   replace H := ifT H;obtain rfl := Option.some.inj H;go_wp2;go_ret;exact ⟨et, by repeat (first | exact Drawn0.refl _ | apply Drawn0.step)⟩
  replace c4 := Bool.eq_false_iff.mpr c4;subst c4;replace H := ifF H;have H' := Aside0.mk H;clear H;go_wp2;go_loopg [3] kj1 (fun kq v3 w' => ∃ (aa : Int), v3 = .int .u64 aa ∧ Aside0 (qla.l0 kq a0 aa = some r) ∧ Aside0 (kq ≤ kj1) ∧ Drawn0 w w')
  case atStart => exact ⟨(2), et, H', ⟨Nat.le_refl _⟩, by repeat (first | exact Drawn0.refl _ | apply Drawn0.step)⟩
  case round =>
   clear H'; (try clear c4);obtain ⟨aa, rfl, HA, HK2, ⟨m2, rfl⟩⟩ := hrel
   cases gk with
   | zero => exact absurd HA.out (by simp [qla.l0])
   | succ k2 =>
    have H := HA.out;clear HA;simp only [qla.l0] at H
    by_cases c5 : (IntKind.u64.wrap (aa * aa)) ≤ a0
    rotate_left
    ·rw [if_neg c5] at H
     have af := decide_eq_false c5;clear c5;obtain rfl := Option.some.inj H;go_wp2;go_ret;exact ⟨et, by repeat (first | exact Drawn0.refl _ | apply Drawn0.step)⟩
    rw [if_pos c5] at H;have af := decide_eq_true c5;clear c5
    by_cases c6 : aa = 0
    ·rw [if_pos c6] at H
     exact absurd H (by simp)
    rw [if_neg c6] at H;have ai := beq_eq_false_iff_ne.mpr c6;have aj := bne_iff_ne.mpr c6
    by_cases c7 : (Int.tmod a0 aa) = 0
    ·rw [if_pos c7] at H
     have ag := beq_iff_eq.mpr c7;have ah := bne_eq_false_iff_eq.mpr c7;clear c7;obtain rfl := Option.some.inj H;go_wp2;go_ret;exact ⟨et, by repeat (first | exact Drawn0.refl _ | apply Drawn0.step)⟩
    rw [if_neg c7] at H;have ag := beq_eq_false_iff_ne.mpr c7;have ah := bne_iff_ne.mpr c7;have H' := Aside0.mk H;clear H;go_wp2;go_roundg k2
    case measure => have := HJ1.out; have := HK2.out; omega
    case rel => exact ⟨(IntKind.u64.wrap (aa + 1)), et, H', ⟨by have := HJ1.out; have := HK2.out; omega⟩, by repeat (first | exact Drawn0.refl _ | apply Drawn0.step)⟩
mutual
def qca.j1 : Nat → Int → Int → Int → Bool → Bool → Bool → Int → Int → Int → Int → Option (Int)
 | 0, _, _, _, _, _, _, _, _, _, _ => none
 | k + 1, x0, x1, x2, x9, x10, x11, af, ae, aa, ab => if x9 = true then (if x10 = true then (if x11 = true then (qca.j2 k x0 x1 x2 x9 x10 x11 false af ae aa ab) else (qca.j2 k x0 x1 x2 x9 x10 x11 (ab != 0) af ae aa ab)) else (if aa = 0 then (if x11 = true then (qca.j2 k x0 x1 x2 x9 x10 x11 false af ae aa ab) else (qca.j2 k x0 x1 x2 x9 x10 x11 (ab != 0) af ae aa ab)) else (qca.j2 k x0 x1 x2 x9 x10 x11 true af ae aa ab))) else (if ae = 0 then (if x10 = true then (if x11 = true then (qca.j2 k x0 x1 x2 x9 x10 x11 false af ae aa ab) else (qca.j2 k x0 x1 x2 x9 x10 x11 (ab != 0) af ae aa ab)) else (if aa = 0 then (if x11 = true then (qca.j2 k x0 x1 x2 x9 x10 x11 false af ae aa ab) else (qca.j2 k x0 x1 x2 x9 x10 x11 (ab != 0) af ae aa ab)) else (qca.j2 k x0 x1 x2 x9 x10 x11 true af ae aa ab))) else (qca.j2 k x0 x1 x2 x9 x10 x11 true af ae aa ab))
def qca.j2 : Nat → Int → Int → Int → Bool → Bool → Bool → Bool → Int → Int → Int → Int → Option (Int)
 | 0, _, _, _, _, _, _, _, _, _, _, _ => none
 | k + 1, x0, x1, x2, x9, x10, x11, x49, af, ae, aa, ab => if x49 = true then (some 4) else (if af = 1 then (qca.j3 k x0 x9 x10 x11 x1 af ae aa ab) else (qca.j3 k x0 x9 x10 x11 x2 af ae aa ab))
def qca.j3 : Nat → Int → Bool → Bool → Bool → Int → Int → Int → Int → Int → Option (Int)
 | 0, _, _, _, _, _, _, _, _, _ => none
 | k + 1, x0, x9, x10, x11, x12, af, ae, aa, ab => if x9 = true then (if ae < 0 then (qca.j4 k x0 x11 true af ae aa ab) else (if ae ≥ x12 then (qca.j4 k x0 x11 true af ae aa ab) else (if x10 = true then (if aa < 0 then (qca.j4 k x0 x11 true af ae aa ab) else (qca.j4 k x0 x11 (decide (aa ≥ x12)) af ae aa ab)) else (qca.j4 k x0 x11 false af ae aa ab)))) else (if x10 = true then (if aa < 0 then (qca.j4 k x0 x11 true af ae aa ab) else (qca.j4 k x0 x11 (decide (aa ≥ x12)) af ae aa ab)) else (qca.j4 k x0 x11 false af ae aa ab))
def qca.j4 : Nat → Int → Bool → Bool → Int → Int → Int → Int → Option (Int)
 | 0, _, _, _, _, _, _, _ => none
 | k + 1, x0, x11, x80, af, ae, aa, ab => if x80 = true then (some 13) else (if x11 = true then (if ab ≥ x0 then (some 2) else (some 0)) else (some 0))
def qca.j0 : Nat → Int → Int → Int → Bool → Bool → Int → Bool → Int → Int → Int → Int → Option (Int)
 | 0, _, _, _, _, _, _, _, _, _, _, _ => none
 | k + 1, x0, x1, x2, x10, x11, x14, x19, af, ae, aa, ab => if x19 = true then (qca.j1 k x0 x1 x2 true true x11 af ae aa ab) else (if x14 = 6 then (qca.j1 k x0 x1 x2 true x10 true af ae aa ab) else (some 4))
end
def qca.f (k : Nat) (a0 : Int) (a1 : Int) (a2 : Int) (aa : Int) (ab : Int) (ae : Int) (af : Int) : Option (Int) := if aa = 1 then (qca.j1 k a0 a1 a2 true false false aa ab ae af) else (if aa = 2 then (qca.j1 k a0 a1 a2 false false true aa ab ae af) else (if aa = 3 then (qca.j0 k a0 a1 a2 false false aa (aa == 3) aa ab ae af) else (if aa = 4 then (qca.j0 k a0 a1 a2 false false aa (aa == 4) aa ab ae af) else (qca.j0 k a0 a1 a2 false false aa (aa == 5) aa ab ae af))))
theorem qca.calls (k : Nat) (a0 : Int) (a1 : Int) (a2 : Int) (ab : Int) (ag : Int) (ae : Int) (af : Int) (r : Int) (w : World) (h : qca.f k a0 a1 a2 ab ag ae af = some r) :
  Calls Try.prog 41 #[.int .u64 a0, .int .i64 a1, .int .i64 a2, .agg #[.int .i64 ab, .int .i64 ag, .int .i64 ae, .int .u64 af]] w fun e w' => e = .returned (.int .i64 r) ∧ Below w.heap.size w w' := by
 have hu61 := Try.underlying61;have HB := Aside0.mk (Below.refl w.heap.size w);have H : (if ab = 1 then (qca.j1 k a0 a1 a2 true false false ab ag ae af) else (if ab = 2 then (qca.j1 k a0 a1 a2 false false true ab ag ae af) else (if ab = 3 then (qca.j0 k a0 a1 a2 false false ab (ab == 3) ab ag ae af) else (if ab = 4 then (qca.j0 k a0 a1 a2 false false ab (ab == 4) ab ag ae af) else (qca.j0 k a0 a1 a2 false false ab (ab == 5) ab ag ae af))))) = some r := h;clear h;have HC5 := Aside0.mk H;clear H;go_enter Try.func41, Try.ntmps41;go_upto_block 0 with (first | ((with_reducible refine qea (N := 7) rfl ?_); refine box_event ?hg (N := 7) ?hd (cs := #[.int .i64 ab, .int .i64 ag, .int .i64 ae, .int .u64 af]) (t := 61) ?hr ?_; (case hd => rfl); (case hg => rfl); (case hr => first | (go_simp; done) | (go_simp; rfl)); intro ap hg w6 hbox hb; have aa := am hbox; have aY := kG HB hg; have aZ := kG HB hg; replace HB := kH HB hb; clear hb hbox hg; have Z7 := kz4 aa));(try simp only [Act.put, qS1, qS2, qS3]);go_cut [9, 10, 11] (fun v9 v10 v11 wc => ∃ (kq : Nat) (ax : Bool) (ai : Bool) (ah : Bool), v9 = .bool ax ∧ v10 = .bool ai ∧ v11 = .bool ah ∧ Aside0 (qca.j1 kq a0 a1 a2 ax ai ah ab ag ae af = some r) ∧ Aside0 (kq ≤ k) ∧ Aside0 (wc.heap[ap]? = some (.cells #[.int .i64 ab, .int .i64 ag, .int .i64 ae, .int .u64 af] 61 (0, 0))) ∧ Aside0 (Below w.heap.size w wc))
 case first =>
  have H := HC5.out;clear HC5
  by_cases c8 : ab = 1
  ·rw [if_pos c8] at H
   have az := beq_iff_eq.mpr c8;have aE := bne_eq_false_iff_eq.mpr c8;clear c8;(first | rw [az] | (simp only [i64_w, i32_w]; rw [az]) | skip);have H' := Aside0.mk H;clear H;go_wp2;go_meet
   case rel => exact ⟨_, (true), (false), (false), et, et, et, H', ⟨by first | omega | exact Nat.le_refl _⟩, ⟨kg aa⟩, ⟨kh HB⟩⟩
  rw [if_neg c8] at H;have az := beq_eq_false_iff_ne.mpr c8;have aE := bne_iff_ne.mpr c8;(first | rw [az] | (simp only [i64_w, i32_w]; rw [az]) | skip)
  by_cases c9 : ab = 2
  ·rw [if_pos c9] at H
   have aF := beq_iff_eq.mpr c9;have aG := bne_eq_false_iff_eq.mpr c9;clear c9;have H' := Aside0.mk H;clear H;go_wp2;go_meet
   case rel => exact ⟨_, (false), (false), (true), et, et, et, H', ⟨by first | omega | exact Nat.le_refl _⟩, ⟨kg aa⟩, ⟨kh HB⟩⟩
  rw [if_neg c9] at H;have aF := beq_eq_false_iff_ne.mpr c9;have aG := bne_iff_ne.mpr c9;have aA := Aside0.mk H;clear H;go_upto_if 19 with (fail);go_cut [19] (fun v19 wc => ∃ (kq : Nat) (ay : Bool), v19 = .bool ay ∧ Aside0 (qca.j0 kq a0 a1 a2 false false ab ay ab ag ae af = some r) ∧ Aside0 (kq ≤ k) ∧ Aside0 (wc.heap[ap]? = some (.cells #[.int .i64 ab, .int .i64 ag, .int .i64 ae, .int .u64 af] 61 (0, 0))) ∧ Aside0 (Below w.heap.size w wc))
  case first =>
   have H := aA.out;clear aA
   by_cases c11 : ab = 3
   ·rw [if_pos c11] at H
    have aq := beq_iff_eq.mpr c11;have aH := bne_eq_false_iff_eq.mpr c11;clear c11;(first | rw [aq] | (simp only [i64_w, i32_w]; rw [aq]) | skip);have H' := Aside0.mk H;clear H;go_wp2;go_meet
    case rel => exact ⟨_, ((ab == 3)), et, H', ⟨by first | omega | exact Nat.le_refl _⟩, ⟨kg aa⟩, ⟨kh HB⟩⟩
   rw [if_neg c11] at H;have aq := beq_eq_false_iff_ne.mpr c11;have aH := bne_iff_ne.mpr c11;(first | rw [aq] | (simp only [i64_w, i32_w]; rw [aq]) | skip)
   by_cases c12 : ab = 4
   rotate_left
   ·rw [if_neg c12] at H
    have aI := beq_eq_false_iff_ne.mpr c12;have aJ := bne_iff_ne.mpr c12;have H' := Aside0.mk H;clear H;go_wp2;go_meet
    case rel => exact ⟨_, ((ab == 5)), et, H', ⟨by first | omega | exact Nat.le_refl _⟩, ⟨kg aa⟩, ⟨kh HB⟩⟩
   rw [if_pos c12] at H;have aI := beq_iff_eq.mpr c12;have aJ := bne_eq_false_iff_eq.mpr c12;clear c12;have H' := Aside0.mk H;clear H;go_wp2;go_meet
   case rel => exact ⟨_, ((ab == 4)), et, H', ⟨by first | omega | exact Nat.le_refl _⟩, ⟨kg aa⟩, ⟨kh HB⟩⟩
  clear aA;(try clear az aE aF aG Z7);obtain ⟨kq, ay, rfl, HA, HJ9, aa, HB⟩ := hcut
  cases kq with
  | zero => exact absurd HA.out (by simp [qca.j0])
  | succ kj9 =>
   have H := HA.out;clear HA;simp only [qca.j0] at H
   by_cases c13 : ay = true
   ·subst c13
    replace H := ifT H;have H' := Aside0.mk H;clear H;go_wp2;go_meet
    case rel => exact ⟨_, (true), (true), (false), et, et, et, H', ⟨by have := HJ9.out; first | omega | exact Nat.le_refl _⟩, ⟨kg aa⟩, ⟨kh HB⟩⟩
   replace c13 := Bool.eq_false_iff.mpr c13;subst c13;replace H := ifF H
   by_cases c14 : ab = 6
   rotate_left
   ·rw [if_neg c14] at H
    have aK := beq_eq_false_iff_ne.mpr c14;have aL := bne_iff_ne.mpr c14;obtain rfl := Option.some.inj H;go_wp2;go_ret;exact ⟨er, kh HB⟩
   rw [if_pos c14] at H;have aK := beq_iff_eq.mpr c14;have aL := bne_eq_false_iff_eq.mpr c14;clear c14;have H' := Aside0.mk H;clear H;go_wp2;go_meet
   case rel => exact ⟨_, (true), (false), (true), et, et, et, H', ⟨by have := HJ9.out; first | omega | exact Nat.le_refl _⟩, ⟨kg aa⟩, ⟨kh HB⟩⟩
 clear HC5; (try clear Z7);obtain ⟨kq, ax, ai, ah, rfl, rfl, rfl, HA, HJ4, aa, HB⟩ := hcut
 cases kq with
 | zero => exact absurd HA.out (by simp [qca.j1])
 | succ kj4 =>
  have H := HA.out;clear HA;simp only [qca.j1] at H;have aB := Aside0.mk H;clear H;go_upto_region 14 with (fail);go_cut [49] (fun v49 wc => ∃ (kq : Nat) (an : Bool), v49 = .bool an ∧ Aside0 (qca.j2 kq a0 a1 a2 ax ai ah an ab ag ae af = some r) ∧ Aside0 (kq ≤ kj4) ∧ Aside0 (wc.heap[ap]? = some (.cells #[.int .i64 ab, .int .i64 ag, .int .i64 ae, .int .u64 af] 61 (0, 0))) ∧ Aside0 (Below w.heap.size w wc))
  case first =>
   have H := aB.out;clear aB
   by_cases c16 : ax = true
   ·subst c16
    replace H := ifT H
    by_cases c17 : ai = true
    ·subst c17
     replace H := ifT H
     by_cases c18 : ah = true
     ·subst c18
      replace H := ifT H;have H' := Aside0.mk H;clear H;go_wp2;go_meet
      case rel => exact ⟨_, (false), et, H', ⟨by have := HJ4.out; first | omega | exact Nat.le_refl _⟩, ⟨kg aa⟩, ⟨kh HB⟩⟩
     replace c18 := Bool.eq_false_iff.mpr c18;subst c18;replace H := ifF H;have H' := Aside0.mk H;clear H;have Z19 := kz4 aa;go_wp2;go_meet
     case rel => exact ⟨_, ((af != 0)), et, H', ⟨by have := HJ4.out; first | omega | exact Nat.le_refl _⟩, ⟨kg aa⟩, ⟨kh HB⟩⟩
    replace c17 := Bool.eq_false_iff.mpr c17;subst c17;replace H := ifF H
    by_cases c20 : ae = 0
    rotate_left
    ·rw [if_neg c20] at H
     have ar := beq_eq_false_iff_ne.mpr c20;have aM := bne_iff_ne.mpr c20;(first | rw [ar] | (simp only [i64_w, i32_w]; rw [ar]) | skip);have H' := Aside0.mk H;clear H;have Z24 := kz4 aa;go_wp2;go_meet
     case rel => exact ⟨_, (true), et, H', ⟨by have := HJ4.out; first | omega | exact Nat.le_refl _⟩, ⟨kg aa⟩, ⟨kh HB⟩⟩
    rw [if_pos c20] at H;have ar := beq_iff_eq.mpr c20;have aM := bne_eq_false_iff_eq.mpr c20;clear c20;(first | rw [ar] | (simp only [i64_w, i32_w]; rw [ar]) | skip)
    by_cases c21 : ah = true
    ·subst c21
     replace H := ifT H;have H' := Aside0.mk H;clear H;have Z22 := kz4 aa;go_wp2;go_meet
     case rel => exact ⟨_, (false), et, H', ⟨by have := HJ4.out; first | omega | exact Nat.le_refl _⟩, ⟨kg aa⟩, ⟨kh HB⟩⟩
    replace c21 := Bool.eq_false_iff.mpr c21;subst c21;replace H := ifF H;have H' := Aside0.mk H;clear H;have Z23 := kz4 aa;go_wp2;go_meet
    case rel => exact ⟨_, ((af != 0)), et, H', ⟨by have := HJ4.out; first | omega | exact Nat.le_refl _⟩, ⟨kg aa⟩, ⟨kh HB⟩⟩
   replace c16 := Bool.eq_false_iff.mpr c16;subst c16;replace H := ifF H
   by_cases c25 : ag = 0
   rotate_left
   ·rw [if_neg c25] at H
    have aN := beq_eq_false_iff_ne.mpr c25;have aO := bne_iff_ne.mpr c25;have H' := Aside0.mk H;clear H;have Z35 := kz4 aa;go_wp2;go_meet
    case rel => exact ⟨_, (true), et, H', ⟨by have := HJ4.out; first | omega | exact Nat.le_refl _⟩, ⟨kg aa⟩, ⟨kh HB⟩⟩
   rw [if_pos c25] at H;have aN := beq_iff_eq.mpr c25;have aO := bne_eq_false_iff_eq.mpr c25;clear c25
   by_cases c26 : ai = true
   ·subst c26
    replace H := ifT H
    by_cases c27 : ah = true
    ·subst c27
     replace H := ifT H;have H' := Aside0.mk H;clear H;have Z28 := kz4 aa;go_wp2;go_meet
     case rel => exact ⟨_, (false), et, H', ⟨by have := HJ4.out; first | omega | exact Nat.le_refl _⟩, ⟨kg aa⟩, ⟨kh HB⟩⟩
    replace c27 := Bool.eq_false_iff.mpr c27;subst c27;replace H := ifF H;have H' := Aside0.mk H;clear H;have Z29 := kz4 aa;go_wp2;go_meet
    case rel => exact ⟨_, ((af != 0)), et, H', ⟨by have := HJ4.out; first | omega | exact Nat.le_refl _⟩, ⟨kg aa⟩, ⟨kh HB⟩⟩
   replace c26 := Bool.eq_false_iff.mpr c26;subst c26;replace H := ifF H
   by_cases c30 : ae = 0
   rotate_left
   ·rw [if_neg c30] at H
    have aP := beq_eq_false_iff_ne.mpr c30;have aQ := bne_iff_ne.mpr c30;have H' := Aside0.mk H;clear H;have Z34 := kz4 aa;go_wp2;go_meet
    case rel => exact ⟨_, (true), et, H', ⟨by have := HJ4.out; first | omega | exact Nat.le_refl _⟩, ⟨kg aa⟩, ⟨kh HB⟩⟩
   rw [if_pos c30] at H;have aP := beq_iff_eq.mpr c30;have aQ := bne_eq_false_iff_eq.mpr c30;clear c30
   by_cases c31 : ah = true
   ·subst c31
    replace H := ifT H;have H' := Aside0.mk H;clear H;have Z32 := kz4 aa;go_wp2;go_meet
    case rel => exact ⟨_, (false), et, H', ⟨by have := HJ4.out; first | omega | exact Nat.le_refl _⟩, ⟨kg aa⟩, ⟨kh HB⟩⟩
   replace c31 := Bool.eq_false_iff.mpr c31;subst c31;replace H := ifF H;have H' := Aside0.mk H;clear H;have Z33 := kz4 aa;go_wp2;go_meet
   case rel => exact ⟨_, ((af != 0)), et, H', ⟨by have := HJ4.out; first | omega | exact Nat.le_refl _⟩, ⟨kg aa⟩, ⟨kh HB⟩⟩
  clear aB;obtain ⟨kq, an, rfl, HA, ak, aa, HB⟩ := hcut
  cases kq with
  | zero => exact absurd HA.out (by simp [qca.j2])
  | succ aW =>
   have H := HA.out;clear HA;simp only [qca.j2] at H
   by_cases c36 : an = true
   ·subst c36
    replace H := ifT H;obtain rfl := Option.some.inj H;go_wp2;go_ret;exact ⟨er, kh HB⟩
   replace c36 := Bool.eq_false_iff.mpr c36;subst c36;replace H := ifF H;have aC := Aside0.mk H;clear H;have Z38 := kz4 aa;go_upto_if 53 with (fail);go_cut [12] (fun v12 wc => ∃ (kq : Nat) (aj : Int), v12 = .int .i64 aj ∧ Aside0 (qca.j3 kq a0 ax ai ah aj ab ag ae af = some r) ∧ Aside0 (kq ≤ aW) ∧ Aside0 (wc.heap[ap]? = some (.cells #[.int .i64 ab, .int .i64 ag, .int .i64 ae, .int .u64 af] 61 (0, 0))) ∧ Aside0 (Below w.heap.size w wc))
   case first =>
    have H := aC.out;clear aC
    by_cases c39 : ab = 1
    rotate_left
    ·rw [if_neg c39] at H
     have au := beq_eq_false_iff_ne.mpr c39;have aR := bne_iff_ne.mpr c39;(first | rw [au] | (simp only [i64_w, i32_w]; rw [au]) | skip);have H' := Aside0.mk H;clear H;go_wp2;go_meet
     case rel => exact ⟨_, (a2), et, H', ⟨by have := HJ4.out; have := ak.out; first | omega | exact Nat.le_refl _⟩, ⟨kg aa⟩, ⟨kh HB⟩⟩
    rw [if_pos c39] at H;have au := beq_iff_eq.mpr c39;have aR := bne_eq_false_iff_eq.mpr c39;clear c39;(first | rw [au] | (simp only [i64_w, i32_w]; rw [au]) | skip);have H' := Aside0.mk H;clear H;go_wp2;go_meet
    case rel => exact ⟨_, (a1), et, H', ⟨by have := HJ4.out; have := ak.out; first | omega | exact Nat.le_refl _⟩, ⟨kg aa⟩, ⟨kh HB⟩⟩
   clear aC;(try clear c36 Z38);obtain ⟨kq, aj, rfl, HA, av, aa, HB⟩ := hcut
   cases kq with
   | zero => exact absurd HA.out (by simp [qca.j3])
   | succ aX =>
    have H := HA.out;clear HA;simp only [qca.j3] at H;have aD := Aside0.mk H;clear H;go_upto_region 19 with (fail);go_cut [80] (fun v80 wc => ∃ (kq : Nat) (ao : Bool), v80 = .bool ao ∧ Aside0 (qca.j4 kq a0 ah ao ab ag ae af = some r) ∧ Aside0 (kq ≤ aX) ∧ Aside0 (wc.heap[ap]? = some (.cells #[.int .i64 ab, .int .i64 ag, .int .i64 ae, .int .u64 af] 61 (0, 0))) ∧ Aside0 (Below w.heap.size w wc))
    case first =>
     have H := aD.out;clear aD
     by_cases c41 : ax = true
     rotate_left
     ·replace c41 := Bool.eq_false_iff.mpr c41
      subst c41;replace H := ifF H
      by_cases c51 : ai = true
      rotate_left
      ·replace c51 := Bool.eq_false_iff.mpr c51
       subst c51;replace H := ifF H;have H' := Aside0.mk H;clear H;go_wp2;go_meet
       case rel => exact ⟨_, (false), et, H', ⟨by have := HJ4.out; have := ak.out; have := av.out; first | omega | exact Nat.le_refl _⟩, ⟨kg aa⟩, ⟨kh HB⟩⟩
      subst c51;replace H := ifT H
      by_cases c52 : ae < 0
      ·rw [if_pos c52] at H
       have aS := decide_eq_true c52;clear c52;have H' := Aside0.mk H;clear H;have Z53 := kz4 aa;go_wp2;go_meet
       case rel => exact ⟨_, (true), et, H', ⟨by have := HJ4.out; have := ak.out; have := av.out; first | omega | exact Nat.le_refl _⟩, ⟨kg aa⟩, ⟨kh HB⟩⟩
      rw [if_neg c52] at H;have aS := decide_eq_false c52;clear c52;have H' := Aside0.mk H;clear H;have Z54 := kz4 aa;go_wp2;go_meet
      case rel => exact ⟨_, (decide (ae ≥ aj)), et, H', ⟨by have := HJ4.out; have := ak.out; have := av.out; first | omega | exact Nat.le_refl _⟩, ⟨kg aa⟩, ⟨kh HB⟩⟩
     subst c41;replace H := ifT H
     by_cases c42 : ag < 0
     ·rw [if_pos c42] at H
      have aw := decide_eq_true c42;clear c42;(first | rw [aw] | (simp only [i64_w, i32_w]; rw [aw]) | skip);have H' := Aside0.mk H;clear H;have Z43 := kz4 aa;go_wp2;go_meet
      case rel => exact ⟨_, (true), et, H', ⟨by have := HJ4.out; have := ak.out; have := av.out; first | omega | exact Nat.le_refl _⟩, ⟨kg aa⟩, ⟨kh HB⟩⟩
     rw [if_neg c42] at H;have aw := decide_eq_false c42;clear c42;(first | rw [aw] | (simp only [i64_w, i32_w]; rw [aw]) | skip)
     by_cases c44 : ag ≥ aj
     ·rw [if_pos c44] at H
      have aT := decide_eq_true c44;clear c44;have H' := Aside0.mk H;clear H;have Z45 := kz4 aa;go_wp2;go_meet
      case rel => exact ⟨_, (true), et, H', ⟨by have := HJ4.out; have := ak.out; have := av.out; first | omega | exact Nat.le_refl _⟩, ⟨kg aa⟩, ⟨kh HB⟩⟩
     rw [if_neg c44] at H;have aT := decide_eq_false c44;clear c44
     by_cases c46 : ai = true
     rotate_left
     ·replace c46 := Bool.eq_false_iff.mpr c46
      subst c46;replace H := ifF H;have H' := Aside0.mk H;clear H;have Z50 := kz4 aa;go_wp2;go_meet
      case rel => exact ⟨_, (false), et, H', ⟨by have := HJ4.out; have := ak.out; have := av.out; first | omega | exact Nat.le_refl _⟩, ⟨kg aa⟩, ⟨kh HB⟩⟩
     subst c46;replace H := ifT H
     by_cases c47 : ae < 0
     ·rw [if_pos c47] at H
      have aU := decide_eq_true c47;clear c47;have H' := Aside0.mk H;clear H;have Z48 := kz4 aa;go_wp2;go_meet
      case rel => exact ⟨_, (true), et, H', ⟨by have := HJ4.out; have := ak.out; have := av.out; first | omega | exact Nat.le_refl _⟩, ⟨kg aa⟩, ⟨kh HB⟩⟩
     rw [if_neg c47] at H;have aU := decide_eq_false c47;clear c47;have H' := Aside0.mk H;clear H;have Z49 := kz4 aa;go_wp2;go_meet
     case rel => exact ⟨_, (decide (ae ≥ aj)), et, H', ⟨by have := HJ4.out; have := ak.out; have := av.out; first | omega | exact Nat.le_refl _⟩, ⟨kg aa⟩, ⟨kh HB⟩⟩
    clear aD;obtain ⟨kq, ao, rfl, HA, ba, aa, HB⟩ := hcut
    cases kq with
    | zero => exact absurd HA.out (by simp [qca.j4])
    | succ bb =>
     have H := HA.out;clear HA;simp only [qca.j4] at H
     by_cases c55 : ao = true
     ·subst c55
      replace H := ifT H;obtain rfl := Option.some.inj H;go_wp2;go_ret;exact ⟨er, kh HB⟩
     replace c55 := Bool.eq_false_iff.mpr c55;subst c55;replace H := ifF H
     by_cases c56 : ah = true
     rotate_left
     ·replace c56 := Bool.eq_false_iff.mpr c56
      subst c56;replace H := ifF H;obtain rfl := Option.some.inj H;go_wp2;go_ret;exact ⟨er, kh HB⟩
     subst c56;replace H := ifT H
     by_cases c57 : af ≥ a0
     ·rw [if_pos c57] at H
      have aV := decide_eq_true c57;clear c57;obtain rfl := Option.some.inj H;have Z58 := kz4 aa;go_wp2;go_ret;exact ⟨er, kh HB⟩
     rw [if_neg c57] at H;have aV := decide_eq_false c57;clear c57;obtain rfl := Option.some.inj H;have Z59 := kz4 aa;go_wp2;go_ret;exact ⟨er, kh HB⟩
def qka.l0 : Nat → Int → List Int → List Int → Int → Int → Option (Bool)
 | 0, _, _, _, _, _ => none
 | k + 1, x0, x1, x7, x8, x9 => if x9 < x8 then (if 0 ≤ x9 then (if x9 < (x7.length : Int) then (if (rd x7 x9) < 1 then (some false) else (if (rd x7 x9) > x0 then (some false) else (if x9 > 0 then (if 0 ≤ (wrap64 (x9 - 1)) then (if (wrap64 (x9 - 1)) < (x1.length : Int) then (if (rd x1 (wrap64 (x9 - 1))) ≥ (rd x7 x9) then (some false) else (qka.l0 k x0 x1 x7 x8 (wrap64 (x9 + 1)))) else (none)) else (none)) else (qka.l0 k x0 x1 x7 x8 (wrap64 (x9 + 1)))))) else (none)) else (none)) else (some true)
def qka.f (k : Nat) (a0 : Int) (l1 : List Int) : Option (Bool) := qka.l0 k a0 l1 l1 (l1.length : Int) 0
theorem qka.calls (k : Nat) (a0 : Int) (A1 : Option Addr) (c1 : Nat) (l1 : List Int) (r : Bool) (w : World) (hr1 : Kd.C (Kd.int .i64) w A1 l1.length l1) (hc1 : l1.length ≤ c1) (h : qka.f k a0 l1 = some r) :
  Calls Try.prog 71 #[.int .i64 a0, .slice A1 l1.length c1] w fun e w' => e = .returned (.bool r) ∧ Drawn0 w w' := by
 have HR1 := Aside0.mk hr1;have HC1 := Aside0.mk hc1;clear hr1 hc1;have H : (qka.l0 k a0 l1 l1 (l1.length : Int) 0) = some r := h;clear h;have H' := Aside0.mk H;clear H;go_enter Try.func71, Try.ntmps71;go_wp2;go_loopg [9] k (fun kq v9 w' => ∃ (aa : Int), v9 = .int .i64 aa ∧ Aside0 (qka.l0 kq a0 l1 l1 (l1.length : Int) aa = some r) ∧ Aside0 (kq ≤ k) ∧ Drawn0 w w')
 case atStart => exact ⟨(0), et, H', ⟨Nat.le_refl _⟩, by repeat (first | exact Drawn0.refl _ | apply Drawn0.step)⟩
 case round =>
  clear H';obtain ⟨aa, rfl, HA, HK1, ⟨m1, rfl⟩⟩ := hrel
  cases gk with
  | zero => exact absurd HA.out (by simp [qka.l0])
  | succ k1 =>
   have H := HA.out;clear HA;simp only [qka.l0] at H
   by_cases c3 : aa < (l1.length : Int)
   rotate_left
   ·rw [if_neg c3] at H
    have ar := decide_eq_false c3;clear c3;obtain rfl := Option.some.inj H;go_wp2;go_ret;exact ⟨et, by repeat (first | exact Drawn0.refl _ | apply Drawn0.step)⟩
   rw [if_pos c3] at H;have ar := decide_eq_true c3;clear c3
   by_cases c4 : 0 ≤ aa
   rotate_left
   ·rw [if_neg c4] at H
    exact absurd H (by simp)
   rw [if_pos c4] at H;have aA := decide_eq_true c4;clear c4
   by_cases c5 : aa < (l1.length : Int)
   rotate_left
   ·rw [if_neg c5] at H
    exact absurd H (by simp)
   rw [if_pos c5] at H;have aB := decide_eq_true c5;clear c5
   by_cases c6 : (rd l1 aa) < 1
   ·rw [if_pos c6] at H
    have au := decide_eq_true c6;clear c6;obtain rfl := Option.some.inj H;have ab : 0 ≤ (aa : Int) := od;have ae : aa < (l1.length : Int) := od;obtain ⟨ag, ah, af⟩ := Kd.at_int HR1.out aa ab ae;cases ah;replace ab := eq_true ab; replace ae := eq_true ae;go_wp2;go_ret;exact ⟨et, by repeat (first | exact Drawn0.refl _ | apply Drawn0.step)⟩
   rw [if_neg c6] at H;have au := decide_eq_false c6;clear c6
   by_cases c7 : (rd l1 aa) > a0
   ·rw [if_pos c7] at H
    have av := decide_eq_true c7;clear c7;obtain rfl := Option.some.inj H;have ab : 0 ≤ (aa : Int) := od;have ae : aa < (l1.length : Int) := od;obtain ⟨ag, ah, af⟩ := Kd.at_int HR1.out aa ab ae;cases ah;replace ab := eq_true ab; replace ae := eq_true ae;go_wp2;go_ret;exact ⟨et, by repeat (first | exact Drawn0.refl _ | apply Drawn0.step)⟩
   rw [if_neg c7] at H;have av := decide_eq_false c7;clear c7
   by_cases c8 : aa > 0
   rotate_left
   ·rw [if_neg c8] at H
    have aw := decide_eq_false c8;clear c8;have H' := Aside0.mk H;clear H;have ab : 0 ≤ (aa : Int) := od;have ae : aa < (l1.length : Int) := od;obtain ⟨ag, ah, af⟩ := Kd.at_int HR1.out aa ab ae;cases ah;replace ab := eq_true ab; replace ae := eq_true ae;go_wp2;go_roundg k1
    case measure => have := HK1.out; omega
    case rel => exact ⟨(wrap64 (aa + 1)), et, H', ⟨by have := HK1.out; omega⟩, by repeat (first | exact Drawn0.refl _ | apply Drawn0.step)⟩
   rw [if_pos c8] at H;have aw := decide_eq_true c8;clear c8;obtain ⟨ji9, an⟩ : ∃ j_ : Int, (wrap64 (aa - 1)) = j_ := ⟨_, rfl⟩
   replace H : (if 0 ≤ (ji9) then (if (ji9) < (l1.length : Int) then (if (rd l1 (ji9)) ≥ (rd l1 aa) then (some false) else (qka.l0 k1 a0 l1 l1 (l1.length : Int) (wrap64 (aa + 1)))) else (none)) else (none)) = some r := by first | (rw [an] at H; exact H) | (simp only [an] at H ⊢; exact H)
   have ax : (IntKind.i64.wrap (aa - 1)) = ji9 := (i64_w _).trans an
   by_cases c10 : 0 ≤ (ji9)
   rotate_left
   ·rw [if_neg c10] at H
    exact absurd H (by simp)
   rw [if_pos c10] at H;have ay := decide_eq_true c10;clear c10
   by_cases c11 : (ji9) < (l1.length : Int)
   rotate_left
   ·rw [if_neg c11] at H
    exact absurd H (by simp)
   rw [if_pos c11] at H;have az := decide_eq_true c11;clear c11
   by_cases c12 : (rd l1 (ji9)) ≥ (rd l1 aa)
   ·rw [if_pos c12] at H
    have aq := decide_eq_true c12;clear c12;obtain rfl := Option.some.inj H;have ab : 0 ≤ (aa : Int) := od;have ae : aa < (l1.length : Int) := od;obtain ⟨ag, ah, af⟩ := Kd.at_int HR1.out aa ab ae;cases ah;replace ab := eq_true ab; replace ae := eq_true ae;have ai : 0 ≤ ((ji9) : Int) := od;have aj : (ji9) < (l1.length : Int) := od;obtain ⟨ak, ap, ao⟩ := Kd.at_int HR1.out (ji9) ai aj;obtain rfl : ag = ak := (by injection ap);replace ai := eq_true ai; replace aj := eq_true aj;go_wp2;go_ret;exact ⟨by first | rfl | (simp; done) | (simp only [← an] <;> (first | rfl | simp)) | (simp [*]; done), by repeat (first | exact Drawn0.refl _ | apply Drawn0.step)⟩
   rw [if_neg c12] at H;have aq := decide_eq_false c12;clear c12;have H' := Aside0.mk H;clear H;have ab : 0 ≤ (aa : Int) := od;have ae : aa < (l1.length : Int) := od;obtain ⟨ag, ah, af⟩ := Kd.at_int HR1.out aa ab ae;cases ah;replace ab := eq_true ab; replace ae := eq_true ae;have ai : 0 ≤ ((ji9) : Int) := od;have aj : (ji9) < (l1.length : Int) := od;obtain ⟨ak, ap, ao⟩ := Kd.at_int HR1.out (ji9) ai aj;obtain rfl : ag = ak := (by injection ap);replace ai := eq_true ai; replace aj := eq_true aj;go_wp2;go_roundg k1
   case measure => have := HK1.out; omega
   case rel => exact ⟨(wrap64 (aa + 1)), et, H', ⟨by have := HK1.out; omega⟩, by repeat (first | exact Drawn0.refl _ | apply Drawn0.step)⟩
def qna.l0 : Nat → Int → List Int → Int → Int → Option (Int)
 | 0, _, _, _, _ => none
 | k + 1, x0, x16, x17, x18 => if x18 < x17 then (if 0 ≤ x18 then (if x18 < (x16.length : Int) then (if (rd x16 x18) < 0 then (some 13) else (if (rd x16 x18) ≥ x0 then (some 13) else (qna.l0 k x0 x16 x17 (wrap64 (x18 + 1))))) else (none)) else (none)) else (some 0)
def qna.f (k : Nat) (a0 : Int) (ab : List Int) (aa : List Int) : Option (Int) := (qka.f k 13 ab).bind fun ae => (if ae = true then (if (aa.length : Int) > 1024 then (some 3) else (qna.l0 k a0 aa (aa.length : Int) 0)) else (some 2))
theorem qna.calls (k : Nat) (a0 : Int) (aj : Option Addr) (ak : Nat) (af : List Int) (an : Option Addr) (ao : Nat) (ae : List Int) (r : Int) (w : World) (aw : Kd.C (Kd.int .i64) w aj af.length af) (ax : af.length ≤ ak) (ay : Kd.C (Kd.int .i64) w an ae.length ae) (az : ae.length ≤ ao) (h : qna.f k a0 af ae = some r) :
  Calls Try.prog 42 #[.int .i64 a0, .agg #[.slice aj af.length ak, .slice an ae.length ao]] w fun e w' => e = .returned (.int .i64 r) ∧ Below w.heap.size w w' := by
 have hu66 := Try.underlying66;have ap := Aside0.mk aw;have aq := Aside0.mk ax;clear aw ax;have ar := Aside0.mk ay;have aJ := Aside0.mk az;clear ay az;have HB := Aside0.mk (Below.refl w.heap.size w);have H : ((qka.f k 13 af).bind fun aD => (if aD = true then (if (ae.length : Int) > 1024 then (some 3) else (qna.l0 k a0 ae (ae.length : Int) 0)) else (some 2))) = some r := h;clear h;replace H := Option.bind_eq_some_iff.mp H;obtain ⟨aD, A30, H⟩ := H;(try dsimp only at H);have A3 := Aside0.mk A30;clear A30
 by_cases c4 : aD = true
 rotate_left
 ·replace c4 := Bool.eq_false_iff.mpr c4
  subst c4;replace H := ifF H;obtain rfl := Option.some.inj H;go_enter Try.func42, Try.ntmps42;go_wp2_with (first | ((with_reducible refine qea (N := 3) rfl ?_); refine box_event ?hg (N := 3) ?hd (cs := #[.slice aj af.length ak, .slice an ae.length ao]) (t := 66) ?hr ?_; (case hd => rfl); (case hg => rfl); (case hr => first | (go_simp; done) | (go_simp; rfl)); intro au hg w15 hbox hb; have ag := am hbox; have aA := kG HB hg; have aB := kG HB hg; replace HB := kH HB hb; clear hb hbox hg; have Z16 := kz2 ag) | ((with_reducible refine gate_callee (f := 71) rfl ?_); refine goesL_ (some 9) rfl rfl Try.func71 (by kernel_rfl) rfl #[.int .i64 13, .slice aj af.length ak] rfl (by (try simp only [qM1, qM2, qM3]); first | done | rfl) ?_; (with_reducible refine (qka.calls k 13 _ _ af false _ ?side1 ?side2 A3.out).mono ?_); (case side1 => repeat (first | exact (Kd.C_below ap.out HB.out) | (with_reducible first | refine Kd.C_alloc ?_ _ | refine Kd.C_drewN ?_ _ | refine Kd.C_drew ?_))); (case side2 => exact aq.out); rintro e w' ⟨rfl, ⟨nd, rfl⟩⟩; refine ⟨_, rfl, ?_⟩));go_ret;exact ⟨er, kh HB⟩
 subst c4;replace H := ifT H
 by_cases c5 : (ae.length : Int) > 1024
 ·rw [if_pos c5] at H
  have aE := decide_eq_true c5;have aF : decide (1024 < ae.length) = true := decide_eq_true (by omega);clear c5;obtain rfl := Option.some.inj H;go_enter Try.func42, Try.ntmps42;go_wp2_with (first | ((with_reducible refine qea (N := 3) rfl ?_); refine box_event ?hg (N := 3) ?hd (cs := #[.slice aj af.length ak, .slice an ae.length ao]) (t := 66) ?hr ?_; (case hd => rfl); (case hg => rfl); (case hr => first | (go_simp; done) | (go_simp; rfl)); intro au hg w6 hbox hb; have ag := am hbox; have aA := kG HB hg; have aB := kG HB hg; replace HB := kH HB hb; clear hb hbox hg; have Z7 := kz2 ag) | ((with_reducible refine gate_callee (f := 71) rfl ?_); refine goesL_ (some 9) rfl rfl Try.func71 (by kernel_rfl) rfl #[.int .i64 13, .slice aj af.length ak] rfl (by (try simp only [qM1, qM2, qM3]); first | done | rfl) ?_; (with_reducible refine (qka.calls k 13 _ _ af true _ ?side1 ?side2 A3.out).mono ?_); (case side1 => repeat (first | exact (Kd.C_below ap.out HB.out) | (with_reducible first | refine Kd.C_alloc ?_ _ | refine Kd.C_drewN ?_ _ | refine Kd.C_drew ?_))); (case side2 => exact aq.out); rintro e w' ⟨rfl, ⟨nd, rfl⟩⟩; refine ⟨_, rfl, ?_⟩));go_ret;exact ⟨er, kh HB⟩
 rw [if_neg c5] at H;have aE := decide_eq_false c5;have aF : decide (1024 < ae.length) = false := decide_eq_false (by omega);clear c5;have H' := Aside0.mk H;clear H;go_enter Try.func42, Try.ntmps42;go_wp2_with (first | ((with_reducible refine qea (N := 3) rfl ?_); refine box_event ?hg (N := 3) ?hd (cs := #[.slice aj af.length ak, .slice an ae.length ao]) (t := 66) ?hr ?_; (case hd => rfl); (case hg => rfl); (case hr => first | (go_simp; done) | (go_simp; rfl)); intro au hg w8 hbox hb; have ag := am hbox; have aA := kG HB hg; have aB := kG HB hg; replace HB := kH HB hb; clear hb hbox hg; have Z9 := kz2 ag) | ((with_reducible refine gate_callee (f := 71) rfl ?_); refine goesL_ (some 9) rfl rfl Try.func71 (by kernel_rfl) rfl #[.int .i64 13, .slice aj af.length ak] rfl (by (try simp only [qM1, qM2, qM3]); first | done | rfl) ?_; (with_reducible refine (qka.calls k 13 _ _ af true _ ?side1 ?side2 A3.out).mono ?_); (case side1 => repeat (first | exact (Kd.C_below ap.out HB.out) | (with_reducible first | refine Kd.C_alloc ?_ _ | refine Kd.C_drewN ?_ _ | refine Kd.C_drew ?_))); (case side2 => exact aq.out); rintro e w' ⟨rfl, ⟨nd, rfl⟩⟩; refine ⟨_, rfl, ?_⟩));go_loopg [18] k (fun kq v18 w' => ∃ (ab : Int), v18 = .int .i64 ab ∧ Aside0 (qna.l0 kq a0 ae (ae.length : Int) ab = some r) ∧ Aside0 (kq ≤ k) ∧ Aside0 (w'.heap[au]? = some (.cells #[(.slice aj af.length ak), (.slice an ae.length ao)] 66 (0, 0))) ∧ Aside0 (Below w.heap.size w w'))
 case atStart => exact ⟨(0), et, H', ⟨Nat.le_refl _⟩, ⟨kg ag⟩, ⟨kh HB⟩⟩
 case round =>
  clear H';(try clear c4 aE aF Z7 Z9);obtain ⟨ab, rfl, HA, HK1, ag, HB⟩ := hrel
  cases gk with
  | zero => exact absurd HA.out (by simp [qna.l0])
  | succ k1 =>
   have H := HA.out;clear HA;simp only [qna.l0] at H
   by_cases c10 : ab < (ae.length : Int)
   rotate_left
   ·rw [if_neg c10] at H
    have aG := decide_eq_false c10;clear c10;obtain rfl := Option.some.inj H;go_wp2;go_ret;exact ⟨er, kh HB⟩
   rw [if_pos c10] at H;have aG := decide_eq_true c10;clear c10
   by_cases c11 : 0 ≤ ab
   rotate_left
   ·rw [if_neg c11] at H
    exact absurd H (by simp)
   rw [if_pos c11] at H;have aK := decide_eq_true c11;clear c11
   by_cases c12 : ab < (ae.length : Int)
   rotate_left
   ·rw [if_neg c12] at H
    exact absurd H (by simp)
   rw [if_pos c12] at H;have aL := decide_eq_true c12;clear c12
   by_cases c13 : (rd ae ab) < 0
   ·rw [if_pos c13] at H
    have aH := decide_eq_true c13;clear c13;obtain rfl := Option.some.inj H;have ah : 0 ≤ (ab : Int) := od;have ai : ab < (ae.length : Int) := od;obtain ⟨aC, av, aa⟩ := Kd.at_int ar.out ab ah ai;cases av;replace aa := (HB.out.cell (World.block_lt_of_cell? w _ aa)).trans aa;replace ah := eq_true ah; replace ai := eq_true ai;go_wp2;go_ret;exact ⟨er, kh HB⟩
   rw [if_neg c13] at H;have aH := decide_eq_false c13;clear c13
   by_cases c14 : (rd ae ab) ≥ a0
   ·rw [if_pos c14] at H
    have aI := decide_eq_true c14;clear c14;obtain rfl := Option.some.inj H;have ah : 0 ≤ (ab : Int) := od;have ai : ab < (ae.length : Int) := od;obtain ⟨aC, av, aa⟩ := Kd.at_int ar.out ab ah ai;cases av;replace aa := (HB.out.cell (World.block_lt_of_cell? w _ aa)).trans aa;replace ah := eq_true ah; replace ai := eq_true ai;go_wp2;go_ret;exact ⟨er, kh HB⟩
   rw [if_neg c14] at H;have aI := decide_eq_false c14;clear c14;have H' := Aside0.mk H;clear H;have ah : 0 ≤ (ab : Int) := od;have ai : ab < (ae.length : Int) := od;obtain ⟨aC, av, aa⟩ := Kd.at_int ar.out ab ah ai;cases av;replace aa := (HB.out.cell (World.block_lt_of_cell? w _ aa)).trans aa;replace ah := eq_true ah; replace ai := eq_true ai;go_wp2;go_roundg k1
   case measure => have := HK1.out; omega
   case rel => exact ⟨(wrap64 (ab + 1)), et, H', ⟨by have := HK1.out; omega⟩, ⟨kg ag⟩, ⟨kh HB⟩⟩
end Go.Proofs.Ytmlbliggbkfjnaa.J
