/- Part 3 of the proof of TuneDone: what the functions compute as plain Lean functions, that the machine comes to just these answers, and that the answer is true; no conditions. -/
import Derived.Test.YtmlbliggbkfjnaaTuneDoneZ0
import Derived.Test.YtmlbliggbkfjnaaTuneDoneZ1
import Derived.Test.YtmlbliggbkfjnaaTuneDoneZ2
import Derived.Laws.EntriesVeiled
import Derived.RangeFuncRecord
import Derived.RangeFuncBox
import Derived.RangeFuncCalls
import Derived.Shelf.Abstract
import Derived.RangeFuncLeaves
import Derived.RangeFuncWrites
import Derived.OwnWalkIn
import Derived.TacticsInMore
import Derived.LoopNIn
import Derived.LoopIn
import Derived.RangeFuncNested
set_option linter.unusedSimpArgs false
set_option linter.unusedVariables false
set_option maxHeartbeats 8000000
set_option maxRecDepth 100000
namespace Go.Proofs.Ytmlbliggbkfjnaa.J
open Go.RowKit Go.Proofs.YtmlbliggbkfjnaaW.PrintWords Go.Proofs.YtmlbliggbkfjnaaW.PrintLast Go.Proofs.YtmlbliggbkfjnaaW.PrintMore
attribute [local go_sem] max2_int min2_int max_two min_two max_three min_three max_four min_four
def tune_Share.val (g : S61) : Value := .agg #[.int .i64 g.f0, .int .i64 g.f1, .int .i64 g.f2, .int .u64 g.f3]
def tune_Share.ent (g : S61 × Int) (j : Nat) : MapEntry := { key := tune_Share.val g.1, val := .int .i64 g.2, born := j }
def tune_Share.ents : Nat → List (S61 × Int) → List MapEntry
 | _, [] => []
 | j, g :: M => tune_Share.ent g j :: tune_Share.ents (j + 1) M
def tune_Share.obj (M : List (S61 × Int)) : Obj := .map (tune_Share.ents 0 M).toArray M.length
def tune_Share.same (x y : S61) : Bool := x.f0 == y.f0 && (x.f1 == y.f1 && (x.f2 == y.f2 && x.f3 == y.f3))
def tune_Share.find (g : S61) : List (S61 × Int) → Option Int
 | [] => none
 | x :: M => if tune_Share.same g x.1 = true then some x.2 else tune_Share.find g M
def tune_Share.look (M : List (S61 × Int)) (a b c d : Int) : Option (Int × Bool) := some (match tune_Share.find ⟨a, b, c, d⟩ M with | some i => (i, true) | none => (0, false))
def tune_Share.put (M : List (S61 × Int)) (a b c d i : Int) : Option (List (S61 × Int)) := if tune_Share.find ⟨a, b, c, d⟩ M = none then some (M ++ [(⟨a, b, c, d⟩, i)]) else none
def tune_Share.st (l : List Int) (i _ _ _ _ : Int) : Option Bool := if 0 ≤ i ∧ i < (l.length : Int) then some (rd l i == i) else none
def tune_Share.tto (l : List Int) (i : Int) : Option Int := if 0 ≤ i ∧ i < (l.length : Int) then some (rd l i) else none
theorem tune_Share.blk_far {w : World} {g : Nat} {o : Obj} (h : w.heap[g]? = some o) {p : Addr} (hp : g ≠ p.block) (u : Value) : (w.setCell p u).heap[g]? = some o := (Below.heap_setCell w p u g hp).trans h
theorem tune_Share.map_step {P : Program} {ops : Array Oper} {o : Oper} {a : Act} {Q : Exit → Act → World → Prop} {Kc : Act → World → Prop} {W : World} (hw : Region.wanted o (yielded ops a.tmps) = true) {N : Tmp} (_hd : o.dst = some N)
  (hrun : (execOp a.eval o).run P W = .ok (.value (.map (some W.heap.size))) (W.alloc (.map #[] 0)))
  (h : ∀ g, g = W.heap.size → ∀ w1, w1.heap[g]? = some (tune_Share.obj []) → Below W.heap.size W w1 → Kc (a.put o.dst (.map (some g))) w1) : if Region.wanted o (yielded ops a.tmps) = true then Oper.wp P o a W Kc Q else Kc (a.put o.dst undef) W :=
 event_step hw hrun (h _ rfl _ (blk_new W (.map #[] 0)) (below_alloc (Below.refl _ _) _))
theorem tune_Share.equal_run (x y : S61) (w : World) (d : Nat) : (Op.equalIn (d + 2) 61 (tune_Share.val x) (tune_Share.val y)).run Try.prog w = .ok (tune_Share.same x y) w := by
 unfold tune_Share.val tune_Share.same;refine eqA_of Try.underlying61 (by kernel_rfl) ?_;refine eqf_cons (by rfl) (by go_simp; rfl) (by go_simp; rfl) (by go_simp) ?_;refine eqf_cons (by rfl) (by go_simp; rfl) (by go_simp; rfl) (by go_simp) ?_;refine eqf_cons (by rfl) (by go_simp; rfl) (by go_simp; rfl) (by go_simp) ?_;refine eqf_last (by rfl) (by go_simp; rfl) (by go_simp; rfl) (by go_simp)
theorem tune_Share.ask_run (g : S61) (w : World) : ∀ (M : List (S61 × Int)) (j i : Nat), ∃ q : Option (Nat × Value), (Instr.findAsking 61 (tune_Share.val g) (tune_Share.ents j M) i).run Try.prog w = .ok q w ∧ q.map Prod.snd = (tune_Share.find g M).map (Value.int .i64)
 | [], _, _ => ⟨none, by simp [tune_Share.ents, Instr.findAsking], rfl⟩
 | x :: M, j, i => by
  obtain ⟨q, hq, hq2⟩ := tune_Share.ask_run g w M (j + 1) (i + 1);have he : (Op.equal 61 (tune_Share.val g) (tune_Share.ent x j).key).run Try.prog w = .ok (tune_Share.same g x.1) w := tune_Share.equal_run g x.1 w 9998;unfold tune_Share.ents Instr.findAsking tune_Share.find;rw [Sem.run_bind, he, Result.andThen_ok];cases hs : tune_Share.same g x.1
  ·simp only [Bool.false_eq_true, if_false]
   exact ⟨q, hq, hq2⟩
  ·simp only [if_true]
   exact ⟨some (i, .int .i64 x.2), by simp [tune_Share.ent], rfl⟩
theorem tune_Share.key_run (e : Bool) (g : S61) (w : World) : (Instr.checkKey e 10000 61 (tune_Share.val g)).run Try.prog w = .ok () w := by
 cases e <;> kernel_rfl
theorem tune_Share.find_run (g : S61) (M : List (S61 × Int)) (w : World) : ∃ q : Option (Nat × Value), (Instr.findKey 61 (tune_Share.val g) (tune_Share.ents 0 M)).run Try.prog w = .ok q w ∧ q.map Prod.snd = (tune_Share.find g M).map (Value.int .i64) := by
 obtain ⟨q, hq, hq2⟩ := tune_Share.ask_run g w M 0 0;exact ⟨q, (run_findKey_eq (P := Try.prog) (k := 61) w (by rw [Try.underlying61]) (tune_Share.val g) (tune_Share.ents 0 M)).trans hq, hq2⟩
theorem tune_Share.look_run (g : S61) (M : List (S61 × Int)) (w : World) (b : Nat) (hb : w.heap[b]? = some (tune_Share.obj M)) (r : Int × Bool) (h : tune_Share.look M g.f0 g.f1 g.f2 g.f3 = some r) :
  (Instr.lookup 73 (.map (some b)) (tune_Share.val g) true).run Try.prog w = .ok (.tuple #[.int .i64 r.1, .bool r.2]) w := by
 obtain ⟨q, hq, hq2⟩ := tune_Share.find_run g M w;obtain rfl := qqI h
 have hz : (zeroValue 3).run Try.prog w = .ok (.int .i64 0) w := by kernel_rfl
 have hu : (underlying 73).run Try.prog w = .ok (.map 61 3) w := by kernel_rfl
 have ho : (getObj b).run Try.prog w = .ok (tune_Share.obj M) w := by simp [getObj, Sem.run, hb]; rfl
 unfold Instr.lookup;rw [Sem.run_bind, hu, Result.andThen_ok];simp only [Sem.run_bind, ho, tune_Share.obj, Result.andThen_ok, Sem.run_pure, tune_Share.key_run, hq]
 cases hf : tune_Share.find g M with
 | none =>
  rw [hf] at hq2
  cases q with
  | some q => cases hq2
  | none => simp [hz, hf]
 | some i =>
  rw [hf] at hq2
  cases q with
  | none => cases hq2
  | some q =>
   obtain ⟨q1, q2⟩ := q;obtain rfl : q2 = .int .i64 i := qqI hq2;simp [hf]
theorem tune_Share.ents_push (x : S61 × Int) : ∀ (M : List (S61 × Int)) (j : Nat), tune_Share.ents j (M ++ [x]) = tune_Share.ents j M ++ [tune_Share.ent x (j + M.length)]
 | [], j => by simp [tune_Share.ents]
 | y :: M, j => by
  simp only [List.cons_append, tune_Share.ents, tune_Share.ents_push x M (j + 1), List.length_cons];rw [show j + 1 + M.length = j + (M.length + 1) by omega]
theorem tune_Share.put_run (g : S61) (M M' : List (S61 × Int)) (w : World) (b : Nat) (i : Int) (hb : w.heap[b]? = some (tune_Share.obj M)) (h : tune_Share.put M g.f0 g.f1 g.f2 g.f3 i = some M') :
  (Instr.mapUpdate 73 (.map (some b)) (tune_Share.val g) (.int .i64 i)).run Try.prog w = .ok () (w.putObj b (tune_Share.obj M')) := by
 unfold tune_Share.put at h
 split at h
 ·rename_i hf
  obtain rfl := qqI h;obtain ⟨q, hq, hq2⟩ := tune_Share.find_run g M w;rw [show tune_Share.find g M = none from hf] at hq2
  obtain rfl : q = none := by cases q with | none => rfl | some q => cases hq2
  have hu : (underlying 73).run Try.prog w = .ok (.map 61 3) w := by kernel_rfl
  have ho : (getObj b).run Try.prog w = .ok (tune_Share.obj M) w := by simp [getObj, Sem.run, hb]; rfl
  have he : tune_Share.obj (M ++ [(g, i)]) = .map ((tune_Share.ents 0 M).toArray.push { key := tune_Share.val g, val := .int .i64 i, born := M.length }) (M.length + 1) := by
   simp [tune_Share.obj, tune_Share.ents_push, tune_Share.ent]
  unfold Instr.mapUpdate;rw [Sem.run_bind, hu, Result.andThen_ok];simp only [Sem.run_bind, ho, tune_Share.obj, Result.andThen_ok, tune_Share.key_run, hq];rw [show (⟨g.f0, g.f1, g.f2, g.f3⟩ : S61) = g from rfl] at *
  have hs : ∀ X : Obj, (setObj b X).run Try.prog w = .ok () (w.putObj b X) := fun X => by
   simp only [setObj, Sem.run, hb, World.putObj]
   rfl
  rw [hs];exact congrArg (fun o => Result.ok () (w.putObj b o)) he.symm
 ·cases h
theorem tune_Share.calls1 (g : Nat) (A : Option Addr) (c : Nat) (l : List Int) (W : World) (hx : W.cell? ⟨g, 0, none⟩ = some (.slice A l.length c)) (hC : Kd.C (Kd.int .i64) W A l.length l) (x0 x1 x2 x3 x4 : Int) (r : Bool) (h : tune_Share.st l x0 x1 x2 x3 x4 = some r) :
  Calls Try.prog 46 (#[.int .i64 x0, .agg #[.int .i64 x1, .int .i64 x2, .int .i64 x3, .int .u64 x4]] ++ #[.pointer (some ⟨g, 0, none⟩)]) W fun e_ w' => e_ = .returned (.bool r) ∧ Below W.heap.size W w' := by
 unfold tune_Share.st at h
 split at h
 ·rename_i hi
  obtain rfl := qqI h;obtain ⟨h0, h1⟩ := hi;obtain ⟨ad, rfl, hr⟩ := Kd.at_int hC x0 h0 h1;clear hC h;replace hx := (World.grownBy_alloc W (.cells #[.int .i64 x1, .int .i64 x2, .int .i64 x3, .int .u64 x4] 61 (0, 0)) none).cell hx (by simp);replace hr := (World.grownBy_alloc W (.cells #[.int .i64 x1, .int .i64 x2, .int .i64 x3, .int .u64 x4] 61 (0, 0)) none).cell hr (by simp);replace h0 := eq_true h0; replace h1 := eq_true h1;go_enter Try.func46, Try.ntmps46;go_wp2;go_ret;exact ⟨rfl, by repeat (first | exact Below.refl _ _ | apply below_alloc)⟩
 ·cases h
theorem tune_Share.calls2 (g : Nat) (A : Option Addr) (c : Nat) (l : List Int) (W : World) (hx : W.cell? ⟨g, 0, none⟩ = some (.slice A l.length c)) (hC : Kd.C (Kd.int .i64) W A l.length l) (x0 r : Int) (h : tune_Share.tto l x0 = some r) :
  Calls Try.prog 47 (#[.int .i64 x0] ++ #[.pointer (some ⟨g, 0, none⟩)]) W fun e_ w' => e_ = .returned (.int .i64 r) ∧ Below W.heap.size W w' := by
 unfold tune_Share.tto at h
 split at h
 ·rename_i hi
  obtain rfl := qqI h;obtain ⟨h0, h1⟩ := hi;obtain ⟨ad, rfl, hr⟩ := Kd.at_int hC x0 h0 h1;clear hC h; replace h0 := eq_true h0; replace h1 := eq_true h1;go_enter Try.func47, Try.ntmps47;go_wp2;go_ret;exact ⟨rfl, by repeat (first | exact Below.refl _ _ | apply below_alloc)⟩
 ·cases h
theorem tune_Share.gate_upd {P : Program} {ops : Array Oper} {rest : List Oper} {o : Oper} {a : Act} {Q : Exit → Act → World → Prop} {W : World} {x y z : Operand} (_h : o.op = .mapUpdate 73 x y z) (k : wpList P ops Q (o :: rest) a W) : wpList P ops Q (o :: rest) a W := k
theorem tune_Share.upd_event {P : Program} {ops : Array Oper} {rest : List Oper} {o : Oper} {a : Act} {Q : Exit → Act → World → Prop} {W w1 : World} (hgd : o.guard = none) (hN : o.dst = none)
  (hrun : (execOp a.eval o).run P W = .ok .skip w1) (h : ∀ w', w' = w1 → wpList P ops Q rest a w') : wpList P ops Q (o :: rest) a W := by
 refine wpList_plain hgd fun K hK => ?_
 unfold Oper.wp;rw [hrun]
 show K (a.put o.dst undef) w1
 rw [hN];exact hK _ _ (h _ rfl)
theorem tune_Share.look_event {P : Program} {ops : Array Oper} {rest : List Oper} {o : Oper} {a : Act} {Q : Exit → Act → World → Prop} {W : World} (hgd : o.guard = none) {N : Tmp} (_hN : o.dst = some N) {v : Value}
  (hrun : (execOp a.eval o).run P W = .ok (.value v) W) (h : ∀ w', Below W.heap.size W w' → wpList P ops Q rest (a.put o.dst v) w') : wpList P ops Q (o :: rest) a W :=
 Kd.event_run hgd hrun (h _ (Below.refl _ _))
theorem tune_Share.blk_upd {w : World} {g b : Nat} {o : Obj} (h : w.heap[g]? = some o) (hne : g ≠ b) (o' : Obj) : (w.putObj b o').heap[g]? = some o := (World.putObj_heap_other hne).trans h
theorem tune_Share.upd_new {w : World} {b : Nat} {o : Obj} (h : w.heap[b]? = some o) (o' : Obj) : (w.putObj b o').heap[b]? = some o' := by
 have := (Array.getElem?_eq_some_iff.1 h).1;simp [World.putObj, this]
theorem tune_Share.below_upd {n b : Nat} {w W : World} (h : Below n w W) (hb : n ≤ b) (hn : n ≤ W.heap.size) (o' : Obj) : Below n w (W.putObj b o') := h.grown (grownBy_putObj' W b o') hn (fun j hj => by cases hj; exact hb)
theorem tune_Share.R_upd {α : Type} {d : Kd α} {e : TypeId} {w : World} {base b : Nat} {v : Value} {xs : List α} {M : List (S61 × Int)} (h : d.R e w base (fun _ => True) v xs) (hb : w.heap[b]? = some (tune_Share.obj M)) (o' : Obj) : d.R e (w.putObj b o') base (fun _ => True) v xs :=
 Kd.R_mono (Kd.R_step (Kd.R_bound h) (fun k hk _ => by
  obtain ⟨_, _, _, q, _, cs, hc⟩ := hk
  exact World.putObj_heap_other (fun e => by rw [e, hb] at hc; cases hc))) (fun _ _ => trivial)
theorem tune_Share.R_neM {α : Type} {d : Kd α} {e : TypeId} {w : World} {base g : Nat} {ok : Nat → Prop} {v : Value} {xs : List α} {M : List (S61 × Int)} (h : d.R e w base ok v xs) (hb : w.heap[g]? = some (tune_Share.obj M)) : some g ≠ v.ownBlock := by
 obtain ⟨inner, ho, _⟩ := h.2
 rcases ho.2 with ⟨rfl, _⟩ | ⟨g', cap, cur, rfl, _, hh, _⟩
 ·simp [Value.ownBlock]
 ·intro he
  have : g = g' := by simpa [Value.ownBlock] using he
  subst this;rw [hb] at hh
  injection hh with hh
  cases hh
mutual
def tune_Share.l0 : Nat → List (S61) → Int → Int → List (S64) → List (S61) → List (S66) → List (S61 × Int) → Bool → List Int → Option ((List (S64)) × (List (S61)) × (List (S66)) × Int)
 | 0, _, _, _, _, _, _, _, _, _ => none
 | k + 1, x26, x27, x28, ab, ae, af, ag, aj, aa => if x28 < x27 then (if 0 ≤ x28 then (if x28 < (x26.length : Int) then (if ((rd_T61 x26 x28).f0) = 1 then (tune_Share.j1 k x28 x26 x27 x28 false ab ae af ag aj aa ((rd_T61 x26 x28).f0) ((rd_T61 x26 x28).f1) ((rd_T61 x26 x28).f2) ((rd_T61 x26 x28).f3)) else (tune_Share.j1 k x28 x26 x27 x28 (((rd_T61 x26 x28).f0) != 2) ab ae af ag aj aa ((rd_T61 x26 x28).f0) ((rd_T61 x26 x28).f1) ((rd_T61 x26 x28).f2) ((rd_T61 x26 x28).f3))) else (none)) else (none)) else ((tune_moved.f (tune_Share.st aa) (tune_Share.tto aa) k ab ae af).bind fun ao => (some (ao.1, ao.2.1, ao.2.2, 0)))
def tune_Share.j1 : Nat → Int → List (S61) → Int → Int → Bool → List (S64) → List (S61) → List (S66) → List (S61 × Int) → Bool → List Int → Int → Int → Int → Int → Option ((List (S64)) × (List (S61)) × (List (S66)) × Int)
 | 0, _, _, _, _, _, _, _, _, _, _, _, _, _, _, _ => none
 | k + 1, x9, x26, x27, x28, x40, ab, ae, af, ag, aj, aa, ak, ah, ai, an => if x40 = true then (if 0 ≤ ah then (if ah < (aa.length : Int) then (if ak = 6 then (tune_Share.j2 k x9 x26 x27 x28 ab ae af ag aj aa ak (rd aa ah) ai an) else (if 0 ≤ ai then (if ai < (aa.length : Int) then (tune_Share.j2 k x9 x26 x27 x28 ab ae af ag aj aa ak (rd aa ah) (rd aa ai) an) else (none)) else (none))) else (none)) else (none)) else (tune_Share.j2 k x9 x26 x27 x28 ab ae af ag aj aa ak ah ai an)
def tune_Share.j2 : Nat → Int → List (S61) → Int → Int → List (S64) → List (S61) → List (S66) → List (S61 × Int) → Bool → List Int → Int → Int → Int → Int → Option ((List (S64)) × (List (S61)) × (List (S66)) × Int)
 | 0, _, _, _, _, _, _, _, _, _, _, _, _, _, _ => none
 | k + 1, x9, x26, x27, x28, ab, ae, af, ag, aj, aa, ak, ah, ai, an => if ak = 3 then (tune_Share.j3 k x9 x26 x27 x28 (decide (ah > ai)) ab ae af ag aj aa ak ah ai an) else (if ak = 5 then (tune_Share.j3 k x9 x26 x27 x28 (decide (ah > ai)) ab ae af ag aj aa ak ah ai an) else (tune_Share.j3 k x9 x26 x27 x28 false ab ae af ag aj aa ak ah ai an))
def tune_Share.j3 : Nat → Int → List (S61) → Int → Int → Bool → List (S64) → List (S61) → List (S66) → List (S61 × Int) → Bool → List Int → Int → Int → Int → Int → Option ((List (S64)) × (List (S61)) × (List (S66)) × Int)
 | 0, _, _, _, _, _, _, _, _, _, _, _, _, _, _, _ => none
 | k + 1, x9, x26, x27, x28, x70, ab, ae, af, ag, aj, aa, ak, ah, ai, an => if x70 = true then (tune_Share.j4 k x9 x26 x27 x28 ab ae af ag aj aa ak ai ah an) else (tune_Share.j4 k x9 x26 x27 x28 ab ae af ag aj aa ak ah ai an)
def tune_Share.j4 : Nat → Int → List (S61) → Int → Int → List (S64) → List (S61) → List (S66) → List (S61 × Int) → Bool → List Int → Int → Int → Int → Int → Option ((List (S64)) × (List (S61)) × (List (S66)) × Int)
 | 0, _, _, _, _, _, _, _, _, _, _, _, _, _, _ => none
 | k + 1, x9, x26, x27, x28, ab, ae, af, ag, aj, aa, ak, ah, ai, an => (tune_Share.look ag ak ah ai an).bind fun ap => (if ap.2 = true then (if 0 ≤ x9 then (if x9 < (aa.length : Int) then (tune_Share.l0 k x26 x27 (wrap64 (x28 + 1)) ab ae af ag aj (aa.set (x9 : Int).toNat ap.1)) else (none)) else (none)) else ((tune_Share.put ag ak ah ai an x9).bind fun aq => (if 0 ≤ x9 then (if x9 < (aa.length : Int) then (tune_Share.l0 k x26 x27 (wrap64 (x28 + 1)) ab ae af aq aj (aa.set (x9 : Int).toNat x9)) else (none)) else (none))))
end
def tune_Share.f (k : Nat) (a0 : Int) (ab : List (S64)) (aa : List (S61)) (ae : List (S66)) : Option ((List (S64)) × (List (S61)) × (List (S66)) × Int) := (circ_Check.f k a0 ab aa ae).bind fun af => (if af = 0 then (if 0 ≤ (aa.length : Int) then (if ((aa.length : Int) : Int).toNat ≤ 35184372088832 then (tune_Share.l0 k aa (aa.length : Int) 0 ab aa ae [] false (List.replicate ((aa.length : Int) : Int).toNat 0)) else (none)) else (none)) else (some (([] : List (S64)), ([] : List (S61)), ([] : List (S66)), af)))
def tune_Share.T4 : Bool × List (List Nat × List Nat) := (true, [([], []), ([], []), ([1], [1]), ([2], [2]), ([3, 3], [3]), ([], []), ([0, 0, 5], [0]), ([5, 4, 6, 0, 1, 2, 3, 4, 5, 6], [4, 5])])
def tune_Share.B4 : List Nat := [0, 0, 2, 6, 14, 0, 33, 127]
theorem tune_Share.tab4 : rtab .any (opsOf Try.f20 4) = tune_Share.T4 := by kernel_rfl
theorem tune_Share.bits4 : waitsOk tune_Share.T4.2 tune_Share.B4 = true := by kernel_rfl
theorem tune_Share.calls (k : Nat) (a0 : Int) (aJ : Option Addr) (aK : Nat) (aD : List (S64)) (aW : Option Addr) (aL : Nat) (ag : List (S61)) (aM : Option Addr) (aN : Nat) (aE : List (S66)) (r1 : List (S64)) (r2 : List (S61)) (r3 : List (S66)) (r4 : Int) (w : World) (ck : Kd.C k64 w aJ aD.length aD) (cl : aD.length ≤ aK) (cm : Kd.C k61 w aW ag.length ag) (cn : ag.length ≤ aL) (co : Kd.C k66 w aM aE.length aE) (cp : aE.length ≤ aN) (h : tune_Share.f k a0 aD ag aE = some (r1, r2, r3, r4)) :
  Calls Try.prog 20 #[.int .u64 a0, .agg #[.slice aJ aD.length aK, .slice aW ag.length aL, .slice aM aE.length aN]] w fun e w' => ∃ v0_ v1_ v2_ : Value, e = .returned (.tuple #[.agg #[v0_, v1_, v2_], .int .i64 r4]) ∧ Kd.R k64 64 w' w.heap.size (fun _ => True) v0_ r1 ∧ Kd.R k61 61 w' w.heap.size (fun _ => True) v1_ r2 ∧ Kd.S k66 66 w' w.heap.size (fun _ => True) v2_ r3 ∧ Below w.heap.size w w' := by
 have hu26 := Try.underlying26;have hu64 := Try.underlying64;have hu61 := Try.underlying61;have bV := Aside0.mk ck;have bW := Aside0.mk cl;clear ck cl;have bL := Aside0.mk cm;have bX := Aside0.mk cn;clear cm cn;have bY := Aside0.mk co;have bZ := Aside0.mk cp;clear co cp;have HB := Aside0.mk (Below.refl w.heap.size w);have H : ((circ_Check.f k a0 aD ag aE).bind fun bQ => (if bQ = 0 then (if 0 ≤ (ag.length : Int) then (if ((ag.length : Int) : Int).toNat ≤ 35184372088832 then (tune_Share.l0 k ag (ag.length : Int) 0 aD ag aE [] false (List.replicate ((ag.length : Int) : Int).toNat 0)) else (none)) else (none)) else (some (([] : List (S64)), ([] : List (S61)), ([] : List (S66)), bQ)))) = some (r1, r2, r3, r4) := h;clear h;replace H := qqB H;obtain ⟨bQ, A30, H⟩ := H;(try dsimp only at H);have A3 := Aside0.mk A30;clear A30
 by_cases c4 : bQ = 0
 rotate_left
 ·rw [if_neg c4] at H
  have dC := beq_eq_false_iff_ne.mpr c4;have dD := bne_iff_ne.mpr c4;simp only [Option.some.injEq, Prod.mk.injEq] at H;obtain ⟨rfl, rfl, rfl, rfl⟩ := H;go_enter Try.func20, Try.ntmps20;go_wp2_with (first | ((with_reducible refine gate_dst (N := 3) rfl ?_); refine box_event ?hg (N := 3) ?hd (cs := #[.slice aJ aD.length aK, .slice aW ag.length aL, .slice aM aE.length aN]) (t := 26) ?hr ?_; (case hd | hg => rfl); (case hr => go_simp; try rfl); intro ah hg gR hbox hb; have aa := am hbox; have cV := kG HB hg; have cW := kG HB hg; replace HB := kH HB hb; clear hb hbox hg) | ((with_reducible refine gate_dst (N := 4) rfl ?_); refine box_event ?hg (N := 4) ?hd (cs := #[.slice none 0 0, .slice none 0 0, .slice none 0 0]) (t := 26) ?hr ?_; (case hd | hg => rfl); (case hr => go_simp; try rfl); intro aj hg gS hbox hb; have ae := am hbox; have cX := kG HB hg; have bM := kG HB hg; replace HB := kH HB hb; have bg := kP aa hg; have bh := kQ aa hg; replace aa := kU aa hb; clear hb hbox hg; have dE := bg.out; have dF := bh.out; have gT := kz3 aa) | ((with_reducible refine gate_callee (f := 37) rfl ?_); refine goesL_ (some 15) rfl rfl Try.func37 (by kernel_rfl) rfl #[.int .u64 a0, .agg #[.slice aJ aD.length aK, .slice aW ag.length aL, .slice aM aE.length aN]] rfl (by (try simp only [qM1, qM2, qM3]); first | done | rfl) ?_; (with_reducible refine (circ_Check.calls k a0 _ _ aD _ _ ag _ _ aE bQ _ ?side1 ?side2 ?side3 ?side4 ?side5 ?side6 A3.out).mono ?_); (case side1 => repeat (first | exact (Kd.C_below bV.out HB.out) | (with_reducible first | refine Kd.C_alloc ?_ _ | refine Kd.C_drewN ?_ _ | refine Kd.C_drew ?_))); (case side2 => exact bW.out); (case side3 => repeat (first | exact (Kd.C_below bL.out HB.out) | (with_reducible first | refine Kd.C_alloc ?_ _ | refine Kd.C_drewN ?_ _ | refine Kd.C_drew ?_))); (case side4 => exact bX.out); (case side5 => repeat (first | exact (Kd.C_below bY.out HB.out) | (with_reducible first | refine Kd.C_alloc ?_ _ | refine Kd.C_drewN ?_ _ | refine Kd.C_drew ?_))); (case side6 => exact bZ.out); rintro e gU ⟨rfl, hb⟩; refine ⟨_, rfl, ?_⟩; replace aa := kU aa hb; replace ae := kU ae hb; replace HB := kH HB hb; (try clear hb); (try clear hb2); (try clear hk); (try clear hi); have gV := kz3 ae));refine bodyPost_ret (results_ct rfl _ _ aj 26 #[.slice none 0 0, .slice none 0 0, .slice none 0 0] (0, 0) _ rfl (kg ae) Try.underlying26 rfl (by kernel_rfl)) rfl ?_;exact ⟨_, _, _, er, by first | exact Kd.R_nil _ _ _ _ _ | exact Kd.N_nil _ _ _ _ _ | exact Kd.V_nil _ _ _ _ _ | exact Kd.Q_nil _ _ _ _ _ | exact Kd.S_nil _ _ _ _ _, by first | exact Kd.R_nil _ _ _ _ _ | exact Kd.N_nil _ _ _ _ _ | exact Kd.V_nil _ _ _ _ _ | exact Kd.Q_nil _ _ _ _ _ | exact Kd.S_nil _ _ _ _ _, by first | exact Kd.S_nil _ _ _ _ _ | exact Kd.N_nil _ _ _ _ _ | exact Kd.V_nil _ _ _ _ _ | exact Kd.Q_nil _ _ _ _ _ | exact Kd.R_nil _ _ _ _ _, kh HB⟩
 rw [if_pos c4] at H;have dC := beq_iff_eq.mpr c4;have dD := bne_eq_false_iff_eq.mpr c4;clear c4
 by_cases c5 : 0 ≤ (ag.length : Int)
 rotate_left
 ·rw [if_neg c5] at H
  exact absurd H (by simp)
 rw [if_pos c5] at H;have gW := eq_true c5;have gX := qqT c5;clear c5
 by_cases c6 : ((ag.length : Int) : Int).toNat ≤ 35184372088832
 rotate_left
 ·rw [if_neg c6] at H
  exact absurd H (by simp)
 rw [if_pos c6] at H;have gY := eq_true c6;have gZ := qqT c6;clear c6;obtain ⟨bj, bv⟩ : ∃ y_ : List Int, y_ = (List.replicate ((ag.length : Int) : Int).toNat 0) := ⟨_, rfl⟩
 replace H : (tune_Share.l0 k ag (ag.length : Int) 0 aD ag aE [] false bj) = some (r1, r2, r3, r4) := by first | (rw [bv]; with_reducible exact H) | (have H2_ := (Option.bind_some _ _).symm.trans H; rw [bv]; with_reducible exact H2_) | (have H2_ := (Option.bind_some _ _).symm.trans H; with_reducible exact H2_) | with_reducible exact H | (rw [bv]; exact H) | exact H
 have bi := Aside0.mk bv;clear bv;have H' := Aside0.mk H;clear H;go_enter Try.func20, Try.ntmps20;(try go_wp2_with (first | ((with_reducible refine gate_dst (N := 3) rfl ?_); refine box_event ?hg (N := 3) ?hd (cs := #[.slice aJ aD.length aK, .slice aW ag.length aL, .slice aM aE.length aN]) (t := 26) ?hr ?_; (case hd | hg => rfl); (case hr => go_simp; try rfl); intro ah hg w7 hbox hb; have aa := am hbox; have cV := kG HB hg; have cW := kG HB hg; replace HB := kH HB hb; clear hb hbox hg) | ((with_reducible refine gate_dst (N := 4) rfl ?_); refine box_event ?hg (N := 4) ?hd (cs := #[.slice none 0 0, .slice none 0 0, .slice none 0 0]) (t := 26) ?hr ?_; (case hd | hg => rfl); (case hr => go_simp; try rfl); intro aj hg w8 hbox hb; have ae := am hbox; have cX := kG HB hg; have bM := kG HB hg; replace HB := kH HB hb; have bg := kP aa hg; have bh := kQ aa hg; replace aa := kU aa hb; clear hb hbox hg; have ha := bg.out; have ht := bh.out; have Z10 := kz3 aa) | ((with_reducible refine gate_callee (f := 37) rfl ?_); refine goesL_ (some 15) rfl rfl Try.func37 (by kernel_rfl) rfl #[.int .u64 a0, .agg #[.slice aJ aD.length aK, .slice aW ag.length aL, .slice aM aE.length aN]] rfl (by (try simp only [qM1, qM2, qM3]); first | done | rfl) ?_; (with_reducible refine (circ_Check.calls k a0 _ _ aD _ _ ag _ _ aE bQ _ ?side1 ?side2 ?side3 ?side4 ?side5 ?side6 A3.out).mono ?_); (case side1 => repeat (first | exact (Kd.C_below bV.out HB.out) | (with_reducible first | refine Kd.C_alloc ?_ _ | refine Kd.C_drewN ?_ _ | refine Kd.C_drew ?_))); (case side2 => exact bW.out); (case side3 => repeat (first | exact (Kd.C_below bL.out HB.out) | (with_reducible first | refine Kd.C_alloc ?_ _ | refine Kd.C_drewN ?_ _ | refine Kd.C_drew ?_))); (case side4 => exact bX.out); (case side5 => repeat (first | exact (Kd.C_below bY.out HB.out) | (with_reducible first | refine Kd.C_alloc ?_ _ | refine Kd.C_drewN ?_ _ | refine Kd.C_drew ?_))); (case side6 => exact bZ.out); rintro e w11 ⟨rfl, hb⟩; refine ⟨_, rfl, ?_⟩; replace aa := kU aa hb; replace ae := kU ae hb; replace HB := kH HB hb; (try clear hb); (try clear hb2); (try clear hk); (try clear hi))));replace aa := kD aa; replace ae := kD ae; replace HB := kE HB;refine start_ (n := 8) (S := fun w' => w'.cell? ⟨ah, 0, none⟩ = some (.slice aJ aD.length aK) ∧ w'.cell? ⟨ah, 1, none⟩ = some (.slice aW ag.length aL) ∧ w'.cell? ⟨ah, 2, none⟩ = some (.slice aM aE.length aN)) (ds := []) (bs 8 0) (by kernel_rfl) rfl rfl ⟨kk aa 0, kk aa 1, kk aa 2⟩ (fun hHeld => ?_); refine with_tabW tune_Share.tab4 tune_Share.bits4 (fun HT_ HW_ => ?_);generalize w11.drew = w12 at aa ae HB hHeld ⊢;refine pu 1 (some 21) (bs 8 2) HT_ ?_;refine ta 2 (some 22) (bs 8 6) HT_ HW_ hHeld ?_;refine pu 3 (some 23) (bs 8 14) HT_ ?_;refine join_ (σ := Nat × Value × Nat) 1 (bs 8 127) (fun s_ => [(20, .map (some s_.1)), (24, s_.2.1), (8, .pointer (some ⟨s_.2.2, 0, none⟩)), (7, .map (some s_.1))]) (fun s_ w' => (w'.cell? ⟨ah, 0, none⟩ = some (.slice aJ aD.length aK) ∧ w'.cell? ⟨ah, 1, none⟩ = some (.slice aW ag.length aL) ∧ w'.cell? ⟨ah, 2, none⟩ = some (.slice aM aE.length aN)) ∧ (Kd.R (Kd.int .i64) 3 w' w.heap.size (fun _ => True) s_.2.1 bj) ∧ (w'.heap[ah]? = some (.cells #[.slice aJ aD.length aK, .slice aW ag.length aL, .slice aM aE.length aN] 26 (0, 0))) ∧ (w'.heap[aj]? = some (.cells #[.slice none 0 0, .slice none 0 0, .slice none 0 0] 26 (0, 0))) ∧ (w'.heap[s_.1]? = some ((tune_Share.obj []))) ∧ (w'.heap[s_.2.2]? = some (.cells #[.slice none 0 0] 27 (0, 0))) ∧ (w.heap.size ≤ s_.1) ∧ (w.heap.size ≤ s_.1) ∧ (ah ≠ s_.1) ∧ (s_.1 ≠ ah) ∧ (aj ≠ s_.1) ∧ (s_.1 ≠ aj) ∧ (s_.2.2 ≠ s_.1) ∧ (s_.1 ≠ s_.2.2) ∧ (w.heap.size ≤ s_.2.2) ∧ (w.heap.size ≤ s_.2.2) ∧ (ah ≠ s_.2.2) ∧ (s_.2.2 ≠ ah) ∧ (aj ≠ s_.2.2) ∧ (s_.2.2 ≠ aj) ∧ (Below w.heap.size w w')) ?_ ?_
 rotate_left
 ·intro hJ0_4_5
  refine join_ (σ := Nat × Value) 3 (bs 8 31) (fun s_ => [(20, .map (some s_.1)), (24, s_.2)]) (fun s_ w' => (w'.cell? ⟨ah, 0, none⟩ = some (.slice aJ aD.length aK) ∧ w'.cell? ⟨ah, 1, none⟩ = some (.slice aW ag.length aL) ∧ w'.cell? ⟨ah, 2, none⟩ = some (.slice aM aE.length aN)) ∧ (Kd.R (Kd.int .i64) 3 w' w.heap.size (fun _ => True) s_.2 bj) ∧ (w'.heap[ah]? = some (.cells #[.slice aJ aD.length aK, .slice aW ag.length aL, .slice aM aE.length aN] 26 (0, 0))) ∧ (w'.heap[aj]? = some (.cells #[.slice none 0 0, .slice none 0 0, .slice none 0 0] 26 (0, 0))) ∧ (w'.heap[s_.1]? = some ((tune_Share.obj []))) ∧ (w.heap.size ≤ s_.1) ∧ (w.heap.size ≤ s_.1) ∧ (ah ≠ s_.1) ∧ (s_.1 ≠ ah) ∧ (aj ≠ s_.1) ∧ (s_.1 ≠ aj) ∧ (Below w.heap.size w w')) ?_ ?_
  rotate_left
  ·intro hJ0_4
   refine join_ (σ := Nat × Nat) 2 (bs 8 111) (fun s_ => [(20, .map (some s_.1)), (8, .pointer (some ⟨s_.2, 0, none⟩)), (7, .map (some s_.1))]) (fun s_ w' => (w'.cell? ⟨ah, 0, none⟩ = some (.slice aJ aD.length aK) ∧ w'.cell? ⟨ah, 1, none⟩ = some (.slice aW ag.length aL) ∧ w'.cell? ⟨ah, 2, none⟩ = some (.slice aM aE.length aN)) ∧ (w'.heap[ah]? = some (.cells #[.slice aJ aD.length aK, .slice aW ag.length aL, .slice aM aE.length aN] 26 (0, 0))) ∧ (w'.heap[aj]? = some (.cells #[.slice none 0 0, .slice none 0 0, .slice none 0 0] 26 (0, 0))) ∧ (w'.heap[s_.1]? = some ((tune_Share.obj []))) ∧ (w'.heap[s_.2]? = some (.cells #[.slice none 0 0] 27 (0, 0))) ∧ (w.heap.size ≤ s_.1) ∧ (w.heap.size ≤ s_.1) ∧ (ah ≠ s_.1) ∧ (s_.1 ≠ ah) ∧ (aj ≠ s_.1) ∧ (s_.1 ≠ aj) ∧ (s_.2 ≠ s_.1) ∧ (s_.1 ≠ s_.2) ∧ (w.heap.size ≤ s_.2) ∧ (w.heap.size ≤ s_.2) ∧ (ah ≠ s_.2) ∧ (s_.2 ≠ ah) ∧ (aj ≠ s_.2) ∧ (s_.2 ≠ aj) ∧ (Below w.heap.size w w')) ?_ ?_
   rotate_left
   ·intro hJ0_5
    refine join_ (σ := Value × Nat) 3 (bs 8 62) (fun s_ => [(24, s_.1), (8, .pointer (some ⟨s_.2, 0, none⟩))]) (fun s_ w' => (w'.cell? ⟨ah, 0, none⟩ = some (.slice aJ aD.length aK) ∧ w'.cell? ⟨ah, 1, none⟩ = some (.slice aW ag.length aL) ∧ w'.cell? ⟨ah, 2, none⟩ = some (.slice aM aE.length aN)) ∧ (Kd.R (Kd.int .i64) 3 w' w.heap.size (fun _ => True) s_.1 bj) ∧ (w'.heap[ah]? = some (.cells #[.slice aJ aD.length aK, .slice aW ag.length aL, .slice aM aE.length aN] 26 (0, 0))) ∧ (w'.heap[aj]? = some (.cells #[.slice none 0 0, .slice none 0 0, .slice none 0 0] 26 (0, 0))) ∧ (w'.heap[s_.2]? = some (.cells #[.slice none 0 0] 27 (0, 0))) ∧ (w.heap.size ≤ s_.2) ∧ (w.heap.size ≤ s_.2) ∧ (ah ≠ s_.2) ∧ (s_.2 ≠ ah) ∧ (aj ≠ s_.2) ∧ (s_.2 ≠ aj) ∧ (Below w.heap.size w w')) ?_ ?_
    rotate_left
    ·intro hJ4_5
     refine join_ (σ := Nat) 4 (bs 8 15) (fun s_ => [(20, .map (some s_))]) (fun s_ w' => (w'.cell? ⟨ah, 0, none⟩ = some (.slice aJ aD.length aK) ∧ w'.cell? ⟨ah, 1, none⟩ = some (.slice aW ag.length aL) ∧ w'.cell? ⟨ah, 2, none⟩ = some (.slice aM aE.length aN)) ∧ (w'.heap[ah]? = some (.cells #[.slice aJ aD.length aK, .slice aW ag.length aL, .slice aM aE.length aN] 26 (0, 0))) ∧ (w'.heap[aj]? = some (.cells #[.slice none 0 0, .slice none 0 0, .slice none 0 0] 26 (0, 0))) ∧ (w'.heap[s_]? = some ((tune_Share.obj []))) ∧ (w.heap.size ≤ s_) ∧ (w.heap.size ≤ s_) ∧ (ah ≠ s_) ∧ (s_ ≠ ah) ∧ (aj ≠ s_) ∧ (s_ ≠ aj) ∧ (Below w.heap.size w w')) ?_ ?_
     rotate_left
     ·intro hJ0
      refine join_ (σ := Value) 4 (bs 8 30) (fun s_ => [(24, s_)]) (fun s_ w' => (w'.cell? ⟨ah, 0, none⟩ = some (.slice aJ aD.length aK) ∧ w'.cell? ⟨ah, 1, none⟩ = some (.slice aW ag.length aL) ∧ w'.cell? ⟨ah, 2, none⟩ = some (.slice aM aE.length aN)) ∧ (Kd.R (Kd.int .i64) 3 w' w.heap.size (fun _ => True) s_ bj) ∧ (w'.heap[ah]? = some (.cells #[.slice aJ aD.length aK, .slice aW ag.length aL, .slice aM aE.length aN] 26 (0, 0))) ∧ (w'.heap[aj]? = some (.cells #[.slice none 0 0, .slice none 0 0, .slice none 0 0] 26 (0, 0))) ∧ (Below w.heap.size w w')) ?_ ?_
      rotate_left
      ·intro hJ4
       refine join_ (σ := Nat) 4 (bs 8 46) (fun s_ => [(8, .pointer (some ⟨s_, 0, none⟩))]) (fun s_ w' => (w'.cell? ⟨ah, 0, none⟩ = some (.slice aJ aD.length aK) ∧ w'.cell? ⟨ah, 1, none⟩ = some (.slice aW ag.length aL) ∧ w'.cell? ⟨ah, 2, none⟩ = some (.slice aM aE.length aN)) ∧ (w'.heap[ah]? = some (.cells #[.slice aJ aD.length aK, .slice aW ag.length aL, .slice aM aE.length aN] 26 (0, 0))) ∧ (w'.heap[aj]? = some (.cells #[.slice none 0 0, .slice none 0 0, .slice none 0 0] 26 (0, 0))) ∧ (w'.heap[s_]? = some (.cells #[.slice none 0 0] 27 (0, 0))) ∧ (w.heap.size ≤ s_) ∧ (w.heap.size ≤ s_) ∧ (ah ≠ s_) ∧ (s_ ≠ ah) ∧ (aj ≠ s_) ∧ (s_ ≠ aj) ∧ (Below w.heap.size w w')) ?_ ?_
       rotate_left
       ·intro hJ5
        refine three_ (i := 0) (j := 4) (k := 5) (Ni := some 20) (Nj := some 24) (Nk := some 8) (bs 8 15) (bs 8 30) (bs 8 46) rfl rfl rfl rfl rfl rfl (three_of HT_.out (by kernel_rfl)) (by decide) (by decide) (by decide) (fun K hK => ?_) (fun K hK => ?_) (fun K hK => ?_)
        ·skip
         refine tune_Share.map_step ?hg (N := 20) ?hd ?hr ?_; (case hd | hg => rfl); (case hr => go_simp; try rfl);intro ap hg w13 hbox hb;have an := am hbox; have bc := kG HB hg; have bb := kG HB hg; replace HB := kH HB hb; have aw := kP aa hg; have ax := kQ aa hg; replace aa := kU aa hb; have ay := kP ae hg; have aA := kQ ae hg; replace ae := kU ae hb;clear hb hbox hg;refine hK.out _ _ ⟨kk aa 0, kk aa 1, kk aa 2⟩ (fun hHeld => ?_);clear hK K;refine no (some 20) ?_;exact norm_ (by first | (simp only [putAll, Act.put, qS1, qS2, qS3]; done) | (simp only [putAll, Act.put, qS1, qS2, qS3]; rfl)) (hJ0 (ap) _ ⟨hHeld, (kb aa), (kb ae), (kb an), bc.out, bb.out, aw.out, ax.out, ay.out, aA.out, (kh HB)⟩)
        ·skip
         refine Kd.R_make_step (Kd.int .i64) _ 3 (by rfl) (N := 24) rfl 27 _ _ rfl (ag.length : Int) rfl rfl Try.underlying27 (.int .i64 0) 8 info3 rfl (by decide) (by omega) 0 (ok := fun _ => True) (okp := fun _ => True) rfl (fun _ hk => hk) trivial od (Nat.le_trans (Nat.mul_le_mul_right _ (od : (ag.length : Int).toNat ≤ 35184372088832)) (by omega)) (Below.refl _ _) (Nat.le_refl _) ?_;intro bf w13 ho14 hb hg_ hnew_;clear hg_ hnew_;(first | rw [← bi.out] at ho14 | (simp only [Int.reduceToNat] at ho14; rw [← bi.out] at ho14));have aV := kLR ho14 HB; replace aa := kU aa hb; replace ae := kU ae hb; replace HB := kH HB hb;clear hb ho14;refine hK.out _ _ ⟨kk aa 0, kk aa 1, kk aa 2⟩ (fun hHeld => ?_);clear hK K;refine no (some 24) ?_;exact norm_ (by first | (simp only [putAll, Act.put, qS1, qS2, qS3]; done) | (simp only [putAll, Act.put, qS1, qS2, qS3]; rfl)) (hJ4 (bf) _ ⟨hHeld, (krR aV), (kb aa), (kb ae), (kh HB)⟩)
        ·skip
         refine box_step ?hg (N := 8) ?hd (cs := #[.slice none 0 0]) (t := 27) ?hr ?_; (case hd | hg => rfl); (case hr => go_simp; try rfl);intro ao hg w13 hbox hb;have ak := am hbox; have bd := kG HB hg; have be := kG HB hg; replace HB := kH HB hb; have aq := kP aa hg; have ar := kQ aa hg; replace aa := kU aa hb; have au := kP ae hg; have av := kQ ae hg; replace ae := kU ae hb;clear hb hbox hg;refine hK.out _ _ ⟨kk aa 0, kk aa 1, kk aa 2⟩ (fun hHeld => ?_);clear hK K;refine no (some 8) ?_;exact norm_ (by first | (simp only [putAll, Act.put, qS1, qS2, qS3]; done) | (simp only [putAll, Act.put, qS1, qS2, qS3]; rfl)) (hJ5 (ao) _ ⟨hHeld, (kb aa), (kb ae), (kb ak), bd.out, be.out, aq.out, ar.out, au.out, av.out, (kh HB)⟩)
       ·skip
        rintro ao w14 ⟨hS_, h0_, h1_, h2_, h3_, h4_, h5_, h6_, h7_, h8_, h9_⟩;replace aa : Aside0 (w14.heap[ah]? = some (.cells #[.slice aJ aD.length aK, .slice aW ag.length aL, .slice aM aE.length aN] 26 (0, 0))) := ⟨h0_⟩; replace ae : Aside0 (w14.heap[aj]? = some (.cells #[.slice none 0 0, .slice none 0 0, .slice none 0 0] 26 (0, 0))) := ⟨h1_⟩; have ak : Aside0 (w14.heap[ao]? = some (.cells #[.slice none 0 0] 27 (0, 0))) := ⟨h2_⟩; have bd : Aside0 (w.heap.size ≤ ao) := ⟨h3_⟩; have be : Aside0 (w.heap.size ≤ ao) := ⟨h4_⟩; have aq : Aside0 (ah ≠ ao) := ⟨h5_⟩; have ar : Aside0 (ao ≠ ah) := ⟨h6_⟩; have au : Aside0 (aj ≠ ao) := ⟨h7_⟩; have av : Aside0 (ao ≠ aj) := ⟨h8_⟩; replace HB : Aside0 (Below w.heap.size w w14) := ⟨h9_⟩; clear h0_ h1_ h2_ h3_ h4_ h5_ h6_ h7_ h8_ h9_;have hHeld : w14.cell? ⟨ah, 0, none⟩ = some (.slice aJ aD.length aK) ∧ w14.cell? ⟨ah, 1, none⟩ = some (.slice aW ag.length aL) ∧ w14.cell? ⟨ah, 2, none⟩ = some (.slice aM aE.length aN) := hS_;refine norm_ (a' := ?_) ?_ ?_
        rotate_left
        ·simp only [putAll, Act.put, qS1, qS2, qS3]
         rfl
        refine two_ (i := 0) (j := 4) (Ni := some 20) (Nj := some 24) (bs 8 47) (bs 8 62) rfl rfl rfl rfl (two_of HT_.out (by kernel_rfl)) (by decide) (by decide) (fun K hK => ?_) (fun K hK => ?_)
        ·skip
         refine tune_Share.map_step ?hg (N := 20) ?hd ?hr ?_; (case hd | hg => rfl); (case hr => go_simp; try rfl);intro ap hg w15 hbox hb;have an := am hbox; have bc := kG HB hg; have bb := kG HB hg; replace HB := kH HB hb; have aw := kP aa hg; have ax := kQ aa hg; replace aa := kU aa hb; have ay := kP ae hg; have aA := kQ ae hg; replace ae := kU ae hb; have aC := kP ak hg; have aF := kQ ak hg; replace ak := kU ak hb;clear hb hbox hg;refine hK.out _ _ ⟨kk aa 0, kk aa 1, kk aa 2⟩ (fun hHeld => ?_);clear hK K;refine no (some 20) ?_;refine pu 6 (some 7) (bs 8 111) HT_ ?_;exact norm_ (by first | (simp only [putAll, Act.put, qS1, qS2, qS3]; done) | (simp only [putAll, Act.put, qS1, qS2, qS3]; rfl)) (hJ0_5 (ap, ao) _ ⟨hHeld, (kb aa), (kb ae), (kb an), (kb ak), bc.out, bb.out, aw.out, ax.out, ay.out, aA.out, aC.out, aF.out, bd.out, be.out, aq.out, ar.out, au.out, av.out, (kh HB)⟩)
        ·skip
         refine Kd.R_make_step (Kd.int .i64) _ 3 (by rfl) (N := 24) rfl 27 _ _ rfl (ag.length : Int) rfl rfl Try.underlying27 (.int .i64 0) 8 info3 rfl (by decide) (by omega) 0 (ok := fun _ => True) (okp := fun _ => True) rfl (fun _ hk => hk) trivial od (Nat.le_trans (Nat.mul_le_mul_right _ (od : (ag.length : Int).toNat ≤ 35184372088832)) (by omega)) (Below.refl _ _) (Nat.le_refl _) ?_;intro bf w15 ho16 hb hg_ hnew_;clear hg_ hnew_;(first | rw [← bi.out] at ho16 | (simp only [Int.reduceToNat] at ho16; rw [← bi.out] at ho16));have aV := kLR ho16 HB; replace aa := kU aa hb; replace ae := kU ae hb; replace ak := kU ak hb; replace HB := kH HB hb;clear hb ho16;refine hK.out _ _ ⟨kk aa 0, kk aa 1, kk aa 2⟩ (fun hHeld => ?_);clear hK K;refine no (some 24) ?_;exact norm_ (by first | (simp only [putAll, Act.put, qS1, qS2, qS3]; done) | (simp only [putAll, Act.put, qS1, qS2, qS3]; rfl)) (hJ4_5 (bf, ao) _ ⟨hHeld, (krR aV), (kb aa), (kb ae), (kb ak), bd.out, be.out, aq.out, ar.out, au.out, av.out, (kh HB)⟩)
      ·skip
       rintro bf w15 ⟨hS_, h0_, h1_, h2_, h3_⟩;have aV : Aside0 (Kd.R (Kd.int .i64) 3 w15 w.heap.size (fun _ => True) bf bj) := ⟨h0_⟩; replace aa : Aside0 (w15.heap[ah]? = some (.cells #[.slice aJ aD.length aK, .slice aW ag.length aL, .slice aM aE.length aN] 26 (0, 0))) := ⟨h1_⟩; replace ae : Aside0 (w15.heap[aj]? = some (.cells #[.slice none 0 0, .slice none 0 0, .slice none 0 0] 26 (0, 0))) := ⟨h2_⟩; replace HB : Aside0 (Below w.heap.size w w15) := ⟨h3_⟩; clear h0_ h1_ h2_ h3_;have hHeld : w15.cell? ⟨ah, 0, none⟩ = some (.slice aJ aD.length aK) ∧ w15.cell? ⟨ah, 1, none⟩ = some (.slice aW ag.length aL) ∧ w15.cell? ⟨ah, 2, none⟩ = some (.slice aM aE.length aN) := hS_;refine norm_ (a' := ?_) ?_ ?_
       rotate_left
       ·simp only [putAll, Act.put, qS1, qS2, qS3]
        rfl
       refine two_ (i := 0) (j := 5) (Ni := some 20) (Nj := some 8) (bs 8 31) (bs 8 62) rfl rfl rfl rfl (two_of HT_.out (by kernel_rfl)) (by decide) (by decide) (fun K hK => ?_) (fun K hK => ?_)
       ·skip
        refine tune_Share.map_step ?hg (N := 20) ?hd ?hr ?_; (case hd | hg => rfl); (case hr => go_simp; try rfl);intro ap hg w16 hbox hb;replace aV := kR aV hb; have an := am hbox; have bc := kG HB hg; have bb := kG HB hg; replace HB := kH HB hb; have aw := kP aa hg; have ax := kQ aa hg; replace aa := kU aa hb; have ay := kP ae hg; have aA := kQ ae hg; replace ae := kU ae hb;clear hb hbox hg;refine hK.out _ _ ⟨kk aa 0, kk aa 1, kk aa 2⟩ (fun hHeld => ?_);clear hK K;refine no (some 20) ?_;exact norm_ (by first | (simp only [putAll, Act.put, qS1, qS2, qS3]; done) | (simp only [putAll, Act.put, qS1, qS2, qS3]; rfl)) (hJ0_4 (ap, bf) _ ⟨hHeld, (krR aV), (kb aa), (kb ae), (kb an), bc.out, bb.out, aw.out, ax.out, ay.out, aA.out, (kh HB)⟩)
       ·skip
        refine box_step ?hg (N := 8) ?hd (cs := #[.slice none 0 0]) (t := 27) ?hr ?_; (case hd | hg => rfl); (case hr => go_simp; try rfl);intro ao hg w16 hbox hb;replace aV := kR aV hb; have ak := am hbox; have bd := kG HB hg; have be := kG HB hg; replace HB := kH HB hb; have aq := kP aa hg; have ar := kQ aa hg; replace aa := kU aa hb; have au := kP ae hg; have av := kQ ae hg; replace ae := kU ae hb;clear hb hbox hg;refine hK.out _ _ ⟨kk aa 0, kk aa 1, kk aa 2⟩ (fun hHeld => ?_);clear hK K;refine no (some 8) ?_;exact norm_ (by first | (simp only [putAll, Act.put, qS1, qS2, qS3]; done) | (simp only [putAll, Act.put, qS1, qS2, qS3]; rfl)) (hJ4_5 (bf, ao) _ ⟨hHeld, (krR aV), (kb aa), (kb ae), (kb ak), bd.out, be.out, aq.out, ar.out, au.out, av.out, (kh HB)⟩)
     ·skip
      rintro ap w14 ⟨hS_, h0_, h1_, h2_, h3_, h4_, h5_, h6_, h7_, h8_, h9_⟩;replace aa : Aside0 (w14.heap[ah]? = some (.cells #[.slice aJ aD.length aK, .slice aW ag.length aL, .slice aM aE.length aN] 26 (0, 0))) := ⟨h0_⟩; replace ae : Aside0 (w14.heap[aj]? = some (.cells #[.slice none 0 0, .slice none 0 0, .slice none 0 0] 26 (0, 0))) := ⟨h1_⟩; have an : Aside0 (w14.heap[ap]? = some ((tune_Share.obj []))) := ⟨h2_⟩; have bc : Aside0 (w.heap.size ≤ ap) := ⟨h3_⟩; have bb : Aside0 (w.heap.size ≤ ap) := ⟨h4_⟩; have aw : Aside0 (ah ≠ ap) := ⟨h5_⟩; have ax : Aside0 (ap ≠ ah) := ⟨h6_⟩; have ay : Aside0 (aj ≠ ap) := ⟨h7_⟩; have aA : Aside0 (ap ≠ aj) := ⟨h8_⟩; replace HB : Aside0 (Below w.heap.size w w14) := ⟨h9_⟩; clear h0_ h1_ h2_ h3_ h4_ h5_ h6_ h7_ h8_ h9_;have hHeld : w14.cell? ⟨ah, 0, none⟩ = some (.slice aJ aD.length aK) ∧ w14.cell? ⟨ah, 1, none⟩ = some (.slice aW ag.length aL) ∧ w14.cell? ⟨ah, 2, none⟩ = some (.slice aM aE.length aN) := hS_;refine norm_ (a' := ?_) ?_ ?_
      rotate_left
      ·simp only [putAll, Act.put, qS1, qS2, qS3]
       rfl
      refine two_ (i := 4) (j := 5) (Ni := some 24) (Nj := some 8) (bs 8 31) (bs 8 47) rfl rfl rfl rfl (two_of HT_.out (by kernel_rfl)) (by decide) (by decide) (fun K hK => ?_) (fun K hK => ?_)
      ·skip
       refine Kd.R_make_step (Kd.int .i64) _ 3 (by rfl) (N := 24) rfl 27 _ _ rfl (ag.length : Int) rfl rfl Try.underlying27 (.int .i64 0) 8 info3 rfl (by decide) (by omega) 0 (ok := fun _ => True) (okp := fun _ => True) rfl (fun _ hk => hk) trivial od (Nat.le_trans (Nat.mul_le_mul_right _ (od : (ag.length : Int).toNat ≤ 35184372088832)) (by omega)) (Below.refl _ _) (Nat.le_refl _) ?_;intro bf w15 ho16 hb hg_ hnew_;clear hg_ hnew_;(first | rw [← bi.out] at ho16 | (simp only [Int.reduceToNat] at ho16; rw [← bi.out] at ho16));have aV := kLR ho16 HB; replace aa := kU aa hb; replace ae := kU ae hb; replace an := kU an hb; replace HB := kH HB hb;clear hb ho16;refine hK.out _ _ ⟨kk aa 0, kk aa 1, kk aa 2⟩ (fun hHeld => ?_);clear hK K;refine no (some 24) ?_;exact norm_ (by first | (simp only [putAll, Act.put, qS1, qS2, qS3]; done) | (simp only [putAll, Act.put, qS1, qS2, qS3]; rfl)) (hJ0_4 (ap, bf) _ ⟨hHeld, (krR aV), (kb aa), (kb ae), (kb an), bc.out, bb.out, aw.out, ax.out, ay.out, aA.out, (kh HB)⟩)
      ·skip
       refine box_step ?hg (N := 8) ?hd (cs := #[.slice none 0 0]) (t := 27) ?hr ?_; (case hd | hg => rfl); (case hr => go_simp; try rfl);intro ao hg w15 hbox hb;have ak := am hbox; have bd := kG HB hg; have be := kG HB hg; replace HB := kH HB hb; have aq := kP aa hg; have ar := kQ aa hg; replace aa := kU aa hb; have au := kP ae hg; have av := kQ ae hg; replace ae := kU ae hb; have aF := kP an hg; have aC := kQ an hg; replace an := kU an hb;clear hb hbox hg;refine hK.out _ _ ⟨kk aa 0, kk aa 1, kk aa 2⟩ (fun hHeld => ?_);clear hK K;refine no (some 8) ?_;refine pu 6 (some 7) (bs 8 111) HT_ ?_;exact norm_ (by first | (simp only [putAll, Act.put, qS1, qS2, qS3]; done) | (simp only [putAll, Act.put, qS1, qS2, qS3]; rfl)) (hJ0_5 (ap, ao) _ ⟨hHeld, (kb aa), (kb ae), (kb an), (kb ak), bc.out, bb.out, aw.out, ax.out, ay.out, aA.out, aC.out, aF.out, bd.out, be.out, aq.out, ar.out, au.out, av.out, (kh HB)⟩)
    ·skip
     rintro ⟨bf, ao⟩ w16 ⟨hS_, h0_, h1_, h2_, h3_, h4_, h5_, h6_, h7_, h8_, h9_, h10_⟩;have aV : Aside0 (Kd.R (Kd.int .i64) 3 w16 w.heap.size (fun _ => True) bf bj) := ⟨h0_⟩; replace aa : Aside0 (w16.heap[ah]? = some (.cells #[.slice aJ aD.length aK, .slice aW ag.length aL, .slice aM aE.length aN] 26 (0, 0))) := ⟨h1_⟩; replace ae : Aside0 (w16.heap[aj]? = some (.cells #[.slice none 0 0, .slice none 0 0, .slice none 0 0] 26 (0, 0))) := ⟨h2_⟩; have ak : Aside0 (w16.heap[ao]? = some (.cells #[.slice none 0 0] 27 (0, 0))) := ⟨h3_⟩; have bd : Aside0 (w.heap.size ≤ ao) := ⟨h4_⟩; have be : Aside0 (w.heap.size ≤ ao) := ⟨h5_⟩; have aq : Aside0 (ah ≠ ao) := ⟨h6_⟩; have ar : Aside0 (ao ≠ ah) := ⟨h7_⟩; have au : Aside0 (aj ≠ ao) := ⟨h8_⟩; have av : Aside0 (ao ≠ aj) := ⟨h9_⟩; replace HB : Aside0 (Below w.heap.size w w16) := ⟨h10_⟩; clear h0_ h10_ h1_ h2_ h3_ h4_ h5_ h6_ h7_ h8_ h9_;have hHeld : w16.cell? ⟨ah, 0, none⟩ = some (.slice aJ aD.length aK) ∧ w16.cell? ⟨ah, 1, none⟩ = some (.slice aW ag.length aL) ∧ w16.cell? ⟨ah, 2, none⟩ = some (.slice aM aE.length aN) := hS_;refine norm_ (a' := ?_) ?_ ?_
     rotate_left
     ·simp only [putAll, Act.put, qS1, qS2, qS3]
      rfl
     refine one_ (i := 0) (N := some 20) (bs 8 63) rfl rfl (one_of HT_.out (by kernel_rfl)) (by decide) (fun K hK => ?_);refine tune_Share.map_step ?hg (N := 20) ?hd ?hr ?_; (case hd | hg => rfl); (case hr => go_simp; try rfl);intro ap hg w17 hbox hb;replace aV := kR aV hb; have an := am hbox; have bc := kG HB hg; have bb := kG HB hg; replace HB := kH HB hb; have aw := kP aa hg; have ax := kQ aa hg; replace aa := kU aa hb; have ay := kP ae hg; have aA := kQ ae hg; replace ae := kU ae hb; have aC := kP ak hg; have aF := kQ ak hg; replace ak := kU ak hb;clear hb hbox hg;refine hK.out _ _ ⟨kk aa 0, kk aa 1, kk aa 2⟩ (fun hHeld => ?_);clear hK K;refine no (some 20) ?_;refine pu 6 (some 7) (bs 8 127) HT_ ?_;exact norm_ (by first | (simp only [putAll, Act.put, qS1, qS2, qS3]; done) | (simp only [putAll, Act.put, qS1, qS2, qS3]; rfl)) (hJ0_4_5 (ap, bf, ao) _ ⟨hHeld, (krR aV), (kb aa), (kb ae), (kb an), (kb ak), bc.out, bb.out, aw.out, ax.out, ay.out, aA.out, aC.out, aF.out, bd.out, be.out, aq.out, ar.out, au.out, av.out, (kh HB)⟩)
   ·skip
    rintro ⟨ap, ao⟩ w15 ⟨hS_, h0_, h1_, h2_, h3_, h4_, h5_, h6_, h7_, h8_, h9_, h10_, h11_, h12_, h13_, h14_, h15_, h16_, h17_, h18_⟩;replace aa : Aside0 (w15.heap[ah]? = some (.cells #[.slice aJ aD.length aK, .slice aW ag.length aL, .slice aM aE.length aN] 26 (0, 0))) := ⟨h0_⟩; replace ae : Aside0 (w15.heap[aj]? = some (.cells #[.slice none 0 0, .slice none 0 0, .slice none 0 0] 26 (0, 0))) := ⟨h1_⟩; have an : Aside0 (w15.heap[ap]? = some ((tune_Share.obj []))) := ⟨h2_⟩; have ak : Aside0 (w15.heap[ao]? = some (.cells #[.slice none 0 0] 27 (0, 0))) := ⟨h3_⟩; have bc : Aside0 (w.heap.size ≤ ap) := ⟨h4_⟩; have bb : Aside0 (w.heap.size ≤ ap) := ⟨h5_⟩; have aw : Aside0 (ah ≠ ap) := ⟨h6_⟩; have ax : Aside0 (ap ≠ ah) := ⟨h7_⟩; have ay : Aside0 (aj ≠ ap) := ⟨h8_⟩; have aA : Aside0 (ap ≠ aj) := ⟨h9_⟩; have aC : Aside0 (ao ≠ ap) := ⟨h10_⟩; have aF : Aside0 (ap ≠ ao) := ⟨h11_⟩; have bd : Aside0 (w.heap.size ≤ ao) := ⟨h12_⟩; have be : Aside0 (w.heap.size ≤ ao) := ⟨h13_⟩; have aq : Aside0 (ah ≠ ao) := ⟨h14_⟩; have ar : Aside0 (ao ≠ ah) := ⟨h15_⟩; have au : Aside0 (aj ≠ ao) := ⟨h16_⟩; have av : Aside0 (ao ≠ aj) := ⟨h17_⟩; replace HB : Aside0 (Below w.heap.size w w15) := ⟨h18_⟩; clear h0_ h10_ h11_ h12_ h13_ h14_ h15_ h16_ h17_ h18_ h1_ h2_ h3_ h4_ h5_ h6_ h7_ h8_ h9_;have hHeld : w15.cell? ⟨ah, 0, none⟩ = some (.slice aJ aD.length aK) ∧ w15.cell? ⟨ah, 1, none⟩ = some (.slice aW ag.length aL) ∧ w15.cell? ⟨ah, 2, none⟩ = some (.slice aM aE.length aN) := hS_;refine norm_ (a' := ?_) ?_ ?_
    rotate_left
    ·simp only [putAll, Act.put, qS1, qS2, qS3]
     rfl
    refine one_ (i := 4) (N := some 24) (bs 8 127) rfl rfl (one_of HT_.out (by kernel_rfl)) (by decide) (fun K hK => ?_);refine Kd.R_make_step (Kd.int .i64) _ 3 (by rfl) (N := 24) rfl 27 _ _ rfl (ag.length : Int) rfl rfl Try.underlying27 (.int .i64 0) 8 info3 rfl (by decide) (by omega) 0 (ok := fun _ => True) (okp := fun _ => True) rfl (fun _ hk => hk) trivial od (Nat.le_trans (Nat.mul_le_mul_right _ (od : (ag.length : Int).toNat ≤ 35184372088832)) (by omega)) (Below.refl _ _) (Nat.le_refl _) ?_;intro bf w16 ho17 hb hg_ hnew_;clear hg_ hnew_;(first | rw [← bi.out] at ho17 | (simp only [Int.reduceToNat] at ho17; rw [← bi.out] at ho17));have aV := kLR ho17 HB; replace aa := kU aa hb; replace ae := kU ae hb; replace an := kU an hb; replace ak := kU ak hb; replace HB := kH HB hb;clear hb ho17;refine hK.out _ _ ⟨kk aa 0, kk aa 1, kk aa 2⟩ (fun hHeld => ?_);clear hK K;refine no (some 24) ?_;exact norm_ (by first | (simp only [putAll, Act.put, qS1, qS2, qS3]; done) | (simp only [putAll, Act.put, qS1, qS2, qS3]; rfl)) (hJ0_4_5 (ap, bf, ao) _ ⟨hHeld, (krR aV), (kb aa), (kb ae), (kb an), (kb ak), bc.out, bb.out, aw.out, ax.out, ay.out, aA.out, aC.out, aF.out, bd.out, be.out, aq.out, ar.out, au.out, av.out, (kh HB)⟩)
  ·skip
   rintro ⟨ap, bf⟩ w16 ⟨hS_, h0_, h1_, h2_, h3_, h4_, h5_, h6_, h7_, h8_, h9_, h10_⟩;have aV : Aside0 (Kd.R (Kd.int .i64) 3 w16 w.heap.size (fun _ => True) bf bj) := ⟨h0_⟩; replace aa : Aside0 (w16.heap[ah]? = some (.cells #[.slice aJ aD.length aK, .slice aW ag.length aL, .slice aM aE.length aN] 26 (0, 0))) := ⟨h1_⟩; replace ae : Aside0 (w16.heap[aj]? = some (.cells #[.slice none 0 0, .slice none 0 0, .slice none 0 0] 26 (0, 0))) := ⟨h2_⟩; have an : Aside0 (w16.heap[ap]? = some ((tune_Share.obj []))) := ⟨h3_⟩; have bc : Aside0 (w.heap.size ≤ ap) := ⟨h4_⟩; have bb : Aside0 (w.heap.size ≤ ap) := ⟨h5_⟩; have aw : Aside0 (ah ≠ ap) := ⟨h6_⟩; have ax : Aside0 (ap ≠ ah) := ⟨h7_⟩; have ay : Aside0 (aj ≠ ap) := ⟨h8_⟩; have aA : Aside0 (ap ≠ aj) := ⟨h9_⟩; replace HB : Aside0 (Below w.heap.size w w16) := ⟨h10_⟩; clear h0_ h10_ h1_ h2_ h3_ h4_ h5_ h6_ h7_ h8_ h9_;have hHeld : w16.cell? ⟨ah, 0, none⟩ = some (.slice aJ aD.length aK) ∧ w16.cell? ⟨ah, 1, none⟩ = some (.slice aW ag.length aL) ∧ w16.cell? ⟨ah, 2, none⟩ = some (.slice aM aE.length aN) := hS_;refine norm_ (a' := ?_) ?_ ?_
   rotate_left
   ·simp only [putAll, Act.put, qS1, qS2, qS3]
    rfl
   refine one_ (i := 5) (N := some 8) (bs 8 63) rfl rfl (one_of HT_.out (by kernel_rfl)) (by decide) (fun K hK => ?_);refine box_step ?hg (N := 8) ?hd (cs := #[.slice none 0 0]) (t := 27) ?hr ?_; (case hd | hg => rfl); (case hr => go_simp; try rfl);intro ao hg w17 hbox hb;replace aV := kR aV hb; have ak := am hbox; have bd := kG HB hg; have be := kG HB hg; replace HB := kH HB hb; have aq := kP aa hg; have ar := kQ aa hg; replace aa := kU aa hb; have au := kP ae hg; have av := kQ ae hg; replace ae := kU ae hb; have aF := kP an hg; have aC := kQ an hg; replace an := kU an hb;clear hb hbox hg;refine hK.out _ _ ⟨kk aa 0, kk aa 1, kk aa 2⟩ (fun hHeld => ?_);clear hK K;refine no (some 8) ?_;refine pu 6 (some 7) (bs 8 127) HT_ ?_;exact norm_ (by first | (simp only [putAll, Act.put, qS1, qS2, qS3]; done) | (simp only [putAll, Act.put, qS1, qS2, qS3]; rfl)) (hJ0_4_5 (ap, bf, ao) _ ⟨hHeld, (krR aV), (kb aa), (kb ae), (kb an), (kb ak), bc.out, bb.out, aw.out, ax.out, ay.out, aA.out, aC.out, aF.out, bd.out, be.out, aq.out, ar.out, au.out, av.out, (kh HB)⟩)
 rintro ⟨ap, bf, ao⟩ w17 ⟨hS_, h0_, h1_, h2_, h3_, h4_, h5_, h6_, h7_, h8_, h9_, h10_, h11_, h12_, h13_, h14_, h15_, h16_, h17_, h18_, h19_⟩;have aV : Aside0 (Kd.R (Kd.int .i64) 3 w17 w.heap.size (fun _ => True) bf bj) := ⟨h0_⟩; replace aa : Aside0 (w17.heap[ah]? = some (.cells #[.slice aJ aD.length aK, .slice aW ag.length aL, .slice aM aE.length aN] 26 (0, 0))) := ⟨h1_⟩; replace ae : Aside0 (w17.heap[aj]? = some (.cells #[.slice none 0 0, .slice none 0 0, .slice none 0 0] 26 (0, 0))) := ⟨h2_⟩; have an : Aside0 (w17.heap[ap]? = some ((tune_Share.obj []))) := ⟨h3_⟩; have ak : Aside0 (w17.heap[ao]? = some (.cells #[.slice none 0 0] 27 (0, 0))) := ⟨h4_⟩; have bc : Aside0 (w.heap.size ≤ ap) := ⟨h5_⟩; have bb : Aside0 (w.heap.size ≤ ap) := ⟨h6_⟩; have aw : Aside0 (ah ≠ ap) := ⟨h7_⟩; have ax : Aside0 (ap ≠ ah) := ⟨h8_⟩; have ay : Aside0 (aj ≠ ap) := ⟨h9_⟩; have aA : Aside0 (ap ≠ aj) := ⟨h10_⟩; have aC : Aside0 (ao ≠ ap) := ⟨h11_⟩; have aF : Aside0 (ap ≠ ao) := ⟨h12_⟩; have bd : Aside0 (w.heap.size ≤ ao) := ⟨h13_⟩; have be : Aside0 (w.heap.size ≤ ao) := ⟨h14_⟩; have aq : Aside0 (ah ≠ ao) := ⟨h15_⟩; have ar : Aside0 (ao ≠ ah) := ⟨h16_⟩; have au : Aside0 (aj ≠ ao) := ⟨h17_⟩; have av : Aside0 (ao ≠ aj) := ⟨h18_⟩; replace HB : Aside0 (Below w.heap.size w w17) := ⟨h19_⟩; clear h0_ h10_ h11_ h12_ h13_ h14_ h15_ h16_ h17_ h18_ h19_ h1_ h2_ h3_ h4_ h5_ h6_ h7_ h8_ h9_;have hHeld : w17.cell? ⟨ah, 0, none⟩ = some (.slice aJ aD.length aK) ∧ w17.cell? ⟨ah, 1, none⟩ = some (.slice aW ag.length aL) ∧ w17.cell? ⟨ah, 2, none⟩ = some (.slice aM aE.length aN) := hS_;obtain ⟨cY, cZ, da⟩ := Kd.R_slice aV.out;(first | subst da | (injection da with f1_ f2_ f3_; have f4_ := f1_.symm; have f5_ := f3_.symm; clear f1_ f2_ f3_; subst f4_; subst f5_));refine norm_ (a' := ?_) ?_ ?_
 rotate_left
 ·simp only [putAll, Act.put, qS1, qS2, qS3]
  rfl
 refine one_ (i := 7) (N := none) (bs 8 255) rfl rfl (one_of HT_.out (by kernel_rfl)) (by decide) (fun K hK => ?_);have hv : w17.cell? ⟨ao, 0, none⟩ = some (.slice none 0 0) := kk ak 0;have eS := blk_frozen ak.out 0;have dr := aq.out;have dt := au.out;have du := aF.out;have dv := ar.out;have dw := av.out;have dx := aC.out;refine skip_ (w1 := ?_) (by rfl) rfl ?_ ?_
 rotate_left
 ·go_simp
  rfl
 refine hK.out _ _ ⟨(kf hHeld.1), (kf hHeld.2.1), (kf hHeld.2.2)⟩ (fun hHeld => ?_);clear hK K;refine done_ (done_of HT_.out (by kernel_rfl)) ?_;have eT := aw.out;have eU := ax.out;have eV := aq.out;have eW := ar.out;have Z22 := kz3 aa;(try go_wp2);go_loopg [28] k (fun kq v28 w' => ∃ (af : Int) (aB : List (S61 × Int)) (ai : List Int) (aX : Value), v28 = .int .i64 af ∧ Aside0 (tune_Share.l0 kq ag (ag.length : Int) af aD ag aE aB false ai = some (r1, r2, r3, r4)) ∧ Aside0 (kq ≤ k) ∧ Aside0 (Kd.R (Kd.int .i64) 3 w' w.heap.size (fun _ => True) aX ai) ∧ Aside0 (w'.heap[ah]? = some (.cells #[(.slice aJ aD.length aK), (.slice aW ag.length aL), (.slice aM aE.length aN)] 26 (0, 0))) ∧ Aside0 (w'.heap[aj]? = some (.cells #[(.slice none 0 0), (.slice none 0 0), (.slice none 0 0)] 26 (0, 0))) ∧ Aside0 (w'.heap[ap]? = some ((tune_Share.obj aB))) ∧ Aside0 (w'.heap[ao]? = some (.cells #[aX] 27 (0, 0))) ∧ Aside0 (Below w.heap.size w w'))
 case atStart => exact ⟨(0), ([]), (bj), (.slice cY bj.length cZ), et, H', ⟨Nat.le_refl _⟩, ⟨by (with_reducible repeat first | apply Kd.R_alloc | apply Kd.R_drewN | apply Kd.R_drew); exact Kd.R_mono (Kd.R_far (p := ⟨ao, 0, none⟩) (Kd.R_types aV.out ak.out (by decide)) (fun _ hk => hk.2) (.slice cY bj.length cZ)) (fun _ hk => trivial)⟩, ⟨kg aa⟩, ⟨kg ae⟩, ⟨kg an⟩, ⟨kg ak⟩, ⟨kh HB⟩⟩
 case round =>
  clear H'; (try clear Z22);obtain ⟨af, aB, ai, aX, rfl, HA, HK1, ab, aa, ae, an, ak, HB⟩ := hrel
  cases gk with
  | zero => exact absurd HA.out (by simp [tune_Share.l0])
  | succ k1 =>
   have H := HA.out;clear HA;simp only [tune_Share.l0] at H
   by_cases c23 : af < (ag.length : Int)
   rotate_left
   ·rw [if_neg c23] at H
    have cq := qqF c23;clear c23;replace H := qqB H;obtain ⟨⟨bp, bw, bF⟩, cr, H⟩ := H;(try dsimp only at H);have dG := Aside0.mk cr;clear cr;simp only [Option.some.injEq, Prod.mk.injEq] at H;obtain ⟨rfl, rfl, rfl, rfl⟩ := H;have HR := ab;obtain ⟨cE, cF, dH⟩ := Kd.R_slice HR.out;subst dH;have HX := Aside0.mk (show wr.cell? ⟨ao, 0, none⟩ = some (.slice cE ai.length cF) from kk ak 0);have HC := Aside0.mk (Kd.R_reads' HR.out).2.2;have Z45 := ky3 aa;go_wp2_with (first | ((with_reducible refine gate_callee (f := 45) rfl ?_); refine goesL_ (some 97) rfl rfl Try.func45 (by kernel_rfl) rfl #[.agg #[.slice aJ aD.length aK, .slice aW ag.length aL, .slice aM aE.length aN], .func (.func 46) #[] #[.pointer (some ⟨ao, 0, none⟩)], .func (.func 47) #[] #[.pointer (some ⟨ao, 0, none⟩)]] rfl (by (try simp only [qM1, qM2, qM3]); first | done | rfl) ?_));refine (tune_moved.calls (tune_Share.st ai) (tune_Share.tto ai) 46 47 #[.pointer (some ⟨ao, 0, none⟩)] #[.pointer (some ⟨ao, 0, none⟩)] k1 _ _ aD _ _ ag _ _ aE bp bw bF _ (Kd.C_below bV.out HB.out) bW.out (Kd.C_below bL.out HB.out) bX.out (Kd.C_below bY.out HB.out) bZ.out (enters_of Try.func46 (by kernel_rfl) rfl) (enters_of Try.func47 (by kernel_rfl) rfl) (fun x0 x1 x2 x3 x4 r V hV hst => tune_Share.calls1 ao cE cF ai V ((hV.cell (p := ⟨ao, 0, none⟩) (qqW _ _ HX.out)).trans HX.out) (Kd.C_below HC.out hV) x0 x1 x2 x3 x4 r hst) (fun x0 r V hV hst => tune_Share.calls2 ao cE cF ai V ((hV.cell (p := ⟨ao, 0, none⟩) (qqW _ _ HX.out)).trans HX.out) (Kd.C_below HC.out hV) x0 r hst) dG.out).mono ?_;rintro e w53 ⟨hE, hF, hG, rfl, ho0, ho1, ho2, hb⟩;refine ⟨_, rfl, ?_⟩;replace ho2 := k66t_S ho2;have ct := Aside0.mk (Kd.R_lower ho0 HB.out.size);have cu := Aside0.mk (Kd.R_lower ho1 HB.out.size);have cv := Aside0.mk (Kd.S_lower ho2 HB.out.size);have ae := Aside0.mk (blk_below ae.out hb);have HB := Aside0.mk (below_step HB.out hb);clear ho0 ho1 ho2 hb;obtain ⟨bx, bz, dI⟩ := Kd.R_slice ct.out;subst dI;obtain ⟨bG, bH, dJ⟩ := Kd.R_slice cu.out;subst dJ;obtain ⟨bR, bS, dK⟩ := Kd.S_slice cv.out;subst dK;have Z55 := kz3 ae;go_wp2
    have hB3 : (((w53.setCell ⟨aj, 0, none⟩ (.slice bx bp.length bz)).setCell ⟨aj, 1, none⟩ (.slice bG bw.length bH)).setCell ⟨aj, 2, none⟩ (.slice bR bF.length bS)).heap[aj]? = some (.cells #[.slice bx bp.length bz, .slice bG bw.length bH, .slice bR bF.length bS] 26 (0, 0)) := by
     refine blk_put (cs := #[.slice bx bp.length bz, .slice bG bw.length bH, .slice none 0 0]) ?_ 2 _ rfl;refine blk_put (cs := #[.slice bx bp.length bz, .slice none 0 0, .slice none 0 0]) ?_ 1 _ rfl;refine blk_put (cs := #[.slice none 0 0, .slice none 0 0, .slice none 0 0]) ?_ 0 _ rfl;exact ae.out
    have hBl : Below w.heap.size w (((w53.setCell ⟨aj, 0, none⟩ (.slice bx bp.length bz)).setCell ⟨aj, 1, none⟩ (.slice bG bw.length bH)).setCell ⟨aj, 2, none⟩ (.slice bR bF.length bS)) := by
     refine below_set ?_ bM.out;refine below_set ?_ bM.out;refine below_set ?_ bM.out;exact HB.out
    refine bodyPost_ret (results_ct rfl _ _ aj 26 _ (0, 0) _ rfl hB3 Try.underlying26 rfl (by kernel_rfl)) rfl ?_;exact ⟨_, _, _, rfl, Kd.R_mono (Kd.R_far (p := ⟨aj, 2, none⟩) (Kd.R_far (p := ⟨aj, 1, none⟩) (Kd.R_far (p := ⟨aj, 0, none⟩) (Kd.R_types ct.out ae.out (by decide)) (fun _ hk => hk.2) (.slice bx bp.length bz)) (fun _ hk => hk.2) (.slice bG bw.length bH)) (fun _ hk => hk.2) (.slice bR bF.length bS)) (fun _ hk => trivial), Kd.R_mono (Kd.R_far (p := ⟨aj, 2, none⟩) (Kd.R_far (p := ⟨aj, 1, none⟩) (Kd.R_far (p := ⟨aj, 0, none⟩) (Kd.R_types cu.out ae.out (by decide)) (fun _ hk => hk.2) (.slice bx bp.length bz)) (fun _ hk => hk.2) (.slice bG bw.length bH)) (fun _ hk => hk.2) (.slice bR bF.length bS)) (fun _ hk => trivial), Kd.S_mono (Kd.S_far (p := ⟨aj, 2, none⟩) (Kd.S_far (p := ⟨aj, 1, none⟩) (Kd.S_far (p := ⟨aj, 0, none⟩) (Kd.S_types cv.out ae.out (by decide)) (fun _ hk => hk.2) (.slice bx bp.length bz)) (fun _ hk => hk.2) (.slice bG bw.length bH)) (fun _ hk => hk.2) (.slice bR bF.length bS)) (fun _ hk => trivial), hBl⟩
   rw [if_pos c23] at H;have cq := qqT c23;clear c23
   by_cases c24 : 0 ≤ af
   rotate_left
   ·rw [if_neg c24] at H
    exact absurd H (by simp)
   rw [if_pos c24] at H;have db := qqT c24;clear c24
   by_cases c25 : af < (ag.length : Int)
   rotate_left
   ·rw [if_neg c25] at H
    exact absurd H (by simp)
   rw [if_pos c25] at H;have dc := qqT c25;clear c25;have cG := Aside0.mk H;clear H;have cd : 0 ≤ (af : Int) := od;have ce : af < (ag.length : Int) := od;obtain ⟨bA, dL, bl, bm, bn, bo⟩ := at_T61 bL.out af cd ce;cases dL;replace bl := (HB.out.cell (qqW w _ bl)).trans bl;replace bm := (HB.out.cell (qqW w _ bm)).trans bm;replace bn := (HB.out.cell (qqW w _ bn)).trans bn;replace bo := (HB.out.cell (qqW w _ bo)).trans bo;replace cd := eq_true cd; replace ce := eq_true ce;go_upto_region 8 with (first | ((with_reducible refine gate_dst (N := 10) rfl ?_); refine box_event ?hg (N := 10) ?hd (cs := #[.int .i64 0, .int .i64 0, .int .i64 0, .int .u64 0]) (t := 61) ?hr ?_; (case hd | hg => rfl); (case hr => go_simp; try rfl); intro ba hg w27 hbox hb; replace ab := kR ab hb; have az := am hbox; have eX := kG HB hg; have eY := kG HB hg; replace HB := kH HB hb; have aO := kP aa hg; have aP := kQ aa hg; replace aa := kU aa hb; have aQ := kP ae hg; have aR := kQ ae hg; replace ae := kU ae hb; have aS := kP an hg; have aG := kQ an hg; replace an := kU an hb; have aT := kP ak hg; have aU := kQ ak hg; replace ak := kU ak hb; clear hb hbox hg; have eZ := aP.out; have fa := aO.out; have fb := aR.out; have fc := aQ.out; have fd := aG.out; have fe := aS.out; have ff := aU.out; have fg := aT.out; have Z32 := kz4 az));(try simp only [Act.put, qS1, qS2, qS3]);go_cut [40] (fun v40 wc => ∃ (kq : Nat) (bq : Bool), v40 = .bool bq ∧ Aside0 (tune_Share.j1 kq af ag (ag.length : Int) af bq aD ag aE aB false ai ((rd_T61 ag af).f0) ((rd_T61 ag af).f1) ((rd_T61 ag af).f2) ((rd_T61 ag af).f3) = some (r1, r2, r3, r4)) ∧ Aside0 (kq ≤ k1) ∧ Aside0 (Kd.R (Kd.int .i64) 3 wc w.heap.size (fun _ => True) aX ai) ∧ Aside0 (wc.heap[ah]? = some (.cells #[(.slice aJ aD.length aK), (.slice (some bA) ag.length aL), (.slice aM aE.length aN)] 26 (0, 0))) ∧ Aside0 (wc.heap[aj]? = some (.cells #[(.slice none 0 0), (.slice none 0 0), (.slice none 0 0)] 26 (0, 0))) ∧ Aside0 (wc.heap[ap]? = some ((tune_Share.obj aB))) ∧ Aside0 (wc.heap[ao]? = some (.cells #[aX] 27 (0, 0))) ∧ Aside0 (wc.heap[ba]? = some (.cells #[.int .i64 ((rd_T61 ag af).f0), .int .i64 ((rd_T61 ag af).f1), .int .i64 ((rd_T61 ag af).f2), .int .u64 ((rd_T61 ag af).f3)] 61 (0, 0))) ∧ Aside0 (Below w.heap.size w wc))
   case first =>
    have H := cG.out;clear cG
    by_cases c33 : ((rd_T61 ag af).f0) = 1
    rotate_left
    ·rw [if_neg c33] at H
     have bB := beq_eq_false_iff_ne.mpr c33;have dd := bne_iff_ne.mpr c33;(first | rw [bB] | (simp only [i64_w, i32_w]; rw [bB]) | skip);have H' := Aside0.mk H;clear H;have fh := aP.out;have fi := aO.out;have fj := aR.out;have fk := aQ.out;have fl := aG.out;have fm := aS.out;have fo := aU.out;have fp := aT.out;have Z43 := kz4 az;go_wp2;go_meet
     case rel => exact ⟨_, ((((rd_T61 ag af).f0) != 2)), et, H', ⟨by have := HK1.out; first | omega | exact Nat.le_refl _⟩, ⟨by (with_reducible repeat first | apply Kd.R_alloc | apply Kd.R_drewN | apply Kd.R_drew); exact Kd.R_mono (Kd.R_far (p := ⟨ba, 3, none⟩) (Kd.R_far (p := ⟨ba, 2, none⟩) (Kd.R_far (p := ⟨ba, 1, none⟩) (Kd.R_far (p := ⟨ba, 0, none⟩) (Kd.R_types ab.out az.out (by decide)) (fun _ hk => hk.2) (.int .i64 ((rd_T61 ag af).f0))) (fun _ hk => hk.2) (.int .i64 ((rd_T61 ag af).f1))) (fun _ hk => hk.2) (.int .i64 ((rd_T61 ag af).f2))) (fun _ hk => hk.2) (.int .u64 ((rd_T61 ag af).f3))) (fun _ hk => trivial)⟩, ⟨kg aa⟩, ⟨kg ae⟩, ⟨kg an⟩, ⟨kg ak⟩, ⟨kg az⟩, ⟨kh HB⟩⟩
    rw [if_pos c33] at H;have bB := beq_iff_eq.mpr c33;have dd := bne_eq_false_iff_eq.mpr c33;clear c33;(first | rw [bB] | (simp only [i64_w, i32_w]; rw [bB]) | skip);have H' := Aside0.mk H;clear H;have fq := aP.out;have fs := aO.out;have ft := aR.out;have fu := aQ.out;have fv := aG.out;have fw := aS.out;have fx := aU.out;have fy := aT.out;have Z38 := kz4 az;go_wp2;go_meet
    case rel => exact ⟨_, (false), et, H', ⟨by have := HK1.out; first | omega | exact Nat.le_refl _⟩, ⟨by (with_reducible repeat first | apply Kd.R_alloc | apply Kd.R_drewN | apply Kd.R_drew); exact Kd.R_mono (Kd.R_far (p := ⟨ba, 3, none⟩) (Kd.R_far (p := ⟨ba, 2, none⟩) (Kd.R_far (p := ⟨ba, 1, none⟩) (Kd.R_far (p := ⟨ba, 0, none⟩) (Kd.R_types ab.out az.out (by decide)) (fun _ hk => hk.2) (.int .i64 ((rd_T61 ag af).f0))) (fun _ hk => hk.2) (.int .i64 ((rd_T61 ag af).f1))) (fun _ hk => hk.2) (.int .i64 ((rd_T61 ag af).f2))) (fun _ hk => hk.2) (.int .u64 ((rd_T61 ag af).f3))) (fun _ hk => trivial)⟩, ⟨kg aa⟩, ⟨kg ae⟩, ⟨kg an⟩, ⟨kg ak⟩, ⟨kg az⟩, ⟨kh HB⟩⟩
   clear cG;(try clear cq db dc Z32 bl bm bn bo cd ce);obtain ⟨kq, bq, rfl, HA, bk, ab, aa, ae, an, ak, az, HB⟩ := hcut
   cases kq with
   | zero => exact absurd HA.out (by simp [tune_Share.j1])
   | succ dM =>
    have H := HA.out;clear HA;simp only [tune_Share.j1] at H;have cH := Aside0.mk H;clear H;go_upto_if 40 with (fail);go_cut [] (fun wc => ∃ (kq : Nat) (aH : Int) (aI : Int), Aside0 (tune_Share.j2 kq af ag (ag.length : Int) af aD ag aE aB false ai ((rd_T61 ag af).f0) aH aI ((rd_T61 ag af).f3) = some (r1, r2, r3, r4)) ∧ Aside0 (kq ≤ dM) ∧ Aside0 (Kd.R (Kd.int .i64) 3 wc w.heap.size (fun _ => True) aX ai) ∧ Aside0 (wc.heap[ah]? = some (.cells #[(.slice aJ aD.length aK), (.slice (some bA) ag.length aL), (.slice aM aE.length aN)] 26 (0, 0))) ∧ Aside0 (wc.heap[aj]? = some (.cells #[(.slice none 0 0), (.slice none 0 0), (.slice none 0 0)] 26 (0, 0))) ∧ Aside0 (wc.heap[ap]? = some ((tune_Share.obj aB))) ∧ Aside0 (wc.heap[ao]? = some (.cells #[aX] 27 (0, 0))) ∧ Aside0 (wc.heap[ba]? = some (.cells #[.int .i64 ((rd_T61 ag af).f0), .int .i64 aH, .int .i64 aI, .int .u64 ((rd_T61 ag af).f3)] 61 (0, 0))) ∧ Aside0 (Below w.heap.size w wc))
    case first =>
     have H := cH.out;clear cH
     by_cases c45 : bq = true
     rotate_left
     ·replace c45 := Bool.eq_false_iff.mpr c45
      subst c45;replace H := ifF H;have H' := Aside0.mk H;clear H;go_wp2;go_meet
      case rel => exact ⟨_, (((rd_T61 ag af).f1)), (((rd_T61 ag af).f2)), H', ⟨by have := HK1.out; have := bk.out; first | omega | exact Nat.le_refl _⟩, ⟨krR ab⟩, ⟨kg aa⟩, ⟨kg ae⟩, ⟨kg an⟩, ⟨kg ak⟩, ⟨kg az⟩, ⟨kh HB⟩⟩
     subst c45;replace H := ifT H
     by_cases c46 : 0 ≤ ((rd_T61 ag af).f1)
     rotate_left
     ·rw [if_neg c46] at H
      exact absurd H (by simp)
     rw [if_pos c46] at H;have cw := qqT c46;clear c46;(first | rw [cw] | (simp only [i64_w, i32_w]; rw [cw]) | skip)
     by_cases c47 : ((rd_T61 ag af).f1) < (ai.length : Int)
     rotate_left
     ·rw [if_neg c47] at H
      exact absurd H (by simp)
     rw [if_pos c47] at H;have fz := qqT c47;clear c47
     by_cases c48 : ((rd_T61 ag af).f0) = 6
     ·rw [if_pos c48] at H
      have de := beq_iff_eq.mpr c48;have df := bne_eq_false_iff_eq.mpr c48;clear c48;have H' := Aside0.mk H;clear H;have fA := ar.out;have fB := aq.out;have fC := av.out;have fD := au.out;have fE := aC.out;have fF := aF.out;have fG := aT.out;have fH := aU.out;have Z53 := kz1 ak;have fI := aP.out;have fJ := aO.out;have fK := aR.out;have fL := aQ.out;have fM := aG.out;have fN := aS.out;have Z57 := kz4 az;obtain ⟨hH, hJ, dN⟩ := Kd.R_slice ab.out;subst dN;have bI : 0 ≤ (((rd_T61 ag af).f1) : Int) := od;have bJ : ((rd_T61 ag af).f1) < (ai.length : Int) := od;obtain ⟨ca, cI, cf⟩ := Kd.at_int (Kd.R_reads' ab.out).2.2 ((rd_T61 ag af).f1) bI bJ;cases cI;replace bI := eq_true bI; replace bJ := eq_true bJ;go_wp2;go_meet
      case rel => exact ⟨_, (rd ai ((rd_T61 ag af).f1)), (((rd_T61 ag af).f2)), H', ⟨by have := HK1.out; have := bk.out; first | omega | exact Nat.le_refl _⟩, ⟨by (with_reducible repeat first | apply Kd.R_alloc | apply Kd.R_drewN | apply Kd.R_drew); exact Kd.R_mono (Kd.R_far (p := ⟨ba, 1, none⟩) (Kd.R_types ab.out az.out (by decide)) (fun _ hk => hk.2) (.int .i64 (rd ai ((rd_T61 ag af).f1)))) (fun _ hk => trivial)⟩, ⟨kg aa⟩, ⟨kg ae⟩, ⟨kg an⟩, ⟨kg ak⟩, ⟨kg az⟩, ⟨kh HB⟩⟩
     rw [if_neg c48] at H;have de := beq_eq_false_iff_ne.mpr c48;have df := bne_iff_ne.mpr c48
     by_cases c59 : 0 ≤ ((rd_T61 ag af).f2)
     rotate_left
     ·rw [if_neg c59] at H
      exact absurd H (by simp)
     rw [if_pos c59] at H;have fO := qqT c59;clear c59
     by_cases c60 : ((rd_T61 ag af).f2) < (ai.length : Int)
     rotate_left
     ·rw [if_neg c60] at H
      exact absurd H (by simp)
     rw [if_pos c60] at H;have fP := qqT c60;clear c60;have H' := Aside0.mk H;clear H;have fQ := ar.out;have fR := aq.out;have fS := av.out;have fT := au.out;have fU := aC.out;have fV := aF.out;have fW := aT.out;have fX := aU.out;have Z65 := kz1 ak;have fY := aP.out;have fZ := aO.out;have ga := aR.out;have gb := aQ.out;have gc := aG.out;have gd := aS.out;have Z69 := kz4 az;obtain ⟨hL, hM, dO⟩ := Kd.R_slice ab.out;subst dO;have bI : 0 ≤ (((rd_T61 ag af).f1) : Int) := od;have bJ : ((rd_T61 ag af).f1) < (ai.length : Int) := od;obtain ⟨ca, cI, cf⟩ := Kd.at_int (Kd.R_reads' ab.out).2.2 ((rd_T61 ag af).f1) bI bJ;cases cI;replace bI := eq_true bI; replace bJ := eq_true bJ;have cJ : 0 ≤ (((rd_T61 ag af).f2) : Int) := od;have cK : ((rd_T61 ag af).f2) < (ai.length : Int) := od;obtain ⟨dg, dP, bN⟩ := Kd.at_int (Kd.R_reads' ab.out).2.2 ((rd_T61 ag af).f2) cJ cK;obtain rfl : ca = dg := (by injection dP);have hn298_0 : ca.block ≠ ba := Kd.own_blk (Kd.R_ne ab.out az.out (by decide));replace bN := (cell_far (p := ⟨ba, 1, none⟩) (by first | (rw [add_block]; exact hn298_0) | (show (Addr.add _ _).block ≠ _; rw [add_block]; exact hn298_0) | exact hn298_0) (.int .i64 (rd ai ((rd_T61 ag af).f1)))).trans bN;clear hn298_0; replace cJ := eq_true cJ; replace cK := eq_true cK;go_wp2;go_meet
     case rel => exact ⟨_, (rd ai ((rd_T61 ag af).f1)), (rd ai ((rd_T61 ag af).f2)), H', ⟨by have := HK1.out; have := bk.out; first | omega | exact Nat.le_refl _⟩, ⟨by (with_reducible repeat first | apply Kd.R_alloc | apply Kd.R_drewN | apply Kd.R_drew); exact Kd.R_mono (Kd.R_far (p := ⟨ba, 2, none⟩) (Kd.R_far (p := ⟨ba, 1, none⟩) (Kd.R_types ab.out az.out (by decide)) (fun _ hk => hk.2) (.int .i64 (rd ai ((rd_T61 ag af).f1)))) (fun _ hk => hk.2) (.int .i64 (rd ai ((rd_T61 ag af).f2)))) (fun _ hk => trivial)⟩, ⟨kg aa⟩, ⟨kg ae⟩, ⟨kg an⟩, ⟨kg ak⟩, ⟨kg az⟩, ⟨kh HB⟩⟩
    clear cH;obtain ⟨kq, aH, aI, HA, br, ab, aa, ae, an, ak, az, HB⟩ := hcut
    cases kq with
    | zero => exact absurd HA.out (by simp [tune_Share.j2])
    | succ dQ =>
     have H := HA.out;clear HA;simp only [tune_Share.j2] at H;have cL := Aside0.mk H;clear H;go_upto_region 12 with (fail);go_cut [70] (fun v70 wc => ∃ (kq : Nat) (bt : Bool), v70 = .bool bt ∧ Aside0 (tune_Share.j3 kq af ag (ag.length : Int) af bt aD ag aE aB false ai ((rd_T61 ag af).f0) aH aI ((rd_T61 ag af).f3) = some (r1, r2, r3, r4)) ∧ Aside0 (kq ≤ dQ) ∧ Aside0 (Kd.R (Kd.int .i64) 3 wc w.heap.size (fun _ => True) aX ai) ∧ Aside0 (wc.heap[ah]? = some (.cells #[(.slice aJ aD.length aK), (.slice (some bA) ag.length aL), (.slice aM aE.length aN)] 26 (0, 0))) ∧ Aside0 (wc.heap[aj]? = some (.cells #[(.slice none 0 0), (.slice none 0 0), (.slice none 0 0)] 26 (0, 0))) ∧ Aside0 (wc.heap[ap]? = some ((tune_Share.obj aB))) ∧ Aside0 (wc.heap[ao]? = some (.cells #[aX] 27 (0, 0))) ∧ Aside0 (wc.heap[ba]? = some (.cells #[.int .i64 ((rd_T61 ag af).f0), .int .i64 aH, .int .i64 aI, .int .u64 ((rd_T61 ag af).f3)] 61 (0, 0))) ∧ Aside0 (Below w.heap.size w wc))
     case first =>
      have H := cL.out;clear cL
      by_cases c72 : ((rd_T61 ag af).f0) = 3
      ·rw [if_pos c72] at H
       have bC := beq_iff_eq.mpr c72;have dh := bne_eq_false_iff_eq.mpr c72;clear c72;(first | rw [bC] | (simp only [i64_w, i32_w]; rw [bC]) | skip);have H' := Aside0.mk H;clear H;have ge := aP.out;have gg := aO.out;have gh := aR.out;have gi := aQ.out;have gj := aG.out;have gl := aS.out;have gm := aU.out;have gn := aT.out;have Z77 := kz4 az;go_wp2;go_meet
       case rel => exact ⟨_, (decide (aH > aI)), et, H', ⟨by have := HK1.out; have := bk.out; have := br.out; first | omega | exact Nat.le_refl _⟩, ⟨krR ab⟩, ⟨kg aa⟩, ⟨kg ae⟩, ⟨kg an⟩, ⟨kg ak⟩, ⟨kg az⟩, ⟨kh HB⟩⟩
      rw [if_neg c72] at H;have bC := beq_eq_false_iff_ne.mpr c72;have dh := bne_iff_ne.mpr c72;(first | rw [bC] | (simp only [i64_w, i32_w]; rw [bC]) | skip)
      by_cases c78 : ((rd_T61 ag af).f0) = 5
      rotate_left
      ·rw [if_neg c78] at H
       have di := beq_eq_false_iff_ne.mpr c78;have dj := bne_iff_ne.mpr c78;have H' := Aside0.mk H;clear H;have gp := aP.out;have gq := aO.out;have gr := aR.out;have gs := aQ.out;have gt := aG.out;have gu := aS.out;have gv := aU.out;have gw := aT.out;have Z88 := kz4 az;go_wp2;go_meet
       case rel => exact ⟨_, (false), et, H', ⟨by have := HK1.out; have := bk.out; have := br.out; first | omega | exact Nat.le_refl _⟩, ⟨krR ab⟩, ⟨kg aa⟩, ⟨kg ae⟩, ⟨kg an⟩, ⟨kg ak⟩, ⟨kg az⟩, ⟨kh HB⟩⟩
      rw [if_pos c78] at H;have di := beq_iff_eq.mpr c78;have dj := bne_eq_false_iff_eq.mpr c78;clear c78;have H' := Aside0.mk H;clear H;have gx := aP.out;have gy := aO.out;have gz := aR.out;have gA := aQ.out;have gB := aG.out;have gC := aS.out;have gD := aU.out;have gE := aT.out;have Z83 := kz4 az;go_wp2;go_meet
      case rel => exact ⟨_, (decide (aH > aI)), et, H', ⟨by have := HK1.out; have := bk.out; have := br.out; first | omega | exact Nat.le_refl _⟩, ⟨krR ab⟩, ⟨kg aa⟩, ⟨kg ae⟩, ⟨kg an⟩, ⟨kg ak⟩, ⟨kg az⟩, ⟨kh HB⟩⟩
     clear cL;obtain ⟨kq, bt, rfl, HA, bT, ab, aa, ae, an, ak, az, HB⟩ := hcut
     cases kq with
     | zero => exact absurd HA.out (by simp [tune_Share.j3])
     | succ dR =>
      have H := HA.out;clear HA;simp only [tune_Share.j3] at H;have cM := Aside0.mk H;clear H;go_upto_if 70 with (fail);go_cut [] (fun wc => ∃ (kq : Nat) (aY : Int) (aZ : Int), Aside0 (tune_Share.j4 kq af ag (ag.length : Int) af aD ag aE aB false ai ((rd_T61 ag af).f0) aY aZ ((rd_T61 ag af).f3) = some (r1, r2, r3, r4)) ∧ Aside0 (kq ≤ dR) ∧ Aside0 (Kd.R (Kd.int .i64) 3 wc w.heap.size (fun _ => True) aX ai) ∧ Aside0 (wc.heap[ah]? = some (.cells #[(.slice aJ aD.length aK), (.slice (some bA) ag.length aL), (.slice aM aE.length aN)] 26 (0, 0))) ∧ Aside0 (wc.heap[aj]? = some (.cells #[(.slice none 0 0), (.slice none 0 0), (.slice none 0 0)] 26 (0, 0))) ∧ Aside0 (wc.heap[ap]? = some ((tune_Share.obj aB))) ∧ Aside0 (wc.heap[ao]? = some (.cells #[aX] 27 (0, 0))) ∧ Aside0 (wc.heap[ba]? = some (.cells #[.int .i64 ((rd_T61 ag af).f0), .int .i64 aY, .int .i64 aZ, .int .u64 ((rd_T61 ag af).f3)] 61 (0, 0))) ∧ Aside0 (Below w.heap.size w wc))
      case first =>
       have H := cM.out;clear cM
       by_cases c90 : bt = true
       rotate_left
       ·replace c90 := Bool.eq_false_iff.mpr c90
        subst c90;replace H := ifF H;have H' := Aside0.mk H;clear H;go_wp2;go_meet
        case rel => exact ⟨_, (aH), (aI), H', ⟨by have := HK1.out; have := bk.out; have := br.out; have := bT.out; first | omega | exact Nat.le_refl _⟩, ⟨krR ab⟩, ⟨kg aa⟩, ⟨kg ae⟩, ⟨kg an⟩, ⟨kg ak⟩, ⟨kg az⟩, ⟨kh HB⟩⟩
       subst c90;replace H := ifT H;have H' := Aside0.mk H;clear H;have gF := aP.out;have gG := aO.out;have gH := aR.out;have gI := aQ.out;have gJ := aG.out;have gK := aS.out;have gL := aU.out;have gM := aT.out;have Z95 := kz4 az;go_wp2;go_meet
       case rel => exact ⟨_, (aI), (aH), H', ⟨by have := HK1.out; have := bk.out; have := br.out; have := bT.out; first | omega | exact Nat.le_refl _⟩, ⟨by (with_reducible repeat first | apply Kd.R_alloc | apply Kd.R_drewN | apply Kd.R_drew); exact Kd.R_mono (Kd.R_far (p := ⟨ba, 2, none⟩) (Kd.R_far (p := ⟨ba, 1, none⟩) (Kd.R_types ab.out az.out (by decide)) (fun _ hk => hk.2) (.int .i64 aI)) (fun _ hk => hk.2) (.int .i64 aH)) (fun _ hk => trivial)⟩, ⟨kg aa⟩, ⟨kg ae⟩, ⟨kg an⟩, ⟨kg ak⟩, ⟨kg az⟩, ⟨kh HB⟩⟩
      clear cM;obtain ⟨kq, aY, aZ, HA, cg, ab, aa, ae, an, ak, az, HB⟩ := hcut
      cases kq with
      | zero => exact absurd HA.out (by simp [tune_Share.j4])
      | succ ch =>
       have H := HA.out;clear HA;simp only [tune_Share.j4] at H;replace H := qqB H;obtain ⟨⟨bK, dS⟩, dk, H⟩ := H;(try dsimp only at H);have A96 := Aside0.mk dk;clear dk
       by_cases c97 : dS = true
       ·subst c97
        replace H := ifT H
        by_cases c98 : 0 ≤ af
        rotate_left
        ·rw [if_neg c98] at H
         exact absurd H (by simp)
        rw [if_pos c98] at H;have gN := qqT c98;clear c98
        by_cases c99 : af < (ai.length : Int)
        rotate_left
        ·rw [if_neg c99] at H
         exact absurd H (by simp)
        rw [if_pos c99] at H;have gO := qqT c99;clear c99;obtain ⟨cN, bD⟩ : ∃ y_ : List Int, y_ = (ai.set (af : Int).toNat bK) := ⟨_, rfl⟩
        replace H : (tune_Share.l0 ch ag (ag.length : Int) (wrap64 (af + 1)) aD ag aE aB false cN) = some (r1, r2, r3, r4) := by first | (rw [bD]; with_reducible exact H) | (have H2_ := (Option.bind_some _ _).symm.trans H; rw [bD]; with_reducible exact H2_) | (have H2_ := (Option.bind_some _ _).symm.trans H; with_reducible exact H2_) | with_reducible exact H | (rw [bD]; exact H) | exact H
        have dl := Aside0.mk bD;clear bD;have H' := Aside0.mk H;clear H;have dT := ax.out;have dU := aw.out;have dV := aA.out;have dW := ay.out;have dX := aF.out;have dY := aC.out;have dZ := aS.out;have eb := aG.out;have ed := aP.out;have ee := aO.out;have ef := aR.out;have eh := aQ.out;have ei := aU.out;have ej := aT.out;have hO := kz4 az;go_wp2_with (first | ((with_reducible refine gate_dst (N := 80) rfl ?_); refine tune_Share.look_event ?hg (N := 80) ?hd (v := .tuple #[.int .i64 bK, .bool true]) ?hr ?_; (case hg => rfl); (case hd => rfl); (case hr => have hlk := tune_Share.look_run ⟨((rd_T61 ag af).f0), aY, aZ, ((rd_T61 ag af).f3)⟩ aB _ ap an.out (bK, true) A96.out; unfold tune_Share.val at hlk; first | (go_simp; done) | (go_simp; rfl)); intro dm hb; replace ab := kR ab hb; replace aa := kU aa hb; replace ae := kU ae hb; replace an := kU an hb; replace ak := kU ak hb; replace az := kU az hb; replace HB := kH HB hb; (try clear hb); (try clear hb2); (try clear hk); (try clear hi); have ek := ar.out; have el := aq.out; have em := av.out; have ep := au.out; have hP := kz1 ak; have cO : 0 ≤ (af : Int) := od; have cP : (af : Int) < ((ai.length : Int) : Int) := od; obtain ⟨bO, cx, cy, cz, gl100, cl100, HG100⟩ := Kd.R_form ab.out (by omega); (first | cases cy | (injection cy with ea_ en_ ec_; (first | subst ea_ | (injection ea_ with ea_; subst ea_)); subst ec_; clear en_)); have dn := Aside0.mk cz; have gP := Aside0.mk HG100; clear cz gl100 HG100; obtain ⟨dy, dz⟩ := Kd.R_celln 0 ab.out (af : Int) cO cP; replace cO := eq_true cO; replace cP := eq_true cP; obtain ⟨eq, es⟩ := Kd.R_celln 0 ab.out (af : Int) od od; have cb := Kd.R_putg ab.out (af : Int) bK) | ((with_reducible refine gate_store (t := 3) (p := 92) rfl ?_); refine store_event (t := 3) (p := 92) (v := ?vo_w115) (w1 := (dm.setCell ⟨bO, (af : Int).toNat, none⟩ (.int .i64 bK))) ?hg ?ho ?hn ?hr ?_; (case ho => rfl); (case hg => rfl); (case hn => rfl); (case hr => go_simp; try rfl); intro cQ hw; have hg : dm.grownBy cQ (some bO) := (by rw [hw]; exact cb.2); have hp_ : Kd.R (Kd.int .i64) 3 cQ w.heap.size (fun _ => True) (.slice (some ⟨bO, 0, none⟩) ai.length cx) cN := (by rw [hw, dl.out]; exact cb.1); clear cb; replace aa := kXR aa ab hg; replace ae := kXR ae ab hg; replace an := Aside0.mk (blk_grown (g := ap) (o := (tune_Share.obj aB)) (kb an) hg (tune_Share.R_neM ab.out an.out)); replace ak := kXR ak ab hg; replace az := kXR az ab hg; replace ab := Aside0.mk (hp_); replace HB := Aside0.mk ((by rw [hw]; exact below_set (HB.out) dn.out : Below w.heap.size w cQ)); clear hg hw hp_));go_roundg ch
        case measure => have := HK1.out; have := bk.out; have := br.out; have := bT.out; have := cg.out; omega
        case rel => exact ⟨(wrap64 (af + 1)), (aB), (cN), (.slice (some ⟨bO, 0, none⟩) ai.length cx), et, H', ⟨by have := HK1.out; have := bk.out; have := br.out; have := bT.out; have := cg.out; omega⟩, ⟨krR ab⟩, ⟨kg aa⟩, ⟨kg ae⟩, ⟨kg an⟩, ⟨kg ak⟩, ⟨kh HB⟩⟩
       replace c97 := Bool.eq_false_iff.mpr c97;subst c97;replace H := ifF H;replace H := qqB H;obtain ⟨bU, cA, H⟩ := H;(try dsimp only at H);have eu := Aside0.mk cA;clear cA
       by_cases ci : 0 ≤ af
       rotate_left
       ·rw [if_neg ci] at H
        exact absurd H (by simp)
       rw [if_pos ci] at H;have ev := qqT ci;clear ci
       by_cases cj : af < (ai.length : Int)
       rotate_left
       ·rw [if_neg cj] at H
        exact absurd H (by simp)
       rw [if_pos cj] at H;have ew := qqT cj;clear cj;obtain ⟨cR, bE⟩ : ∃ y_ : List Int, y_ = (ai.set (af : Int).toNat af) := ⟨_, rfl⟩
       replace H : (tune_Share.l0 ch ag (ag.length : Int) (wrap64 (af + 1)) aD ag aE bU false cR) = some (r1, r2, r3, r4) := by first | (rw [bE]; with_reducible exact H) | (have H2_ := (Option.bind_some _ _).symm.trans H; rw [bE]; with_reducible exact H2_) | (have H2_ := (Option.bind_some _ _).symm.trans H; with_reducible exact H2_) | with_reducible exact H | (rw [bE]; exact H) | exact H
       have dp := Aside0.mk bE;clear bE;have H' := Aside0.mk H;clear H;have ex := ax.out;have ey := aw.out;have ez := aA.out;have eA := ay.out;have eB := aF.out;have eC := aC.out;have eD := aS.out;have eE := aG.out;have eF := aP.out;have eG := aO.out;have eH := aR.out;have eI := aQ.out;have eJ := aU.out;have eK := aT.out;have hQ := kz4 az;go_wp2_with (first | ((with_reducible refine gate_dst (N := 80) rfl ?_); refine tune_Share.look_event ?hg (N := 80) ?hd (v := .tuple #[.int .i64 bK, .bool false]) ?hr ?_; (case hg => rfl); (case hd => rfl); (case hr => have hlk := tune_Share.look_run ⟨((rd_T61 ag af).f0), aY, aZ, ((rd_T61 ag af).f3)⟩ aB _ ap an.out (bK, false) A96.out; unfold tune_Share.val at hlk; first | (go_simp; done) | (go_simp; rfl)); intro eL hb; replace ab := kR ab hb; replace aa := kU aa hb; replace ae := kU ae hb; replace an := kU an hb; replace ak := kU ak hb; replace az := kU az hb; replace HB := kH HB hb; (try clear hb); (try clear hb2); (try clear hk); (try clear hi); have hT := kz4 az) | ((with_reducible refine tune_Share.gate_upd rfl ?_); refine tune_Share.upd_event (w1 := (World.putObj eL ap (tune_Share.obj bU))) ?hg ?hn ?hr ?_; (case hg => rfl); (case hn => rfl); (case hr => have hup := tune_Share.put_run ⟨((rd_T61 ag af).f0), aY, aZ, ((rd_T61 ag af).f3)⟩ aB bU _ ap af an.out eu.out; unfold tune_Share.val at hup; first | (go_simp; done) | (go_simp; rfl)); intro bu hw; replace ab : Aside0 (Kd.R (Kd.int .i64) 3 bu w.heap.size (fun _ => True) aX ai) := ⟨(by rw [hw]; exact (by (with_reducible repeat first | apply Kd.R_alloc | apply Kd.R_drewN | apply Kd.R_drew); exact tune_Share.R_upd ab.out an.out _))⟩; replace aa : Aside0 (bu.heap[ah]? = some (.cells #[.slice aJ aD.length aK, .slice (some bA) ag.length aL, .slice aM aE.length aN] 26 (0, 0))) := ⟨(by rw [hw]; exact (by (with_reducible repeat first | refine blk_drewN ?_ _ | refine blk_drew ?_ | refine blk_alloc ?_ _); refine tune_Share.blk_upd ?_ aw.out _; (with_reducible repeat first | refine blk_drewN ?_ _ | refine blk_drew ?_ | refine blk_alloc ?_ _); exact aa.out))⟩; replace ae : Aside0 (bu.heap[aj]? = some (.cells #[.slice none 0 0, .slice none 0 0, .slice none 0 0] 26 (0, 0))) := ⟨(by rw [hw]; exact (by (with_reducible repeat first | refine blk_drewN ?_ _ | refine blk_drew ?_ | refine blk_alloc ?_ _); refine tune_Share.blk_upd ?_ ay.out _; (with_reducible repeat first | refine blk_drewN ?_ _ | refine blk_drew ?_ | refine blk_alloc ?_ _); exact ae.out))⟩; replace an : Aside0 (bu.heap[ap]? = some ((tune_Share.obj bU))) := ⟨(by rw [hw]; exact (by (with_reducible repeat first | refine blk_drewN ?_ _ | refine blk_drew ?_ | refine blk_alloc ?_ _); exact tune_Share.upd_new an.out _))⟩; replace ak : Aside0 (bu.heap[ao]? = some (.cells #[aX] 27 (0, 0))) := ⟨(by rw [hw]; exact (by (with_reducible repeat first | refine blk_drewN ?_ _ | refine blk_drew ?_ | refine blk_alloc ?_ _); refine tune_Share.blk_upd ?_ aC.out _; (with_reducible repeat first | refine blk_drewN ?_ _ | refine blk_drew ?_ | refine blk_alloc ?_ _); exact ak.out))⟩; replace az : Aside0 (bu.heap[ba]? = some (.cells #[.int .i64 ((rd_T61 ag af).f0), .int .i64 aY, .int .i64 aZ, .int .u64 ((rd_T61 ag af).f3)] 61 (0, 0))) := ⟨(by rw [hw]; exact (by (with_reducible repeat first | refine blk_drewN ?_ _ | refine blk_drew ?_ | refine blk_alloc ?_ _); refine tune_Share.blk_upd ?_ aG.out _; (with_reducible repeat first | refine blk_drewN ?_ _ | refine blk_drew ?_ | refine blk_alloc ?_ _); exact az.out))⟩; replace HB : Aside0 (Below w.heap.size w bu) := ⟨(by rw [hw]; exact (tune_Share.below_upd HB.out bb.out HB.out.size _))⟩; clear hw; have eM := ar.out; have eN := aq.out; have eO := av.out; have eP := au.out; have hU := kz1 ak; have cS : 0 ≤ (af : Int) := od; have cT : (af : Int) < ((ai.length : Int) : Int) := od; obtain ⟨bP, cB, cC, cD, gl119, cl119, HG119⟩ := Kd.R_form ab.out (by omega); (first | cases cC | (injection cC with ea_ en_ ec_; (first | subst ea_ | (injection ea_ with ea_; subst ea_)); subst ec_; clear en_)); have dq := Aside0.mk cD; have gQ := Aside0.mk HG119; clear cD gl119 HG119; obtain ⟨dA, dB⟩ := Kd.R_celln 0 ab.out (af : Int) cS cT; replace cS := eq_true cS; replace cT := eq_true cT; obtain ⟨eQ, eR⟩ := Kd.R_celln 0 ab.out (af : Int) od od; have cc := Kd.R_putg ab.out (af : Int) af) | ((with_reducible refine gate_store (t := 3) (p := 92) rfl ?_); refine store_event (t := 3) (p := 92) (v := ?vo_w139) (w1 := (bu.setCell ⟨bP, (af : Int).toNat, none⟩ (.int .i64 af))) ?hg ?ho ?hn ?hr ?_; (case ho => rfl); (case hg => rfl); (case hn => rfl); (case hr => go_simp; try rfl); intro cU hw; have hg : bu.grownBy cU (some bP) := (by rw [hw]; exact cc.2); have hp_ : Kd.R (Kd.int .i64) 3 cU w.heap.size (fun _ => True) (.slice (some ⟨bP, 0, none⟩) ai.length cB) cR := (by rw [hw, dp.out]; exact cc.1); clear cc; replace aa := kXR aa ab hg; replace ae := kXR ae ab hg; replace an := Aside0.mk (blk_grown (g := ap) (o := (tune_Share.obj bU)) (kb an) hg (tune_Share.R_neM ab.out an.out)); replace ak := kXR ak ab hg; replace az := kXR az ab hg; replace ab := Aside0.mk (hp_); replace HB := Aside0.mk ((by rw [hw]; exact below_set (HB.out) dq.out : Below w.heap.size w cU)); clear hg hw hp_));go_roundg ch
       case measure => have := HK1.out; have := bk.out; have := br.out; have := bT.out; have := cg.out; omega
       case rel => exact ⟨(wrap64 (af + 1)), (bU), (cR), (.slice (some ⟨bP, 0, none⟩) ai.length cB), et, H', ⟨by have := HK1.out; have := bk.out; have := br.out; have := bT.out; have := cg.out; omega⟩, ⟨krR ab⟩, ⟨kg aa⟩, ⟨kg ae⟩, ⟨kg an⟩, ⟨kg ak⟩, ⟨kh HB⟩⟩
section
open Go.Shelf
attribute [local go_sem] Oper.semAt_some
def api_Gate_51_upto {α : Type} (f : Nat → α) (k : Nat) : List α := (List.range k).map f
theorem api_Gate_51_upto_succ {α : Type} (f : Nat → α) (k : Nat) : api_Gate_51_upto f (k + 1) = api_Gate_51_upto f k ++ [f k] := by simp [api_Gate_51_upto, List.range_succ]
theorem api_Gate_51_upto_length {α : Type} (f : Nat → α) (k : Nat) : (api_Gate_51_upto f k).length = k := by simp [api_Gate_51_upto]
def api_Gate_51_val (x : S61) : Value := .agg #[.int .i64 x.f0, .int .i64 x.f1, .int .i64 x.f2, .int .u64 x.f3]
def api_Gate_51_enc (xs : List S61) (len x : Nat) : Array Value := #[.int .i64 ((min x (len - 1) : Nat) : Int), api_Gate_51_val (rd_T61 xs ((min x (len - 1) : Nat) : Int))]
theorem api_Gate_51_enc_at (xs : List S61) (len i : Nat) (h : i < len) : api_Gate_51_enc xs len i = #[.int .i64 (i : Int), .agg #[.int .i64 (rd_T61 xs (i : Int)).f0, .int .i64 (rd_T61 xs (i : Int)).f1, .int .i64 (rd_T61 xs (i : Int)).f2, .int .u64 (rd_T61 xs (i : Int)).f3]] := by
 unfold api_Gate_51_enc api_Gate_51_val;rw [show min i (len - 1) = i by omega]
def api_Gate_51_Kp (n₀ Bs : Nat) (W W' : World) : Prop := Below n₀ W W' ∧ W'.heap[Bs]? = W.heap[Bs]?
theorem api_Gate_51_Kp_t {n₀ Bs : Nat} {A B C : World} (h : api_Gate_51_Kp n₀ Bs A B) (k : api_Gate_51_Kp n₀ Bs B C) : api_Gate_51_Kp n₀ Bs A C := ⟨h.1.trans k.1, k.2.trans h.2⟩
theorem api_Gate_51_Kp_b {n₀ Bs : Nat} {w : World} (hn : n₀ ≤ w.heap.size) (hs : Bs < w.heap.size) (W : World) (l : Nat) (o o' : Obj) (hl : w.heap.size ≤ l) (h : W.heap[l]? = some o) (h1 : o.isCells = false) (h2 : o.isWalk = false) : api_Gate_51_Kp n₀ Bs W (W.putObj l o') :=
 ⟨belowK_b hn W l o o' hl h h1 h2, World.putObj_heap_other (by omega)⟩
theorem api_Gate_51_in (F : Fence) (n : Nat) (h7 : F.fn 77) (hro : F.round = none) (hn : 1 ≤ n) (l Bs n₀ cap : Nat) (A : Option Addr) (len : Nat) (xs : List S61) (hA : ∀ ad, A = some ad → 0 < len → ad.block < n₀) (J Jx : List Nat → World → Prop)
  (hY : ∀ pre (x : Nat) W, J pre W → pre.length < len → YieldAt F (n - 1) Try.prog l (api_Gate_51_enc xs len x) W fun e W' =>
   (e = .returned (.bool true) ∧ J (pre ++ [x]) W' ∧ api_Gate_51_Kp n₀ Bs W W') ∨ (e = .returned (.bool false) ∧ Jx (pre ++ [x]) W'))
  (W : World) (hBs : W.cell? ⟨Bs, 0, none⟩ = some (.slice A len cap)) (hlen : len ≤ 9223372036854775807) (hc : Kd.C k61 W A len xs) (h0 : J [] W) :
  CallsIn F n Try.prog 77 #[.func (.yield l) #[] #[], .pointer (some ⟨Bs, 0, none⟩)] W fun e W' => (∃ v, e = .returned v) ∧
   ((∃ ys, ys = api_Gate_51_upto (fun k => len - 1 - k) len ∧ J ys W') ∨ (∃ pre, (∃ k, k ≤ len ∧ pre = api_Gate_51_upto (fun k => len - 1 - k) k) ∧ Jx pre W')) := by
 refine callsIn_of_wp Try.func77 rfl h7 ?_ hro;simp only [Try.ntmps77, List.size_toArray, List.length_cons, List.length_nil, Nat.reduceAdd, Nat.reduceSub, Array.replicate_succ, Array.replicate_zero, List.push_toArray, List.append_toArray, List.nil_append, List.cons_append];have HC := Aside0.mk hc;clear hc
 gi_wp2
 gi_loopw [3] (fun i wr => ∃ k : Nat, k ≤ len ∧ i = .int .i64 ((len : Int) - 1 - k) ∧ J (api_Gate_51_upto (fun k => len - 1 - k) k) wr ∧ api_Gate_51_Kp n₀ Bs W wr)
  (fun i _ => (intOf i + 1).toNat)
 case atStart => exact ⟨0, Nat.zero_le _, by simp, h0, Below.refl _ _, rfl⟩
 case round =>
  obtain ⟨k, hk, rfl, hJs, hnx⟩ := hrel
  have hBs' : wr.cell? ⟨Bs, 0, none⟩ = some (.slice A len cap) := by unfold World.cell? at hBs ⊢; rw [hnx.2]; exact hBs
  by_cases hlt : k < len
  rotate_left
  ·obtain rfl : k = len := by omega
   have hneg : (k : Int) - 1 - k = -1 := by omega
   rw [hneg];clear hneg
   gi_wp2
   go_end0;exact ⟨⟨_, rfl⟩, .inl ⟨_, rfl, hJs⟩⟩
  obtain ⟨i, hi⟩ : ∃ i : Nat, i = len - 1 - k := ⟨_, rfl⟩
  have hie : (len : Int) - 1 - k = i := by omega
  rw [hie]
  have hil : i < len := by omega
  obtain ⟨ad, rfl, hx0, hx1, hx2, hx3⟩ := at_T61 HC.out (i : Int) (by omega) (by omega)
  have hbk : (ad.add ((i : Int).toNat * 4)).block < n₀ := by rw [show (ad.add ((i : Int).toNat * 4)).block = ad.block by unfold Addr.add; split <;> rfl]; exact hA ad rfl (by omega)
  replace hx0 := (hnx.1.cell (p := ad.add ((i : Int).toNat * 4)) hbk).trans hx0;replace hx1 := (hnx.1.cell (p := ⟨(ad.add ((i : Int).toNat * 4)).block, (ad.add ((i : Int).toNat * 4)).off + 1, none⟩) hbk).trans hx1;replace hx2 := (hnx.1.cell (p := ⟨(ad.add ((i : Int).toNat * 4)).block, (ad.add ((i : Int).toNat * 4)).off + 2, none⟩) hbk).trans hx2;replace hx3 := (hnx.1.cell (p := ⟨(ad.add ((i : Int).toNat * 4)).block, (ad.add ((i : Int).toNat * 4)).off + 3, none⟩) hbk).trans hx3;clear hbk;simp only [Int.toNat_natCast] at hx0 hx1 hx2 hx3;obtain ⟨fn, tmps, assign, body, hy, hR⟩ := hY _ i wr hJs (by rw [api_Gate_51_upto_length]; exact hlt);have hnth : len - 1 - k = i := hi.symm;rw [api_Gate_51_enc_at xs len i hil] at hy;have HN := Aside0.mk hnth;have HI := Aside0.mk hi;have HIE := Aside0.mk hie;clear hnth hi hie
  have hi0 : 0 ≤ (i : Int) := by omega
  gi_wp2
  refine hR.mono ?_;rintro e W3 (⟨rfl, hJ3, hk3⟩ | ⟨rfl, hJx3⟩)
  ·gi_wp2
   go_roundw
   case rel => exact ⟨k + 1, by omega, by have := HIE.out; congr 1; omega, by rw [api_Gate_51_upto_succ, HN.out]; exact hJ3, api_Gate_51_Kp_t hnx hk3⟩
   case measure => have := HIE.out; simp [intOf]
  ·gi_wp2
   refine bodyPost_ret (results_none rfl _ _ _) rfl ?_;exact ⟨⟨_, rfl⟩, .inr ⟨_, ⟨k + 1, by omega, by rw [api_Gate_51_upto_succ, HN.out]⟩, hJx3⟩⟩
theorem api_Gate_51_mk (F : Fence) (n : Nat) (h5 : F.fn 51) (hro : F.round = none) (a : Option Addr) (len cap : Nat) (w : World) :
  CallsIn F n Try.prog 51 #[.slice a len cap] w fun e w' => e = .returned (.func (.func 77) #[] #[.pointer (some ⟨w.heap.size, 0, none⟩)]) ∧ w' = w.alloc (.cells #[.slice a len cap] 23) := by
 refine callsIn_of_wp Try.func51 rfl h5 ?_ hro;simp only [Try.ntmps51, List.size_toArray, List.length_cons, List.length_nil, Nat.reduceAdd, Nat.reduceSub, Array.replicate_succ, Array.replicate_zero, List.push_toArray, List.append_toArray, List.nil_append, List.cons_append]
 gi_wp2
 go_ret;exact ⟨rfl, rfl⟩
theorem api_Gate_51_stops (F : Fence) (n : Nat) (h7 : F.fn 77) (hro : F.round = none) (hn : 1 ≤ n) (Bs n₀ cap : Nat) (A : Option Addr) (len : Nat) (xs : List S61) (w : World) (hBs : Bs < w.heap.size) (hn₀ : n₀ ≤ w.heap.size) (hlen : len ≤ 9223372036854775807)
  (hc : w.cell? ⟨Bs, 0, none⟩ = some (.slice A len cap)) (hC : Kd.C k61 w A len xs) (hA : ∀ ad, A = some ad → 0 < len → ad.block < n₀) :
  SeqStopsK F n Try.prog 77 #[.pointer (some ⟨Bs, 0, none⟩)] (api_Gate_51_enc xs len) (api_Gate_51_Kp n₀ Bs) (fun ys => ys = api_Gate_51_upto (fun k => len - 1 - k) len)
   (fun pre => ∃ k, k ≤ len ∧ pre = api_Gate_51_upto (fun k => len - 1 - k) k) len w := fun l J Jx W hW _ _ hY h0 => by
 have hc' := (hW.cell (p := ⟨Bs, 0, none⟩) hBs).trans hc;exact api_Gate_51_in F n h7 hro hn l Bs n₀ cap A len xs hA J Jx hY W hc' hlen (Kd.C_below hC hW) h0
theorem api_Gate_51_rev (len : Nat) : api_Gate_51_upto (fun k => len - 1 - k) len = (List.range len).reverse := by
 apply List.ext_getElem
 ·simp [api_Gate_51_upto]
 ·intro i h1 h2
  simp [api_Gate_51_upto, List.getElem_reverse]
end
end Go.Proofs.Ytmlbliggbkfjnaa.J
namespace Go.Proofs.Ytmlbliggbkfjnaa.J
open Go.RowKit Go.Proofs.YtmlbliggbkfjnaaW.PrintWords Go.Proofs.YtmlbliggbkfjnaaW.PrintLast Go.Proofs.YtmlbliggbkfjnaaW.PrintMore
attribute [local go_sem] max2_int min2_int max_two min_two max_three min_three max_four min_four
open Go.Shelf
attribute [local go_sem] Oper.semAt_some
def tune_Prune.step (x1 : List S61) (a : List Bool) (i : Nat) : List Bool :=
 if rdOf false a i = true ∧ (rd_T61 x1 i).f0 ≠ 1 ∧ (rd_T61 x1 i).f0 ≠ 2 then
  (if (rd_T61 x1 i).f0 = 6 then a.set (rd_T61 x1 i).f1.toNat true else (a.set (rd_T61 x1 i).f1.toNat true).set (rd_T61 x1 i).f2.toNat true)
 else a
def tune_Prune.okG (x1 : List S61) : Bool := x1.all fun g => decide (g.f0 = 1 ∨ g.f0 = 2 ∨ (0 ≤ g.f1 ∧ g.f1 < (x1.length : Int) ∧ (g.f0 = 6 ∨ (0 ≤ g.f2 ∧ g.f2 < (x1.length : Int)))))
def tune_Prune.at (n x : Nat) : Nat := min x (n - 1)
def tune_Prune.mark (a : List Bool) (x1 : List S61) : Option (List Bool) :=
 if a.length = x1.length ∧ tune_Prune.okG x1 = true then some (((List.range x1.length).map fun k => x1.length - 1 - k).foldl (fun a x => tune_Prune.step x1 a (min x (x1.length - 1))) a) else none
def tune_Prune.st (l : List Bool) (i _ _ _ _ : Int) : Option Bool := if 0 ≤ i ∧ i < (l.length : Int) then some (rdOf false l i) else none
theorem tune_Prune.mark_some {a : List Bool} {x1 : List S61} {r : List Bool} (h : tune_Prune.mark a x1 = some r) : a.length = x1.length ∧ tune_Prune.okG x1 = true ∧ r = ((List.range x1.length).map fun k => x1.length - 1 - k).foldl (fun a x => tune_Prune.step x1 a (min x (x1.length - 1))) a := by
 unfold tune_Prune.mark at h
 split at h
 ·rename_i h2
  exact ⟨h2.1, h2.2, (qqI h).symm⟩
 ·cases h
theorem tune_Prune.step_length (x1 : List S61) (a : List Bool) (i : Nat) : (tune_Prune.step x1 a i).length = a.length := by
 unfold tune_Prune.step
 split
 ·split <;> simp
 ·rfl
theorem tune_Prune.fold_length (x1 : List S61) (a : List Bool) (l : List Nat) : (l.foldl (fun a x => tune_Prune.step x1 a (min x (x1.length - 1))) a).length = a.length := by
 induction l generalizing a with
 | nil => rfl
 | cons x l ih => rw [List.foldl_cons, ih, tune_Prune.step_length]
theorem tune_Prune.okG_at {x1 : List S61} (h : tune_Prune.okG x1 = true) (i : Nat) (hi : i < x1.length) : (rd_T61 x1 i).f0 = 1 ∨ (rd_T61 x1 i).f0 = 2 ∨ (0 ≤ (rd_T61 x1 i).f1 ∧ (rd_T61 x1 i).f1 < (x1.length : Int) ∧ ((rd_T61 x1 i).f0 = 6 ∨ (0 ≤ (rd_T61 x1 i).f2 ∧ (rd_T61 x1 i).f2 < (x1.length : Int)))) := by
 have h1 := List.all_eq_true.1 h x1[i] (List.getElem_mem hi)
 have h2 : rd_T61 x1 (i : Int) = x1[i] := by simp [rd_T61, List.getD_eq_getElem?_getD, hi]
 rw [h2];exact of_decide_eq_true h1
def tune_Prune.I (base B : Nat) (w0 : World) (v : Value) (l : List Nat → List Bool) (hs : List (Nat × Obj)) (pre : List Nat) (W : World) : Prop :=
 Kd.R Kd.bool 4 W base (fun k => k < B) v (l pre) ∧ (∀ p ∈ hs, W.heap[p.1]? = some p.2) ∧ Below base w0 W ∧ B ≤ W.heap.size
theorem tune_Prune.I_own {base B : Nat} {w0 : World} {v : Value} {l : List Nat → List Bool} {hs : List (Nat × Obj)} (hB : base ≤ B) (hw : base ≤ w0.heap.size) (hh : ∀ p ∈ hs, p.1 < B) : OwnFrom B (tune_Prune.I base B w0 v l hs) := by
 rintro s W W' row ⟨h1, h2, h3, h4⟩ hg hr;refine ⟨Kd.R_step h1 (fun k hk hl => hg.block k hl (fun e => by have := (hr k e.symm).1; omega)), fun p hp => ?_, ?_, Nat.le_trans h4 hg.size⟩
 ·have hp2 := h2 p hp
  exact (hg.block p.1 (Array.getElem?_eq_some_iff.1 hp2).1 (fun e => by have := (hr p.1 e.symm).1; have := hh p hp; omega)).trans hp2
 ·exact h3.grown hg (Nat.le_trans hw h3.size) (fun j hj => Nat.le_trans hB (hr j hj).1)
theorem tune_Prune.I_step {base B : Nat} {w0 : World} {v : Value} {l : List Nat → List Bool} {hs : List (Nat × Obj)} {pre : List Nat} {W W' : World} (hI : tune_Prune.I base B w0 v l hs pre W) (hB : base ≤ B) (hw : base ≤ w0.heap.size) (hg : W.grownBy W' none) : tune_Prune.I base B w0 v l hs pre W' := by
 obtain ⟨h1, h2, h3, h4⟩ := hI;refine ⟨Kd.R_step h1 (fun k hk hl => hg.block k hl (by simp)), fun p hp => ?_, h3.grown hg (Nat.le_trans hw h3.size) (fun j hj => by cases hj), Nat.le_trans h4 hg.size⟩;have hp2 := h2 p hp;exact (hg.block p.1 (Array.getElem?_eq_some_iff.1 hp2).1 (by simp)).trans hp2
theorem tune_Prune.box4 (W : World) (a b c d : Value) (z : Array Value) (hz : z.size = 4) :
  W.grownBy (((((W.alloc (.cells z 61 (0, 0))).setCell ⟨W.heap.size, 0, none⟩ a).setCell ⟨W.heap.size, 1, none⟩ b).setCell ⟨W.heap.size, 2, none⟩ c).setCell ⟨W.heap.size, 3, none⟩ d) none ∧
  (((((W.alloc (.cells z 61 (0, 0))).setCell ⟨W.heap.size, 0, none⟩ a).setCell ⟨W.heap.size, 1, none⟩ b).setCell ⟨W.heap.size, 2, none⟩ c).setCell ⟨W.heap.size, 3, none⟩ d).heap[W.heap.size]? = some (.cells #[a, b, c, d] 61 (0, 0)) := by
 obtain ⟨z0, z1, z2, z3, rfl⟩ : ∃ z0 z1 z2 z3, z = #[z0, z1, z2, z3] := by
  obtain ⟨l⟩ := z
  match l, hz with
  | [z0, z1, z2, z3], _ => exact ⟨z0, z1, z2, z3, rfl⟩
 constructor
 ·have hs : ∀ (w' : World) (j : Nat) (v : Value), W.grownBy w' none → W.grownBy (w'.setCell ⟨W.heap.size, j, none⟩ v) none := fun w' j v h =>
   ⟨h.os, h.tape, h.output, by rw [World.size_setCell]; exact h.size, fun k hk hne => (Below.heap_setCell w' ⟨W.heap.size, j, none⟩ v k (by simp only; omega)).trans (h.block k hk hne)⟩
  exact hs _ _ _ (hs _ _ _ (hs _ _ _ (hs _ _ _ (World.grownBy_alloc W _ none))))
 ·exact blk_put (blk_put (blk_put (blk_put (blk_new W (.cells #[z0, z1, z2, z3] 61 (0, 0))) 0 a rfl) 1 b rfl) 2 c rfl) 3 d rfl
theorem wpIn_range_box {F : Fence} {n : Nat} {P : Program} {α : Type} {g : Operand} {ps : Array Tmp} {assign body : Code} {Q : Exit → Act → World → Prop} {a : Act} {w : World} (A1 : α → Nat → Act) (VV : α → Array Value) (tb : TypeId)
  (hro : F.round = none) (h1 : 1 ≤ n) {gf : Nat} {lb : Array Value} (hg : a.eval g = .func (.func gf) #[] lb) (hFg : F.fn gf) (eg : ∀ args w, (callFunc gf args).run P w = .ok (.enter gf args) w)
  {encs : α → Array Value} {Kp : World → World → Prop} {S Sp : List α → Prop} {N : Nat} {w0 : World} (hseq : SeqStopsK F (n - 1) P gf lb encs Kp S Sp N w0)
  (hKt : ∀ {A B C : World}, Kp A B → Kp B C → Kp A C) (hKb : ∀ (W : World) (l : Nat) (o o' : Obj), w.heap.size ≤ l → W.heap[l]? = some o → o.isCells = false → o.isWalk = false → Kp W (W.putObj l o')) (hb0 : Below w0.heap.size w0 w) (hps : ∀ x, (encs x).size = ps.size)
  (I : List α → World → Prop) (hI : OwnFrom w.heap.size I) (h0 : I [] w)
  (hassign : ∀ (l : Nat) (pre : List α) (x : α) (W : World) (K : Act → World → Prop), I pre W → (∀ g13 W', w.heap.size ≤ g13 → KeepsFrom w.heap.size W W' → Kp W W' → I pre W' → W'.heap[g13]? = some (.cells (VV x) tb (0, 0)) → K (A1 x g13) W') →
   assign.wpIn (F.inRound l) (n - 1 - 1) P (Exit.then K (fun _ _ _ => False)) { tmps := (ps.zip (encs x)).foldl (fun t (p, v) => t.setIfInBounds p v) a.tmps, defers := [] } W)
  (hbody : ∀ (l : Nat) (pre : List α) (x : α) (g13 : Nat) (W : World), w.heap.size ≤ g13 → I pre W → W.heap[g13]? = some (.cells (VV x) tb (0, 0)) → pre.length < N → body.wpIn (F.inRound l) (n - 1 - 1) P (ownPostG w.heap.size Kp I (fun _ _ _ => False) (pre ++ [x]) W) (A1 x g13) W)
  (hdone : ∀ (D : Nat) (xs : List α) (W : World), w.heap.size ≤ D → S xs → I xs W → W.heap[D]? = some (.deferred (some [])) → Q .normal { a with defers := { target := .collected D, args := #[] } :: a.defers } W) :
  (Code.rangeFunc g ps assign body).wpIn F n P Q a w := by
 refine wpIn_rangeFunc_ownH hro h1 hg hFg eg hseq hKt hKb hb0 hps I (fun _ _ _ => False) hI (fun _ _ _ _ _ hs _ _ => hs) h0
  (fun x a' W => ∃ g13, w.heap.size ≤ g13 ∧ a' = A1 x g13 ∧ W.heap[g13]? = some (.cells (VV x) tb (0, 0))) ?_ ?_ ?_ hdone ?_
 ·rintro x a' - W W' row ⟨g13, h1, h2, h3⟩ hg hr
  refine ⟨g13, h1, h2, (hg.block g13 (Array.getElem?_eq_some_iff.1 h3).1 (fun e => ?_)).trans h3⟩;obtain ⟨_, o, ho, hc⟩ := hr g13 e.symm;rw [h3] at ho;cases ho;cases hc
 ·intro l pre x W K hI hK
  exact hassign l pre x W K hI (fun g13 W' h1 h2 h3 h4 h5 => hK _ _ h2 h3 h4 ⟨g13, h1, rfl, h5⟩)
 ·rintro l pre x a' W _ _ hI ⟨g13, h1, rfl, h5⟩ hlt
  exact hbody l pre x g13 W h1 hI h5 hlt
 ·intro D c pre W _ _ h _
  exact h.elim
theorem tune_Prune.calls1 (g : Nat) (A : Option Addr) (c : Nat) (l : List Bool) (W : World) (hx : W.cell? ⟨g, 0, none⟩ = some (.slice A l.length c)) (hC : Kd.C Kd.bool W A l.length l) (x0 x1 x2 x3 x4 : Int) (r : Bool) (h : tune_Prune.st l x0 x1 x2 x3 x4 = some r) :
  Calls Try.prog 52 (#[.int .i64 x0, .agg #[.int .i64 x1, .int .i64 x2, .int .i64 x3, .int .u64 x4]] ++ #[.pointer (some ⟨g, 0, none⟩)]) W fun e_ w' => e_ = .returned (.bool r) ∧ Below W.heap.size W w' := by
 unfold tune_Prune.st at h
 split at h
 ·rename_i hi
  obtain rfl := qqI h;obtain ⟨h0, h1⟩ := hi;obtain ⟨ad, rfl, hr⟩ := Kd.at_bool hC x0 h0 h1;clear hC h;replace hx := (World.grownBy_alloc W (.cells #[.int .i64 x1, .int .i64 x2, .int .i64 x3, .int .u64 x4] 61 (0, 0)) none).cell hx (by simp);replace hr := (World.grownBy_alloc W (.cells #[.int .i64 x1, .int .i64 x2, .int .i64 x3, .int .u64 x4] 61 (0, 0)) none).cell hr (by simp);replace h0 := eq_true h0; replace h1 := eq_true h1;go_enter Try.func52, Try.ntmps52;go_wp2;go_ret;exact ⟨rfl, by repeat (first | exact Below.refl _ _ | apply below_alloc)⟩
 ·cases h
theorem tune_Prune.calls2 (x0 r : Int) (W : World) (h : some x0 = some r) : Calls Try.prog 53 (#[.int .i64 x0] ++ #[]) W fun e_ w' => e_ = .returned (.int .i64 r) ∧ Below W.heap.size W w' := by
 obtain rfl := qqI h;go_enter Try.func53, Try.ntmps53;go_wp2;go_ret;exact ⟨rfl, by repeat (first | exact Below.refl _ _ | apply below_alloc)⟩
theorem calls_marks {P : Program} {f : FuncId} {fn : Func} {c : Code} {args : Array Value} {w : World} {R : Ending → World → Prop} (hf : P.funcs[f]? = some fn) (hb : fn.body = some c)
  (h : c.wp P (bodyPostM Fence.wide 5 P fn R) { tmps := args ++ Array.replicate (fn.ntmps - args.size) undef, defers := [] } w) : Calls P f args w R :=
 (callsIn_wide (n := 5)).1 (callsIn_of_wp_marks hf hb trivial (wpIn_wide.2 h) rfl)
theorem marks_ret {P : Program} {fn : Func} {R : Ending → World → Prop} {a : Act} {w : World} {v : Value}
  (hr : (results fn a.tmps).run P w = .ok v w) (hd : a.defers = []) (hR : R (.returned v) w) : bodyPostM Fence.wide 5 P fn R .ret a w := by
 show LeavesInM _ _ _ _ _ _ a.defers _ _
 rw [hd];exact ⟨v, hr, hR⟩
theorem marks_ret1 {P : Program} {fn : Func} {R : Ending → World → Prop} {a : Act} {w : World} {v : Value} {D : Nat} (hd : a.defers = [{ target := .collected D, args := #[] }]) (hD : w.heap[D]? = some (.deferred (some [])))
  (hr : (results fn a.tmps).run P (w.putObj D (.deferred none)) = .ok v (w.putObj D (.deferred none))) (hR : R (.returned v) (w.putObj D (.deferred none))) : bodyPostM Fence.wide 5 P fn R .ret a w := by
 show LeavesInM _ _ _ _ _ _ a.defers _ _
 rw [hd];exact ⟨by simp, .inl ⟨D, _, rfl, run_takeDeferred hD, v, hr, hR⟩⟩
theorem putO_blk {w : World} {D g : Nat} {o o' q : Obj} (hD : w.heap[D]? = some o) (ho : o.isCells = false) (hg : w.heap[g]? = some q) (hq : q.isCells = true) : (w.putObj D o').heap[g]? = some q := by
 rw [World.putObj_heap_other (fun e => by rw [e] at hg; rw [hg] at hD; cases hD; rw [hq] at ho; cases ho)];exact hg
theorem putO_R {α : Type} {d : Kd α} {e : TypeId} {w : World} {base : Nat} {v : Value} {xs : List α} {D : Nat} {o o' : Obj} (h : d.R e w base (fun _ => True) v xs) (hD : w.heap[D]? = some o) (ho : o.isCells = false) : d.R e (w.putObj D o') base (fun _ => True) v xs :=
 Kd.R_mono (Kd.R_step (Kd.R_bound h) (fun k hk _ => by
  obtain ⟨_, _, _, q, _, cs, hc⟩ := hk
  exact (putO_blk hD ho hc rfl).trans hc.symm)) (fun _ _ => trivial)
theorem putO_S {α : Type} {d : Kd α} {e : TypeId} {w : World} {base : Nat} {v : Value} {xs : List α} {D : Nat} {o o' : Obj} (h : d.S e w base (fun _ => True) v xs) (hD : w.heap[D]? = some o) (ho : o.isCells = false) : d.S e (w.putObj D o') base (fun _ => True) v xs :=
 Kd.S_mono (Kd.S_step (Kd.S_bound h) (fun k hk _ => by
  obtain ⟨_, _, _, q, _, cs, hc⟩ := hk
  exact (putO_blk hD ho hc rfl).trans hc.symm)) (fun _ _ => trivial)
mutual
def tune_Prune.l0 : Nat → List (S66) → Int → Int → List (S64) → List (S61) → List (S66) → List Bool → Option ((List (S64)) × (List (S61)) × (List (S66)) × Int)
 | 0, _, _, _, _, _, _, _ => none
 | k + 1, x26, x27, x28, ae, aa, af, ab => if x28 < x27 then (if 0 ≤ x28 then (if x28 < (x26.length : Int) then (tune_Prune.l1 k x26 x27 x28 ((rd_T66 x26 x28).f1) (((rd_T66 x26 x28).f1).length : Int) 0 ae aa af ab) else (none)) else (none)) else ((tune_Prune.mark ab aa).bind fun ah => ((tune_moved.f (tune_Prune.st ah) some k ae aa af).bind fun ag => (some (ag.1, ag.2.1, ag.2.2, 0))))
def tune_Prune.l1 : Nat → List (S66) → Int → Int → List Int → Int → Int → List (S64) → List (S61) → List (S66) → List Bool → Option ((List (S64)) × (List (S61)) × (List (S66)) × Int)
 | 0, _, _, _, _, _, _, _, _, _, _ => none
 | k + 1, x26, x27, x28, x33, x34, x35, ae, aa, af, ab => if x35 < x34 then (if 0 ≤ x35 then (if x35 < (x33.length : Int) then (if 0 ≤ (rd x33 x35) then (if (rd x33 x35) < (ab.length : Int) then (tune_Prune.l1 k x26 x27 x28 x33 x34 (wrap64 (x35 + 1)) ae aa af (ab.set ((rd x33 x35) : Int).toNat true)) else (none)) else (none)) else (none)) else (none)) else (tune_Prune.l0 k x26 x27 (wrap64 (x28 + 1)) ae aa af ab)
end
def tune_Prune.f (k : Nat) (a0 : Int) (ae : List (S64)) (aa : List (S61)) (ab : List (S66)) : Option ((List (S64)) × (List (S61)) × (List (S66)) × Int) := (circ_Check.f k a0 ae aa ab).bind fun af => (if af = 0 then (if 0 ≤ (aa.length : Int) then (if ((aa.length : Int) : Int).toNat ≤ 281474976710656 then (tune_Prune.l0 k ab (ab.length : Int) 0 ae aa ab (List.replicate ((aa.length : Int) : Int).toNat false)) else (none)) else (none)) else (some (([] : List (S64)), ([] : List (S61)), ([] : List (S66)), af)))
theorem tune_Prune.calls (k : Nat) (a0 : Int) (aB : Option Addr) (aC : Nat) (aq : List (S64)) (au : Option Addr) (av : Nat) (ab : List (S61)) (aF : Option Addr) (aD : Nat) (ag : List (S66)) (r1 : List (S64)) (r2 : List (S61)) (r3 : List (S66)) (r4 : Int) (w : World) (bC : Kd.C k64 w aB aq.length aq) (bD : aq.length ≤ aC) (bE : Kd.C k61 w au ab.length ab) (bF : ab.length ≤ av) (bG : Kd.C k66 w aF ag.length ag) (bH : ag.length ≤ aD) (h : tune_Prune.f k a0 aq ab ag = some (r1, r2, r3, r4)) :
  Calls Try.prog 22 #[.int .u64 a0, .agg #[.slice aB aq.length aC, .slice au ab.length av, .slice aF ag.length aD]] w fun e w' => ∃ v0_ v1_ v2_ : Value, e = .returned (.tuple #[.agg #[v0_, v1_, v2_], .int .i64 r4]) ∧ Kd.R k64 64 w' w.heap.size (fun _ => True) v0_ r1 ∧ Kd.R k61 61 w' w.heap.size (fun _ => True) v1_ r2 ∧ Kd.S k66 66 w' w.heap.size (fun _ => True) v2_ r3 ∧ Below w.heap.size w w' := by
 have hu26 := Try.underlying26;have hu66 := Try.underlying66;have bg := Aside0.mk bC;have bh := Aside0.mk bD;clear bC bD;have aH := Aside0.mk bE;have bi := Aside0.mk bF;clear bE bF;have aT := Aside0.mk bG;have bj := Aside0.mk bH;clear bG bH;have HB := Aside0.mk (Below.refl w.heap.size w);have H : ((circ_Check.f k a0 aq ab ag).bind fun aY => (if aY = 0 then (if 0 ≤ (ab.length : Int) then (if ((ab.length : Int) : Int).toNat ≤ 281474976710656 then (tune_Prune.l0 k ag (ag.length : Int) 0 aq ab ag (List.replicate ((ab.length : Int) : Int).toNat false)) else (none)) else (none)) else (some (([] : List (S64)), ([] : List (S61)), ([] : List (S66)), aY)))) = some (r1, r2, r3, r4) := h;clear h;replace H := qqB H;obtain ⟨aY, A30, H⟩ := H;(try dsimp only at H);have A3 := Aside0.mk A30;clear A30
 by_cases c4 : aY = 0
 rotate_left
 ·rw [if_neg c4] at H
  have bR := beq_eq_false_iff_ne.mpr c4;have bS := bne_iff_ne.mpr c4;simp only [Option.some.injEq, Prod.mk.injEq] at H;obtain ⟨rfl, rfl, rfl, rfl⟩ := H;refine calls_marks Try.func22 rfl ?_;simp only [Try.ntmps22, List.size_toArray, List.length_cons, List.length_nil, Nat.reduceAdd, Nat.reduceSub, Array.replicate_succ, Array.replicate_zero, List.push_toArray, List.append_toArray, List.nil_append, List.cons_append];go_wp2_with (first | ((with_reducible refine gate_dst (N := 3) rfl ?_); refine box_event ?hg (N := 3) ?hd (cs := #[.slice aB aq.length aC, .slice au ab.length av, .slice aF ag.length aD]) (t := 26) ?hr ?_; (case hd | hg => rfl); (case hr => go_simp; try rfl); intro aP hg w58 hbox hb; have ae := am hbox; have bT := kG HB hg; have bU := kG HB hg; replace HB := kH HB hb; clear hb hbox hg) | ((with_reducible refine gate_dst (N := 4) rfl ?_); refine box_event ?hg (N := 4) ?hd (cs := #[.slice none 0 0, .slice none 0 0, .slice none 0 0]) (t := 26) ?hr ?_; (case hd | hg => rfl); (case hr => go_simp; try rfl); intro ak hg w59 hbox hb; have ah := am hbox; have bV := kG HB hg; have aU := kG HB hg; replace HB := kH HB hb; have ax := kP ae hg; have ay := kQ ae hg; replace ae := kU ae hb; clear hb hbox hg; have cA := ax.out; have cB := ay.out; have Z61 := kz3 ae) | ((with_reducible refine gate_callee (f := 37) rfl ?_); refine goesL_ (some 16) rfl rfl Try.func37 (by kernel_rfl) rfl #[.int .u64 a0, .agg #[.slice aB aq.length aC, .slice au ab.length av, .slice aF ag.length aD]] rfl (by (try simp only [qM1, qM2, qM3]); first | done | rfl) ?_; (with_reducible refine (circ_Check.calls k a0 _ _ aq _ _ ab _ _ ag aY _ ?side1 ?side2 ?side3 ?side4 ?side5 ?side6 A3.out).mono ?_); (case side1 => repeat (first | exact (Kd.C_below bg.out HB.out) | (with_reducible first | refine Kd.C_alloc ?_ _ | refine Kd.C_drewN ?_ _ | refine Kd.C_drew ?_))); (case side2 => exact bh.out); (case side3 => repeat (first | exact (Kd.C_below aH.out HB.out) | (with_reducible first | refine Kd.C_alloc ?_ _ | refine Kd.C_drewN ?_ _ | refine Kd.C_drew ?_))); (case side4 => exact bi.out); (case side5 => repeat (first | exact (Kd.C_below aT.out HB.out) | (with_reducible first | refine Kd.C_alloc ?_ _ | refine Kd.C_drewN ?_ _ | refine Kd.C_drew ?_))); (case side6 => exact bj.out); rintro e w62 ⟨rfl, hb⟩; refine ⟨_, rfl, ?_⟩; replace ae := kU ae hb; replace ah := kU ah hb; replace HB := kH HB hb; (try clear hb); (try clear hb2); (try clear hk); (try clear hi); have Z63 := kz3 ah));refine marks_ret (results_ct rfl _ _ ak 26 #[.slice none 0 0, .slice none 0 0, .slice none 0 0] (0, 0) _ rfl (kg ah) Try.underlying26 rfl (by kernel_rfl)) rfl ?_;exact ⟨_, _, _, er, by first | exact Kd.R_nil _ _ _ _ _ | exact Kd.N_nil _ _ _ _ _ | exact Kd.V_nil _ _ _ _ _ | exact Kd.Q_nil _ _ _ _ _ | exact Kd.S_nil _ _ _ _ _, by first | exact Kd.R_nil _ _ _ _ _ | exact Kd.N_nil _ _ _ _ _ | exact Kd.V_nil _ _ _ _ _ | exact Kd.Q_nil _ _ _ _ _ | exact Kd.S_nil _ _ _ _ _, by first | exact Kd.S_nil _ _ _ _ _ | exact Kd.N_nil _ _ _ _ _ | exact Kd.V_nil _ _ _ _ _ | exact Kd.Q_nil _ _ _ _ _ | exact Kd.R_nil _ _ _ _ _, kh HB⟩
 rw [if_pos c4] at H;have bR := beq_iff_eq.mpr c4;have bS := bne_eq_false_iff_eq.mpr c4;clear c4
 by_cases c5 : 0 ≤ (ab.length : Int)
 rotate_left
 ·rw [if_neg c5] at H
  exact absurd H (by simp)
 rw [if_pos c5] at H;have cl := eq_true c5;have cm := qqT c5;clear c5
 by_cases c6 : ((ab.length : Int) : Int).toNat ≤ 281474976710656
 rotate_left
 ·rw [if_neg c6] at H
  exact absurd H (by simp)
 rw [if_pos c6] at H;have cn := eq_true c6;have co := qqT c6;clear c6;obtain ⟨bu, aQ⟩ : ∃ y_ : List Bool, y_ = (List.replicate ((ab.length : Int) : Int).toNat false) := ⟨_, rfl⟩
 replace H : (tune_Prune.l0 k ag (ag.length : Int) 0 aq ab ag bu) = some (r1, r2, r3, r4) := by first | (rw [aQ]; with_reducible exact H) | (have H2_ := (Option.bind_some _ _).symm.trans H; rw [aQ]; with_reducible exact H2_) | (have H2_ := (Option.bind_some _ _).symm.trans H; with_reducible exact H2_) | with_reducible exact H | (rw [aQ]; exact H) | exact H
 have bI := Aside0.mk aQ;clear aQ;have H' := Aside0.mk H;clear H;refine calls_marks Try.func22 rfl ?_;simp only [Try.ntmps22, List.size_toArray, List.length_cons, List.length_nil, Nat.reduceAdd, Nat.reduceSub, Array.replicate_succ, Array.replicate_zero, List.push_toArray, List.append_toArray, List.nil_append, List.cons_append];go_wp2_with (first | ((with_reducible refine gate_dst (N := 3) rfl ?_); refine box_event ?hg (N := 3) ?hd (cs := #[.slice aB aq.length aC, .slice au ab.length av, .slice aF ag.length aD]) (t := 26) ?hr ?_; (case hd | hg => rfl); (case hr => go_simp; try rfl); intro aP hg w7 hbox hb; have ae := am hbox; have bT := kG HB hg; have bU := kG HB hg; replace HB := kH HB hb; clear hb hbox hg) | ((with_reducible refine gate_dst (N := 4) rfl ?_); refine box_event ?hg (N := 4) ?hd (cs := #[.slice none 0 0, .slice none 0 0, .slice none 0 0]) (t := 26) ?hr ?_; (case hd | hg => rfl); (case hr => go_simp; try rfl); intro ak hg w8 hbox hb; have ah := am hbox; have bV := kG HB hg; have aU := kG HB hg; replace HB := kH HB hb; have ax := kP ae hg; have ay := kQ ae hg; replace ae := kU ae hb; clear hb hbox hg; have db := ax.out; have dc := ay.out; have Z10 := kz3 ae) | ((with_reducible refine gate_callee (f := 37) rfl ?_); refine goesL_ (some 16) rfl rfl Try.func37 (by kernel_rfl) rfl #[.int .u64 a0, .agg #[.slice aB aq.length aC, .slice au ab.length av, .slice aF ag.length aD]] rfl (by (try simp only [qM1, qM2, qM3]); first | done | rfl) ?_; (with_reducible refine (circ_Check.calls k a0 _ _ aq _ _ ab _ _ ag aY _ ?side1 ?side2 ?side3 ?side4 ?side5 ?side6 A3.out).mono ?_); (case side1 => repeat (first | exact (Kd.C_below bg.out HB.out) | (with_reducible first | refine Kd.C_alloc ?_ _ | refine Kd.C_drewN ?_ _ | refine Kd.C_drew ?_))); (case side2 => exact bh.out); (case side3 => repeat (first | exact (Kd.C_below aH.out HB.out) | (with_reducible first | refine Kd.C_alloc ?_ _ | refine Kd.C_drewN ?_ _ | refine Kd.C_drew ?_))); (case side4 => exact bi.out); (case side5 => repeat (first | exact (Kd.C_below aT.out HB.out) | (with_reducible first | refine Kd.C_alloc ?_ _ | refine Kd.C_drewN ?_ _ | refine Kd.C_drew ?_))); (case side6 => exact bj.out); rintro e w11 ⟨rfl, hb⟩; refine ⟨_, rfl, ?_⟩; replace ae := kU ae hb; replace ah := kU ah hb; replace HB := kH HB hb; (try clear hb); (try clear hb2); (try clear hk); (try clear hi); have Z12 := kz3 ae) | ((with_reducible refine gate_dst (N := 24) rfl ?_); refine Kd.R_make Kd.bool _ 4 rfl (N := 24) rfl 81 _ _ rfl (ab.length : Int) rfl rfl Try.underlying81 (.bool false) 1 info4 rfl (by decide) (by omega) false (ok := fun _ => True) (okp := fun _ => True) rfl (fun _ hk => hk) trivial od (Nat.le_trans (Nat.mul_le_mul_right _ (od : (ab.length : Int).toNat ≤ 281474976710656)) (by omega)) (Below.refl _ _) (Nat.le_refl _) ?_; intro dd w13 ho14 hb hg_ hnew_; clear hg_ hnew_; (first | rw [← bI.out] at ho14 | (simp only [Int.reduceToNat] at ho14; rw [← bI.out] at ho14)); have aV := kLR ho14 HB; replace ae := kU ae hb; replace ah := kU ah hb; replace HB := kH HB hb; clear hb ho14) | ((with_reducible refine gate_dst (N := 7) rfl ?_); refine box_event ?hg (N := 7) ?hd (cs := #[.slice none 0 0]) (t := 81) ?hr ?_; (case hd | hg => rfl); (case hr => go_simp; try rfl); intro ar hg w15 hbox hb; replace aV := kR aV hb; have an := am hbox; have cC := kG HB hg; have cD := kG HB hg; replace HB := kH HB hb; have aI := kP ae hg; have aJ := kQ ae hg; replace ae := kU ae hb; have aK := kP ah hg; have aL := kQ ah hg; replace ah := kU ah hb; clear hb hbox hg; obtain ⟨bW, bX, cp⟩ := Kd.R_slice aV.out; subst cp; have cE := aJ.out; have cF := aI.out; have cG := aL.out; have cH := aK.out; have Z19 := kz1 an; have Z20 := kz3 ae));go_loopg [28] k (fun kq v28 w' => ∃ (ai : Int) (aa : List Bool) (ap : Value), v28 = .int .i64 ai ∧ Aside0 (tune_Prune.l0 kq ag (ag.length : Int) ai aq ab ag aa = some (r1, r2, r3, r4)) ∧ Aside0 (kq ≤ k) ∧ Aside0 (Kd.R Kd.bool 4 w' w.heap.size (fun _ => True) ap aa) ∧ Aside0 (w'.heap[aP]? = some (.cells #[(.slice aB aq.length aC), (.slice au ab.length av), (.slice aF ag.length aD)] 26 (0, 0))) ∧ Aside0 (w'.heap[ak]? = some (.cells #[(.slice none 0 0), (.slice none 0 0), (.slice none 0 0)] 26 (0, 0))) ∧ Aside0 (w'.heap[ar]? = some (.cells #[ap] 81 (0, 0))) ∧ Aside0 (Below w.heap.size w w'))
 case atStart => exact ⟨(0), (bu), (.slice bW bu.length bX), et, H', ⟨Nat.le_refl _⟩, ⟨by (with_reducible repeat first | apply Kd.R_alloc | apply Kd.R_drewN | apply Kd.R_drew); exact Kd.R_mono (Kd.R_far (p := ⟨ar, 0, none⟩) (Kd.R_types aV.out an.out (by decide)) (fun _ hk => hk.2) (.slice bW bu.length bX)) (fun _ hk => trivial)⟩, ⟨kg ae⟩, ⟨kg ah⟩, ⟨kg an⟩, ⟨kh HB⟩⟩
 case round =>
  clear H';(try clear bR bS cl cm cn co Z10 Z12 Z19 Z20);obtain ⟨ai, aa, ap, rfl, HA, HK1, af, ae, ah, an, HB⟩ := hrel
  cases gk with
  | zero => exact absurd HA.out (by simp [tune_Prune.l0])
  | succ k1 =>
   have H := HA.out;clear HA;simp only [tune_Prune.l0] at H
   by_cases c21 : ai < (ag.length : Int)
   ·rw [if_pos c21] at H
    have bJ := qqT c21;clear c21
    by_cases c22 : 0 ≤ ai
    rotate_left
    ·rw [if_neg c22] at H
     exact absurd H (by simp)
    rw [if_pos c22] at H;have bY := qqT c22;clear c22
    by_cases c23 : ai < (ag.length : Int)
    rotate_left
    ·rw [if_neg c23] at H
     exact absurd H (by simp)
    rw [if_pos c23] at H;have bZ := qqT c23;clear c23;have H' := Aside0.mk H;clear H;have bv : 0 ≤ (ai : Int) := od;have bw : ai < (ag.length : Int) := od;obtain ⟨ca, bk, bl, bm, bn, cq, az, aA, aW, hi297_0, aX, hi297_1⟩ := at_T66 aT.out ai bv bw;cases cq;replace az := (HB.out.cell (qqW w _ az)).trans az;replace aA := (HB.out.cell (qqW w _ aA)).trans aA;have ci := Aside0.mk hi297_0;have cj := Aside0.mk aW;clear hi297_0 aW;have bx := Aside0.mk hi297_1;have ck := Aside0.mk aX;clear hi297_1 aX; replace bv := eq_true bv; replace bw := eq_true bw;go_wp2_with (first | ((with_reducible refine gate_dst (N := 9) rfl ?_); refine box_event ?hg (N := 9) ?hd (cs := #[.slice none 0 0, .slice none 0 0]) (t := 66) ?hr ?_; (case hd | hg => rfl); (case hr => go_simp; try rfl); intro bo hg w24 hbox hb; replace af := kR af hb; have aE := am hbox; have cI := kG HB hg; have cJ := kG HB hg; replace HB := kH HB hb; have aZ := kP ae hg; have ba := kQ ae hg; replace ae := kU ae hb; have bb := kP ah hg; have bc := kQ ah hg; replace ah := kU ah hb; have aM := kP an hg; have aN := kQ an hg; replace an := kU an hb; clear hb hbox hg; have cK := ba.out; have cL := aZ.out; have cM := bc.out; have cN := bb.out; have cO := aN.out; have cP := aM.out; have Z28 := kz2 aE));go_loopg [35] k1 (fun kq v35 w' => ∃ (ao : Int) (aj : List Bool) (ap : Value), v35 = .int .i64 ao ∧ Aside0 (tune_Prune.l1 kq ag (ag.length : Int) ai ((rd_T66 ag ai).f1) (((rd_T66 ag ai).f1).length : Int) ao aq ab ag aj = some (r1, r2, r3, r4)) ∧ Aside0 (kq ≤ k1) ∧ Aside0 (Kd.R Kd.bool 4 w' w.heap.size (fun _ => True) ap aj) ∧ Aside0 (w'.heap[aP]? = some (.cells #[(.slice aB aq.length aC), (.slice au ab.length av), (.slice (some ca) ag.length aD)] 26 (0, 0))) ∧ Aside0 (w'.heap[ak]? = some (.cells #[(.slice none 0 0), (.slice none 0 0), (.slice none 0 0)] 26 (0, 0))) ∧ Aside0 (w'.heap[ar]? = some (.cells #[ap] 81 (0, 0))) ∧ Aside0 (w'.heap[bo]? = some (.cells #[(.slice bk ((rd_T66 ag ai).f0).length bl), (.slice bm ((rd_T66 ag ai).f1).length bn)] 66 (0, 0))) ∧ Aside0 (Below w.heap.size w w'))
    case atStart => exact ⟨(0), (aa), (ap), et, H', ⟨Nat.le_refl _⟩, ⟨by (with_reducible repeat first | apply Kd.R_alloc | apply Kd.R_drewN | apply Kd.R_drew); exact Kd.R_mono (Kd.R_far (p := ⟨bo, 1, none⟩) (Kd.R_far (p := ⟨bo, 0, none⟩) (Kd.R_types af.out aE.out (by decide)) (fun _ hk => hk.2) (.slice bk ((rd_T66 ag ai).f0).length bl)) (fun _ hk => hk.2) (.slice bm ((rd_T66 ag ai).f1).length bn)) (fun _ hk => trivial)⟩, ⟨kg ae⟩, ⟨kg ah⟩, ⟨kg an⟩, ⟨kg aE⟩, ⟨kh HB⟩⟩
    case round =>
     clear H';(try clear bJ bY bZ Z28 az aA bv bw);obtain ⟨ao, aj, ap, rfl, HA, HK2, af, ae, ah, an, aE, HB⟩ := hrel
     cases gk with
     | zero => exact absurd HA.out (by simp [tune_Prune.l1])
     | succ k2 =>
      have H := HA.out;clear HA;simp only [tune_Prune.l1] at H
      by_cases c29 : ao < (((rd_T66 ag ai).f1).length : Int)
      rotate_left
      ·rw [if_neg c29] at H
       have cb := qqF c29;clear c29;have H' := Aside0.mk H;clear H;go_wp2;go_roundg k2
       case measure => have := HK1.out; have := HK2.out; omega
       case rel => exact ⟨(wrap64 (ai + 1)), (aj), (ap), et, H', ⟨by have := HK1.out; have := HK2.out; omega⟩, ⟨krR af⟩, ⟨kg ae⟩, ⟨kg ah⟩, ⟨kg an⟩, ⟨kh HB⟩⟩
      rw [if_pos c29] at H;have cb := qqT c29;clear c29
      by_cases c30 : 0 ≤ ao
      rotate_left
      ·rw [if_neg c30] at H
       exact absurd H (by simp)
      rw [if_pos c30] at H;have cQ := qqT c30;clear c30
      by_cases c31 : ao < (((rd_T66 ag ai).f1).length : Int)
      rotate_left
      ·rw [if_neg c31] at H
       exact absurd H (by simp)
      rw [if_pos c31] at H;have cR := qqT c31;clear c31
      by_cases c32 : 0 ≤ (rd ((rd_T66 ag ai).f1) ao)
      rotate_left
      ·rw [if_neg c32] at H
       exact absurd H (by simp)
      rw [if_pos c32] at H;have cS := qqT c32;clear c32
      by_cases c33 : (rd ((rd_T66 ag ai).f1) ao) < (aj.length : Int)
      rotate_left
      ·rw [if_neg c33] at H
       exact absurd H (by simp)
      rw [if_pos c33] at H;have cT := qqT c33;clear c33;obtain ⟨bN, aR⟩ : ∃ y_ : List Bool, y_ = (aj.set ((rd ((rd_T66 ag ai).f1) ao) : Int).toNat true) := ⟨_, rfl⟩
      replace H : (tune_Prune.l1 k2 ag (ag.length : Int) ai ((rd_T66 ag ai).f1) (((rd_T66 ag ai).f1).length : Int) (wrap64 (ao + 1)) aq ab ag bN) = some (r1, r2, r3, r4) := by first | (rw [aR]; with_reducible exact H) | (have H2_ := (Option.bind_some _ _).symm.trans H; rw [aR]; with_reducible exact H2_) | (have H2_ := (Option.bind_some _ _).symm.trans H; with_reducible exact H2_) | with_reducible exact H | (rw [aR]; exact H) | exact H
      have cc := Aside0.mk aR;clear aR;have H' := Aside0.mk H;clear H;have bO : 0 ≤ (ao : Int) := od;have bP : ao < (((rd_T66 ag ai).f1).length : Int) := od;obtain ⟨cU, cr, aO⟩ := Kd.at_int bx.out ao bO bP;cases cr;replace aO := (HB.out.cell (qqW w _ aO)).trans aO;replace bO := eq_true bO; replace bP := eq_true bP;have cV := aJ.out;have cW := aI.out;have cX := aL.out;have cY := aK.out;have cZ := aM.out;have da := aN.out;have Z38 := kz1 an;have p34 : 0 ≤ ((rd ((rd_T66 ag ai).f1) ao) : Int) := od;have q34 : ((rd ((rd_T66 ag ai).f1) ao) : Int) < ((aj.length : Int) : Int) := od;obtain ⟨bz, cd, ce, cf, gl34, cl34, HG34⟩ := Kd.R_form af.out (by omega);(first | cases ce | (injection ce with ea_ en_ ec_; (first | subst ea_ | (injection ea_ with ea_; subst ea_)); subst ec_; clear en_));have ct := Aside0.mk cf;have de := Aside0.mk HG34;clear cf gl34 HG34;obtain ⟨cu, cv⟩ := Kd.R_celln false af.out ((rd ((rd_T66 ag ai).f1) ao) : Int) p34 q34;replace p34 := eq_true p34; replace q34 := eq_true q34;have bQ := Kd.R_putg af.out ((rd ((rd_T66 ag ai).f1) ao) : Int) true;go_wp2_with (first | ((with_reducible refine gate_store (t := 4) (p := 41) rfl ?_); refine store_event (t := 4) (p := 41) (v := ?vo_w40) (w1 := (wr.setCell ⟨bz, ((rd ((rd_T66 ag ai).f1) ao) : Int).toNat, none⟩ (.bool true))) ?hg ?ho ?hn ?hr ?_; (case ho => rfl); (case hg => rfl); (case hn => rfl); (case hr => go_simp; try rfl); intro w40 hw; have hg : wr.grownBy w40 (some bz) := (by rw [hw]; exact bQ.2); have hp_ : Kd.R Kd.bool 4 w40 w.heap.size (fun _ => True) (.slice (some ⟨bz, 0, none⟩) aj.length cd) bN := (by rw [hw, cc.out]; exact bQ.1); clear bQ; replace ae := kXR ae af hg; replace ah := kXR ah af hg; replace an := kXR an af hg; replace aE := kXR aE af hg; replace af := Aside0.mk (hp_); replace HB := Aside0.mk ((by rw [hw]; exact below_set (HB.out) ct.out : Below w.heap.size w w40)); clear hg hw hp_));go_roundg k2
      case measure => have := HK1.out; have := HK2.out; omega
      case rel => exact ⟨(wrap64 (ao + 1)), (bN), (.slice (some ⟨bz, 0, none⟩) aj.length cd), et, H', ⟨by have := HK1.out; have := HK2.out; omega⟩, ⟨krR af⟩, ⟨kg ae⟩, ⟨kg ah⟩, ⟨kg an⟩, ⟨kg aE⟩, ⟨kh HB⟩⟩
   rw [if_neg c21] at H;have bJ := qqF c21;clear c21;replace H := qqB H;obtain ⟨bp, cg, H⟩ := H;have A41 := Aside0.mk cg;clear cg;replace H := qqB H;obtain ⟨⟨aS, bd, bq⟩, ch, H⟩ := H;(try dsimp only at H);have A42 := Aside0.mk ch;clear ch;simp only [Option.some.injEq, Prod.mk.injEq] at H;obtain ⟨rfl, rfl, rfl, rfl⟩ := H;have Z45 := ky3 ae;obtain ⟨aG, aw, cw⟩ := Kd.R_slice af.out;subst cw;go_wp2;refine (wpIn_wide (n := 5)).1 ?_;obtain ⟨W1, hW1⟩ : ∃ W1, wr.alloc (Obj.cells #[Value.slice au ab.length av] 23) = W1 := ⟨_, rfl⟩;rw [hW1];obtain ⟨B, hBd⟩ : ∃ B, B = W1.heap.size := ⟨_, rfl⟩
   have hsz : W1.heap.size = wr.heap.size + 1 := by rw [← hW1, World.size_alloc]
   have hbs : w.heap.size ≤ wr.heap.size := HB.out.size
   have hRa : Kd.R Kd.bool 4 W1 w.heap.size (fun k => k < B) (.slice aG aa.length aw) aa := by
    rw [← hW1];exact Kd.R_alloc (Kd.R_mono (Kd.R_bound af.out) (fun k hk => by obtain ⟨_, _, h3, _⟩ := hk; omega)) _
   have hbk : ∀ (g : Nat) (o : Obj), wr.heap[g]? = some o → W1.heap[g]? = some o := fun g o h => by rw [← hW1]; exact blk_below h (Below.alloc (Below.refl _ wr) (Nat.le_refl _) _)
   have hb1 : Below w.heap.size w W1 := by rw [← hW1]; exact Below.alloc HB.out hbs _
   have hgs : W1.heap[wr.heap.size]? = some (.cells #[Value.slice au ab.length av] 23 (0, 0)) := by rw [← hW1]; exact blk_new wr _
   have k278 := hbk _ _ ae.out;have k279 := hbk _ _ ah.out;have k284 := hbk _ _ an.out
   have hlt : ∀ (g : Nat) (o : Obj), W1.heap[g]? = some o → g < B := fun g o h => by rw [hBd]; exact (Array.getElem?_eq_some_iff.1 h).1
   have hA : ∀ ad, au = some ad → 0 < ab.length → ad.block < w.heap.size := by
    rintro ad rfl hl;obtain ⟨ad', e, h, -⟩ := at_T61 aH.out 0 (by omega) (by omega);cases e;have := qqW w _ h;rw [show (ad.add ((0 : Int).toNat * 4)).block = ad.block by unfold Addr.add; split <;> rfl] at this;exact this
   have hC1 : Kd.C k61 W1 au ab.length ab := Kd.C_below aH.out hb1;have hlen : ab.length ≤ 9223372036854775807 := aH.out.2.1;obtain ⟨hm1, hm2, hm3⟩ := tune_Prune.mark_some A41.out;obtain ⟨hs, hhs⟩ : ∃ hs : List (Nat × Obj), hs = [(aP, .cells #[.slice aB aq.length aC, .slice au ab.length av, .slice aF ag.length aD] 26 (0, 0)), (ak, .cells #[.slice none 0 0, .slice none 0 0, .slice none 0 0] 26 (0, 0)), (ar, .cells #[.slice aG aa.length aw] 81 (0, 0)), (wr.heap.size, .cells #[Value.slice au ab.length av] 23 (0, 0))] := ⟨_, rfl⟩
   have hhh : ∀ p ∈ hs, p.1 < B ∧ W1.heap[p.1]? = some p.2 ∧ ∀ c fr, p.2 ≠ .cells c 4 fr := by
    rw [hhs];intro p hp
    rcases List.mem_cons.1 hp with rfl | hp
    ·exact ⟨hlt _ _ k278, k278, fun c fr e => by cases e⟩
    rcases List.mem_cons.1 hp with rfl | hp
    ·exact ⟨hlt _ _ k279, k279, fun c fr e => by cases e⟩
    rcases List.mem_cons.1 hp with rfl | hp
    ·exact ⟨hlt _ _ k284, k284, fun c fr e => by cases e⟩
    rcases List.mem_cons.1 hp with rfl | hp
    ·exact ⟨hlt _ _ hgs, hgs, fun c fr e => by cases e⟩
    ·cases hp
   have hBase : w.heap.size ≤ B := by omega
   have hOwn := tune_Prune.I_own (v := .slice aG aa.length aw) (l := fun pre => pre.foldl (fun a x => tune_Prune.step ab a (min x (ab.length - 1))) aa) hBase (Nat.le_refl w.heap.size) (fun p hp => (hhh p hp).1);have hI0 : tune_Prune.I w.heap.size B w (.slice aG aa.length aw) (fun pre => pre.foldl (fun a x => tune_Prune.step ab a (min x (ab.length - 1))) aa) hs [] W1 := ⟨hRa, fun p hp => (hhh p hp).2.1, hb1, by omega⟩;subst hBd
   refine wpIn_range_box (fun x g => (?A1 : Nat → Nat → Act) (min x (ab.length - 1)) g) (fun x => #[.int .i64 (rd_T61 ab ((min x (ab.length - 1) : Nat) : Int)).f0, .int .i64 (rd_T61 ab ((min x (ab.length - 1) : Nat) : Int)).f1, .int .i64 (rd_T61 ab ((min x (ab.length - 1) : Nat) : Int)).f2, .int .u64 (rd_T61 ab ((min x (ab.length - 1) : Nat) : Int)).f3]) 61 rfl (by omega) (gf := 77) (lb := #[.pointer (some ⟨wr.heap.size, 0, none⟩)]) rfl trivial (enters_of Try.func77 (by kernel_rfl) rfl)
    (api_Gate_51_stops Fence.wide (5 - 1) trivial rfl (by omega) wr.heap.size w.heap.size av au ab.length ab W1 (by omega) (by omega) hlen (by simp only [World.cell?, hgs]; rfl) hC1 hA) api_Gate_51_Kp_t (api_Gate_51_Kp_b (by omega) (by omega)) (Below.refl _ _) (fun _ => rfl)
    (tune_Prune.I w.heap.size W1.heap.size w (.slice aG aa.length aw) (fun pre => pre.foldl (fun a x => tune_Prune.step ab a (min x (ab.length - 1))) aa) hs) hOwn hI0
    ?assign ?body ?done
   case assign =>
    intro l pre x W K hI hK;unfold api_Gate_51_enc api_Gate_51_val;generalize min x (ab.length - 1) = m at hK ⊢
    gi_wp2
    have hg := World.grownBy_alloc W (.cells #[.int .i64 (rd_T61 ab (m : Int)).f0, .int .i64 (rd_T61 ab (m : Int)).f1, .int .i64 (rd_T61 ab (m : Int)).f2, .int .u64 (rd_T61 ab (m : Int)).f3] 61 (0, 0)) none;have hn := blk_new W (.cells #[.int .i64 (rd_T61 ab (m : Int)).f0, .int .i64 (rd_T61 ab (m : Int)).f1, .int .i64 (rd_T61 ab (m : Int)).f2, .int .u64 (rd_T61 ab (m : Int)).f3] 61 (0, 0));have hsW := hI.2.2.2;have hI2 := tune_Prune.I_step hI hBase (Nat.le_refl _) hg
    have hKp : api_Gate_51_Kp w.heap.size wr.heap.size W (W.alloc (.cells #[.int .i64 (rd_T61 ab (m : Int)).f0, .int .i64 (rd_T61 ab (m : Int)).f1, .int .i64 (rd_T61 ab (m : Int)).f2, .int .u64 (rd_T61 ab (m : Int)).f3] 61 (0, 0))) :=
     ⟨Below.alloc (Below.refl _ W) (by omega) _, hg.block _ (by omega) (by simp)⟩
    have hKf := KeepsFrom.of_grownBy (B := W1.heap.size) hg (fun j hj => by cases hj);generalize W.alloc _ = W' at hg hn hI2 hKp hKf ⊢;generalize W.heap.size = g13 at hn hsW ⊢;exact hK g13 W' hsW hKf hKp hI2 hn
   case body =>
    intro l pre x g13 W hg13 hI hb13 hltn;obtain ⟨m, hm⟩ : ∃ m, m = min x (ab.length - 1) := ⟨_, rfl⟩
    have hml : m < ab.length := by omega
    rw [← hm] at hb13 ⊢;obtain ⟨hR, hks, hBW, hsW⟩ := hI;obtain ⟨al, hal⟩ : ∃ al, al = pre.foldl (fun a x => tune_Prune.step ab a (min x (ab.length - 1))) aa := ⟨_, rfl⟩
    have hll : al.length = ab.length := by rw [hal, tune_Prune.fold_length]; exact hm1
    have hfin : (pre ++ [x]).foldl (fun a x => tune_Prune.step ab a (min x (ab.length - 1))) aa = tune_Prune.step ab al m := by rw [List.foldl_append, ← hal, hm]; rfl
    replace hR : Kd.R Kd.bool 4 W w.heap.size (fun k => k < W1.heap.size) (.slice aG aa.length aw) al := by rw [hal]; exact hR
    obtain ⟨go, cap, eo, hgo1, hgo2, cells, hgc⟩ := Kd.R_form hR (by omega)
    injection eo with ea en ec
    clear en;subst ea;subst ec;have hgB : go < W1.heap.size := hR.1 go rfl
    have hne : ∀ p ∈ hs, p.1 ≠ go := by
     intro p hp e;have h1 := hks p hp;rw [e, hgc] at h1;exact (hhh p hp).2.2 _ _ (qqI h1).symm
    have hgsne : wr.heap.size ≠ go := hne (wr.heap.size, .cells #[Value.slice au ab.length av] 23 (0, 0)) (by rw [hhs]; simp)
    have hclose : ∀ W' al', Kd.R Kd.bool 4 W' w.heap.size (fun k => k < W1.heap.size) (.slice (some ⟨go, 0, none⟩) aa.length aw) al' → W.grownBy W' (some go) → al' = tune_Prune.step ab al m →
      KeepsFrom W1.heap.size W W' ∧ api_Gate_51_Kp w.heap.size wr.heap.size W W' ∧ tune_Prune.I w.heap.size W1.heap.size w (.slice (some ⟨go, 0, none⟩) aa.length aw) (fun pre => pre.foldl (fun a x => tune_Prune.step ab a (min x (ab.length - 1))) aa) hs (pre ++ [x]) W' := by
     intro W' al' hR' hg hal';have hbw : Below w.heap.size W W' := (Below.refl _ W).grown hg hBW.size (fun j hj => by cases hj; exact hgo1);refine ⟨KeepsFrom.of_grownBy hg (fun j hj => by cases hj; exact hgB), ⟨hbw, hg.block _ (by omega) (fun e => hgsne (qqI e))⟩, ?_, fun p hp => ?_, hBW.trans hbw, Nat.le_trans hsW hg.size⟩
     ·rw [hal', ← hfin] at hR'; exact hR'
     ·have hp2 := hks p hp
      exact (hg.block p.1 (Array.getElem?_eq_some_iff.1 hp2).1 (fun e => hne p hp (qqI e))).trans hp2
    have hbx := hks (ar, .cells #[.slice (some ⟨go, 0, none⟩) aa.length aw] 81 (0, 0)) (by rw [hhs]; simp);have hcx : W.cell? ⟨ar, 0, none⟩ = some (.slice (some ⟨go, 0, none⟩) aa.length aw) := (blk_cell hbx 0).trans rfl;have hc0 : W.cell? ⟨g13, 0, none⟩ = some (.int .i64 (rd_T61 ab (m : Int)).f0) := (blk_cell hb13 0).trans rfl;have hc1 : W.cell? ⟨g13, 1, none⟩ = some (.int .i64 (rd_T61 ab (m : Int)).f1) := (blk_cell hb13 1).trans rfl;have hc2 : W.cell? ⟨g13, 2, none⟩ = some (.int .i64 (rd_T61 ab (m : Int)).f2) := (blk_cell hb13 2).trans rfl;obtain ⟨hr0, hf0⟩ := Kd.R_celln false hR (m : Int) (by omega) (by omega);simp only [Int.toNat_natCast] at hr0 hf0;have hok := tune_Prune.okG_at hm2 m hml
    have hlenI : (m : Int) < (aa.length : Int) := by omega
    have hnn : 0 ≤ (m : Int) := by omega
    obtain ⟨q, hq⟩ : ∃ q, q = rd_T61 ab (m : Int) := ⟨_, rfl⟩
    have hst : tune_Prune.step ab al m = if rdOf false al m = true ∧ q.f0 ≠ 1 ∧ q.f0 ≠ 2 then (if q.f0 = 6 then al.set q.f1.toNat true else (al.set q.f1.toNat true).set q.f2.toNat true) else al := by rw [hq]; rfl
    rw [← hq] at hc0 hc1 hc2 hok;clear hq hm hal hm2 hm3 hA hC1 hOwn hhh hb1 hks hll; replace hlenI := eq_true hlenI; replace hnn := eq_true hnn
    have hg13ne : g13 ≠ go := fun e => by rw [e] at hg13; omega
    have hgbne : ar ≠ go := hne (ar, .cells #[.slice (some ⟨go, 0, none⟩) aa.length aw] 81 (0, 0)) (by rw [hhs]; simp);clear hne hfin
    by_cases b1 : rdOf false al m = true
    rotate_left
    ·have hcl := Aside0.mk (hclose W al hR (World.grownBy.refl _ _) (by rw [hst, if_neg (by simp [b1])]))
     rw [Bool.eq_false_iff.mpr b1] at hr0;clear hclose hst hok hR hsz hm1 hhs hsW hBase b1
     gi_wp2
     exact hcl.out
    rw [b1] at hr0
    by_cases b2 : q.f0 = 1
    ·have b2' : (q.f0 != 1) = false := bne_eq_false_iff_eq.mpr b2
     have hcl := Aside0.mk (hclose W al hR (World.grownBy.refl _ _) (by rw [hst, if_neg (by simp [b2])]));clear hclose hst hok hR hsz hm1 hhs hsW hBase
     gi_wp2
     exact hcl.out
    have b2' : (q.f0 != 1) = true := bne_iff_ne.mpr b2
    by_cases b3 : q.f0 = 2
    ·have b3' : (q.f0 != 2) = false := bne_eq_false_iff_eq.mpr b3
     have hcl := Aside0.mk (hclose W al hR (World.grownBy.refl _ _) (by rw [hst, if_neg (by simp [b3])]));clear hclose hst hok hR hsz hm1 hhs hsW hBase b2 b3
     gi_wp2
     exact hcl.out
    have b3' : (q.f0 != 2) = true := bne_iff_ne.mpr b3
    obtain ⟨p1, p2, p3⟩ : 0 ≤ q.f1 ∧ q.f1 < (ab.length : Int) ∧ (q.f0 = 6 ∨ (0 ≤ q.f2 ∧ q.f2 < (ab.length : Int))) := by
     rcases hok with h | h | h
     ·exact absurd h b2
     ·exact absurd h b3
     ·exact h
    have p2' : q.f1 < (aa.length : Int) := by omega
    obtain ⟨hrA, hfA⟩ := Kd.R_celln false hR q.f1 p1 p2';obtain ⟨hRA, hgA⟩ := Kd.R_putg hR q.f1 true
    by_cases b4 : q.f0 = 6
    ·have b4' : (q.f0 != 6) = false := bne_eq_false_iff_eq.mpr b4
     have hcl := Aside0.mk (hclose _ _ hRA hgA (by rw [hst, if_pos ⟨b1, b2, b3⟩, if_pos b4]));have hd0 : (W.setCell ⟨go, q.f1.toNat, none⟩ (.bool true)).cell? ⟨g13, 0, none⟩ = some (.int .i64 q.f0) := hgA.cell hc0 (fun e => hg13ne (qqI e));replace p1 := eq_true p1; replace p2' := eq_true p2'; clear hclose hst hok hR hRA hgA hsz hm1 hhs hsW hBase b2 b3 b4 p2 p3
     gi_wp2
     exact hcl.out
    have b4' : (q.f0 != 6) = true := bne_iff_ne.mpr b4
    obtain ⟨p4, p5⟩ : 0 ≤ q.f2 ∧ q.f2 < (ab.length : Int) := by
     rcases p3 with h | h
     ·exact absurd h b4
     ·exact h
    have p5' : q.f2 < (aa.length : Int) := by omega
    obtain ⟨hrB, hfB⟩ := Kd.R_celln false hRA q.f2 p4 p5';obtain ⟨hRB, hgB⟩ := Kd.R_putg hRA q.f2 true;have hcl := Aside0.mk (hclose _ _ hRB (World.grownBy.trans hgA hgB) (by rw [hst, if_pos ⟨b1, b2, b3⟩, if_neg b4]));have hd0 : (W.setCell ⟨go, q.f1.toNat, none⟩ (.bool true)).cell? ⟨g13, 0, none⟩ = some (.int .i64 q.f0) := hgA.cell hc0 (fun e => hg13ne (qqI e));have hd2 : (W.setCell ⟨go, q.f1.toNat, none⟩ (.bool true)).cell? ⟨g13, 2, none⟩ = some (.int .i64 q.f2) := hgA.cell hc2 (fun e => hg13ne (qqI e));have hdx : (W.setCell ⟨go, q.f1.toNat, none⟩ (.bool true)).cell? ⟨ar, 0, none⟩ = some (.slice (some ⟨go, 0, none⟩) aa.length aw) := hgA.cell hcx (fun e => hgbne (qqI e));replace p1 := eq_true p1; replace p2' := eq_true p2'; replace p4 := eq_true p4; replace p5' := eq_true p5'; clear hclose hst hok hR hRA hRB hgA hgB hsz hm1 hhs hsW hBase b2 b3 b4 p2 p3 p5
    gi_wp2
    exact hcl.out
   case done =>
    intro D xs W hD hS hI hD2;obtain ⟨hR0, hks, hBW, hsW⟩ := hI
    have hR : Kd.R Kd.bool 4 W w.heap.size (fun k => k < W1.heap.size) (.slice aG aa.length aw) bp := by rw [hm3, ← show xs = (List.range ab.length).map (fun k => ab.length - 1 - k) from hS]; exact hR0
    have hln : bp.length = aa.length := by rw [hm3, tune_Prune.fold_length]
    rw [← hln] at hR;have hkz := hks;rw [hhs] at hkz;have ae := Aside0.mk (hkz (aP, .cells #[.slice aB aq.length aC, .slice au ab.length av, .slice aF ag.length aD] 26 (0, 0)) (by simp));have ah := Aside0.mk (hkz (ak, .cells #[.slice none 0 0, .slice none 0 0, .slice none 0 0] 26 (0, 0)) (by simp));have an := Aside0.mk (hkz (ar, .cells #[.slice aG aa.length aw] 81 (0, 0)) (by simp));rw [← hln] at an;have HR := Aside0.mk hR;have HB := Aside0.mk hBW;have HD := Aside0.mk hD2;have HDge : Aside0 (w.heap.size ≤ D) := ⟨by omega⟩;have HDn : Aside0 (D ≠ ak) := ⟨fun e => by rw [e] at hD2; rw [ah.out] at hD2; cases hD2⟩;clear hks hkz hR hR0 hBW hD2 hln hm3 hm2 hm1 hS hI0 hOwn hhh hhs hsW hA hC1 hbk hlt k278 k279 k284 hgs hb1 hRa hsz hbs hD hBase hlen;have Z45 := ky3 ae;have hC1 := (Kd.R_reads' HR.out);have hbx : W.cell? ⟨ar, 0, none⟩ = some (.slice aG bp.length aw) := kk an 0;have HC := Aside0.mk hC1.2.2;have HX := Aside0.mk hbx;clear hC1 hbx;go_wp2_with (first | ((with_reducible refine gate_callee (f := 45) rfl ?_); refine goesL_ (some 76) rfl rfl Try.func45 (by kernel_rfl) rfl #[.agg #[.slice aB aq.length aC, .slice au ab.length av, .slice aF ag.length aD], .func (.func 52) #[] #[.pointer (some ⟨ar, 0, none⟩)], .func (.func 53) #[] #[]] rfl (by (try simp only [qM1, qM2, qM3]); first | done | rfl) ?_));refine (tune_moved.calls (tune_Prune.st bp) some 52 53 #[.pointer (some ⟨ar, 0, none⟩)] #[] k1 _ _ aq _ _ ab _ _ ag aS bd bq _ (Kd.C_below bg.out HB.out) bh.out (Kd.C_below aH.out HB.out) bi.out (Kd.C_below aT.out HB.out) bj.out (enters_of Try.func52 (by kernel_rfl) rfl) (enters_of Try.func53 (by kernel_rfl) rfl) (fun x0 x1 x2 x3 x4 r V hV hst => tune_Prune.calls1 ar aG aw bp V ((hV.cell (p := ⟨ar, 0, none⟩) (qqW _ _ HX.out)).trans HX.out) (Kd.C_below HC.out hV) x0 x1 x2 x3 x4 r hst) (fun x0 r V hV hst => tune_Prune.calls2 x0 r V hst) A42.out).mono ?_;rintro e w53 ⟨df, dg, dh, rfl, ho0, ho1, ho2, hb⟩;refine ⟨_, rfl, ?_⟩;replace ho2 := k66t_S ho2;have bK := Aside0.mk (Kd.R_lower ho0 HB.out.size);have bL := Aside0.mk (Kd.R_lower ho1 HB.out.size);have bM := Aside0.mk (Kd.S_lower ho2 HB.out.size);have ah := Aside0.mk (blk_below ah.out hb);have HD := Aside0.mk (blk_below HD.out hb);have HB := Aside0.mk (below_step HB.out hb);clear ho0 ho1 ho2 hb;obtain ⟨be, bf, cx⟩ := Kd.R_slice bK.out;subst cx;obtain ⟨br, bt, cy⟩ := Kd.R_slice bL.out;subst cy;obtain ⟨bA, bB, cz⟩ := Kd.S_slice bM.out;subst cz;have Z55 := kz3 ah;go_wp2;have hD3 : (((w53.setCell ⟨ak, 0, none⟩ (.slice be aS.length bf)).setCell ⟨ak, 1, none⟩ (.slice br bd.length bt)).setCell ⟨ak, 2, none⟩ (.slice bA bq.length bB)).heap[D]? = some (.deferred (some [])) := (Below.heap_setCell _ ⟨ak, 2, none⟩ _ D HDn.out).trans ((Below.heap_setCell _ ⟨ak, 1, none⟩ _ D HDn.out).trans ((Below.heap_setCell _ ⟨ak, 0, none⟩ _ D HDn.out).trans HD.out))
    have hB3 : (((w53.setCell ⟨ak, 0, none⟩ (.slice be aS.length bf)).setCell ⟨ak, 1, none⟩ (.slice br bd.length bt)).setCell ⟨ak, 2, none⟩ (.slice bA bq.length bB)).heap[ak]? = some (.cells #[.slice be aS.length bf, .slice br bd.length bt, .slice bA bq.length bB] 26 (0, 0)) := by
     refine blk_put (cs := #[.slice be aS.length bf, .slice br bd.length bt, .slice none 0 0]) ?_ 2 _ rfl;refine blk_put (cs := #[.slice be aS.length bf, .slice none 0 0, .slice none 0 0]) ?_ 1 _ rfl;refine blk_put (cs := #[.slice none 0 0, .slice none 0 0, .slice none 0 0]) ?_ 0 _ rfl;exact ah.out
    have hBl : Below w.heap.size w (((w53.setCell ⟨ak, 0, none⟩ (.slice be aS.length bf)).setCell ⟨ak, 1, none⟩ (.slice br bd.length bt)).setCell ⟨ak, 2, none⟩ (.slice bA bq.length bB)) := by
     refine below_set ?_ aU.out;refine below_set ?_ aU.out;refine below_set ?_ aU.out;exact HB.out
    have hr1 := putO_R (o' := .deferred none) (kt bK ah) hD3 rfl;have hr2 := putO_R (o' := .deferred none) (kt bL ah) hD3 rfl;have hr3 := putO_S (o' := .deferred none) (ks bM ah) hD3 rfl;have hB4 := putO_blk (o' := .deferred none) hD3 rfl hB3 rfl;have hBl4 := hBl.grown (grownBy_putObj' _ D (.deferred none)) hBl.size (fun j hj => by cases hj; exact HDge.out);refine marks_ret1 rfl hD3 (results_ct rfl _ _ ak 26 _ (0, 0) _ rfl hB4 Try.underlying26 rfl (by kernel_rfl)) ?_;exact ⟨_, _, _, rfl, hr1, hr2, hr3, hBl4⟩
end Go.Proofs.Ytmlbliggbkfjnaa.J
namespace Go.Proofs.Ytmlbliggbkfjnaa.J
open Go.RowKit Go.Proofs.YtmlbliggbkfjnaaW.PrintWords Go.Proofs.YtmlbliggbkfjnaaW.PrintLast Go.Proofs.YtmlbliggbkfjnaaW.PrintMore
attribute [local go_sem] max2_int min2_int max_two min_two max_three min_three max_four min_four
def qga.l0 : Nat → List Int → List Int → Int → Int → Option (Bool)
 | 0, _, _, _, _ => none
 | k + 1, x0, x1, x12, x13 => if x13 < x12 then (if 0 ≤ x13 then (if x13 < (x0.length : Int) then (if x13 < (x1.length : Int) then (if (rd x0 x13) = (rd x1 x13) then (qga.l0 k x0 x1 x12 (wrap64 (x13 + 1))) else (some false)) else (none)) else (none)) else (none)) else (some true)
def qga.f (k : Nat) (l0 : List Int) (l1 : List Int) : Option (Bool) := if (l0.length : Int) = (l1.length : Int) then (qga.l0 k l0 l1 (l0.length : Int) 0) else (some false)
theorem qga.calls (k : Nat) (A0 : Option Addr) (c0 : Nat) (l0 : List Int) (A1 : Option Addr) (c1 : Nat) (l1 : List Int) (r : Bool) (w : World) (hr0 : Kd.C (Kd.int .i64) w A0 l0.length l0) (hc0 : l0.length ≤ c0) (hr1 : Kd.C (Kd.int .i64) w A1 l1.length l1) (hc1 : l1.length ≤ c1) (h : qga.f k l0 l1 = some r) :
  Calls Try.prog 13 #[.slice A0 l0.length c0, .slice A1 l1.length c1] w fun e w' => e = .returned (.bool r) ∧ Drawn0 w w' := by
 have HR0 := Aside0.mk hr0;have HC0 := Aside0.mk hc0;clear hr0 hc0;have HR1 := Aside0.mk hr1;have HC1 := Aside0.mk hc1;clear hr1 hc1;have H : (if (l0.length : Int) = (l1.length : Int) then (qga.l0 k l0 l1 (l0.length : Int) 0) else (some false)) = some r := h;clear h
 by_cases c3 : (l0.length : Int) = (l1.length : Int)
 rotate_left
 ·rw [if_neg c3] at H
  have an := beq_eq_false_iff_ne.mpr c3;have ao := bne_iff_ne.mpr c3
  have ap : (l0.length == l1.length) = false := by first | simpa using c3 | (simp at c3 ⊢; omega)
  obtain rfl := qqI H;go_enter Try.func13, Try.ntmps13;go_wp2
  repeat (go_quiet (fail); try go_wp2)
  go_ret;exact ⟨et, by repeat (first | exact Drawn0.refl _ | apply Drawn0.step)⟩
 rw [if_pos c3] at H;have an := beq_iff_eq.mpr c3;have ao := bne_eq_false_iff_eq.mpr c3
 have ap : (l0.length == l1.length) = true := by first | simpa using c3 | (simp at c3 ⊢; omega)
 clear c3;have H' := Aside0.mk H;clear H;go_enter Try.func13, Try.ntmps13;go_wp2
 repeat (go_quiet (fail); try go_wp2)
 go_loopg [13] k (fun kq v13 w' => ∃ (aa : Int), v13 = .int .i64 aa ∧ Aside0 (qga.l0 kq l0 l1 (l0.length : Int) aa = some r) ∧ Aside0 (kq ≤ k) ∧ Drawn0 w w')
 case atStart => exact ⟨(0), et, H', ⟨Nat.le_refl _⟩, by repeat (first | exact Drawn0.refl _ | apply Drawn0.step)⟩
 case round =>
  clear H';(try clear an ao ap);obtain ⟨aa, rfl, HA, HK1, ⟨m1, rfl⟩⟩ := hrel
  cases gk with
  | zero => exact absurd HA.out (by simp [qga.l0])
  | succ k1 =>
   have H := HA.out;clear HA;simp only [qga.l0] at H
   by_cases c4 : aa < (l0.length : Int)
   rotate_left
   ·rw [if_neg c4] at H
    have au := qqF c4;clear c4;obtain rfl := qqI H;go_wp2
    repeat (go_quiet (fail); try go_wp2)
    go_ret;exact ⟨et, by repeat (first | exact Drawn0.refl _ | apply Drawn0.step)⟩
   rw [if_pos c4] at H;have au := qqT c4;clear c4
   by_cases c5 : 0 ≤ aa
   rotate_left
   ·rw [if_neg c5] at H
    exact absurd H (by simp)
   rw [if_pos c5] at H;have ax := qqT c5;clear c5
   by_cases c6 : aa < (l0.length : Int)
   rotate_left
   ·rw [if_neg c6] at H
    exact absurd H (by simp)
   rw [if_pos c6] at H;have ay := qqT c6;clear c6
   by_cases c7 : aa < (l1.length : Int)
   rotate_left
   ·rw [if_neg c7] at H
    exact absurd H (by simp)
   rw [if_pos c7] at H;have az := qqT c7;clear c7
   by_cases c8 : (rd l0 aa) = (rd l1 aa)
   rotate_left
   ·rw [if_neg c8] at H
    have av := beq_eq_false_iff_ne.mpr c8;have aw := bne_iff_ne.mpr c8;obtain rfl := qqI H;have ab : 0 ≤ (aa : Int) := od;have ae : aa < (l0.length : Int) := od;obtain ⟨aq, aj, ah⟩ := Kd.at_int HR0.out aa ab ae;cases aj;replace ab := eq_true ab; replace ae := eq_true ae;have af : 0 ≤ (aa : Int) := od;have ag : aa < (l1.length : Int) := od;obtain ⟨ar, ak, ai⟩ := Kd.at_int HR1.out aa af ag;cases ak;replace af := eq_true af; replace ag := eq_true ag;go_wp2
    repeat (go_quiet (fail); try go_wp2)
    go_ret;exact ⟨et, by repeat (first | exact Drawn0.refl _ | apply Drawn0.step)⟩
   rw [if_pos c8] at H;have av := beq_iff_eq.mpr c8;have aw := bne_eq_false_iff_eq.mpr c8;clear c8;have H' := Aside0.mk H;clear H;have ab : 0 ≤ (aa : Int) := od;have ae : aa < (l0.length : Int) := od;obtain ⟨aq, aj, ah⟩ := Kd.at_int HR0.out aa ab ae;cases aj;replace ab := eq_true ab; replace ae := eq_true ae;have af : 0 ≤ (aa : Int) := od;have ag : aa < (l1.length : Int) := od;obtain ⟨ar, ak, ai⟩ := Kd.at_int HR1.out aa af ag;cases ak;replace af := eq_true af; replace ag := eq_true ag;go_wp2
   repeat (go_quiet (fail); try go_wp2)
   go_roundg k1
   case measure => have := HK1.out; omega
   case rel => exact ⟨(wrap64 (aa + 1)), et, H', ⟨by have := HK1.out; omega⟩, by repeat (first | exact Drawn0.refl _ | apply Drawn0.step)⟩
theorem rdOf_set_ (xs : List Int) (i v : Int) (h0 : 0 ≤ i) (h1 : i < xs.length) : rdOf 0 (xs.set i.toNat v) i = v := by
 unfold rdOf;rw [List.getD_eq_getElem?_getD, List.getElem?_set_self (by omega)]
 rfl
mutual
def tune_Levels.l0 : Nat → List Int → List (S61) → Int → Int → Option (List Int)
 | 0, _, _, _, _ => none
 | k + 1, x3, x12, x13, x14 => if x14 < x13 then (if 0 ≤ x14 then (if x14 < (x12.length : Int) then (if ((rd_T61 x12 x14).f0) = 3 then (tune_Levels.j1 k x3 x14 true x12 x13 x14 ((rd_T61 x12 x14).f0) ((rd_T61 x12 x14).f1) ((rd_T61 x12 x14).f2) ((rd_T61 x12 x14).f3)) else (if ((rd_T61 x12 x14).f0) = 4 then (tune_Levels.j1 k x3 x14 true x12 x13 x14 ((rd_T61 x12 x14).f0) ((rd_T61 x12 x14).f1) ((rd_T61 x12 x14).f2) ((rd_T61 x12 x14).f3)) else (tune_Levels.j1 k x3 x14 (((rd_T61 x12 x14).f0) == 5) x12 x13 x14 ((rd_T61 x12 x14).f0) ((rd_T61 x12 x14).f1) ((rd_T61 x12 x14).f2) ((rd_T61 x12 x14).f3)))) else (none)) else (none)) else (some x3)
def tune_Levels.j1 : Nat → List Int → Int → Bool → List (S61) → Int → Int → Int → Int → Int → Int → Option (List Int)
 | 0, _, _, _, _, _, _, _, _, _, _ => none
 | k + 1, x3, x4, x6, x12, x13, x14, ae, aa, ab, af => if x6 = true then (if aa < 0 then (tune_Levels.j2 k x3 x4 x6 x12 x13 x14 true ae aa ab af) else (if aa ≥ x4 then (tune_Levels.j2 k x3 x4 x6 x12 x13 x14 true ae aa ab af) else (if ab < 0 then (tune_Levels.j2 k x3 x4 x6 x12 x13 x14 true ae aa ab af) else (tune_Levels.j2 k x3 x4 x6 x12 x13 x14 (decide (ab ≥ x4)) ae aa ab af)))) else (if ae = 6 then (if aa < 0 then (tune_Levels.j2 k x3 x4 x6 x12 x13 x14 true ae aa ab af) else (if aa ≥ x4 then (tune_Levels.j2 k x3 x4 x6 x12 x13 x14 true ae aa ab af) else (tune_Levels.j2 k x3 x4 x6 x12 x13 x14 false ae aa ab af))) else (tune_Levels.j2 k x3 x4 x6 x12 x13 x14 false ae aa ab af))
def tune_Levels.j2 : Nat → List Int → Int → Bool → List (S61) → Int → Int → Bool → Int → Int → Int → Int → Option (List Int)
 | 0, _, _, _, _, _, _, _, _, _, _, _ => none
 | k + 1, x3, x4, x6, x12, x13, x14, x62, ae, aa, ab, af => if x62 = true then (some ([] : List Int)) else (if x6 = true then (if 0 ≤ aa then (if aa < (x3.length : Int) then (if 0 ≤ ab then (if ab < (x3.length : Int) then (if 0 ≤ x4 then (if x4 < (x3.length : Int) then ((some (x3.set (x4 : Int).toNat (mx (rd x3 aa) (rd x3 ab)) : List Int)).bind fun ah => (if ae = 5 then (tune_Levels.l0 k (ah.set (x4 : Int).toNat (wrap64 ((mx (rd x3 aa) (rd x3 ab)) + 1))) x12 x13 (wrap64 (x14 + 1))) else (tune_Levels.l0 k ah x12 x13 (wrap64 (x14 + 1))))) else (none)) else (none)) else (none)) else (none)) else (none)) else (none)) else (if ae = 6 then (if 0 ≤ aa then (if aa < (x3.length : Int) then (if 0 ≤ x4 then (if x4 < (x3.length : Int) then ((some (x3.set (x4 : Int).toNat (rd x3 aa) : List Int)).bind fun ag => (if ae = 5 then (tune_Levels.l0 k (ag.set (x4 : Int).toNat (wrap64 ((rd ag x4) + 1))) x12 x13 (wrap64 (x14 + 1))) else (tune_Levels.l0 k ag x12 x13 (wrap64 (x14 + 1))))) else (none)) else (none)) else (none)) else (none)) else (if ae = 5 then (if 0 ≤ x4 then (if x4 < (x3.length : Int) then (tune_Levels.l0 k (x3.set (x4 : Int).toNat (wrap64 ((rd x3 x4) + 1))) x12 x13 (wrap64 (x14 + 1))) else (none)) else (none)) else (tune_Levels.l0 k x3 x12 x13 (wrap64 (x14 + 1))))))
end
def tune_Levels.f (k : Nat) (ab : List (S64)) (aa : List (S61)) (ae : List (S66)) : Option (List Int) := if 0 ≤ (aa.length : Int) then (if ((aa.length : Int) : Int).toNat ≤ 35184372088832 then (tune_Levels.l0 k (List.replicate ((aa.length : Int) : Int).toNat 0) aa (aa.length : Int) 0) else (none)) else (none)
def tune_Levels.T9 : Bool × List (List Nat × List Nat) := (true, [([], []), ([], []), ([], []), ([], []), ([3], [3]), ([2, 4], [2, 4]), ([5], [5]), ([], []), ([], []), ([8], [8]), ([7, 9], [7, 9]), ([10], [10]), ([6, 11], [6, 11]), ([0, 1, 0, 1, 2, 3, 4, 5, 6, 7, 8, 9, 10, 11, 12], [0, 1]), ([13, 12, 0, 1, 2, 3, 4, 5, 6, 7, 8, 9, 10, 11, 12], [12, 13])])
def tune_Levels.B9 : List Nat := [0, 0, 0, 0, 8, 28, 60, 0, 0, 256, 896, 1920, 4092, 8191, 16383]
theorem tune_Levels.tab9 : rtab .any (opsOf Try.f14 9) = tune_Levels.T9 := by kernel_rfl
theorem tune_Levels.bits9 : waitsOk tune_Levels.T9.2 tune_Levels.B9 = true := by kernel_rfl
theorem tune_Levels.calls (k : Nat) (aR : Option Addr) (aS : Nat) (aC : List (S64)) (bq : Option Addr) (aT : Nat) (ab : List (S61)) (aU : Option Addr) (aV : Nat) (aD : List (S66)) (r : List Int) (w : World) (bw : Kd.C k64 w aR aC.length aC) (bx : aC.length ≤ aS) (bz : Kd.C k61 w bq ab.length ab) (bA : ab.length ≤ aT) (bB : Kd.C k66 w aU aD.length aD) (bC : aD.length ≤ aV) (h : tune_Levels.f k aC ab aD = some r) :
  Calls Try.prog 14 #[.agg #[.slice aR aC.length aS, .slice bq ab.length aT, .slice aU aD.length aV]] w fun e w' => ∃ v0_ : Value, e = .returned (v0_) ∧ Kd.R (Kd.int .i64) 3 w' w.heap.size (fun _ => True) v0_ r ∧ Below w.heap.size w w' := by
 have hu26 := Try.underlying26;have hu61 := Try.underlying61;have dy := Aside0.mk bw;have dz := Aside0.mk bx;clear bw bx;have cc := Aside0.mk bz;have dA := Aside0.mk bA;clear bz bA;have dB := Aside0.mk bB;have dC := Aside0.mk bC;clear bB bC;have HB := Aside0.mk (Below.refl w.heap.size w);have H : (if 0 ≤ (ab.length : Int) then (if ((ab.length : Int) : Int).toNat ≤ 35184372088832 then (tune_Levels.l0 k (List.replicate ((ab.length : Int) : Int).toNat 0) ab (ab.length : Int) 0) else (none)) else (none)) = some r := h;clear h
 by_cases c2 : 0 ≤ (ab.length : Int)
 rotate_left
 ·rw [if_neg c2] at H
  exact absurd H (by simp)
 rw [if_pos c2] at H;have cZ := eq_true c2;have da := qqT c2;clear c2
 by_cases c3 : ((ab.length : Int) : Int).toNat ≤ 35184372088832
 rotate_left
 ·rw [if_neg c3] at H
  exact absurd H (by simp)
 rw [if_pos c3] at H;have db := eq_true c3;have dc := qqT c3;clear c3;obtain ⟨cd, aJ⟩ : ∃ y_ : List Int, y_ = (List.replicate ((ab.length : Int) : Int).toNat 0) := ⟨_, rfl⟩
 replace H : (tune_Levels.l0 k cd ab (ab.length : Int) 0) = some r := by first | (rw [aJ]; with_reducible exact H) | (have H2_ := (Option.bind_some _ _).symm.trans H; rw [aJ]; with_reducible exact H2_) | (have H2_ := (Option.bind_some _ _).symm.trans H; with_reducible exact H2_) | with_reducible exact H | (rw [aJ]; exact H) | exact H
 have bD := Aside0.mk aJ;clear aJ;have H' := Aside0.mk H;clear H;go_enter Try.func14, Try.ntmps14;go_wp2_with (first | ((with_reducible refine gate_dst (N := 1) rfl ?_); refine box_event ?hg (N := 1) ?hd (cs := #[.slice aR aC.length aS, .slice bq ab.length aT, .slice aU aD.length aV]) (t := 26) ?hr ?_; (case hd | hg => rfl); (case hr => go_simp; try rfl); intro be hg w4 hbox hb; have ag := am hbox; have dD := kG HB hg; have dE := kG HB hg; replace HB := kH HB hb; clear hb hbox hg; have Z5 := kz3 ag) | ((with_reducible refine gate_dst (N := 10) rfl ?_); refine Kd.R_make (Kd.int .i64) _ 3 rfl (N := 10) rfl 27 _ _ rfl (ab.length : Int) rfl rfl Try.underlying27 (.int .i64 0) 8 info3 rfl (by decide) (by omega) 0 (ok := fun _ => True) (okp := fun _ => True) rfl (fun _ hk => hk) trivial od (Nat.le_trans (Nat.mul_le_mul_right _ (od : (ab.length : Int).toNat ≤ 35184372088832)) (by omega)) (Below.refl _ _) (Nat.le_refl _) ?_; intro bE w6 ho7 hb hg_ hnew_; clear hg_ hnew_; (first | rw [← bD.out] at ho7 | (simp only [Int.reduceToNat] at ho7; rw [← bD.out] at ho7)); have ce := kLR ho7 HB; replace ag := kU ag hb; replace HB := kH HB hb; clear hb ho7; have Z8 := kz3 ag));go_loopg [14] k (fun kq v14 w' => ∃ (aj : List Int) (aa : Int), v14 = .int .i64 aa ∧ Aside0 (tune_Levels.l0 kq aj ab (ab.length : Int) aa = some r) ∧ Aside0 (kq ≤ k) ∧ Aside0 (Kd.R (Kd.int .i64) 3 w' w.heap.size (fun _ => True) bE aj) ∧ Aside0 (w'.heap[be]? = some (.cells #[(.slice aR aC.length aS), (.slice bq ab.length aT), (.slice aU aD.length aV)] 26 (0, 0))) ∧ Aside0 (Below w.heap.size w w'))
 case atStart => exact ⟨(cd), (0), et, H', ⟨Nat.le_refl _⟩, ⟨krR ce⟩, ⟨kg ag⟩, ⟨kh HB⟩⟩
 case round =>
  clear H';(try clear cZ da db dc Z5 Z8);obtain ⟨aj, aa, rfl, HA, HK1, af, ag, HB⟩ := hrel
  cases gk with
  | zero => exact absurd HA.out (by simp [tune_Levels.l0])
  | succ k1 =>
   have H := HA.out;clear HA;simp only [tune_Levels.l0] at H
   by_cases c9 : aa < (ab.length : Int)
   rotate_left
   ·rw [if_neg c9] at H
    have cf := qqF c9;clear c9;obtain rfl := qqI H;go_wp2;go_ret;exact ⟨_, er, by (with_reducible repeat first | apply Kd.R_alloc | apply Kd.R_drewN | apply Kd.R_drew); exact af.out, kh HB⟩
   rw [if_pos c9] at H;have cf := qqT c9;clear c9
   by_cases c10 : 0 ≤ aa
   rotate_left
   ·rw [if_neg c10] at H
    exact absurd H (by simp)
   rw [if_pos c10] at H;have cg := qqT c10;clear c10
   by_cases c11 : aa < (ab.length : Int)
   rotate_left
   ·rw [if_neg c11] at H
    exact absurd H (by simp)
   rw [if_pos c11] at H;have ch := qqT c11;clear c11;have bF := Aside0.mk H;clear H;have br : 0 ≤ (aa : Int) := od;have bt : aa < (ab.length : Int) := od;obtain ⟨bf, dd, aw, ax, ay, az⟩ := at_T61 cc.out aa br bt;cases dd;replace aw := (HB.out.cell (qqW w _ aw)).trans aw;replace ax := (HB.out.cell (qqW w _ ax)).trans ax;replace ay := (HB.out.cell (qqW w _ ay)).trans ay;replace az := (HB.out.cell (qqW w _ az)).trans az;replace br := eq_true br; replace bt := eq_true bt;go_upto_region 5 with (first | ((with_reducible refine gate_dst (N := 5) rfl ?_); refine box_event ?hg (N := 5) ?hd (cs := #[.int .i64 0, .int .i64 0, .int .i64 0, .int .u64 0]) (t := 61) ?hr ?_; (case hd | hg => rfl); (case hr => go_simp; try rfl); intro ak hg w13 hbox hb; replace af := kR af hb; have ae := am hbox; have dF := kG HB hg; have dG := kG HB hg; replace HB := kH HB hb; have ah := kP ag hg; have ai := kQ ag hg; replace ag := kU ag hb; clear hb hbox hg; have dH := ai.out; have dI := ah.out; have Z15 := kz4 ae));(try simp only [Act.put, qS1, qS2, qS3]);go_cut [6] (fun v6 wc => ∃ (kq : Nat) (aE : Bool), v6 = .bool aE ∧ Aside0 (tune_Levels.j1 kq aj aa aE ab (ab.length : Int) aa ((rd_T61 ab aa).f0) ((rd_T61 ab aa).f1) ((rd_T61 ab aa).f2) ((rd_T61 ab aa).f3) = some r) ∧ Aside0 (kq ≤ k1) ∧ Aside0 (Kd.R (Kd.int .i64) 3 wc w.heap.size (fun _ => True) bE aj) ∧ Aside0 (wc.heap[be]? = some (.cells #[(.slice aR aC.length aS), (.slice (some bf) ab.length aT), (.slice aU aD.length aV)] 26 (0, 0))) ∧ Aside0 (wc.heap[ak]? = some (.cells #[.int .i64 ((rd_T61 ab aa).f0), .int .i64 ((rd_T61 ab aa).f1), .int .i64 ((rd_T61 ab aa).f2), .int .u64 ((rd_T61 ab aa).f3)] 61 (0, 0))) ∧ Aside0 (Below w.heap.size w wc))
   case first =>
    have H := bF.out;clear bF
    by_cases c16 : ((rd_T61 ab aa).f0) = 3
    ·rw [if_pos c16] at H
     have aK := beq_iff_eq.mpr c16;have ci := bne_eq_false_iff_eq.mpr c16;clear c16;(first | rw [aK] | (simp only [i64_w, i32_w]; rw [aK]) | skip);have H' := Aside0.mk H;clear H;have dJ := ai.out;have dK := ah.out;have Z18 := kz4 ae;go_wp2;go_meet
     case rel => exact ⟨_, (true), et, H', ⟨by have := HK1.out; first | omega | exact Nat.le_refl _⟩, ⟨by (with_reducible repeat first | apply Kd.R_alloc | apply Kd.R_drewN | apply Kd.R_drew); exact Kd.R_mono (Kd.R_far (p := ⟨ak, 3, none⟩) (Kd.R_far (p := ⟨ak, 2, none⟩) (Kd.R_far (p := ⟨ak, 1, none⟩) (Kd.R_far (p := ⟨ak, 0, none⟩) (Kd.R_types af.out ae.out (by decide)) (fun _ hk => hk.2) (.int .i64 ((rd_T61 ab aa).f0))) (fun _ hk => hk.2) (.int .i64 ((rd_T61 ab aa).f1))) (fun _ hk => hk.2) (.int .i64 ((rd_T61 ab aa).f2))) (fun _ hk => hk.2) (.int .u64 ((rd_T61 ab aa).f3))) (fun _ hk => trivial)⟩, ⟨kg ag⟩, ⟨kg ae⟩, ⟨kh HB⟩⟩
    rw [if_neg c16] at H;have aK := beq_eq_false_iff_ne.mpr c16;have ci := bne_iff_ne.mpr c16;(first | rw [aK] | (simp only [i64_w, i32_w]; rw [aK]) | skip)
    by_cases c19 : ((rd_T61 ab aa).f0) = 4
    rotate_left
    ·rw [if_neg c19] at H
     have cj := beq_eq_false_iff_ne.mpr c19;have ck := bne_iff_ne.mpr c19;have H' := Aside0.mk H;clear H;have dL := ai.out;have dM := ah.out;have Z23 := kz4 ae;go_wp2;go_meet
     case rel => exact ⟨_, ((((rd_T61 ab aa).f0) == 5)), et, H', ⟨by have := HK1.out; first | omega | exact Nat.le_refl _⟩, ⟨by (with_reducible repeat first | apply Kd.R_alloc | apply Kd.R_drewN | apply Kd.R_drew); exact Kd.R_mono (Kd.R_far (p := ⟨ak, 3, none⟩) (Kd.R_far (p := ⟨ak, 2, none⟩) (Kd.R_far (p := ⟨ak, 1, none⟩) (Kd.R_far (p := ⟨ak, 0, none⟩) (Kd.R_types af.out ae.out (by decide)) (fun _ hk => hk.2) (.int .i64 ((rd_T61 ab aa).f0))) (fun _ hk => hk.2) (.int .i64 ((rd_T61 ab aa).f1))) (fun _ hk => hk.2) (.int .i64 ((rd_T61 ab aa).f2))) (fun _ hk => hk.2) (.int .u64 ((rd_T61 ab aa).f3))) (fun _ hk => trivial)⟩, ⟨kg ag⟩, ⟨kg ae⟩, ⟨kh HB⟩⟩
    rw [if_pos c19] at H;have cj := beq_iff_eq.mpr c19;have ck := bne_eq_false_iff_eq.mpr c19;clear c19;have H' := Aside0.mk H;clear H;have dN := ai.out;have dO := ah.out;have Z21 := kz4 ae;go_wp2;go_meet
    case rel => exact ⟨_, (true), et, H', ⟨by have := HK1.out; first | omega | exact Nat.le_refl _⟩, ⟨by (with_reducible repeat first | apply Kd.R_alloc | apply Kd.R_drewN | apply Kd.R_drew); exact Kd.R_mono (Kd.R_far (p := ⟨ak, 3, none⟩) (Kd.R_far (p := ⟨ak, 2, none⟩) (Kd.R_far (p := ⟨ak, 1, none⟩) (Kd.R_far (p := ⟨ak, 0, none⟩) (Kd.R_types af.out ae.out (by decide)) (fun _ hk => hk.2) (.int .i64 ((rd_T61 ab aa).f0))) (fun _ hk => hk.2) (.int .i64 ((rd_T61 ab aa).f1))) (fun _ hk => hk.2) (.int .i64 ((rd_T61 ab aa).f2))) (fun _ hk => hk.2) (.int .u64 ((rd_T61 ab aa).f3))) (fun _ hk => trivial)⟩, ⟨kg ag⟩, ⟨kg ae⟩, ⟨kh HB⟩⟩
   clear bF;(try clear cf cg ch Z15 aw ax ay az br bt);obtain ⟨kq, aE, rfl, HA, ap, af, ag, ae, HB⟩ := hcut
   cases kq with
   | zero => exact absurd HA.out (by simp [tune_Levels.j1])
   | succ de =>
    have H := HA.out;clear HA;simp only [tune_Levels.j1] at H;have bG := Aside0.mk H;clear H;go_upto_region 6 with (fail);go_cut [62] (fun v62 wc => ∃ (kq : Nat) (aF : Bool), v62 = .bool aF ∧ Aside0 (tune_Levels.j2 kq aj aa aE ab (ab.length : Int) aa aF ((rd_T61 ab aa).f0) ((rd_T61 ab aa).f1) ((rd_T61 ab aa).f2) ((rd_T61 ab aa).f3) = some r) ∧ Aside0 (kq ≤ de) ∧ Aside0 (Kd.R (Kd.int .i64) 3 wc w.heap.size (fun _ => True) bE aj) ∧ Aside0 (wc.heap[be]? = some (.cells #[(.slice aR aC.length aS), (.slice (some bf) ab.length aT), (.slice aU aD.length aV)] 26 (0, 0))) ∧ Aside0 (wc.heap[ak]? = some (.cells #[.int .i64 ((rd_T61 ab aa).f0), .int .i64 ((rd_T61 ab aa).f1), .int .i64 ((rd_T61 ab aa).f2), .int .u64 ((rd_T61 ab aa).f3)] 61 (0, 0))) ∧ Aside0 (Below w.heap.size w wc))
    case first =>
     have H := bG.out;clear bG
     by_cases c25 : aE = true
     ·subst c25
      replace H := ifT H
      by_cases c26 : ((rd_T61 ab aa).f1) < 0
      ·rw [if_pos c26] at H
       have aL := qqT c26;clear c26;(first | rw [aL] | (simp only [i64_w, i32_w]; rw [aL]) | skip);have H' := Aside0.mk H;clear H;have dP := ai.out;have dQ := ah.out;have Z28 := kz4 ae;go_wp2;go_meet
       case rel => exact ⟨_, (true), et, H', ⟨by have := HK1.out; have := ap.out; first | omega | exact Nat.le_refl _⟩, ⟨krR af⟩, ⟨kg ag⟩, ⟨kg ae⟩, ⟨kh HB⟩⟩
      rw [if_neg c26] at H;have aL := qqF c26;clear c26;(first | rw [aL] | (simp only [i64_w, i32_w]; rw [aL]) | skip)
      by_cases c29 : ((rd_T61 ab aa).f1) ≥ aa
      ·rw [if_pos c29] at H
       have cl := qqT c29;clear c29;have H' := Aside0.mk H;clear H;have dR := ai.out;have dS := ah.out;have Z31 := kz4 ae;go_wp2;go_meet
       case rel => exact ⟨_, (true), et, H', ⟨by have := HK1.out; have := ap.out; first | omega | exact Nat.le_refl _⟩, ⟨krR af⟩, ⟨kg ag⟩, ⟨kg ae⟩, ⟨kh HB⟩⟩
      rw [if_neg c29] at H;have cl := qqF c29;clear c29
      by_cases c32 : ((rd_T61 ab aa).f2) < 0
      ·rw [if_pos c32] at H
       have cm := qqT c32;clear c32;have H' := Aside0.mk H;clear H;have dT := ai.out;have dU := ah.out;have Z34 := kz4 ae;go_wp2;go_meet
       case rel => exact ⟨_, (true), et, H', ⟨by have := HK1.out; have := ap.out; first | omega | exact Nat.le_refl _⟩, ⟨krR af⟩, ⟨kg ag⟩, ⟨kg ae⟩, ⟨kh HB⟩⟩
      rw [if_neg c32] at H;have cm := qqF c32;clear c32;have H' := Aside0.mk H;clear H;have dV := ai.out;have dW := ah.out;have Z36 := kz4 ae;go_wp2;go_meet
      case rel => exact ⟨_, (decide (((rd_T61 ab aa).f2) ≥ aa)), et, H', ⟨by have := HK1.out; have := ap.out; first | omega | exact Nat.le_refl _⟩, ⟨krR af⟩, ⟨kg ag⟩, ⟨kg ae⟩, ⟨kh HB⟩⟩
     replace c25 := Bool.eq_false_iff.mpr c25;subst c25;replace H := ifF H
     by_cases c37 : ((rd_T61 ab aa).f0) = 6
     rotate_left
     ·rw [if_neg c37] at H
      have cn := beq_eq_false_iff_ne.mpr c37;have co := bne_iff_ne.mpr c37;have H' := Aside0.mk H;clear H;have dX := ai.out;have dY := ah.out;have Z47 := kz4 ae;go_wp2;go_meet
      case rel => exact ⟨_, (false), et, H', ⟨by have := HK1.out; have := ap.out; first | omega | exact Nat.le_refl _⟩, ⟨krR af⟩, ⟨kg ag⟩, ⟨kg ae⟩, ⟨kh HB⟩⟩
     rw [if_pos c37] at H;have cn := beq_iff_eq.mpr c37;have co := bne_eq_false_iff_eq.mpr c37;clear c37
     by_cases c38 : ((rd_T61 ab aa).f1) < 0
     ·rw [if_pos c38] at H
      have cp := qqT c38;clear c38;have H' := Aside0.mk H;clear H;have dZ := ai.out;have eb := ah.out;have Z40 := kz4 ae;go_wp2;go_meet
      case rel => exact ⟨_, (true), et, H', ⟨by have := HK1.out; have := ap.out; first | omega | exact Nat.le_refl _⟩, ⟨krR af⟩, ⟨kg ag⟩, ⟨kg ae⟩, ⟨kh HB⟩⟩
     rw [if_neg c38] at H;have cp := qqF c38;clear c38
     by_cases c41 : ((rd_T61 ab aa).f1) ≥ aa
     ·rw [if_pos c41] at H
      have cq := qqT c41;clear c41;have H' := Aside0.mk H;clear H;have ed := ai.out;have ee := ah.out;have Z43 := kz4 ae;go_wp2;go_meet
      case rel => exact ⟨_, (true), et, H', ⟨by have := HK1.out; have := ap.out; first | omega | exact Nat.le_refl _⟩, ⟨krR af⟩, ⟨kg ag⟩, ⟨kg ae⟩, ⟨kh HB⟩⟩
     rw [if_neg c41] at H;have cq := qqF c41;clear c41;have H' := Aside0.mk H;clear H;have ef := ai.out;have eh := ah.out;have Z45 := kz4 ae;go_wp2;go_meet
     case rel => exact ⟨_, (false), et, H', ⟨by have := HK1.out; have := ap.out; first | omega | exact Nat.le_refl _⟩, ⟨krR af⟩, ⟨kg ag⟩, ⟨kg ae⟩, ⟨kh HB⟩⟩
    clear bG;obtain ⟨kq, aF, rfl, HA, av, af, ag, ae, HB⟩ := hcut
    cases kq with
    | zero => exact absurd HA.out (by simp [tune_Levels.j2])
    | succ au =>
     have H := HA.out;clear HA;simp only [tune_Levels.j2] at H
     by_cases c48 : aF = true
     ·subst c48
      replace H := ifT H;obtain rfl := qqI H;go_wp2;go_ret;exact ⟨_, er, by first | exact Kd.R_nil _ _ _ _ _ | exact Kd.N_nil _ _ _ _ _ | exact Kd.V_nil _ _ _ _ _ | exact Kd.Q_nil _ _ _ _ _ | exact Kd.S_nil _ _ _ _ _, kh HB⟩
     replace c48 := Bool.eq_false_iff.mpr c48;subst c48;replace H := ifF H
     by_cases c49 : aE = true
     rotate_left
     ·replace c49 := Bool.eq_false_iff.mpr c49
      subst c49;replace H := ifF H
      by_cases c74 : ((rd_T61 ab aa).f0) = 6
      rotate_left
      ·rw [if_neg c74] at H
       have cr := beq_eq_false_iff_ne.mpr c74;have ct := bne_iff_ne.mpr c74
       by_cases c96 : ((rd_T61 ab aa).f0) = 5
       rotate_left
       ·rw [if_neg c96] at H
        have cu := beq_eq_false_iff_ne.mpr c96;have cv := bne_iff_ne.mpr c96;have H' := Aside0.mk H;clear H;have df := ai.out;have dg := ah.out;have eL := kz4 ae;go_wp2;go_roundg au
        case measure => have := HK1.out; have := ap.out; have := av.out; omega
        case rel => exact ⟨(aj), (wrap64 (aa + 1)), et, H', ⟨by have := HK1.out; have := ap.out; have := av.out; omega⟩, ⟨krR af⟩, ⟨kg ag⟩, ⟨kh HB⟩⟩
       rw [if_pos c96] at H;have cu := beq_iff_eq.mpr c96;have cv := bne_eq_false_iff_eq.mpr c96;clear c96
       by_cases c97 : 0 ≤ aa
       rotate_left
       ·rw [if_neg c97] at H
        exact absurd H (by simp)
       rw [if_pos c97] at H;have ei := qqT c97;clear c97
       by_cases c98 : aa < (aj.length : Int)
       rotate_left
       ·rw [if_neg c98] at H
        exact absurd H (by simp)
       rw [if_pos c98] at H;have ej := qqT c98;clear c98;obtain ⟨bH, aM⟩ : ∃ y_ : List Int, y_ = (aj.set (aa : Int).toNat (wrap64 ((rd aj aa) + 1))) := ⟨_, rfl⟩
       replace H : (tune_Levels.l0 au bH ab (ab.length : Int) (wrap64 (aa + 1))) = some r := by first | (rw [aM]; with_reducible exact H) | (have H2_ := (Option.bind_some _ _).symm.trans H; rw [aM]; with_reducible exact H2_) | (have H2_ := (Option.bind_some _ _).symm.trans H; with_reducible exact H2_) | with_reducible exact H | (rw [aM]; exact H) | exact H
       have cw := Aside0.mk aM;clear aM;have H' := Aside0.mk H;clear H;have dh := ai.out;have di := ah.out;have eM := kz4 ae;obtain ⟨ek, cx, cy⟩ := Kd.R_slice af.out;subst cy;have bI : 0 ≤ (aa : Int) := od;have bJ : aa < (aj.length : Int) := od;obtain ⟨el, dj, bu⟩ := Kd.at_int (Kd.R_reads' af.out).2.2 aa bI bJ;cases dj;replace bI := eq_true bI; replace bJ := eq_true bJ;have p99 : 0 ≤ (aa : Int) := od;have q99 : (aa : Int) < ((aj.length : Int) : Int) := od;obtain ⟨bK, eN, cz, cA, gl99, cl99, HG99⟩ := Kd.R_form af.out (by omega);(first | cases cz | (injection cz with ea_ en_ ec_; (first | subst ea_ | (injection ea_ with ea_; subst ea_)); subst ec_; clear en_));have dk := Aside0.mk cA;have eO := Aside0.mk HG99;clear cA gl99 HG99;(first | simp only [add_plain] at bu | skip);obtain ⟨dl, dm⟩ := Kd.R_celln 0 af.out (aa : Int) p99 q99;replace p99 := eq_true p99; replace q99 := eq_true q99;have bg := Kd.R_putg af.out (aa : Int) (wrap64 ((rd aj aa) + 1));go_wp2_with (first | ((with_reducible refine gate_store (t := 3) (p := 99) rfl ?_); refine store_event (t := 3) (p := 99) (v := ?vo_w104) (w1 := (wc.setCell ⟨bK, (aa : Int).toNat, none⟩ (.int .i64 (wrap64 ((rd aj aa) + 1))))) ?hg ?ho ?hn ?hr ?_; (case ho => rfl); (case hg => rfl); (case hn => rfl); (case hr => go_simp; try rfl); intro bL hw; have hg : wc.grownBy bL (some bK) := (by rw [hw]; exact bg.2); have hp_ : Kd.R (Kd.int .i64) 3 bL w.heap.size (fun _ => True) (.slice (some ⟨bK, 0, none⟩) aj.length cx) bH := (by rw [hw, cw.out]; exact bg.1); clear bg; replace ag := kXR ag af hg; replace ae := kXR ae af hg; replace af := Aside0.mk (hp_); replace HB := Aside0.mk ((by rw [hw]; exact below_set (HB.out) dk.out : Below w.heap.size w bL)); clear hg hw hp_));go_roundg au
       case measure => have := HK1.out; have := ap.out; have := av.out; omega
       case rel => exact ⟨(bH), (wrap64 (aa + 1)), et, H', ⟨by have := HK1.out; have := ap.out; have := av.out; omega⟩, ⟨krR af⟩, ⟨kg ag⟩, ⟨kh HB⟩⟩
      rw [if_pos c74] at H;have cr := beq_iff_eq.mpr c74;have ct := bne_eq_false_iff_eq.mpr c74;clear c74
      by_cases c75 : 0 ≤ ((rd_T61 ab aa).f1)
      rotate_left
      ·rw [if_neg c75] at H
       exact absurd H (by simp)
      rw [if_pos c75] at H;have em := qqT c75;clear c75
      by_cases c76 : ((rd_T61 ab aa).f1) < (aj.length : Int)
      rotate_left
      ·rw [if_neg c76] at H
       exact absurd H (by simp)
      rw [if_pos c76] at H;have ep := qqT c76;clear c76
      by_cases c77 : 0 ≤ aa
      rotate_left
      ·rw [if_neg c77] at H
       exact absurd H (by simp)
      rw [if_pos c77] at H;have eq := qqT c77;clear c77
      by_cases c78 : aa < (aj.length : Int)
      rotate_left
      ·rw [if_neg c78] at H
       exact absurd H (by simp)
      rw [if_pos c78] at H;have es := qqT c78;clear c78;obtain ⟨aA, aN⟩ : ∃ y_ : List Int, y_ = (aj.set (aa : Int).toNat (rd aj ((rd_T61 ab aa).f1))) := ⟨_, rfl⟩
      replace H : (if ((rd_T61 ab aa).f0) = 5 then (tune_Levels.l0 au (aA.set (aa : Int).toNat (wrap64 ((rd aA aa) + 1))) ab (ab.length : Int) (wrap64 (aa + 1))) else (tune_Levels.l0 au aA ab (ab.length : Int) (wrap64 (aa + 1)))) = some r := by first | (rw [aN]; with_reducible exact H) | (have H2_ := (Option.bind_some _ _).symm.trans H; rw [aN]; with_reducible exact H2_) | (have H2_ := (Option.bind_some _ _).symm.trans H; with_reducible exact H2_) | with_reducible exact H | (rw [aN]; exact H) | exact H
      have bh := Aside0.mk aN;clear aN
      by_cases c80 : ((rd_T61 ab aa).f0) = 5
      rotate_left
      ·rw [if_neg c80] at H
       have cB := beq_eq_false_iff_ne.mpr c80;have cC := bne_iff_ne.mpr c80;have H' := Aside0.mk H;clear H;have eu := ai.out;have ev := ah.out;have Z91 := kz4 ae;obtain ⟨eP, dn, dp⟩ := Kd.R_slice af.out;subst dp;have aW : 0 ≤ (((rd_T61 ab aa).f1) : Int) := od;have aX : ((rd_T61 ab aa).f1) < (aj.length : Int) := od;obtain ⟨cD, bM, aG⟩ := Kd.at_int (Kd.R_reads' af.out).2.2 ((rd_T61 ab aa).f1) aW aX;cases bM;replace aW := eq_true aW; replace aX := eq_true aX;have p79 : 0 ≤ (aa : Int) := od;have q79 : (aa : Int) < ((aj.length : Int) : Int) := od;obtain ⟨aB, dq, bi, bj, gl79, cl79, HG79⟩ := Kd.R_form af.out (by omega);(first | cases bi | (injection bi with ea_ en_ ec_; (first | subst ea_ | (injection ea_ with ea_; subst ea_)); subst ec_; clear en_));have bv := Aside0.mk bj;have dr := Aside0.mk HG79;clear bj gl79 HG79;(first | simp only [add_plain] at aG | skip);obtain ⟨bN, bO⟩ := Kd.R_celln 0 af.out (aa : Int) p79 q79;replace p79 := eq_true p79; replace q79 := eq_true q79;have bP := Kd.R_putg af.out (aa : Int) (rd aj ((rd_T61 ab aa).f1));go_wp2_with (first | ((with_reducible refine gate_store (t := 3) (p := 90) rfl ?_); refine store_event (t := 3) (p := 90) (v := ?vo_w94) (w1 := (wc.setCell ⟨aB, (aa : Int).toNat, none⟩ (.int .i64 (rd aj ((rd_T61 ab aa).f1))))) ?hg ?ho ?hn ?hr ?_; (case ho => rfl); (case hg => rfl); (case hn => rfl); (case hr => go_simp; try rfl); intro w94 hw; have hg : wc.grownBy w94 (some aB) := (by rw [hw]; exact bP.2); have hp_ : Kd.R (Kd.int .i64) 3 w94 w.heap.size (fun _ => True) (.slice (some ⟨aB, 0, none⟩) aj.length dn) aA := (by rw [hw, bh.out]; exact bP.1); clear bP; replace ag := kXR ag af hg; replace ae := kXR ae af hg; replace af := Aside0.mk (hp_); replace HB := Aside0.mk ((by rw [hw]; exact below_set (HB.out) bv.out : Below w.heap.size w w94)); clear hg hw hp_; have Z95 := kz4 ae));go_roundg au
       case measure => have := HK1.out; have := ap.out; have := av.out; omega
       case rel => exact ⟨(aA), (wrap64 (aa + 1)), et, H', ⟨by have := HK1.out; have := ap.out; have := av.out; omega⟩, ⟨krR af⟩, ⟨kg ag⟩, ⟨kh HB⟩⟩
      rw [if_pos c80] at H;have cB := beq_iff_eq.mpr c80;have cC := bne_eq_false_iff_eq.mpr c80;clear c80;obtain ⟨bQ, aO⟩ : ∃ y_ : List Int, y_ = (aA.set (aa : Int).toNat (wrap64 ((rd aA aa) + 1))) := ⟨_, rfl⟩
      replace H : (tune_Levels.l0 au bQ ab (ab.length : Int) (wrap64 (aa + 1))) = some r := by first | (rw [aO]; with_reducible exact H) | (have H2_ := (Option.bind_some _ _).symm.trans H; rw [aO]; with_reducible exact H2_) | (have H2_ := (Option.bind_some _ _).symm.trans H; with_reducible exact H2_) | with_reducible exact H | (rw [aO]; exact H) | exact H
      have cE := Aside0.mk aO;clear aO;have H' := Aside0.mk H;clear H;have ew := ai.out;have ex := ah.out;have Z83 := kz4 ae;obtain ⟨eQ, cF, dt⟩ := Kd.R_slice af.out;subst dt;have aW : 0 ≤ (((rd_T61 ab aa).f1) : Int) := od;have aX : ((rd_T61 ab aa).f1) < (aj.length : Int) := od;obtain ⟨cD, bM, aG⟩ := Kd.at_int (Kd.R_reads' af.out).2.2 ((rd_T61 ab aa).f1) aW aX;cases bM;replace aW := eq_true aW; replace aX := eq_true aX;have p79 : 0 ≤ (aa : Int) := od;have q79 : (aa : Int) < ((aj.length : Int) : Int) := od;obtain ⟨aB, dq, bi, bj, gl79, cl79, HG79⟩ := Kd.R_form af.out (by omega);(first | cases bi | (injection bi with ea_ en_ ec_; (first | subst ea_ | (injection ea_ with ea_; subst ea_)); subst ec_; clear en_));have bv := Aside0.mk bj;have dr := Aside0.mk HG79;clear bj gl79 HG79;(first | simp only [add_plain] at aG | skip);obtain ⟨bN, bO⟩ := Kd.R_celln 0 af.out (aa : Int) p79 q79;replace p79 := eq_true p79; replace q79 := eq_true q79;have bR := Kd.R_putg af.out (aa : Int) (rd aj ((rd_T61 ab aa).f1));go_wp2_with (first | ((with_reducible refine gate_store (t := 3) (p := 90) rfl ?_); refine store_event (t := 3) (p := 90) (v := ?vo_w86) (w1 := (wc.setCell ⟨aB, (aa : Int).toNat, none⟩ (.int .i64 (rd aj ((rd_T61 ab aa).f1))))) ?hg ?ho ?hn ?hr ?_; (case ho => rfl); (case hg => rfl); (case hn => rfl); (case hr => go_simp; try rfl); intro w86 hw; have hg : wc.grownBy w86 (some aB) := (by rw [hw]; exact bR.2); have hp_ : Kd.R (Kd.int .i64) 3 w86 w.heap.size (fun _ => True) (.slice (some ⟨aB, 0, none⟩) aj.length cF) aA := (by rw [hw, bh.out]; exact bR.1); clear bR; replace ag := kXR ag af hg; replace ae := kXR ae af hg; replace af := Aside0.mk (hp_); replace HB := Aside0.mk ((by rw [hw]; exact below_set (HB.out) bv.out : Below w.heap.size w w86)); clear hg hw hp_; have Z87 := kz4 ae; have bS : 0 ≤ (aa : Int) := od; have bT : aa < (aA.length : Int) := (by have h_ : (aa : Int) < ((aj.length : Int) : Int) := od; first | (have e_ := (Kd.R_reads' af.out).1; omega) | simpa only [bh.out, List.length_set] using h_); have ql141 : ((aa : Int) < ((aj.length : Int) : Int)) = True := eq_true od; obtain ⟨cG, du, aH⟩ := Kd.at_int (Kd.R_reads' af.out).2.2 aa bS bT; obtain rfl : (⟨aB, 0, none⟩ : Addr) = cG := (by injection du); (first | simp only [add_plain] at aH | simp only [add_at] at aH | simp only [Addr.add, Nat.zero_add] at aH | skip); replace bS := eq_true bS; replace bT := eq_true bT; have p81 : 0 ≤ (aa : Int) := od; have q81 : (aa : Int) < ((aj.length : Int) : Int) := od; obtain ⟨dv, dw⟩ := Kd.R_celln 0 af.out (aa : Int) p81 q81; replace p81 := eq_true p81; replace q81 := eq_true q81; obtain ⟨ey, ez⟩ := Kd.R_celln 0 af.out (aa : Int) od od; have bU := Kd.R_putg af.out (aa : Int) (wrap64 ((rd aA aa) + 1))) | ((with_reducible refine gate_store (t := 3) (p := 99) rfl ?_); refine store_event (t := 3) (p := 99) (v := ?vo_w89) (w1 := (w86.setCell ⟨aB, (aa : Int).toNat, none⟩ (.int .i64 (wrap64 ((rd aA aa) + 1))))) ?hg ?ho ?hn ?hr ?_; (case ho => rfl); (case hg => rfl); (case hn => rfl); (case hr => go_simp; try rfl); intro w89 hw; have hg : w86.grownBy w89 (some aB) := (by rw [hw]; exact bU.2); have hp_ : Kd.R (Kd.int .i64) 3 w89 w.heap.size (fun _ => True) (.slice (some ⟨aB, 0, none⟩) aj.length cF) bQ := (by rw [hw, cE.out]; exact bU.1); clear bU; replace ag := kXR ag af hg; replace ae := kXR ae af hg; replace af := Aside0.mk (hp_); replace HB := Aside0.mk ((by rw [hw]; exact below_set (HB.out) bv.out : Below w.heap.size w w89)); clear hg hw hp_));go_roundg au
      case measure => have := HK1.out; have := ap.out; have := av.out; omega
      case rel => exact ⟨(bQ), (wrap64 (aa + 1)), et, H', ⟨by have := HK1.out; have := ap.out; have := av.out; omega⟩, ⟨krR af⟩, ⟨kg ag⟩, ⟨kh HB⟩⟩
     subst c49;replace H := ifT H
     by_cases c50 : 0 ≤ ((rd_T61 ab aa).f1)
     rotate_left
     ·rw [if_neg c50] at H
      exact absurd H (by simp)
     rw [if_pos c50] at H;have eA := qqT c50;clear c50
     by_cases c51 : ((rd_T61 ab aa).f1) < (aj.length : Int)
     rotate_left
     ·rw [if_neg c51] at H
      exact absurd H (by simp)
     rw [if_pos c51] at H;have eB := qqT c51;clear c51
     by_cases c52 : 0 ≤ ((rd_T61 ab aa).f2)
     rotate_left
     ·rw [if_neg c52] at H
      exact absurd H (by simp)
     rw [if_pos c52] at H;have eC := qqT c52;clear c52
     by_cases c53 : ((rd_T61 ab aa).f2) < (aj.length : Int)
     rotate_left
     ·rw [if_neg c53] at H
      exact absurd H (by simp)
     rw [if_pos c53] at H;have eD := qqT c53;clear c53;obtain ⟨an, bk⟩ : ∃ j_ : Int, (mx (rd aj ((rd_T61 ab aa).f1)) (rd aj ((rd_T61 ab aa).f2))) = j_ := ⟨_, rfl⟩
     replace H : (if 0 ≤ aa then (if aa < (aj.length : Int) then ((some (aj.set (aa : Int).toNat (an) : List Int)).bind fun aI => (if ((rd_T61 ab aa).f0) = 5 then (tune_Levels.l0 au (aI.set (aa : Int).toNat (wrap64 ((an) + 1))) ab (ab.length : Int) (wrap64 (aa + 1))) else (tune_Levels.l0 au aI ab (ab.length : Int) (wrap64 (aa + 1))))) else (none)) else (none)) = some r := by first | (rw [bk] at H; exact H) | (simp only [bk] at H ⊢; exact H)
     have hji54_ : (if (rd aj ((rd_T61 ab aa).f1)) < (rd aj ((rd_T61 ab aa).f2)) then (rd aj ((rd_T61 ab aa).f2)) else (rd aj ((rd_T61 ab aa).f1))) = an := bk
     by_cases c55 : 0 ≤ aa
     rotate_left
     ·rw [if_neg c55] at H
      exact absurd H (by simp)
     rw [if_pos c55] at H;have eE := qqT c55;clear c55
     by_cases c56 : aa < (aj.length : Int)
     rotate_left
     ·rw [if_neg c56] at H
      exact absurd H (by simp)
     rw [if_pos c56] at H;have eF := qqT c56;clear c56;obtain ⟨aI, aP⟩ : ∃ y_ : List Int, y_ = (aj.set (aa : Int).toNat (an)) := ⟨_, rfl⟩
     replace H : (if ((rd_T61 ab aa).f0) = 5 then (tune_Levels.l0 au (aI.set (aa : Int).toNat (wrap64 ((an) + 1))) ab (ab.length : Int) (wrap64 (aa + 1))) else (tune_Levels.l0 au aI ab (ab.length : Int) (wrap64 (aa + 1)))) = some r := by first | (rw [aP]; with_reducible exact H) | (have H2_ := (Option.bind_some _ _).symm.trans H; rw [aP]; with_reducible exact H2_) | (have H2_ := (Option.bind_some _ _).symm.trans H; with_reducible exact H2_) | with_reducible exact H | (rw [aP]; exact H) | exact H
     have bl := Aside0.mk aP;clear aP
     by_cases c58 : ((rd_T61 ab aa).f0) = 5
     rotate_left
     ·rw [if_neg c58] at H
      have cH := beq_eq_false_iff_ne.mpr c58;have cI := bne_iff_ne.mpr c58;have H' := Aside0.mk H;clear H;(try go_wp2);replace af := kFR af; replace ag := kD ag; replace ae := kD ae; replace HB := kE HB;obtain ⟨eR, eS, cJ⟩ := Kd.R_slice af.out;(first | subst cJ | (injection cJ with f1_ f2_ f3_; have f4_ := f1_.symm; have f5_ := f3_.symm; clear f1_ f2_ f3_; subst f4_; subst f5_));have aY : 0 ≤ (((rd_T61 ab aa).f1) : Int) := od;have aZ : ((rd_T61 ab aa).f1) < (aj.length : Int) := od;obtain ⟨bm, bV, aq⟩ := Kd.at_int (Kd.R_reads' af.out).2.2 ((rd_T61 ab aa).f1) aY aZ;cases bV;replace aY := eq_true aY; replace aZ := eq_true aZ;have ba : 0 ≤ (((rd_T61 ab aa).f2) : Int) := od;have bb : ((rd_T61 ab aa).f2) < (aj.length : Int) := od;obtain ⟨bn, bW, ar⟩ := Kd.at_int (Kd.R_reads' af.out).2.2 ((rd_T61 ab aa).f2) ba bb;obtain rfl : bm = bn := (by injection bW);replace ba := eq_true ba; replace bb := eq_true bb;have p57 : 0 ≤ (aa : Int) := od;have q57 : (aa : Int) < ((aj.length : Int) : Int) := od;obtain ⟨ao, dx, bo, bp, gl57, cl57, HG57⟩ := Kd.R_form af.out (by omega);(first | cases bo | (injection bo with ea_ en_ ec_; (first | subst ea_ | (injection ea_ with ea_; subst ea_)); subst ec_; clear en_));have cK := Aside0.mk bp;have bX := Aside0.mk HG57;clear bp gl57 HG57;(first | simp only [add_plain] at aq | skip);(first | simp only [add_plain] at ar | skip);obtain ⟨bc, bd⟩ := Kd.R_celln 0 af.out (aa : Int) p57 q57;replace p57 := eq_true p57; replace q57 := eq_true q57;have bY := Kd.R_putn af.out (aa : Int) an;rw [← bl.out] at bY;have cL := Aside0.mk bY;clear bY;refine start_ (n := 15) (S := fun w' => w'.cell? ⟨ak, 0, none⟩ = some (.int .i64 ((rd_T61 ab aa).f0)) ∧ w'.cell? ⟨ak, 1, none⟩ = some (.int .i64 ((rd_T61 ab aa).f1)) ∧ w'.cell? ⟨ak, 2, none⟩ = some (.int .i64 ((rd_T61 ab aa).f2)) ∧ w'.cell? ⟨ak, 3, none⟩ = some (.int .u64 ((rd_T61 ab aa).f3)) ∧ w'.cell? ⟨ao, (((rd_T61 ab aa).f1)).toNat, none⟩ = some (.int .i64 (rd aj ((rd_T61 ab aa).f1))) ∧ w'.cell? ⟨ao, (((rd_T61 ab aa).f2)).toNat, none⟩ = some (.int .i64 (rd aj ((rd_T61 ab aa).f2)))) (ds := [14]) (bs 15 0) (by kernel_rfl) rfl rfl ⟨kk ae 0, kk ae 1, kk ae 2, kk ae 3, aq, ar⟩ (fun hHeld => ?_); refine with_tabW tune_Levels.tab9 tune_Levels.bits9 (fun HT_ HW_ => ?_);generalize wc.drew = w69 at af ag ae HB bX cL bd aq ar bc hHeld ⊢;refine pu 0 (some 65) (bs 15 1) HT_ ?_;refine pu 1 (some 66) (bs 15 3) HT_ ?_;refine pu 2 (some 67) (bs 15 7) HT_ ?_;refine pu 3 (some 68) (bs 15 15) HT_ ?_;refine pu 7 (some 72) (bs 15 143) HT_ ?_;refine pu 8 (some 73) (bs 15 399) HT_ ?_;refine ta 4 (some 69) (bs 15 415) HT_ HW_ hHeld ?_;refine pu 5 (some 70) (bs 15 447) HT_ ?_;refine ta 6 (some 71) (bs 15 511) HT_ HW_ hHeld ?_;refine ta 9 (some 74) (bs 15 1023) HT_ HW_ hHeld ?_;refine pu 10 (some 75) (bs 15 2047) HT_ ?_;refine ta 11 (some 76) (bs 15 4095) HT_ HW_ hHeld ?_;refine pu 12 (some 77) (bs 15 8191) HT_ ?_;refine pu 13 (some 78) (bs 15 16383) HT_ ?_;refine last_ (i := 14) (N := none) (bs 15 32767) rfl rfl (one_of HT_.out (by kernel_rfl)) (by decide) (fun K hK => ?_);refine skip_ (w1 := ?_) (by rfl) rfl ?_ ?_
      rotate_left
      ·go_simp
       rfl
      refine hK.out _ _ ?_;clear hK K;refine done_ (done_of HT_.out (by kernel_rfl)) ?_;have eG := ai.out;have eH := ah.out;have cR : (w69.setCell ⟨ao, (aa : Int).toNat, none⟩ (.int .i64 an)).cell? ⟨ak, 0, none⟩ = some (.int .i64 ((rd_T61 ab aa).f0)) := (blk_cell (blk_far (p := ⟨ao, (aa : Int).toNat, none⟩) ae.out (by have h_ := Kd.R_ne af.out ae.out (by decide); intro e_; exact h_ (by rw [e_]; rfl)) (.int .i64 an)) 0).trans rfl;have cS : (w69.setCell ⟨ao, (aa : Int).toNat, none⟩ (.int .i64 an)).cell? ⟨ak, 1, none⟩ = some (.int .i64 ((rd_T61 ab aa).f1)) := (blk_cell (blk_far (p := ⟨ao, (aa : Int).toNat, none⟩) ae.out (by have h_ := Kd.R_ne af.out ae.out (by decide); intro e_; exact h_ (by rw [e_]; rfl)) (.int .i64 an)) 1).trans rfl;have cT : (w69.setCell ⟨ao, (aa : Int).toNat, none⟩ (.int .i64 an)).cell? ⟨ak, 2, none⟩ = some (.int .i64 ((rd_T61 ab aa).f2)) := (blk_cell (blk_far (p := ⟨ao, (aa : Int).toNat, none⟩) ae.out (by have h_ := Kd.R_ne af.out ae.out (by decide); intro e_; exact h_ (by rw [e_]; rfl)) (.int .i64 an)) 2).trans rfl;have cU : (w69.setCell ⟨ao, (aa : Int).toNat, none⟩ (.int .i64 an)).cell? ⟨ak, 3, none⟩ = some (.int .u64 ((rd_T61 ab aa).f3)) := (blk_cell (blk_far (p := ⟨ao, (aa : Int).toNat, none⟩) ae.out (by have h_ := Kd.R_ne af.out ae.out (by decide); intro e_; exact h_ (by rw [e_]; rfl)) (.int .i64 an)) 3).trans rfl;have cV := blk_frozen ae.out 0;have cW := blk_frozen ae.out 1;have cX := blk_frozen ae.out 2;have cY := blk_frozen ae.out 3;(try go_wp2);go_roundg au
      case measure => have := HK1.out; have := ap.out; have := av.out; omega
      case rel => exact ⟨(aI), (wrap64 (aa + 1)), et, H', ⟨by have := HK1.out; have := ap.out; have := av.out; omega⟩, ⟨krR cL⟩, ⟨by (with_reducible repeat first | refine blk_drewN ?_ _ | refine blk_drew ?_ | refine blk_alloc ?_ _); refine blk_far ?_ (by have h_ := Kd.R_ne af.out ag.out (by decide); intro e_; exact h_ (by rw [e_]; rfl)) _; (with_reducible repeat first | refine blk_drewN ?_ _ | refine blk_drew ?_ | refine blk_alloc ?_ _); exact ag.out⟩, ⟨kh HB⟩⟩
     rw [if_pos c58] at H;have cH := beq_iff_eq.mpr c58;have cI := bne_eq_false_iff_eq.mpr c58;clear c58;obtain ⟨bZ, aQ⟩ : ∃ y_ : List Int, y_ = (aI.set (aa : Int).toNat (wrap64 ((an) + 1))) := ⟨_, rfl⟩
     replace H : (tune_Levels.l0 au bZ ab (ab.length : Int) (wrap64 (aa + 1))) = some r := by first | (rw [aQ]; with_reducible exact H) | (have H2_ := (Option.bind_some _ _).symm.trans H; rw [aQ]; with_reducible exact H2_) | (have H2_ := (Option.bind_some _ _).symm.trans H; with_reducible exact H2_) | with_reducible exact H | (rw [aQ]; exact H) | exact H
     have cM := Aside0.mk aQ;clear aQ;have H' := Aside0.mk H;clear H;(try go_wp2);replace af := kFR af; replace ag := kD ag; replace ae := kD ae; replace HB := kE HB;obtain ⟨eT, cN, cO⟩ := Kd.R_slice af.out;(first | subst cO | (injection cO with f1_ f2_ f3_; have f4_ := f1_.symm; have f5_ := f3_.symm; clear f1_ f2_ f3_; subst f4_; subst f5_));have aY : 0 ≤ (((rd_T61 ab aa).f1) : Int) := od;have aZ : ((rd_T61 ab aa).f1) < (aj.length : Int) := od;obtain ⟨bm, bV, aq⟩ := Kd.at_int (Kd.R_reads' af.out).2.2 ((rd_T61 ab aa).f1) aY aZ;cases bV;replace aY := eq_true aY; replace aZ := eq_true aZ;have ba : 0 ≤ (((rd_T61 ab aa).f2) : Int) := od;have bb : ((rd_T61 ab aa).f2) < (aj.length : Int) := od;obtain ⟨bn, bW, ar⟩ := Kd.at_int (Kd.R_reads' af.out).2.2 ((rd_T61 ab aa).f2) ba bb;obtain rfl : bm = bn := (by injection bW);replace ba := eq_true ba; replace bb := eq_true bb;have p57 : 0 ≤ (aa : Int) := od;have q57 : (aa : Int) < ((aj.length : Int) : Int) := od;obtain ⟨ao, dx, bo, bp, gl57, cl57, HG57⟩ := Kd.R_form af.out (by omega);(first | cases bo | (injection bo with ea_ en_ ec_; (first | subst ea_ | (injection ea_ with ea_; subst ea_)); subst ec_; clear en_));have cK := Aside0.mk bp;have bX := Aside0.mk HG57;clear bp gl57 HG57;(first | simp only [add_plain] at aq | skip);(first | simp only [add_plain] at ar | skip);obtain ⟨bc, bd⟩ := Kd.R_celln 0 af.out (aa : Int) p57 q57;replace p57 := eq_true p57; replace q57 := eq_true q57;have ca := Kd.R_putn af.out (aa : Int) an;rw [← bl.out] at ca;have cP := Aside0.mk ca;clear ca;refine start_ (n := 15) (S := fun w' => w'.cell? ⟨ak, 0, none⟩ = some (.int .i64 ((rd_T61 ab aa).f0)) ∧ w'.cell? ⟨ak, 1, none⟩ = some (.int .i64 ((rd_T61 ab aa).f1)) ∧ w'.cell? ⟨ak, 2, none⟩ = some (.int .i64 ((rd_T61 ab aa).f2)) ∧ w'.cell? ⟨ak, 3, none⟩ = some (.int .u64 ((rd_T61 ab aa).f3)) ∧ w'.cell? ⟨ao, (((rd_T61 ab aa).f1)).toNat, none⟩ = some (.int .i64 (rd aj ((rd_T61 ab aa).f1))) ∧ w'.cell? ⟨ao, (((rd_T61 ab aa).f2)).toNat, none⟩ = some (.int .i64 (rd aj ((rd_T61 ab aa).f2)))) (ds := [14]) (bs 15 0) (by kernel_rfl) rfl rfl ⟨kk ae 0, kk ae 1, kk ae 2, kk ae 3, aq, ar⟩ (fun hHeld => ?_); refine with_tabW tune_Levels.tab9 tune_Levels.bits9 (fun HT_ HW_ => ?_);generalize wc.drew = w61 at af ag ae HB bX cP bd aq ar bc hHeld ⊢;refine pu 0 (some 65) (bs 15 1) HT_ ?_;refine pu 1 (some 66) (bs 15 3) HT_ ?_;refine pu 2 (some 67) (bs 15 7) HT_ ?_;refine pu 3 (some 68) (bs 15 15) HT_ ?_;refine pu 7 (some 72) (bs 15 143) HT_ ?_;refine pu 8 (some 73) (bs 15 399) HT_ ?_;refine ta 4 (some 69) (bs 15 415) HT_ HW_ hHeld ?_;refine pu 5 (some 70) (bs 15 447) HT_ ?_;refine ta 6 (some 71) (bs 15 511) HT_ HW_ hHeld ?_;refine ta 9 (some 74) (bs 15 1023) HT_ HW_ hHeld ?_;refine pu 10 (some 75) (bs 15 2047) HT_ ?_;refine ta 11 (some 76) (bs 15 4095) HT_ HW_ hHeld ?_;refine pu 12 (some 77) (bs 15 8191) HT_ ?_;refine pu 13 (some 78) (bs 15 16383) HT_ ?_;refine last_ (i := 14) (N := none) (bs 15 32767) rfl rfl (one_of HT_.out (by kernel_rfl)) (by decide) (fun K hK => ?_);refine skip_ (w1 := ?_) (by rfl) rfl ?_ ?_
     rotate_left
     ·go_simp
      rfl
     refine hK.out _ _ ?_;clear hK K;refine done_ (done_of HT_.out (by kernel_rfl)) ?_;have n0_ : Aside0 (Kd.R (Kd.int .i64) 3 (w61.setCell ⟨ao, (aa : Int).toNat, none⟩ (.int .i64 an)) w.heap.size (fun _ => True) (.slice (some ⟨ao, 0, none⟩) aj.length cN) aI) := ⟨krR cP⟩;have n1_ : Aside0 ((w61.setCell ⟨ao, (aa : Int).toNat, none⟩ (.int .i64 an)).heap[be]? = some (.cells #[.slice aR aC.length aS, .slice (some bf) ab.length aT, .slice aU aD.length aV] 26 (0, 0))) := ⟨by (with_reducible repeat first | refine blk_drewN ?_ _ | refine blk_drew ?_ | refine blk_alloc ?_ _); refine blk_far ?_ (by have h_ := Kd.R_ne af.out ag.out (by decide); intro e_; exact h_ (by rw [e_]; rfl)) _; (with_reducible repeat first | refine blk_drewN ?_ _ | refine blk_drew ?_ | refine blk_alloc ?_ _); exact ag.out⟩;have n2_ : Aside0 ((w61.setCell ⟨ao, (aa : Int).toNat, none⟩ (.int .i64 an)).heap[ak]? = some (.cells #[.int .i64 ((rd_T61 ab aa).f0), .int .i64 ((rd_T61 ab aa).f1), .int .i64 ((rd_T61 ab aa).f2), .int .u64 ((rd_T61 ab aa).f3)] 61 (0, 0))) := ⟨by (with_reducible repeat first | refine blk_drewN ?_ _ | refine blk_drew ?_ | refine blk_alloc ?_ _); refine blk_far ?_ (by have h_ := Kd.R_ne af.out ae.out (by decide); intro e_; exact h_ (by rw [e_]; rfl)) _; (with_reducible repeat first | refine blk_drewN ?_ _ | refine blk_drew ?_ | refine blk_alloc ?_ _); exact ae.out⟩;have n3_ : Aside0 (Below w.heap.size w (w61.setCell ⟨ao, (aa : Int).toNat, none⟩ (.int .i64 an))) := ⟨kh HB⟩;(try clear af ag ae HB);generalize (w61.setCell ⟨ao, (aa : Int).toNat, none⟩ (.int .i64 an)) = w64 at n0_ n1_ n2_ n3_ ⊢;have af := n0_; have ag := n1_; have ae := n2_; have HB := n3_; clear n0_ n1_ n2_ n3_;have eI := ai.out;have eJ := ah.out;have Z66 := kz4 ae;have p59 : 0 ≤ (aa : Int) := od;have q59 : (aa : Int) < ((aj.length : Int) : Int) := od;replace p59 := eq_true p59; replace q59 := eq_true q59;have p60 : 0 ≤ (aa : Int) := od;have q60 : (aa : Int) < ((aj.length : Int) : Int) := od;replace p60 := eq_true p60; replace q60 := eq_true q60;obtain ⟨cQ, eK⟩ := Kd.R_celln 0 af.out (aa : Int) od od;rw [show rdOf 0 aI aa = an from by rw [bl.out]; exact rdOf_set_ _ _ _ od od] at cQ;have cb := Kd.R_putg af.out (aa : Int) (wrap64 ((an) + 1));(try go_wp2_with (first | ((with_reducible refine gate_store (t := 3) (p := 99) rfl ?_); refine store_event (t := 3) (p := 99) (v := ?vo_w68) (w1 := (w64.setCell ⟨ao, (aa : Int).toNat, none⟩ (.int .i64 (wrap64 ((an) + 1))))) ?hg ?ho ?hn ?hr ?_; (case ho => rfl); (case hg => rfl); (case hn => rfl); (case hr => go_simp; try rfl); intro w68 hw; have hg : w64.grownBy w68 (some ao) := (by rw [hw]; exact cb.2); have hp_ : Kd.R (Kd.int .i64) 3 w68 w.heap.size (fun _ => True) (.slice (some ⟨ao, 0, none⟩) aj.length cN) bZ := (by rw [hw, cM.out]; exact cb.1); clear cb; replace ag := kXR ag af hg; replace ae := kXR ae af hg; replace af := Aside0.mk (hp_); replace HB := Aside0.mk ((by rw [hw]; exact below_set (HB.out) cK.out : Below w.heap.size w w68)); clear hg hw hp_)));go_roundg au
     case measure => have := HK1.out; have := ap.out; have := av.out; omega
     case rel => exact ⟨(bZ), (wrap64 (aa + 1)), et, H', ⟨by have := HK1.out; have := ap.out; have := av.out; omega⟩, ⟨krR af⟩, ⟨kg ag⟩, ⟨kh HB⟩⟩
def tune_Tune.f (k : Nat) (a0 : Int) (af : List (S64)) (ag : List (S61)) (ah : List (S66)) : Option ((List (S64)) × (List (S61)) × (List (S66)) × Int) := (tune_Fold.f k a0 af ag ah).bind fun aa => (if aa.2.2.2 = 0 then ((tune_Share.f k a0 aa.1 aa.2.1 aa.2.2.1).bind fun ab => (if ab.2.2.2 = 0 then ((tune_Prune.f k a0 ab.1 ab.2.1 ab.2.2.1).bind fun ae => (if ae.2.2.2 = 0 then (some (ae.1, ae.2.1, ae.2.2.1, 0)) else (some (([] : List (S64)), ([] : List (S61)), ([] : List (S66)), ae.2.2.2)))) else (some (([] : List (S64)), ([] : List (S61)), ([] : List (S66)), ab.2.2.2)))) else (some (([] : List (S64)), ([] : List (S61)), ([] : List (S66)), aa.2.2.2)))
theorem tune_Tune.calls (k : Nat) (a0 : Int) (aD : Option Addr) (aE : Nat) (ax : List (S64)) (aF : Option Addr) (aG : Nat) (ay : List (S61)) (aH : Option Addr) (aI : Nat) (az : List (S66)) (r1 : List (S64)) (r2 : List (S61)) (r3 : List (S66)) (r4 : Int) (w : World) (bq : Kd.C k64 w aD ax.length ax) (br : ax.length ≤ aE) (bt : Kd.C k61 w aF ay.length ay) (bu : ay.length ≤ aG) (bv : Kd.C k66 w aH az.length az) (bw : az.length ≤ aI) (h : tune_Tune.f k a0 ax ay az = some (r1, r2, r3, r4)) :
  Calls Try.prog 24 #[.int .u64 a0, .agg #[.slice aD ax.length aE, .slice aF ay.length aG, .slice aH az.length aI]] w fun e w' => ∃ v0_ v1_ v2_ : Value, e = .returned (.tuple #[.agg #[v0_, v1_, v2_], .int .i64 r4]) ∧ Kd.R k64 64 w' w.heap.size (fun _ => True) v0_ r1 ∧ Kd.R k61 61 w' w.heap.size (fun _ => True) v1_ r2 ∧ Kd.S k66 66 w' w.heap.size (fun _ => True) v2_ r3 ∧ Below w.heap.size w w' := by
 have hu26 := Try.underlying26;have hu85 := Try.underlying85;have aY := Aside0.mk bq;have aZ := Aside0.mk br;clear bq br;have ba := Aside0.mk bt;have bb := Aside0.mk bu;clear bt bu;have bc := Aside0.mk bv;have bd := Aside0.mk bw;clear bv bw;have HB := Aside0.mk (Below.refl w.heap.size w);have H : ((tune_Fold.f k a0 ax ay az).bind fun aP => (if aP.2.2.2 = 0 then ((tune_Share.f k a0 aP.1 aP.2.1 aP.2.2.1).bind fun aQ => (if aQ.2.2.2 = 0 then ((tune_Prune.f k a0 aQ.1 aQ.2.1 aQ.2.2.1).bind fun aR => (if aR.2.2.2 = 0 then (some (aR.1, aR.2.1, aR.2.2.1, 0)) else (some (([] : List (S64)), ([] : List (S61)), ([] : List (S66)), aR.2.2.2)))) else (some (([] : List (S64)), ([] : List (S61)), ([] : List (S66)), aQ.2.2.2)))) else (some (([] : List (S64)), ([] : List (S61)), ([] : List (S66)), aP.2.2.2)))) = some (r1, r2, r3, r4) := h;clear h;replace H := qqB H;obtain ⟨⟨aA, aB, aC, bh⟩, A30, H⟩ := H;(try dsimp only at H);have A3 := Aside0.mk A30;clear A30
 by_cases c4 : bh = 0
 rotate_left
 ·rw [if_neg c4] at H
  have cm := beq_eq_false_iff_ne.mpr c4;have cn := bne_iff_ne.mpr c4;simp only [Option.some.injEq, Prod.mk.injEq] at H;obtain ⟨rfl, rfl, rfl, rfl⟩ := H;go_enter Try.func24, Try.ntmps24
  have bx : ∀ w : World, (Instr.index 85 (.agg #[.func (.func 16) #[] #[], .func (.func 20) #[] #[], .func (.func 22) #[] #[]]) (.int .i64 0)).run Try.prog w = .ok (.func (.func 16) #[] #[]) w := fun w => by kernel_rfl
  have bz : ∀ w : World, (Instr.index 85 (.agg #[.func (.func 16) #[] #[], .func (.func 20) #[] #[], .func (.func 22) #[] #[]]) (.int .i64 1)).run Try.prog w = .ok (.func (.func 20) #[] #[]) w := fun w => by kernel_rfl
  have bA : ∀ w : World, (Instr.index 85 (.agg #[.func (.func 16) #[] #[], .func (.func 20) #[] #[], .func (.func 22) #[] #[]]) (.int .i64 2)).run Try.prog w = .ok (.func (.func 22) #[] #[]) w := fun w => by kernel_rfl
  go_wp2_with (first | ((with_reducible refine gate_dst (N := 3) rfl ?_); refine box_event ?hg (N := 3) ?hd (cs := #[.slice aD ax.length aE, .slice aF ay.length aG, .slice aH az.length aI]) (t := 26) ?hr ?_; (case hd | hg => rfl); (case hr => go_simp; try rfl); intro aw hg w76 hbox hb; have aa := am hbox; have bi := kG HB hg; have bj := kG HB hg; replace HB := kH HB hb; clear hb hbox hg) | ((with_reducible refine gate_dst (N := 4) rfl ?_); refine box_event ?hg (N := 4) ?hd (cs := #[.slice none 0 0, .slice none 0 0, .slice none 0 0]) (t := 26) ?hr ?_; (case hd | hg => rfl); (case hr => go_simp; try rfl); intro aq hg w77 hbox hb; have ab := am hbox; have bk := kG HB hg; have bl := kG HB hg; replace HB := kH HB hb; have ai := kP aa hg; have aj := kQ aa hg; replace aa := kU aa hb; clear hb hbox hg) | ((with_reducible refine gate_dst (N := 6) rfl ?_); refine box_event ?hg (N := 6) ?hd (cs := #[.nilFunc, .nilFunc, .nilFunc]) (t := 85) ?hr ?_; (case hd | hg => rfl); (case hr => go_simp; try rfl); intro bm hg w78 hbox hb; have ah := am hbox; have bn := kG HB hg; have bo := kG HB hg; replace HB := kH HB hb; have ak := kP aa hg; have an := kQ aa hg; replace aa := kU aa hb; have ao := kP ab hg; have ap := kQ ab hg; replace ab := kU ab hb; clear hb hbox hg; have cX := an.out; have cY := ak.out; have cZ := ap.out; have da := ao.out; have Z81 := kz3 ah; have db := ai.out; have dc := aj.out; have Z83 := kz3 aa));refine wp_loop_rounds 4 ?_;rw [rounds_succ];go_wp2_with (first | ((with_reducible refine gate_dst (N := 19) rfl ?_); refine api_Slot_78.goesT0 (some 19) rfl rfl Try.func16 (by kernel_rfl) rfl #[.int .u64 a0, .agg #[.slice aD ax.length aE, .slice aF ay.length aG, .slice aH az.length aI]] rfl rfl (by (try simp only [qM1, qM2, qM3]); first | done | rfl) ?_; (with_reducible refine (tune_Fold.calls k a0 _ _ ax _ _ ay _ _ az aA aB aC bh _ ?side1 ?side2 ?side3 ?side4 ?side5 ?side6 A3.out).mono ?_); (case side1 => exact Kd.C_below aY.out (kh HB)); (case side2 => exact aZ.out); (case side3 => exact Kd.C_below ba.out (kh HB)); (case side4 => exact bb.out); (case side5 => exact Kd.C_below bc.out (kh HB)); (case side6 => exact bd.out); rintro e w84 ⟨bB, bC, bD, rfl, ho0, ho1, ho2, hb⟩; refine ⟨_, rfl, ?_⟩; have ae := kLR ho0 HB; have af := kLR ho1 HB; have ag := kLS ho2 HB; replace aa := kU aa hb; replace ab := kU ab hb; replace ah := kO (o' := .cells #[.func (.func 16) #[] #[], .func (.func 20) #[] #[], .func (.func 22) #[] #[]] 85 (0, 0)) ah hb; replace HB := kH HB hb; (try clear hb); (try clear hb2); (try clear hk); (try clear hi); (try clear ho0); (try clear ho1); (try clear ho2); obtain ⟨dx, dy, co⟩ := Kd.R_slice ae.out; subst co; have Z86 := kz3 aa; obtain ⟨dz, dA, cp⟩ := Kd.R_slice af.out; subst cp; obtain ⟨dB, dC, cq⟩ := Kd.S_slice ag.out; subst cq; have Z89 := kz3 ab));refine bodyPost_ret (results_ct rfl _ _ aq 26 #[.slice none 0 0, .slice none 0 0, .slice none 0 0] (0, 0) _ rfl (kg ab) Try.underlying26 rfl (by kernel_rfl)) rfl ?_;exact ⟨_, _, _, er, by first | exact Kd.R_nil _ _ _ _ _ | exact Kd.N_nil _ _ _ _ _ | exact Kd.V_nil _ _ _ _ _ | exact Kd.Q_nil _ _ _ _ _ | exact Kd.S_nil _ _ _ _ _, by first | exact Kd.R_nil _ _ _ _ _ | exact Kd.N_nil _ _ _ _ _ | exact Kd.V_nil _ _ _ _ _ | exact Kd.Q_nil _ _ _ _ _ | exact Kd.S_nil _ _ _ _ _, by first | exact Kd.S_nil _ _ _ _ _ | exact Kd.N_nil _ _ _ _ _ | exact Kd.V_nil _ _ _ _ _ | exact Kd.Q_nil _ _ _ _ _ | exact Kd.R_nil _ _ _ _ _, kh HB⟩
 rw [if_pos c4] at H;have cm := beq_iff_eq.mpr c4;have cn := bne_eq_false_iff_eq.mpr c4;clear c4;replace H := qqB H;obtain ⟨⟨aJ, aK, aL, bp⟩, A50, H⟩ := H;(try dsimp only at H);have A5 := Aside0.mk A50;clear A50
 by_cases c6 : bp = 0
 rotate_left
 ·rw [if_neg c6] at H
  have cr := beq_eq_false_iff_ne.mpr c6;have ct := bne_iff_ne.mpr c6;simp only [Option.some.injEq, Prod.mk.injEq] at H;obtain ⟨rfl, rfl, rfl, rfl⟩ := H;go_enter Try.func24, Try.ntmps24
  have bx : ∀ w : World, (Instr.index 85 (.agg #[.func (.func 16) #[] #[], .func (.func 20) #[] #[], .func (.func 22) #[] #[]]) (.int .i64 0)).run Try.prog w = .ok (.func (.func 16) #[] #[]) w := fun w => by kernel_rfl
  have bz : ∀ w : World, (Instr.index 85 (.agg #[.func (.func 16) #[] #[], .func (.func 20) #[] #[], .func (.func 22) #[] #[]]) (.int .i64 1)).run Try.prog w = .ok (.func (.func 20) #[] #[]) w := fun w => by kernel_rfl
  have bA : ∀ w : World, (Instr.index 85 (.agg #[.func (.func 16) #[] #[], .func (.func 20) #[] #[], .func (.func 22) #[] #[]]) (.int .i64 2)).run Try.prog w = .ok (.func (.func 22) #[] #[]) w := fun w => by kernel_rfl
  go_wp2_with (first | ((with_reducible refine gate_dst (N := 3) rfl ?_); refine box_event ?hg (N := 3) ?hd (cs := #[.slice aD ax.length aE, .slice aF ay.length aG, .slice aH az.length aI]) (t := 26) ?hr ?_; (case hd | hg => rfl); (case hr => go_simp; try rfl); intro aw hg w57 hbox hb; have aa := am hbox; have bi := kG HB hg; have bj := kG HB hg; replace HB := kH HB hb; clear hb hbox hg) | ((with_reducible refine gate_dst (N := 4) rfl ?_); refine box_event ?hg (N := 4) ?hd (cs := #[.slice none 0 0, .slice none 0 0, .slice none 0 0]) (t := 26) ?hr ?_; (case hd | hg => rfl); (case hr => go_simp; try rfl); intro aq hg w58 hbox hb; have ab := am hbox; have bk := kG HB hg; have bl := kG HB hg; replace HB := kH HB hb; have ai := kP aa hg; have aj := kQ aa hg; replace aa := kU aa hb; clear hb hbox hg) | ((with_reducible refine gate_dst (N := 6) rfl ?_); refine box_event ?hg (N := 6) ?hd (cs := #[.nilFunc, .nilFunc, .nilFunc]) (t := 85) ?hr ?_; (case hd | hg => rfl); (case hr => go_simp; try rfl); intro bm hg w59 hbox hb; have ah := am hbox; have bn := kG HB hg; have bo := kG HB hg; replace HB := kH HB hb; have ak := kP aa hg; have an := kQ aa hg; replace aa := kU aa hb; have ao := kP ab hg; have ap := kQ ab hg; replace ab := kU ab hb; clear hb hbox hg; have dd := an.out; have de := ak.out; have df := ap.out; have dg := ao.out; have Z62 := kz3 ah; have dh := ai.out; have di := aj.out; have Z64 := kz3 aa));refine wp_loop_rounds 4 ?_;rw [rounds_succ];go_wp2_with (first | ((with_reducible refine gate_dst (N := 19) rfl ?_); refine api_Slot_78.goesT0 (some 19) rfl rfl Try.func16 (by kernel_rfl) rfl #[.int .u64 a0, .agg #[.slice aD ax.length aE, .slice aF ay.length aG, .slice aH az.length aI]] rfl rfl (by (try simp only [qM1, qM2, qM3]); first | done | rfl) ?_; (with_reducible refine (tune_Fold.calls k a0 _ _ ax _ _ ay _ _ az aA aB aC bh _ ?side1 ?side2 ?side3 ?side4 ?side5 ?side6 A3.out).mono ?_); (case side1 => exact Kd.C_below aY.out (kh HB)); (case side2 => exact aZ.out); (case side3 => exact Kd.C_below ba.out (kh HB)); (case side4 => exact bb.out); (case side5 => exact Kd.C_below bc.out (kh HB)); (case side6 => exact bd.out); rintro e w65 ⟨bB, bC, bD, rfl, ho0, ho1, ho2, hb⟩; refine ⟨_, rfl, ?_⟩; have ae := kLR ho0 HB; have af := kLR ho1 HB; have ag := kLS ho2 HB; replace aa := kU aa hb; replace ab := kU ab hb; replace ah := kO (o' := .cells #[.func (.func 16) #[] #[], .func (.func 20) #[] #[], .func (.func 22) #[] #[]] 85 (0, 0)) ah hb; replace HB := kH HB hb; (try clear hb); (try clear hb2); (try clear hk); (try clear hi); (try clear ho0); (try clear ho1); (try clear ho2); obtain ⟨bF, bG, cu⟩ := Kd.R_slice ae.out; subst cu; have Z67 := kz3 aa; obtain ⟨bH, bI, cv⟩ := Kd.R_slice af.out; subst cv; obtain ⟨bJ, bK, cw⟩ := Kd.S_slice ag.out; subst cw));rw [rounds_succ];go_wp2_with (first | ((with_reducible refine gate_dst (N := 19) rfl ?_); refine api_Slot_78.goesT0 (some 19) rfl rfl Try.func20 (by kernel_rfl) rfl #[.int .u64 a0, .agg #[.slice bF aA.length bG, .slice bH aB.length bI, .slice bJ aC.length bK]] rfl rfl (by (try simp only [qM1, qM2, qM3]); first | done | rfl) ?_; (with_reducible refine (tune_Share.calls k a0 _ _ aA _ _ aB _ _ aC aJ aK aL bp _ ?side1 ?side2 ?side3 ?side4 ?side5 ?side6 A5.out).mono ?_); (case side1 => exact (Kd.R_reads' (kt ae aa)).2.2); (case side2 => exact (Kd.R_reads' ae.out).2.1); (case side3 => exact (Kd.R_reads' (kt af aa)).2.2); (case side4 => exact (Kd.R_reads' af.out).2.1); (case side5 => exact (Kd.S_reads' (ks ag aa)).2.2); (case side6 => exact (Kd.S_reads' ag.out).2.1); rintro e w70 ⟨bL, bM, bN, rfl, ho0, ho1, ho2, hb⟩; refine ⟨_, rfl, ?_⟩; have ar := Aside0.mk (Kd.R_lower (Kd.R_new' ho0 (Kd.R_lt (kt ae aa))) (below_size (kh HB))); replace ae := Aside0.mk (Kd.R_elder' (kt ae aa) (Kd.R_base ho0) hb); have au := Aside0.mk (Kd.R_lower (Kd.R_new' ho1 (Kd.R_lt (kt af aa))) (below_size (kh HB))); replace af := Aside0.mk (Kd.R_elder' (kt af aa) (Kd.R_base ho1) hb); have av := Aside0.mk (Kd.S_lower (Kd.S_new' ho2 (Kd.S_lt (ks ag aa))) (below_size (kh HB))); replace ag := Aside0.mk (Kd.S_elder' (ks ag aa) (Kd.S_base ho2) hb); replace aa := kO (o' := .cells #[.slice bF aA.length bG, .slice bH aB.length bI, .slice bJ aC.length bK] 26 (0, 0)) aa hb; replace ab := kU ab hb; replace ah := kU ah hb; replace HB := kH HB hb; (try clear hb); (try clear hb2); (try clear hk); (try clear hi); (try clear ho0); (try clear ho1); (try clear ho2); obtain ⟨dD, dE, cx⟩ := Kd.R_slice ar.out; subst cx; have Z72 := kz3 aa; obtain ⟨dF, dG, cy⟩ := Kd.R_slice au.out; subst cy; obtain ⟨dH, dI, cz⟩ := Kd.S_slice av.out; subst cz; have Z75 := kz3 ab));refine bodyPost_ret (results_ct rfl _ _ aq 26 #[.slice none 0 0, .slice none 0 0, .slice none 0 0] (0, 0) _ rfl (kg ab) Try.underlying26 rfl (by kernel_rfl)) rfl ?_;exact ⟨_, _, _, er, by first | exact Kd.R_nil _ _ _ _ _ | exact Kd.N_nil _ _ _ _ _ | exact Kd.V_nil _ _ _ _ _ | exact Kd.Q_nil _ _ _ _ _ | exact Kd.S_nil _ _ _ _ _, by first | exact Kd.R_nil _ _ _ _ _ | exact Kd.N_nil _ _ _ _ _ | exact Kd.V_nil _ _ _ _ _ | exact Kd.Q_nil _ _ _ _ _ | exact Kd.S_nil _ _ _ _ _, by first | exact Kd.S_nil _ _ _ _ _ | exact Kd.N_nil _ _ _ _ _ | exact Kd.V_nil _ _ _ _ _ | exact Kd.Q_nil _ _ _ _ _ | exact Kd.R_nil _ _ _ _ _, kh HB⟩
 rw [if_pos c6] at H;have cr := beq_iff_eq.mpr c6;have ct := bne_eq_false_iff_eq.mpr c6;clear c6;replace H := qqB H;obtain ⟨⟨aM, aN, aO, bE⟩, A70, H⟩ := H;(try dsimp only at H);have A7 := Aside0.mk A70;clear A70
 by_cases c8 : bE = 0
 rotate_left
 ·rw [if_neg c8] at H
  have cA := beq_eq_false_iff_ne.mpr c8;have cB := bne_iff_ne.mpr c8;simp only [Option.some.injEq, Prod.mk.injEq] at H;obtain ⟨rfl, rfl, rfl, rfl⟩ := H;go_enter Try.func24, Try.ntmps24
  have bx : ∀ w : World, (Instr.index 85 (.agg #[.func (.func 16) #[] #[], .func (.func 20) #[] #[], .func (.func 22) #[] #[]]) (.int .i64 0)).run Try.prog w = .ok (.func (.func 16) #[] #[]) w := fun w => by kernel_rfl
  have bz : ∀ w : World, (Instr.index 85 (.agg #[.func (.func 16) #[] #[], .func (.func 20) #[] #[], .func (.func 22) #[] #[]]) (.int .i64 1)).run Try.prog w = .ok (.func (.func 20) #[] #[]) w := fun w => by kernel_rfl
  have bA : ∀ w : World, (Instr.index 85 (.agg #[.func (.func 16) #[] #[], .func (.func 20) #[] #[], .func (.func 22) #[] #[]]) (.int .i64 2)).run Try.prog w = .ok (.func (.func 22) #[] #[]) w := fun w => by kernel_rfl
  go_wp2_with (first | ((with_reducible refine gate_dst (N := 3) rfl ?_); refine box_event ?hg (N := 3) ?hd (cs := #[.slice aD ax.length aE, .slice aF ay.length aG, .slice aH az.length aI]) (t := 26) ?hr ?_; (case hd | hg => rfl); (case hr => go_simp; try rfl); intro aw hg w33 hbox hb; have aa := am hbox; have bi := kG HB hg; have bj := kG HB hg; replace HB := kH HB hb; clear hb hbox hg) | ((with_reducible refine gate_dst (N := 4) rfl ?_); refine box_event ?hg (N := 4) ?hd (cs := #[.slice none 0 0, .slice none 0 0, .slice none 0 0]) (t := 26) ?hr ?_; (case hd | hg => rfl); (case hr => go_simp; try rfl); intro aq hg w34 hbox hb; have ab := am hbox; have bk := kG HB hg; have bl := kG HB hg; replace HB := kH HB hb; have ai := kP aa hg; have aj := kQ aa hg; replace aa := kU aa hb; clear hb hbox hg) | ((with_reducible refine gate_dst (N := 6) rfl ?_); refine box_event ?hg (N := 6) ?hd (cs := #[.nilFunc, .nilFunc, .nilFunc]) (t := 85) ?hr ?_; (case hd | hg => rfl); (case hr => go_simp; try rfl); intro bm hg w35 hbox hb; have ah := am hbox; have bn := kG HB hg; have bo := kG HB hg; replace HB := kH HB hb; have ak := kP aa hg; have an := kQ aa hg; replace aa := kU aa hb; have ao := kP ab hg; have ap := kQ ab hg; replace ab := kU ab hb; clear hb hbox hg; have dj := an.out; have dk := ak.out; have dl := ap.out; have dm := ao.out; have Z38 := kz3 ah; have dn := ai.out; have dp := aj.out; have Z40 := kz3 aa));refine wp_loop_rounds 4 ?_;rw [rounds_succ];go_wp2_with (first | ((with_reducible refine gate_dst (N := 19) rfl ?_); refine api_Slot_78.goesT0 (some 19) rfl rfl Try.func16 (by kernel_rfl) rfl #[.int .u64 a0, .agg #[.slice aD ax.length aE, .slice aF ay.length aG, .slice aH az.length aI]] rfl rfl (by (try simp only [qM1, qM2, qM3]); first | done | rfl) ?_; (with_reducible refine (tune_Fold.calls k a0 _ _ ax _ _ ay _ _ az aA aB aC bh _ ?side1 ?side2 ?side3 ?side4 ?side5 ?side6 A3.out).mono ?_); (case side1 => exact Kd.C_below aY.out (kh HB)); (case side2 => exact aZ.out); (case side3 => exact Kd.C_below ba.out (kh HB)); (case side4 => exact bb.out); (case side5 => exact Kd.C_below bc.out (kh HB)); (case side6 => exact bd.out); rintro e w41 ⟨bB, bC, bD, rfl, ho0, ho1, ho2, hb⟩; refine ⟨_, rfl, ?_⟩; have ae := kLR ho0 HB; have af := kLR ho1 HB; have ag := kLS ho2 HB; replace aa := kU aa hb; replace ab := kU ab hb; replace ah := kO (o' := .cells #[.func (.func 16) #[] #[], .func (.func 20) #[] #[], .func (.func 22) #[] #[]] 85 (0, 0)) ah hb; replace HB := kH HB hb; (try clear hb); (try clear hb2); (try clear hk); (try clear hi); (try clear ho0); (try clear ho1); (try clear ho2); obtain ⟨bO, bP, cC⟩ := Kd.R_slice ae.out; subst cC; have Z43 := kz3 aa; obtain ⟨bQ, bR, cD⟩ := Kd.R_slice af.out; subst cD; obtain ⟨bS, bT, cE⟩ := Kd.S_slice ag.out; subst cE));rw [rounds_succ];go_wp2_with (first | ((with_reducible refine gate_dst (N := 19) rfl ?_); refine api_Slot_78.goesT0 (some 19) rfl rfl Try.func20 (by kernel_rfl) rfl #[.int .u64 a0, .agg #[.slice bO aA.length bP, .slice bQ aB.length bR, .slice bS aC.length bT]] rfl rfl (by (try simp only [qM1, qM2, qM3]); first | done | rfl) ?_; (with_reducible refine (tune_Share.calls k a0 _ _ aA _ _ aB _ _ aC aJ aK aL bp _ ?side1 ?side2 ?side3 ?side4 ?side5 ?side6 A5.out).mono ?_); (case side1 => exact (Kd.R_reads' (kt ae aa)).2.2); (case side2 => exact (Kd.R_reads' ae.out).2.1); (case side3 => exact (Kd.R_reads' (kt af aa)).2.2); (case side4 => exact (Kd.R_reads' af.out).2.1); (case side5 => exact (Kd.S_reads' (ks ag aa)).2.2); (case side6 => exact (Kd.S_reads' ag.out).2.1); rintro e w46 ⟨bL, bM, bN, rfl, ho0, ho1, ho2, hb⟩; refine ⟨_, rfl, ?_⟩; have ar := Aside0.mk (Kd.R_lower (Kd.R_new' ho0 (Kd.R_lt (kt ae aa))) (below_size (kh HB))); replace ae := Aside0.mk (Kd.R_elder' (kt ae aa) (Kd.R_base ho0) hb); have au := Aside0.mk (Kd.R_lower (Kd.R_new' ho1 (Kd.R_lt (kt af aa))) (below_size (kh HB))); replace af := Aside0.mk (Kd.R_elder' (kt af aa) (Kd.R_base ho1) hb); have av := Aside0.mk (Kd.S_lower (Kd.S_new' ho2 (Kd.S_lt (ks ag aa))) (below_size (kh HB))); replace ag := Aside0.mk (Kd.S_elder' (ks ag aa) (Kd.S_base ho2) hb); replace aa := kO (o' := .cells #[.slice bO aA.length bP, .slice bQ aB.length bR, .slice bS aC.length bT] 26 (0, 0)) aa hb; replace ab := kU ab hb; replace ah := kU ah hb; replace HB := kH HB hb; (try clear hb); (try clear hb2); (try clear hk); (try clear hi); (try clear ho0); (try clear ho1); (try clear ho2); obtain ⟨bU, bV, cF⟩ := Kd.R_slice ar.out; subst cF; have Z48 := kz3 aa; obtain ⟨bW, bX, cG⟩ := Kd.R_slice au.out; subst cG; obtain ⟨bY, bZ, cH⟩ := Kd.S_slice av.out; subst cH));rw [rounds_succ];go_wp2_with (first | ((with_reducible refine gate_dst (N := 19) rfl ?_); refine api_Slot_78.goesT0 (some 19) rfl rfl Try.func22 (by kernel_rfl) rfl #[.int .u64 a0, .agg #[.slice bU aJ.length bV, .slice bW aK.length bX, .slice bY aL.length bZ]] rfl rfl (by (try simp only [qM1, qM2, qM3]); first | done | rfl) ?_; (with_reducible refine (tune_Prune.calls k a0 _ _ aJ _ _ aK _ _ aL aM aN aO bE _ ?side1 ?side2 ?side3 ?side4 ?side5 ?side6 A7.out).mono ?_); (case side1 => exact (Kd.R_reads' (kt ar aa)).2.2); (case side2 => exact (Kd.R_reads' ar.out).2.1); (case side3 => exact (Kd.R_reads' (kt au aa)).2.2); (case side4 => exact (Kd.R_reads' au.out).2.1); (case side5 => exact (Kd.S_reads' (ks av aa)).2.2); (case side6 => exact (Kd.S_reads' av.out).2.1); rintro e w51 ⟨cI, cJ, cK, rfl, ho0, ho1, ho2, hb⟩; refine ⟨_, rfl, ?_⟩; have be := Aside0.mk (Kd.R_lower (Kd.R_new' (Kd.R_new' ho0 (Kd.R_lt (kt ae aa))) (Kd.R_lt (kt ar aa))) (below_size (kh HB))); replace ae := Aside0.mk (Kd.R_elder' (kt ae aa) (Kd.R_base ho0) hb); replace ar := Aside0.mk (Kd.R_elder' (kt ar aa) (Kd.R_base ho0) hb); have bf := Aside0.mk (Kd.R_lower (Kd.R_new' (Kd.R_new' ho1 (Kd.R_lt (kt af aa))) (Kd.R_lt (kt au aa))) (below_size (kh HB))); replace af := Aside0.mk (Kd.R_elder' (kt af aa) (Kd.R_base ho1) hb); replace au := Aside0.mk (Kd.R_elder' (kt au aa) (Kd.R_base ho1) hb); have bg := Aside0.mk (Kd.S_lower (Kd.S_new' (Kd.S_new' ho2 (Kd.S_lt (ks ag aa))) (Kd.S_lt (ks av aa))) (below_size (kh HB))); replace ag := Aside0.mk (Kd.S_elder' (ks ag aa) (Kd.S_base ho2) hb); replace av := Aside0.mk (Kd.S_elder' (ks av aa) (Kd.S_base ho2) hb); replace aa := kO (o' := .cells #[.slice bU aJ.length bV, .slice bW aK.length bX, .slice bY aL.length bZ] 26 (0, 0)) aa hb; replace ab := kU ab hb; replace ah := kU ah hb; replace HB := kH HB hb; (try clear hb); (try clear hb2); (try clear hk); (try clear hi); (try clear ho0); (try clear ho1); (try clear ho2); obtain ⟨dJ, dK, cL⟩ := Kd.R_slice be.out; subst cL; have Z53 := kz3 aa; obtain ⟨dL, dM, cM⟩ := Kd.R_slice bf.out; subst cM; obtain ⟨dN, dO, cN⟩ := Kd.S_slice bg.out; subst cN; have Z56 := kz3 ab));refine bodyPost_ret (results_ct rfl _ _ aq 26 #[.slice none 0 0, .slice none 0 0, .slice none 0 0] (0, 0) _ rfl (kg ab) Try.underlying26 rfl (by kernel_rfl)) rfl ?_;exact ⟨_, _, _, er, by first | exact Kd.R_nil _ _ _ _ _ | exact Kd.N_nil _ _ _ _ _ | exact Kd.V_nil _ _ _ _ _ | exact Kd.Q_nil _ _ _ _ _ | exact Kd.S_nil _ _ _ _ _, by first | exact Kd.R_nil _ _ _ _ _ | exact Kd.N_nil _ _ _ _ _ | exact Kd.V_nil _ _ _ _ _ | exact Kd.Q_nil _ _ _ _ _ | exact Kd.S_nil _ _ _ _ _, by first | exact Kd.S_nil _ _ _ _ _ | exact Kd.N_nil _ _ _ _ _ | exact Kd.V_nil _ _ _ _ _ | exact Kd.Q_nil _ _ _ _ _ | exact Kd.R_nil _ _ _ _ _, kh HB⟩
 rw [if_pos c8] at H;have cA := beq_iff_eq.mpr c8;have cB := bne_eq_false_iff_eq.mpr c8;clear c8;simp only [Option.some.injEq, Prod.mk.injEq] at H;obtain ⟨rfl, rfl, rfl, rfl⟩ := H;go_enter Try.func24, Try.ntmps24
 have bx : ∀ w : World, (Instr.index 85 (.agg #[.func (.func 16) #[] #[], .func (.func 20) #[] #[], .func (.func 22) #[] #[]]) (.int .i64 0)).run Try.prog w = .ok (.func (.func 16) #[] #[]) w := fun w => by kernel_rfl
 have bz : ∀ w : World, (Instr.index 85 (.agg #[.func (.func 16) #[] #[], .func (.func 20) #[] #[], .func (.func 22) #[] #[]]) (.int .i64 1)).run Try.prog w = .ok (.func (.func 20) #[] #[]) w := fun w => by kernel_rfl
 have bA : ∀ w : World, (Instr.index 85 (.agg #[.func (.func 16) #[] #[], .func (.func 20) #[] #[], .func (.func 22) #[] #[]]) (.int .i64 2)).run Try.prog w = .ok (.func (.func 22) #[] #[]) w := fun w => by kernel_rfl
 go_wp2_with (first | ((with_reducible refine gate_dst (N := 3) rfl ?_); refine box_event ?hg (N := 3) ?hd (cs := #[.slice aD ax.length aE, .slice aF ay.length aG, .slice aH az.length aI]) (t := 26) ?hr ?_; (case hd | hg => rfl); (case hr => go_simp; try rfl); intro aw hg w9 hbox hb; have aa := am hbox; have bi := kG HB hg; have bj := kG HB hg; replace HB := kH HB hb; clear hb hbox hg) | ((with_reducible refine gate_dst (N := 4) rfl ?_); refine box_event ?hg (N := 4) ?hd (cs := #[.slice none 0 0, .slice none 0 0, .slice none 0 0]) (t := 26) ?hr ?_; (case hd | hg => rfl); (case hr => go_simp; try rfl); intro aq hg w10 hbox hb; have ab := am hbox; have bk := kG HB hg; have bl := kG HB hg; replace HB := kH HB hb; have ai := kP aa hg; have aj := kQ aa hg; replace aa := kU aa hb; clear hb hbox hg) | ((with_reducible refine gate_dst (N := 6) rfl ?_); refine box_event ?hg (N := 6) ?hd (cs := #[.nilFunc, .nilFunc, .nilFunc]) (t := 85) ?hr ?_; (case hd | hg => rfl); (case hr => go_simp; try rfl); intro bm hg w11 hbox hb; have ah := am hbox; have bn := kG HB hg; have bo := kG HB hg; replace HB := kH HB hb; have ak := kP aa hg; have an := kQ aa hg; replace aa := kU aa hb; have ao := kP ab hg; have ap := kQ ab hg; replace ab := kU ab hb; clear hb hbox hg; have dq := an.out; have dr := ak.out; have dt := ap.out; have du := ao.out; have Z14 := kz3 ah; have dv := ai.out; have dw := aj.out; have Z16 := kz3 aa));refine wp_loop_rounds 4 ?_;rw [rounds_succ];go_wp2_with (first | ((with_reducible refine gate_dst (N := 19) rfl ?_); refine api_Slot_78.goesT0 (some 19) rfl rfl Try.func16 (by kernel_rfl) rfl #[.int .u64 a0, .agg #[.slice aD ax.length aE, .slice aF ay.length aG, .slice aH az.length aI]] rfl rfl (by (try simp only [qM1, qM2, qM3]); first | done | rfl) ?_; (with_reducible refine (tune_Fold.calls k a0 _ _ ax _ _ ay _ _ az aA aB aC bh _ ?side1 ?side2 ?side3 ?side4 ?side5 ?side6 A3.out).mono ?_); (case side1 => exact Kd.C_below aY.out (kh HB)); (case side2 => exact aZ.out); (case side3 => exact Kd.C_below ba.out (kh HB)); (case side4 => exact bb.out); (case side5 => exact Kd.C_below bc.out (kh HB)); (case side6 => exact bd.out); rintro e w17 ⟨bB, bC, bD, rfl, ho0, ho1, ho2, hb⟩; refine ⟨_, rfl, ?_⟩; have ae := kLR ho0 HB; have af := kLR ho1 HB; have ag := kLS ho2 HB; replace aa := kU aa hb; replace ab := kU ab hb; replace ah := kO (o' := .cells #[.func (.func 16) #[] #[], .func (.func 20) #[] #[], .func (.func 22) #[] #[]] 85 (0, 0)) ah hb; replace HB := kH HB hb; (try clear hb); (try clear hb2); (try clear hk); (try clear hi); (try clear ho0); (try clear ho1); (try clear ho2); obtain ⟨ca, cb, cO⟩ := Kd.R_slice ae.out; subst cO; have Z19 := kz3 aa; obtain ⟨cc, cd, cP⟩ := Kd.R_slice af.out; subst cP; obtain ⟨ce, cf, cQ⟩ := Kd.S_slice ag.out; subst cQ));rw [rounds_succ];go_wp2_with (first | ((with_reducible refine gate_dst (N := 19) rfl ?_); refine api_Slot_78.goesT0 (some 19) rfl rfl Try.func20 (by kernel_rfl) rfl #[.int .u64 a0, .agg #[.slice ca aA.length cb, .slice cc aB.length cd, .slice ce aC.length cf]] rfl rfl (by (try simp only [qM1, qM2, qM3]); first | done | rfl) ?_; (with_reducible refine (tune_Share.calls k a0 _ _ aA _ _ aB _ _ aC aJ aK aL bp _ ?side1 ?side2 ?side3 ?side4 ?side5 ?side6 A5.out).mono ?_); (case side1 => exact (Kd.R_reads' (kt ae aa)).2.2); (case side2 => exact (Kd.R_reads' ae.out).2.1); (case side3 => exact (Kd.R_reads' (kt af aa)).2.2); (case side4 => exact (Kd.R_reads' af.out).2.1); (case side5 => exact (Kd.S_reads' (ks ag aa)).2.2); (case side6 => exact (Kd.S_reads' ag.out).2.1); rintro e w22 ⟨bL, bM, bN, rfl, ho0, ho1, ho2, hb⟩; refine ⟨_, rfl, ?_⟩; have ar := Aside0.mk (Kd.R_lower (Kd.R_new' ho0 (Kd.R_lt (kt ae aa))) (below_size (kh HB))); replace ae := Aside0.mk (Kd.R_elder' (kt ae aa) (Kd.R_base ho0) hb); have au := Aside0.mk (Kd.R_lower (Kd.R_new' ho1 (Kd.R_lt (kt af aa))) (below_size (kh HB))); replace af := Aside0.mk (Kd.R_elder' (kt af aa) (Kd.R_base ho1) hb); have av := Aside0.mk (Kd.S_lower (Kd.S_new' ho2 (Kd.S_lt (ks ag aa))) (below_size (kh HB))); replace ag := Aside0.mk (Kd.S_elder' (ks ag aa) (Kd.S_base ho2) hb); replace aa := kO (o' := .cells #[.slice ca aA.length cb, .slice cc aB.length cd, .slice ce aC.length cf] 26 (0, 0)) aa hb; replace ab := kU ab hb; replace ah := kU ah hb; replace HB := kH HB hb; (try clear hb); (try clear hb2); (try clear hk); (try clear hi); (try clear ho0); (try clear ho1); (try clear ho2); obtain ⟨cg, ch, cR⟩ := Kd.R_slice ar.out; subst cR; have Z24 := kz3 aa; obtain ⟨ci, cj, cS⟩ := Kd.R_slice au.out; subst cS; obtain ⟨ck, cl, cT⟩ := Kd.S_slice av.out; subst cT));rw [rounds_succ];go_wp2_with (first | ((with_reducible refine gate_dst (N := 19) rfl ?_); refine api_Slot_78.goesT0 (some 19) rfl rfl Try.func22 (by kernel_rfl) rfl #[.int .u64 a0, .agg #[.slice cg aJ.length ch, .slice ci aK.length cj, .slice ck aL.length cl]] rfl rfl (by (try simp only [qM1, qM2, qM3]); first | done | rfl) ?_; (with_reducible refine (tune_Prune.calls k a0 _ _ aJ _ _ aK _ _ aL aM aN aO bE _ ?side1 ?side2 ?side3 ?side4 ?side5 ?side6 A7.out).mono ?_); (case side1 => exact (Kd.R_reads' (kt ar aa)).2.2); (case side2 => exact (Kd.R_reads' ar.out).2.1); (case side3 => exact (Kd.R_reads' (kt au aa)).2.2); (case side4 => exact (Kd.R_reads' au.out).2.1); (case side5 => exact (Kd.S_reads' (ks av aa)).2.2); (case side6 => exact (Kd.S_reads' av.out).2.1); rintro e w27 ⟨cI, cJ, cK, rfl, ho0, ho1, ho2, hb⟩; refine ⟨_, rfl, ?_⟩; have be := Aside0.mk (Kd.R_lower (Kd.R_new' (Kd.R_new' ho0 (Kd.R_lt (kt ae aa))) (Kd.R_lt (kt ar aa))) (below_size (kh HB))); replace ae := Aside0.mk (Kd.R_elder' (kt ae aa) (Kd.R_base ho0) hb); replace ar := Aside0.mk (Kd.R_elder' (kt ar aa) (Kd.R_base ho0) hb); have bf := Aside0.mk (Kd.R_lower (Kd.R_new' (Kd.R_new' ho1 (Kd.R_lt (kt af aa))) (Kd.R_lt (kt au aa))) (below_size (kh HB))); replace af := Aside0.mk (Kd.R_elder' (kt af aa) (Kd.R_base ho1) hb); replace au := Aside0.mk (Kd.R_elder' (kt au aa) (Kd.R_base ho1) hb); have bg := Aside0.mk (Kd.S_lower (Kd.S_new' (Kd.S_new' ho2 (Kd.S_lt (ks ag aa))) (Kd.S_lt (ks av aa))) (below_size (kh HB))); replace ag := Aside0.mk (Kd.S_elder' (ks ag aa) (Kd.S_base ho2) hb); replace av := Aside0.mk (Kd.S_elder' (ks av aa) (Kd.S_base ho2) hb); replace aa := kO (o' := .cells #[.slice cg aJ.length ch, .slice ci aK.length cj, .slice ck aL.length cl] 26 (0, 0)) aa hb; replace ab := kU ab hb; replace ah := kU ah hb; replace HB := kH HB hb; (try clear hb); (try clear hb2); (try clear hk); (try clear hi); (try clear ho0); (try clear ho1); (try clear ho2); obtain ⟨aS, aT, cU⟩ := Kd.R_slice be.out; subst cU; have Z29 := kz3 aa; obtain ⟨aU, aV, cV⟩ := Kd.R_slice bf.out; subst cV; obtain ⟨aW, aX, cW⟩ := Kd.S_slice bg.out; subst cW; have Z32 := kz3 ab));rw [rounds_succ];go_wp2;refine bodyPost_ret (results_ct rfl _ _ aq 26 #[.slice aS aM.length aT, .slice aU aN.length aV, .slice aW aO.length aX] (0, 0) _ rfl (kg ab) Try.underlying26 rfl (by kernel_rfl)) rfl ?_;exact ⟨_, _, _, er, by (with_reducible repeat first | apply Kd.R_alloc | apply Kd.R_drewN | apply Kd.R_drew); exact Kd.R_mono (Kd.R_far (p := ⟨aq, 2, none⟩) (Kd.R_far (p := ⟨aq, 1, none⟩) (Kd.R_far (p := ⟨aq, 0, none⟩) (Kd.R_far (p := ⟨aw, 2, none⟩) (Kd.R_far (p := ⟨aw, 1, none⟩) (Kd.R_far (p := ⟨aw, 0, none⟩) (Kd.R_types (Kd.R_types be.out aa.out (by decide)) ab.out (by decide)) (fun _ hk => hk.1.2) (.slice aS aM.length aT)) (fun _ hk => hk.1.2) (.slice aU aN.length aV)) (fun _ hk => hk.1.2) (.slice aW aO.length aX)) (fun _ hk => hk.2) (.slice aS aM.length aT)) (fun _ hk => hk.2) (.slice aU aN.length aV)) (fun _ hk => hk.2) (.slice aW aO.length aX)) (fun _ hk => trivial), by (with_reducible repeat first | apply Kd.R_alloc | apply Kd.R_drewN | apply Kd.R_drew); exact Kd.R_mono (Kd.R_far (p := ⟨aq, 2, none⟩) (Kd.R_far (p := ⟨aq, 1, none⟩) (Kd.R_far (p := ⟨aq, 0, none⟩) (Kd.R_far (p := ⟨aw, 2, none⟩) (Kd.R_far (p := ⟨aw, 1, none⟩) (Kd.R_far (p := ⟨aw, 0, none⟩) (Kd.R_types (Kd.R_types bf.out aa.out (by decide)) ab.out (by decide)) (fun _ hk => hk.1.2) (.slice aS aM.length aT)) (fun _ hk => hk.1.2) (.slice aU aN.length aV)) (fun _ hk => hk.1.2) (.slice aW aO.length aX)) (fun _ hk => hk.2) (.slice aS aM.length aT)) (fun _ hk => hk.2) (.slice aU aN.length aV)) (fun _ hk => hk.2) (.slice aW aO.length aX)) (fun _ hk => trivial), by (with_reducible repeat first | apply Kd.S_alloc | apply Kd.S_drewN | apply Kd.S_drew); exact Kd.S_mono (Kd.S_far (p := ⟨aq, 2, none⟩) (Kd.S_far (p := ⟨aq, 1, none⟩) (Kd.S_far (p := ⟨aq, 0, none⟩) (Kd.S_far (p := ⟨aw, 2, none⟩) (Kd.S_far (p := ⟨aw, 1, none⟩) (Kd.S_far (p := ⟨aw, 0, none⟩) (Kd.S_types (Kd.S_types bg.out aa.out (by decide)) ab.out (by decide)) (fun _ hk => hk.1.2) (.slice aS aM.length aT)) (fun _ hk => hk.1.2) (.slice aU aN.length aV)) (fun _ hk => hk.1.2) (.slice aW aO.length aX)) (fun _ hk => hk.2) (.slice aS aM.length aT)) (fun _ hk => hk.2) (.slice aU aN.length aV)) (fun _ hk => hk.2) (.slice aW aO.length aX)) (fun _ hk => trivial), kh HB⟩
theorem eqA61 (d : Nat) (w : World) (x0 y0 : Int) (x1 y1 : Int) (x2 y2 : Int) (x3 y3 : Int) :
  (Op.equalIn (d + 2) 61 (.agg #[.int .i64 x0, .int .i64 x1, .int .i64 x2, .int .u64 x3]) (.agg #[.int .i64 y0, .int .i64 y1, .int .i64 y2, .int .u64 y3])).run Try.prog w = .ok (x0 == y0 && (x1 == y1 && (x2 == y2 && (x3 == y3)))) w := by
 refine eqA_of Try.underlying61 (by kernel_rfl) ?_;refine eqf_cons (by rfl) (by go_simp; rfl) (by go_simp; rfl) (by go_simp) ?_;refine eqf_cons (by rfl) (by go_simp; rfl) (by go_simp; rfl) (by go_simp) ?_;refine eqf_cons (by rfl) (by go_simp; rfl) (by go_simp; rfl) (by go_simp) ?_;exact eqf_last (by rfl) (by go_simp; rfl) (by go_simp; rfl) (by go_simp)
theorem eqA64 (d : Nat) (w : World) (x0 y0 : Int) (x1 y1 : Bool) :
  (Op.equalIn (d + 2) 64 (.agg #[.int .i64 x0, .bool x1]) (.agg #[.int .i64 y0, .bool y1])).run Try.prog w = .ok (x0 == y0 && (x1 == y1)) w := by
 refine eqA_of Try.underlying64 (by kernel_rfl) ?_;refine eqf_cons (by rfl) (by go_simp; rfl) (by go_simp; rfl) (by go_simp) ?_;exact eqf_last (by rfl) (by go_simp; rfl) (by go_simp; rfl) (by go_simp)
def qha.l0 : Nat → List Int → List Int → Int → Int → Option (Bool)
 | 0, _, _, _, _ => none
 | k + 1, x0, x1, x12, x13 => if x13 < x12 then (if 0 ≤ x13 then (if x13 < (x0.length : Int) then (if x13 < (x1.length : Int) then (if (rd x0 x13) = (rd x1 x13) then (qha.l0 k x0 x1 x12 (wrap64 (x13 + 1))) else (some false)) else (none)) else (none)) else (none)) else (some true)
def qha.f (k : Nat) (l0 : List Int) (l1 : List Int) : Option (Bool) := if (l0.length : Int) = (l1.length : Int) then (qha.l0 k l0 l1 (l0.length : Int) 0) else (some false)
theorem qha.calls (k : Nat) (A0 : Option Addr) (c0 : Nat) (l0 : List Int) (A1 : Option Addr) (c1 : Nat) (l1 : List Int) (r : Bool) (w : World) (hr0 : Kd.C (Kd.int .i64) w A0 l0.length l0) (hc0 : l0.length ≤ c0) (hr1 : Kd.C (Kd.int .i64) w A1 l1.length l1) (hc1 : l1.length ≤ c1) (h : qha.f k l0 l1 = some r) :
  Calls Try.prog 56 #[.slice A0 l0.length c0, .slice A1 l1.length c1] w fun e w' => e = .returned (.bool r) ∧ Drawn0 w w' := by
 have HR0 := Aside0.mk hr0;have HC0 := Aside0.mk hc0;clear hr0 hc0;have HR1 := Aside0.mk hr1;have HC1 := Aside0.mk hc1;clear hr1 hc1;have H : (if (l0.length : Int) = (l1.length : Int) then (qha.l0 k l0 l1 (l0.length : Int) 0) else (some false)) = some r := h;clear h
 by_cases c3 : (l0.length : Int) = (l1.length : Int)
 rotate_left
 ·rw [if_neg c3] at H
  have an := beq_eq_false_iff_ne.mpr c3;have ao := bne_iff_ne.mpr c3
  have ap : (l0.length == l1.length) = false := by first | simpa using c3 | (simp at c3 ⊢; omega)
  obtain rfl := qqI H;go_enter Try.func56, Try.ntmps56;go_wp2
  repeat (go_quiet (fail); try go_wp2)
  go_ret;exact ⟨et, by repeat (first | exact Drawn0.refl _ | apply Drawn0.step)⟩
 rw [if_pos c3] at H;have an := beq_iff_eq.mpr c3;have ao := bne_eq_false_iff_eq.mpr c3
 have ap : (l0.length == l1.length) = true := by first | simpa using c3 | (simp at c3 ⊢; omega)
 clear c3;have H' := Aside0.mk H;clear H;go_enter Try.func56, Try.ntmps56;go_wp2
 repeat (go_quiet (fail); try go_wp2)
 go_loopg [13] k (fun kq v13 w' => ∃ (aa : Int), v13 = .int .i64 aa ∧ Aside0 (qha.l0 kq l0 l1 (l0.length : Int) aa = some r) ∧ Aside0 (kq ≤ k) ∧ Drawn0 w w')
 case atStart => exact ⟨(0), et, H', ⟨Nat.le_refl _⟩, by repeat (first | exact Drawn0.refl _ | apply Drawn0.step)⟩
 case round =>
  clear H';(try clear an ao ap);obtain ⟨aa, rfl, HA, HK1, ⟨m1, rfl⟩⟩ := hrel
  cases gk with
  | zero => exact absurd HA.out (by simp [qha.l0])
  | succ k1 =>
   have H := HA.out;clear HA;simp only [qha.l0] at H
   by_cases c4 : aa < (l0.length : Int)
   rotate_left
   ·rw [if_neg c4] at H
    have au := qqF c4;clear c4;obtain rfl := qqI H;go_wp2
    repeat (go_quiet (fail); try go_wp2)
    go_ret;exact ⟨et, by repeat (first | exact Drawn0.refl _ | apply Drawn0.step)⟩
   rw [if_pos c4] at H;have au := qqT c4;clear c4
   by_cases c5 : 0 ≤ aa
   rotate_left
   ·rw [if_neg c5] at H
    exact absurd H (by simp)
   rw [if_pos c5] at H;have ax := qqT c5;clear c5
   by_cases c6 : aa < (l0.length : Int)
   rotate_left
   ·rw [if_neg c6] at H
    exact absurd H (by simp)
   rw [if_pos c6] at H;have ay := qqT c6;clear c6
   by_cases c7 : aa < (l1.length : Int)
   rotate_left
   ·rw [if_neg c7] at H
    exact absurd H (by simp)
   rw [if_pos c7] at H;have az := qqT c7;clear c7
   by_cases c8 : (rd l0 aa) = (rd l1 aa)
   rotate_left
   ·rw [if_neg c8] at H
    have av := beq_eq_false_iff_ne.mpr c8;have aw := bne_iff_ne.mpr c8;obtain rfl := qqI H;have ab : 0 ≤ (aa : Int) := od;have ae : aa < (l0.length : Int) := od;obtain ⟨aq, aj, ah⟩ := Kd.at_int HR0.out aa ab ae;cases aj;replace ab := eq_true ab; replace ae := eq_true ae;have af : 0 ≤ (aa : Int) := od;have ag : aa < (l1.length : Int) := od;obtain ⟨ar, ak, ai⟩ := Kd.at_int HR1.out aa af ag;cases ak;replace af := eq_true af; replace ag := eq_true ag;go_wp2
    repeat (go_quiet (fail); try go_wp2)
    go_ret;exact ⟨et, by repeat (first | exact Drawn0.refl _ | apply Drawn0.step)⟩
   rw [if_pos c8] at H;have av := beq_iff_eq.mpr c8;have aw := bne_eq_false_iff_eq.mpr c8;clear c8;have H' := Aside0.mk H;clear H;have ab : 0 ≤ (aa : Int) := od;have ae : aa < (l0.length : Int) := od;obtain ⟨aq, aj, ah⟩ := Kd.at_int HR0.out aa ab ae;cases aj;replace ab := eq_true ab; replace ae := eq_true ae;have af : 0 ≤ (aa : Int) := od;have ag : aa < (l1.length : Int) := od;obtain ⟨ar, ak, ai⟩ := Kd.at_int HR1.out aa af ag;cases ak;replace af := eq_true af; replace ag := eq_true ag;go_wp2
   repeat (go_quiet (fail); try go_wp2)
   go_roundg k1
   case measure => have := HK1.out; omega
   case rel => exact ⟨(wrap64 (aa + 1)), et, H', ⟨by have := HK1.out; omega⟩, by repeat (first | exact Drawn0.refl _ | apply Drawn0.step)⟩
end Go.Proofs.Ytmlbliggbkfjnaa.J
