/- The abstract machine, part M: whole bodies and calls; the regions that draw are a parameter here. -/
import Derived.Test.YtefhaojjohddaaaGreatDoorAmL
import Derived.Recover
import Derived.Tactics
namespace Go.Proofs.YtefhaojjohddaaaGreatDoor.AM
open Go Go.RowKit
noncomputable section

abbrev DrawF := CallF → Array Oper → Fr → H Ent → Nat → Option (Out × Fr × H Ent × Nat)
def DrawOk (P : Program) (G : Nat) (dr : DrawF) : Prop := ∀ (call : CallF), CallOk P G call → ∀ (ops : Array Oper) (fr : Fr) (h : H Ent) (next : Nat) (o : Out) (fr' : Fr) (h' : H Ent) (next' : Nat),
  dr call ops fr h next = some (o, fr', h', next') → next ≤ next' ∧ ∀ (w0 : Base) (μ : Mu) (w : World) (a : Act), Rel P G w0 μ h w → FRel μ fr a → Fresh μ next next' →
    ∀ id, (Code.region id ops true).wp P (QOut P G w0 μ next next' o fr' h') a w
def aloop (body : Fr → H Ent → Nat → Option (Out × Fr × H Ent × Nat)) : Nat → Fr → H Ent → Nat → Option (Out × Fr × H Ent × Nat)
  | 0, _, _, _ => none
  | k + 1, fr, h, next => match body fr h next with
    | some (.normal, fr, h, next) => aloop body k fr h next
    | r => r
def exec (P : Program) (cl : FuncId) (G : Nat) (dr : DrawF) (lf : Nat) (call : CallF) : Code → Fr → H Ent → Nat → Option (Out × Fr × H Ent × Nat)
  | .skip, fr, h, next => some (.normal, fr, h, next)
  | .region _ ops d, fr, h, next => bif d then dr call ops fr h next else aops P cl G call ops ops.toList fr h next
  | .seq x y, fr, h, next => match exec P cl G dr lf call x fr h next with
    | some (.normal, fr, h, next) => exec P cl G dr lf call y fr h next
    | r => r
  | .cond c x y, fr, h, next => match evalA G fr.tm c with
    | some (.bool true) => exec P cl G dr lf call x fr h next
    | some (.bool false) => exec P cl G dr lf call y fr h next
    | _ => none
  | .block id x, fr, h, next => match exec P cl G dr lf call x fr h next with
    | some (.exit j, fr, h, next) => bif Nat.beq j id then some (.normal, fr, h, next) else some (.exit j, fr, h, next)
    | r => r
  | .loop x, fr, h, next => aloop (exec P cl G dr lf call x) lf fr h next
  | .exit id, fr, h, next => some (.exit id, fr, h, next)
  | .ret, fr, h, next => some (.ret, fr, h, next)
  | _, _, _, _ => none
def BodyOk (P : Program) (G : Nat) (c : Code) (ex : Fr → H Ent → Nat → Option (Out × Fr × H Ent × Nat)) : Prop := ∀ (fr : Fr) (h : H Ent) (next : Nat) (o : Out) (fr' : Fr) (h' : H Ent) (next' : Nat),
  ex fr h next = some (o, fr', h', next') → next ≤ next' ∧ ∀ (w0 : Base) (μ : Mu) (w : World) (a : Act), Rel P G w0 μ h w → FRel μ fr a → Fresh μ next next' →
    c.wp P (QOut P G w0 μ next next' o fr' h') a w
section
variable {P : Program} {G : Nat} {call : CallF}
theorem rounds_mono {c : Code} {Q Q' : Exit → Act → World → Prop} (hq : ∀ e a w, Q e a w → Q' e a w) : ∀ (k : Nat) (a : Act) (w : World), Code.rounds P c Q k a w → Code.rounds P c Q' k a w := by
  intro k
  induction k with
  | zero => intro a w h; exact h
  | succ k ih =>
    intro a w h
    rw [rounds_succ] at h ⊢
    refine wp_mono h fun e a w q => ?_
    cases e <;> first | exact hq _ _ _ q | skip
    exact ih _ _ q
theorem loop_ok {c : Code} {ex : Fr → H Ent → Nat → Option (Out × Fr × H Ent × Nat)} (B : BodyOk P G c ex) : ∀ (k : Nat) (fr : Fr) (h : H Ent) (next : Nat) (o : Out) (fr' : Fr) (h' : H Ent) (next' : Nat),
    aloop ex k fr h next = some (o, fr', h', next') → next ≤ next' ∧ ∀ (w0 : Base) (μ : Mu) (w : World) (a : Act), Rel P G w0 μ h w → FRel μ fr a → Fresh μ next next' →
      Code.rounds P c (QOut P G w0 μ next next' o fr' h') k a w := by
  intro k
  induction k with
  | zero => intro fr h next o fr' h' next' hr; cases hr
  | succ k ih =>
    intro fr h next o fr' h' next' hr
    simp only [aloop] at hr
    split at hr
    · rename_i fr1 h1 next1 h1r
      obtain ⟨l1, g1⟩ := B _ _ _ _ _ _ _ h1r
      obtain ⟨l2, g2⟩ := ih _ _ _ _ _ _ _ hr
      refine ⟨by omega, fun w0 μ w a R A hf => ?_⟩
      rw [rounds_succ]
      refine wp_mono (g1 w0 μ w a R A (hf.sub (Nat.le_refl _) l2)) fun e a1 w1 q => ?_
      obtain ⟨μ1, E, R1, m⟩ := q
      cases e <;> first | exact m.elim | skip
      simp only [Exit.then]
      have := g2 w0 μ1 w1 a1 R1 m (hf.ext E l1)
      exact rounds_mono (fun e a w q => q.wide E l1 l2) _ _ _ this
    · rename_i hn
      obtain ⟨l1, g1⟩ := B _ _ _ _ _ _ _ hr
      refine ⟨l1, fun w0 μ w a R A hf => ?_⟩
      rw [rounds_succ]
      refine wp_mono (g1 w0 μ w a R A hf) fun e a1 w1 q => ?_
      cases e <;> first | exact q | skip
      exfalso
      obtain ⟨μ1, E, R1, m⟩ := q
      cases o <;> first | exact m.elim | skip
      exact hn _ _ _ hr
theorem exec_ok {cl : FuncId} (F : Fns P cl) {dr : DrawF} (D : DrawOk P G dr) (lf : Nat) (C : CallOk P G call) : ∀ (c : Code), BodyOk P G c (exec P cl G dr lf call c) := by
  intro c
  induction c with
  | skip =>
    intro fr h next o fr' h' next' hr
    simp only [exec, Option.some.injEq, Prod.mk.injEq] at hr
    obtain ⟨rfl, rfl, rfl, rfl⟩ := hr
    exact ⟨Nat.le_refl _, fun w0 μ w a R A _ => wp_skip ⟨μ, Ext.refl _ _ _, R, A⟩⟩
  | region id ops d =>
    intro fr h next o fr' h' next' hr
    cases d with
    | true =>
      simp only [exec, cond_true] at hr
      obtain ⟨l, g⟩ := D call C _ _ _ _ _ _ _ _ hr
      exact ⟨l, fun w0 μ w a R A hf => g w0 μ w a R A hf id⟩
    | false =>
      simp only [exec, cond_false] at hr
      obtain ⟨l, g⟩ := aops_ok F C ops.toList 0 _ _ _ _ _ _ _ (by simp) hr
      refine ⟨l, fun w0 μ w a R A hf => wp_region ?_⟩
      have := g w0 μ w a R A hf
      rw [Array.length_toList, ← List.range_eq_range'] at this
      exact this
  | seq x y ihx ihy =>
    intro fr h next o fr' h' next' hr
    simp only [exec] at hr
    split at hr
    · rename_i fr1 h1 next1 h1r
      obtain ⟨l1, g1⟩ := ihx _ _ _ _ _ _ _ h1r
      obtain ⟨l2, g2⟩ := ihy _ _ _ _ _ _ _ hr
      refine ⟨by omega, fun w0 μ w a R A hf => wp_seq (wp_mono (g1 w0 μ w a R A (hf.sub (Nat.le_refl _) l2)) fun e a1 w1 q => ?_)⟩
      obtain ⟨μ1, E, R1, m⟩ := q
      cases e <;> first | exact m.elim | skip
      simp only [Exit.then]
      exact wp_mono (g2 w0 μ1 w1 a1 R1 m (hf.ext E l1)) fun e a w q => q.wide E l1 l2
    · rename_i hn
      obtain ⟨l1, g1⟩ := ihx _ _ _ _ _ _ _ hr
      refine ⟨l1, fun w0 μ w a R A hf => wp_seq (wp_mono (g1 w0 μ w a R A hf) fun e a1 w1 q => ?_)⟩
      cases e <;> first | exact q | skip
      exfalso
      obtain ⟨μ1, E, R1, m⟩ := q
      cases o <;> first | exact m.elim | skip
      exact hn _ _ _ hr
  | cond c x y ihx ihy =>
    intro fr h next o fr' h' next' hr
    simp only [exec] at hr
    split at hr
    · rename_i hc
      obtain ⟨l1, g1⟩ := ihx _ _ _ _ _ _ _ hr
      refine ⟨l1, fun w0 μ w a R A hf => ?_⟩
      have r := evalA_rel R A.t hc
      generalize hv : a.eval c = v' at r
      cases r
      exact wp_cond_true hv (g1 w0 μ w a R A hf)
    · rename_i hc
      obtain ⟨l1, g1⟩ := ihy _ _ _ _ _ _ _ hr
      refine ⟨l1, fun w0 μ w a R A hf => ?_⟩
      have r := evalA_rel R A.t hc
      generalize hv : a.eval c = v' at r
      cases r
      exact wp_cond_false hv (g1 w0 μ w a R A hf)
    · cases hr
  | block id x ih =>
    intro fr h next o fr' h' next' hr
    simp only [exec] at hr
    split at hr
    · rename_i j fr1 h1 next1 h1r
      obtain ⟨l1, g1⟩ := ih _ _ _ _ _ _ _ h1r
      simp only [cond_eq_ite, Nat.beq_eq] at hr
      split at hr
      · rename_i hj
        simp only [Option.some.injEq, Prod.mk.injEq] at hr
        obtain ⟨rfl, rfl, rfl, rfl⟩ := hr
        refine ⟨l1, fun w0 μ w a R A hf => wp_block (wp_mono (g1 w0 μ w a R A hf) fun e a1 w1 q => ?_)⟩
        obtain ⟨μ1, E, R1, m⟩ := q
        cases e <;> first | exact m.elim | skip
        obtain ⟨rfl, m⟩ := m
        simp only [Exit.inBlock, hj, if_true]
        exact ⟨μ1, E, R1, m⟩
      · rename_i hj
        simp only [Option.some.injEq, Prod.mk.injEq] at hr
        obtain ⟨rfl, rfl, rfl, rfl⟩ := hr
        refine ⟨l1, fun w0 μ w a R A hf => wp_block (wp_mono (g1 w0 μ w a R A hf) fun e a1 w1 q => ?_)⟩
        obtain ⟨μ1, E, R1, m⟩ := q
        cases e <;> first | exact m.elim | skip
        obtain ⟨rfl, m⟩ := m
        simp only [Exit.inBlock, hj, if_false]
        exact ⟨μ1, E, R1, rfl, m⟩
    · rename_i hn
      obtain ⟨l1, g1⟩ := ih _ _ _ _ _ _ _ hr
      refine ⟨l1, fun w0 μ w a R A hf => wp_block (wp_mono (g1 w0 μ w a R A hf) fun e a1 w1 q => ?_)⟩
      cases e <;> first | exact q | skip
      exfalso
      obtain ⟨μ1, E, R1, m⟩ := q
      cases o <;> first | exact m.elim | skip
      exact hn _ _ _ _ hr
  | loop x ih =>
    intro fr h next o fr' h' next' hr
    simp only [exec] at hr
    obtain ⟨l1, g1⟩ := loop_ok ih _ _ _ _ _ _ _ _ hr
    exact ⟨l1, fun w0 μ w a R A hf => wp_loop_rounds lf (g1 w0 μ w a R A hf)⟩
  | exit id =>
    intro fr h next o fr' h' next' hr
    simp only [exec, Option.some.injEq, Prod.mk.injEq] at hr
    obtain ⟨rfl, rfl, rfl, rfl⟩ := hr
    exact ⟨Nat.le_refl _, fun w0 μ w a R A _ => wp_exit ⟨μ, Ext.refl _ _ _, R, rfl, A⟩⟩
  | ret =>
    intro fr h next o fr' h' next' hr
    simp only [exec, Option.some.injEq, Prod.mk.injEq] at hr
    obtain ⟨rfl, rfl, rfl, rfl⟩ := hr
    exact ⟨Nat.le_refl _, fun w0 μ w a R A _ => wp_ret ⟨μ, Ext.refl _ _ _, R, A⟩⟩
  | _ =>
    intro fr h next o fr' h' next' hr
    simp [exec] at hr
end
end
end Go.Proofs.YtefhaojjohddaaaGreatDoor.AM
