/- The abstract machine, part L: frames, one operation with its call, and the regions in the text's order. -/
import Derived.Test.YtefhaojjohddaaaGreatDoorAmK
import Derived.LoopN
namespace Go.Proofs.YtefhaojjohddaaaGreatDoor.AM
open Go Go.RowKit
noncomputable section

inductive CRes where
  | ret (v : Value)
  | panic (v : Value)
abbrev CallF := FuncId → List Value → H Ent → Nat → Option (CRes × H Ent × Nat)
def CRel (μ : Mu) : CRes → Ending → Prop
  | .ret v, .returned v' => VRel μ v v'
  | .panic v, .panicked ch => ∃ v', VRel μ v v' ∧ ch = [{ v := v', recovered := false }]
  | _, _ => False
def Fresh (μ : Mu) (a b : Nat) : Prop := ∀ j, a ≤ j → j < b → μ j = none
structure Ext (μ μ' : Mu) (a b : Nat) : Prop where
  le : μ.le μ'
  out : ∀ j, (j < a ∨ b ≤ j) → μ' j = μ j
theorem Ext.refl (μ : Mu) (a b : Nat) : Ext μ μ a b := ⟨Mu.le_refl μ, fun _ _ => rfl⟩
theorem Ext.trans {μ μ1 μ2 : Mu} {a b c : Nat} (h : Ext μ μ1 a b) (k : Ext μ1 μ2 b c) (hab : a ≤ b) (hbc : b ≤ c) : Ext μ μ2 a c :=
  ⟨Mu.le_trans h.le k.le, fun j hj => (k.out j (by omega)).trans (h.out j (by omega))⟩
theorem Ext.wide {μ μ1 : Mu} {a b a' b' : Nat} (h : Ext μ μ1 a b) (ha : a' ≤ a) (hb : b ≤ b') : Ext μ μ1 a' b' := ⟨h.le, fun j hj => h.out j (by omega)⟩
theorem Fresh.sub {μ : Mu} {a b a' b' : Nat} (h : Fresh μ a b) (ha : a ≤ a') (hb : b' ≤ b) : Fresh μ a' b' := fun j x y => h j (by omega) (by omega)
theorem Fresh.ext {μ μ1 : Mu} {a b c : Nat} (h : Fresh μ a c) (k : Ext μ μ1 a b) (hab : a ≤ b) : Fresh μ1 b c := fun j x y => (k.out j (.inr x)).trans (h j (by omega) y)
def CallOk (P : Program) (G : Nat) (call : CallF) : Prop := ∀ (f : FuncId) (args : List Value) (h : H Ent) (next : Nat) (r : CRes) (h' : H Ent) (next' : Nat),
  call f args h next = some (r, h', next') → next ≤ next' ∧ ∀ (w0 : Base) (μ : Mu) (w : World) (args' : Array Value), Rel P G w0 μ h w → LRel μ args args'.toList → Fresh μ next next' →
    Calls P f args' w fun e w' => ∃ μ', Ext μ μ' next next' ∧ CRel μ' r e ∧ Rel P G w0 μ' h' w'

theorem upon_mono {P : Program} {o : Oper} {a : Act} {K K' : Act → World → Prop} {Q Q' : Exit → Act → World → Prop} (hk : ∀ a w, K a w → K' a w) (hq : ∀ e a w, Q e a w → Q' e a w) {r : Result Next} (hh : o.upon P a K Q r) : o.upon P a K' Q' r := by
  cases r with
  | ok n w' =>
    cases n <;> simp only [Oper.upon] at hh ⊢ <;>
      first
        | exact hk _ _ hh
        | exact Calls.mono hh (fun e w'' he => by
            cases e with
            | returned v => exact hk _ _ he
            | panicked c => exact hq _ _ _ he
            | outgrown => obtain ⟨a0, w0, q⟩ := he; exact ⟨a0, w0, hq _ _ _ q⟩)
        | exact Rows.mono hh (fun _ _ he => hk _ _ he)
  | halt x w' =>
    cases x <;> simp only [Oper.upon] at hh ⊢
    exact hq _ _ _ hh
theorem wpOps_mono {P : Program} {ops : Array Oper} {Q Q' : Exit → Act → World → Prop} (hq : ∀ e a w, Q e a w → Q' e a w) : ∀ (l : List Nat) (a : Act) (w : World), wpOps P ops Q l a w → wpOps P ops Q' l a w := by
  intro l
  induction l with
  | nil => exact fun a w h => hq _ _ _ h
  | cons i l ih =>
    intro a w h
    simp only [wpOps] at h ⊢
    split
    · rename_i hn; rw [hn] at h; exact ih _ _ h
    · rename_i o ho
      rw [ho] at h
      simp only at h
      split
      · rename_i hw
        rw [if_pos hw] at h
        exact h.imp (upon_mono (fun a w => ih a w) hq) fun ⟨x, a0, w0, q⟩ => ⟨x, a0, w0, hq _ _ _ q⟩
      · rename_i hw
        rw [if_neg hw] at h
        exact ih _ _ h

/-! ### frames -/
structure Fr where
  n : Nat
  tm : H Value
  ds : List (FuncId × List Value)
def DRel (μ : Mu) : List (FuncId × List Value) → List Deferred → Prop
  | [], [] => True
  | (f, args) :: ds, d :: ds' => (∃ cap, d.target = .fn (.func f) cap ∧ LRel μ args (d.args ++ cap).toList) ∧ DRel μ ds ds'
  | _, _ => False
theorem DRel.mono {μ μ' : Mu} (hm : μ.le μ') : ∀ {ds : List (FuncId × List Value)} {ds' : List Deferred}, DRel μ ds ds' → DRel μ' ds ds'
  | [], [], _ => trivial
  | [], _ :: _, h => h.elim
  | _ :: _, [], h => h.elim
  | (_, _) :: _, _ :: _, ⟨⟨c, a, b⟩, k⟩ => ⟨⟨c, a, b.mono hm⟩, k.mono hm⟩
structure FRel (μ : Mu) (fr : Fr) (a : Act) : Prop where
  t : TRel μ fr.tm a
  n : a.tmps.size = fr.n
  d : DRel μ fr.ds a.defers
theorem FRel.mono {μ μ' : Mu} (hm : μ.le μ') {fr : Fr} {a : Act} (h : FRel μ fr a) : FRel μ' fr a := ⟨h.t.mono hm, h.n, h.d.mono hm⟩
/-- After a panic: only what the machine holds of the temporaries. -/
structure FRelW (μ : Mu) (fr : Fr) (a : Act) : Prop where
  t : ∀ t v, fr.tm.get t = some v → VRel μ v (a.tmps.getD t undef)
  d : DRel μ fr.ds a.defers
theorem FRel.weak {μ : Mu} {fr : Fr} {a : Act} (h : FRel μ fr a) : FRelW μ fr a := ⟨fun t v hv => by have := h.t t; rw [hv] at this; exact this, h.d⟩
def aput (fr : Fr) (dst : Option Tmp) (v : Value) : Option Fr := match dst with
  | none => some fr
  | some d => bif Nat.blt d fr.n then some { fr with tm := fr.tm.set d (some v) } else none
theorem aput_rel {μ : Mu} {fr fr' : Fr} {a : Act} {dst : Option Tmp} {v v' : Value} (F : FRel μ fr a) (hv : VRel μ v v') (h : aput fr dst v = some fr') : FRel μ fr' (a.put dst v') := by
  cases dst with
  | none => simp only [aput, Option.some.injEq] at h; subst h; exact F
  | some d =>
    simp only [aput, cond_eq_ite] at h
    split at h
    · rename_i hd
      cases h
      rw [Nat.blt_eq] at hd
      refine ⟨fun t => ?_, by simpa [Act.put] using F.n, F.d⟩
      simp only [Act.put, H.get_set]
      by_cases e : t = d
      · subst e
        simp [F.n, hd, hv]
      · have : ¬ d = t := fun q => e q.symm
        have k := F.t t
        simp only [if_neg e]
        simpa [Array.getElem?_setIfInBounds_ne this] using k
    · cases h
def wantedA (ops : Array Oper) (tm : H Value) (o : Oper) : Bool := match o.guard with
  | none => true
  | some (j, want) => match (ops[j]?).bind (·.dst) with
    | some t => match tm.get t with
      | some (.bool b) => b == want
      | _ => false
    | none => false
theorem VRel.bool_back {μ : Mu} {v : Value} {b : Bool} (h : VRel μ v (.bool b)) : v = .bool b := by
  cases h; rfl
theorem wantedA_eq {μ : Mu} {tm : H Value} {a : Act} (T : TRel μ tm a) (ops : Array Oper) (o : Oper) : Region.wanted o (yielded ops a.tmps) = wantedA ops tm o := by
  unfold Region.wanted wantedA
  cases hg : o.guard with
  | none => rfl
  | some g =>
    obtain ⟨j, want⟩ := g
    simp only
    unfold yielded
    cases hd : (ops[j]?).bind (·.dst) with
    | none => simp
    | some t =>
      simp only [Option.bind_some]
      have k := T t
      cases hv : a.tmps[t]? with
      | none =>
        rw [Array.getD_eq_getD_getElem?, hv] at k
        simp only [Option.getD_none] at k
        cases htm : tm.get t with
        | none => simp
        | some v =>
          rw [htm] at k
          simp only [Option.getD_some] at k
          cases v <;> simp <;> cases k
      | some u =>
        rw [Array.getD_eq_getD_getElem?, hv] at k
        simp only [Option.getD_some] at k
        cases htm : tm.get t with
        | none =>
          rw [htm] at k
          simp only [Option.getD_none, undef] at k
          cases k
          simp
        | some v =>
          rw [htm] at k
          simp only [Option.getD_some] at k
          cases k <;> simp

/-! ### one operation, with the call that it makes -/
def after (call : CallF) (r : Res) (h : H Ent) (next : Nat) : Option (CRes × H Ent × Nat) := match r with
  | .val v => some (.ret v, h, next)
  | .skip => some (.ret undef, h, next)
  | .enter f args => call f args.toList h next
  | .panic v => some (.panic v, h, next)
  | _ => none
section
variable {P : Program} {G : Nat} {w0 : Base} {w : World} {μ : Mu} {h : H Ent} {call : CallF}
theorem after_le (C : CallOk P G call) {r : Res} {next : Nat} {c : CRes} {h2 : H Ent} {next2 : Nat} (ha : after call r h next = some (c, h2, next2)) : next ≤ next2 := by
  unfold after at ha
  split at ha <;> first | (cases ha; exact Nat.le_refl _) | exact (C _ _ _ _ _ _ _ ha).1 | cases ha
theorem op_wp (C : CallOk P G call) {o : Oper} {tm : H Value} {st : Option Step} {s : Step} (hst : Right P G w0 o tm st) (hs : st = some s)
    {next : Nat} {r : Res} {upd : Option (Nat × Option Ent)} {new : Option Ent} (hr : s.run (s.ids.map h.get) next = some (r, upd, new))
    {c : CRes} {h2 : H Ent} {next2 : Nat} (ha : after call r (applyH h next upd new) (next + 1) = some (c, h2, next2))
    {a a' : Act} (R : Rel P G w0 μ h w) (T : TRel μ tm a') (he : execOp a'.eval o = execOp a.eval o) (hf : Fresh μ next next2) {K : Act → World → Prop} {Q : Exit → Act → World → Prop}
    (hK : ∀ v, c = .ret v → ∀ μ' w' v', Ext μ μ' next next2 → VRel μ' v v' → Rel P G w0 μ' h2 w' → K (a.put o.dst v') w')
    (hQ : ∀ v, c = .panic v → ∀ μ' w' v', Ext μ μ' next next2 → VRel μ' v v' → Rel P G w0 μ' h2 w' → Q (.panic [{ v := v', recovered := false }]) a w') :
    o.wp P a w K Q := by
  have hle := after_le C ha
  obtain ⟨μ', w', hm, hout, _, R', hrun⟩ := hst s hs μ h w a' next r upd new R T hr (hf next (Nat.le_refl _) (by omega))
  have E : Ext μ μ' next (next + 1) := ⟨hm, fun j hj => hout j (by omega)⟩
  unfold Oper.wp
  unfold OpRun at hrun
  rw [he] at hrun
  cases r with
  | val v =>
    obtain ⟨v', hv, hrun⟩ := hrun
    simp only [after, Option.some.injEq, Prod.mk.injEq] at ha
    obtain ⟨rfl, rfl, rfl⟩ := ha
    rw [hrun]
    exact hK v rfl μ' w' v' E hv R'
  | skip =>
    simp only [after, Option.some.injEq, Prod.mk.injEq] at ha
    obtain ⟨rfl, rfl, rfl⟩ := ha
    simp only [OpRun] at hrun
    rw [hrun]
    exact hK undef rfl μ' w' undef E (VRel.undef μ') R'
  | enter f args =>
    obtain ⟨args', hv, hrun⟩ := hrun
    simp only [after] at ha
    rw [hrun]
    simp only [Oper.upon]
    refine ((C _ _ _ _ _ _ _ ha).2 w0 μ' w' args' R' hv ((hf.ext E (by omega)))).mono fun e w2 hh => ?_
    obtain ⟨μ2, E2, hc, R2⟩ := hh
    have E3 := E.trans E2 (by omega) hle
    cases c with
    | ret v => cases e with
      | returned v' => exact hK v rfl μ2 w2 v' E3 hc R2
      | _ => exact hc.elim
    | panic v => cases e with
      | panicked ch =>
        obtain ⟨v', hv, rfl⟩ := hc
        exact hQ v rfl μ2 w2 v' E3 hv R2
      | _ => exact hc.elim
  | panic v =>
    obtain ⟨v', hv, hrun⟩ := hrun
    simp only [after, Option.some.injEq, Prod.mk.injEq] at ha
    obtain ⟨rfl, rfl, rfl⟩ := ha
    rw [hrun]
    exact hQ v rfl μ' w' v' E hv R'
  | defer f args => simp [after] at ha
  | recover => simp [after] at ha

/-! ### a region in the text's order -/
inductive Out where
  | normal
  | exit (id : Nat)
  | ret
  | panic (v : Value)
def QOut (P : Program) (G : Nat) (w0 : Base) (μ : Mu) (next next' : Nat) (o : Out) (fr : Fr) (h : H Ent) (e : Exit) (a : Act) (w : World) : Prop :=
  ∃ μ', Ext μ μ' next next' ∧ Rel P G w0 μ' h w ∧ match o, e with
    | .normal, .normal => FRel μ' fr a
    | .exit i, .exit j => i = j ∧ FRel μ' fr a
    | .ret, .ret => FRel μ' fr a
    | .panic v, .panic ch => (∃ v', VRel μ' v v' ∧ ch = [{ v := v', recovered := false }]) ∧ FRelW μ' fr a
    | _, _ => False
theorem QOut.wide {μ μ1 : Mu} {a b c : Nat} {o : Out} {fr : Fr} {e : Exit} {x : Act} (E : Ext μ μ1 a b) (hab : a ≤ b) (hbc : b ≤ c) (q : QOut P G w0 μ1 b c o fr h e x w) : QOut P G w0 μ a c o fr h e x w := by
  obtain ⟨μ', E', R, m⟩ := q
  exact ⟨μ', E.trans E' hab hbc, R, m⟩
def aops (P : Program) (cl : FuncId) (G : Nat) (call : CallF) (ops : Array Oper) : List Oper → Fr → H Ent → Nat → Option (Out × Fr × H Ent × Nat)
  | [], fr, h, next => some (.normal, fr, h, next)
  | o :: os, fr, h, next =>
    bif wantedA ops fr.tm o then
      match aop P cl G fr.tm o with
      | none => none
      | some s => match s.run (s.ids.map h.get) next with
        | none => none
        | some (.defer f args, upd, new) => match aput { fr with ds := (f, args.toList) :: fr.ds } o.dst undef with
          | some fr2 => aops P cl G call ops os fr2 (applyH h next upd new) (next + 1)
          | none => none
        | some (r, upd, new) => match after call r (applyH h next upd new) (next + 1) with
          | none => none
          | some (.ret v, h2, next2) => match aput fr o.dst v with
            | some fr2 => aops P cl G call ops os fr2 h2 next2
            | none => none
          | some (.panic v, h2, next2) => some (.panic v, fr, h2, next2)
    else match aput fr o.dst undef with
      | some fr2 => aops P cl G call ops os fr2 h next
      | none => none
theorem aops_ok {cl : FuncId} (F : Fns P cl) (C : CallOk P G call) {ops : Array Oper} : ∀ (os : List Oper) (k : Nat) (fr : Fr) (h : H Ent) (next : Nat) (o : Out) (fr' : Fr) (h' : H Ent) (next' : Nat),
    ops.toList.drop k = os → aops P cl G call ops os fr h next = some (o, fr', h', next') → next ≤ next' ∧ ∀ (w0 : Base) (μ : Mu) (w : World) (a : Act), Rel P G w0 μ h w → FRel μ fr a → Fresh μ next next' →
      wpOps P ops (QOut P G w0 μ next next' o fr' h') (List.range' k os.length) a w := by
  intro os
  induction os with
  | nil =>
    intro k fr h next o fr' h' next' _ hr
    simp only [aops, Option.some.injEq, Prod.mk.injEq] at hr
    obtain ⟨rfl, rfl, rfl, rfl⟩ := hr
    exact ⟨Nat.le_refl _, fun w0 μ w a R A _ => ⟨μ, Ext.refl _ _ _, R, A⟩⟩
  | cons x os ih =>
    intro k fr h next o fr' h' next' hk hr
    have hx : ops[k]? = some x := by
      have : (ops.toList.drop k)[0]? = some x := by rw [hk]; rfl
      rw [List.getElem?_drop] at this
      simpa using this
    have hk' : ops.toList.drop (k + 1) = os := by
      rw [← List.drop_drop, hk]; rfl
    rw [show (x :: os).length = os.length + 1 from rfl, List.range'_succ]
    simp only [aops, cond_eq_ite] at hr
    split at hr
    · rename_i hw
      split at hr
      · cases hr
      · rename_i s hs
        split at hr
        · cases hr
        · rename_i f args upd new hrun
          split at hr
          · rename_i fr2 hput
            obtain ⟨hle, hgo⟩ := ih (k + 1) fr2 _ _ o fr' h' next' hk' hr
            refine ⟨by omega, fun w0 μ w a R A hf => ?_⟩
            obtain ⟨μ1, w1, hm, hout, _, R1, d, hd, cap, da, h1, h2, h3⟩ := aop_right F x s hs μ h w a next _ _ _ R A.t hrun (hf next (Nat.le_refl _) (by omega))
            have E : Ext μ μ1 next (next + 1) := ⟨hm, fun j hj => hout j (by omega)⟩
            simp only [wpOps, hx, wantedA_eq A.t, hw, if_true]
            refine .inl ?_
            unfold Oper.wp
            rw [hd]
            simp only [Oper.upon]
            have A1 : FRel μ1 { fr with ds := (f, args.toList) :: fr.ds } { a with defers := d :: a.defers } := ⟨A.t.mono hm, A.n, ⟨cap, h1, by rw [h2]; exact h3⟩, A.d.mono hm⟩
            exact wpOps_mono (fun e a w q => q.wide E (by omega) hle) _ _ _ (hgo w0 μ1 w1 _ R1 (aput_rel A1 (VRel.undef μ1) hput) (hf.ext E (by omega)))
          · cases hr
        · rename_i r upd new hnd hrun
          split at hr
          · cases hr
          · rename_i v h2 next2 haft
            have hle2 := after_le C haft
            split at hr
            · rename_i fr2 hput
              obtain ⟨hle, hgo⟩ := ih (k + 1) fr2 _ _ o fr' h' next' hk' hr
              refine ⟨by omega, fun w0 μ w a R A hf => ?_⟩
              simp only [wpOps, hx, wantedA_eq A.t, hw, if_true]
              refine .inl (op_wp C (aop_right F x) hs hrun haft R A.t rfl (hf.sub (Nat.le_refl _) hle) ?_ ?_)
              · intro u hu μ1 w1 v' E hv R1
                cases hu
                exact wpOps_mono (fun e a w q => q.wide E (by omega) hle) _ _ _ (hgo w0 μ1 w1 _ R1 (aput_rel (A.mono E.le) hv hput) (hf.ext E (by omega)))
              · intro u hu; cases hu
            · cases hr
          · rename_i v h2 next2 haft
            have hle2 := after_le C haft
            simp only [Option.some.injEq, Prod.mk.injEq] at hr
            obtain ⟨rfl, rfl, rfl, rfl⟩ := hr
            refine ⟨by omega, fun w0 μ w a R A hf => ?_⟩
            simp only [wpOps, hx, wantedA_eq A.t, hw, if_true]
            refine .inl (op_wp C (aop_right F x) hs hrun haft R A.t rfl hf ?_ ?_)
            · intro u hu; cases hu
            · intro u hu μ1 w1 v' E hv R1
              cases hu
              exact ⟨μ1, E, R1, ⟨v', hv, rfl⟩, (A.mono E.le).weak⟩
    · rename_i hw
      split at hr
      · rename_i fr2 hput
        obtain ⟨hle, hgo⟩ := ih (k + 1) fr2 _ _ o fr' h' next' hk' hr
        refine ⟨hle, fun w0 μ w a R A hf => ?_⟩
        simp only [wpOps, hx, wantedA_eq A.t, hw, if_false, Bool.false_eq_true]
        exact hgo w0 μ w _ R (aput_rel A (VRel.undef μ) hput) hf
      · cases hr
end
end
end Go.Proofs.YtefhaojjohddaaaGreatDoor.AM
