/- The abstract machine, part N: results, deferred calls that recover, and calls. -/
import Derived.Test.YtefhaojjohddaaaGreatDoorAmM
namespace Go.Proofs.YtefhaojjohddaaaGreatDoor.AM
open Go Go.RowKit
noncomputable section

/-! ### results -/
def ares1 (P : Program) (tm : H Value) (h : H Ent) : ResultVar → Option Value
  | .tmp t => tm.get t
  | .cell a t => match tm.get a with
    | some (.pointer (some ⟨b, o, none⟩)) => match h.get b with
      | some (.cells _ _ c _) => loadA P t c o
      | _ => none
    | _ => none
def aresults (P : Program) (rs : List ResultVar) (tm : H Value) (h : H Ent) : Option Value := match rs with
  | [] => some (.tuple #[])
  | [x] => ares1 P tm h x
  | [x, y] => match ares1 P tm h x, ares1 P tm h y with
    | some u, some v => some (.tuple #[u, v])
    | _, _ => none
  | [x, y, z] => match ares1 P tm h x, ares1 P tm h y, ares1 P tm h z with
    | some u, some v, some t => some (.tuple #[u, v, t])
    | _, _, _ => none
  | _ => none
def res1 (tmps : Array Value) : ResultVar → Sem Value
  | .tmp t => pure (tmps.getD t undef)
  | .cell a t => do loadVar t (← asAddr (tmps.getD a undef))
section
variable {P : Program} {G : Nat} {w0 : Base} {w : World} {μ : Mu} {h : H Ent} {call : CallF}
theorem ares1_ok (R : Rel P G w0 μ h w) {fr : Fr} {a : Act} (A : FRelW μ fr a) {x : ResultVar} {v : Value} (hx : ares1 P fr.tm h x = some v) : ∃ v', VRel μ v v' ∧ (res1 a.tmps x).run P w = .ok v' w := by
  cases x with
  | tmp t => exact ⟨_, A.t t v hx, rfl⟩
  | cell t ty =>
    simp only [ares1] at hx
    split at hx
    · rename_i b o ht
      split at hx
      · rename_i wr g c e he
        obtain ⟨m, c', fr', ee, hm, hh, hty, _, _, _, _, _, hle, hp⟩ := R.row he
        obtain ⟨m', hm', e'⟩ := (A.t t _ ht).ptr_inv
        rw [hm] at hm'; cases hm'
        obtain ⟨v', h1, h2⟩ := load_run hx hh hle (fun i v hv => by obtain ⟨u, p, q⟩ := hp i v hv; exact ⟨u, by simpa using p, q⟩)
        refine ⟨v', h1, ?_⟩
        simp only [res1, e', asAddr, Sem.run_bind, Sem.run_pure, Result.andThen_ok]
        simpa only [Instr.loadAt, Instr.sureAddr, Sem.run_bind, Sem.run_pure, Result.andThen_ok] using h2
      · cases hx
    · cases hx
theorem aresults_ok (R : Rel P G w0 μ h w) {fr : Fr} {a : Act} (A : FRelW μ fr a) {fn : Func} {v : Value} (hx : aresults P fn.results.toList fr.tm h = some v) : ∃ v', VRel μ v v' ∧ (results fn a.tmps).run P w = .ok v' w := by
  unfold aresults at hx
  split at hx
  · rename_i hl
    have e : fn.results = #[] := by apply Array.ext'; rw [hl]
    cases hx
    exact ⟨_, closed_rel μ rfl, by simp [results, e]⟩
  · rename_i x hl
    have e : fn.results = #[x] := by apply Array.ext'; rw [hl]
    obtain ⟨v', h1, h2⟩ := ares1_ok R A hx
    refine ⟨v', h1, ?_⟩
    have : results fn a.tmps = (do let u ← res1 a.tmps x; pure u) := by
      simp only [results, e]
      cases x <;> simp [res1]
    rw [this]
    simpa using h2
  · rename_i x y hl
    have e : fn.results = #[x, y] := by apply Array.ext'; rw [hl]
    split at hx
    · rename_i u v h1 h2
      cases hx
      obtain ⟨u', a1, a2⟩ := ares1_ok R A h1
      obtain ⟨v', b1, b2⟩ := ares1_ok R A h2
      refine ⟨.tuple #[u', v'], VRel.of_tuple (LRel.cons a1 (LRel.cons b1 (LRel.nil μ))), ?_⟩
      have : results fn a.tmps = (do let u ← res1 a.tmps x; let v ← res1 a.tmps y; pure (.tuple #[u, v])) := by
        simp only [results, e]
        cases x <;> cases y <;> simp [res1]
      rw [this, Sem.run_bind, a2, Result.andThen_ok, Sem.run_bind, b2]
      rfl
    · cases hx
  · rename_i x y z hl
    have e : fn.results = #[x, y, z] := by apply Array.ext'; rw [hl]
    split at hx
    · rename_i u v t h1 h2 h3
      cases hx
      obtain ⟨u', a1, a2⟩ := ares1_ok R A h1
      obtain ⟨v', b1, b2⟩ := ares1_ok R A h2
      obtain ⟨t', c1, c2⟩ := ares1_ok R A h3
      refine ⟨.tuple #[u', v', t'], VRel.of_tuple (LRel.cons a1 (LRel.cons b1 (LRel.cons c1 (LRel.nil μ)))), ?_⟩
      have : results fn a.tmps = (do let u ← res1 a.tmps x; let v ← res1 a.tmps y; let t ← res1 a.tmps z; pure (.tuple #[u, v, t])) := by
        simp only [results, e]
        cases x <;> cases y <;> cases z <;> simp [res1]
      rw [this, Sem.run_bind, a2, Result.andThen_ok, Sem.run_bind, b2, Result.andThen_ok, Sem.run_bind, c2]
      rfl
    · cases hx
  · cases hx

/-! ### a deferred function -/
abbrev Pan := Option (Value × Bool)
def MRelM (μ : Mu) : Pan → FrameMode → Prop
  | none, .returning => True
  | some (v, b), .panicking ch => ∃ v', VRel μ v v' ∧ ch = [{ v := v', recovered := b }]
  | _, _ => False
theorem MRelM.mono {μ' : Mu} (hm : μ.le μ') {u : Pan} {m : FrameMode} (h : MRelM μ u m) : MRelM μ' u m := by
  cases u with
  | none => cases m <;> first | exact h | exact h.elim
  | some p =>
    obtain ⟨v, b⟩ := p
    cases m with
    | panicking ch => obtain ⟨v', a, e⟩ := h; exact ⟨v', a.mono hm, e⟩
    | _ => exact h.elim
def aopsS (P : Program) (cl : FuncId) (G : Nat) (ops : Array Oper) : List Oper → Fr → H Ent → Nat → Pan → Option (Fr × H Ent × Nat × Pan)
  | [], fr, h, next, u => some (fr, h, next, u)
  | o :: os, fr, h, next, u =>
    bif wantedA ops fr.tm o then
      match aop P cl G fr.tm o with
      | none => none
      | some s => match s.run (s.ids.map h.get) next with
        | some (.val v, upd, new) => match aput fr o.dst v with
          | some fr2 => aopsS P cl G ops os fr2 (applyH h next upd new) (next + 1) u
          | none => none
        | some (.skip, upd, new) => match aput fr o.dst undef with
          | some fr2 => aopsS P cl G ops os fr2 (applyH h next upd new) (next + 1) u
          | none => none
        | some (.recover, upd, new) => match u with
          | some (v, false) => match aput fr o.dst v with
            | some fr2 => aopsS P cl G ops os fr2 (applyH h next upd new) (next + 1) (some (v, true))
            | none => none
          | u => match aput fr o.dst .nilIface with
            | some fr2 => aopsS P cl G ops os fr2 (applyH h next upd new) (next + 1) u
            | none => none
        | _ => none
    else none
def execS (P : Program) (cl : FuncId) (G : Nat) : Code → Fr → H Ent → Nat → Pan → Option (Fr × H Ent × Nat × Pan)
  | .skip, fr, h, next, u => some (fr, h, next, u)
  | .region _ ops d, fr, h, next, u => bif d then none else aopsS P cl G ops ops.toList fr h next u
  | .seq x y, fr, h, next, u => match execS P cl G x fr h next u with
    | some (fr, h, next, u) => execS P cl G y fr h next u
    | none => none
  | .cond c x y, fr, h, next, u => match evalA G fr.tm c with
    | some (.bool true) => execS P cl G x fr h next u
    | some (.bool false) => execS P cl G y fr h next u
    | _ => none
  | _, _, _, _, _ => none
def QS (P : Program) (G : Nat) (w0 : Base) (μ : Mu) (next next' : Nat) (c0 : Frame) (cs0 : List Frame) (fr : Fr) (h : H Ent) (u : Pan) (e : Exit) (a : Act) (cs : List Frame) (w : World) : Prop :=
  e = .normal ∧ ∃ μ' m, Ext μ μ' next next' ∧ Rel P G w0 μ' h w ∧ FRel μ' fr a ∧ MRelM μ' u m ∧ cs = { c0 with mode := m } :: cs0
theorem QS.wide {μ μ1 : Mu} {a b c : Nat} {c0 : Frame} {cs0 : List Frame} {fr : Fr} {u : Pan} {e : Exit} {x : Act} {cs : List Frame} (E : Ext μ μ1 a b) (hab : a ≤ b) (hbc : b ≤ c) (q : QS P G w0 μ1 b c c0 cs0 fr h u e x cs w) : QS P G w0 μ a c c0 cs0 fr h u e x cs w := by
  obtain ⟨he, μ', m, E', r⟩ := q
  exact ⟨he, μ', m, E.trans E' hab hbc, r⟩
theorem wpOpsS_mono {ops : Array Oper} {Q Q' : Exit → Act → List Frame → World → Prop} (hq : ∀ e a cs w, Q e a cs w → Q' e a cs w) : ∀ (l : List Nat) (a : Act) (cs : List Frame) (w : World), wpOpsS P ops Q l a cs w → wpOpsS P ops Q' l a cs w := by
  intro l
  induction l with
  | nil => exact fun a cs w h => hq _ _ _ _ h
  | cons i l ih =>
    intro a cs w h
    simp only [wpOpsS] at h ⊢
    split
    · rename_i hn; rw [hn] at h; exact ih _ _ _ h
    · rename_i o ho
      rw [ho] at h
      simp only at h
      split
      · rename_i hw
        rw [if_pos hw] at h
        generalize (execOp a.eval o).run P w = r at h
        split
        · rename_i w'
          simp only at h
          split
          · rename_i v cs' hrec
            rw [hrec] at h
            exact ih _ _ _ h
          · rename_i hrec
            rw [hrec] at h
            exact ih _ _ _ h
        · rename_i hnr
          split at h
          · rename_i w'; exact absurd rfl (hnr w')
          · exact upon_mono (fun a w => ih a _ w) (fun e a w q => hq e a _ w q) h
      · rename_i hw
        rw [if_neg hw] at h
        exact ih _ _ _ h
theorem wpS_mono {c : Code} {Q Q' : Exit → Act → List Frame → World → Prop} {a : Act} {cs : List Frame} (hq : ∀ e a cs w, Q e a cs w → Q' e a cs w) (h : c.wpS P Q a cs w) : c.wpS P Q' a cs w := fun b k hb hr =>
  let ⟨e, a', cs', w', q, r⟩ := h b k hb hr; ⟨e, a', cs', w', hq _ _ _ _ q, r⟩
theorem aopsS_ok {cl : FuncId} (F : Fns P cl) {ops : Array Oper} : ∀ (os : List Oper) (k : Nat) (fr : Fr) (h : H Ent) (next : Nat) (u : Pan) (fr' : Fr) (h' : H Ent) (next' : Nat) (u' : Pan),
    ops.toList.drop k = os → aopsS P cl G ops os fr h next u = some (fr', h', next', u') → next ≤ next' ∧ ∀ (w0 : Base) (μ : Mu) (w : World) (a : Act) (c0 : Frame) (cs0 : List Frame) (m : FrameMode), Rel P G w0 μ h w → FRel μ fr a → MRelM μ u m → Fresh μ next next' →
      wpOpsS P ops (QS P G w0 μ next next' c0 cs0 fr' h' u') (List.range' k os.length) a ({ c0 with mode := m } :: cs0) w := by
  intro os
  induction os with
  | nil =>
    intro k fr h next u fr' h' next' u' _ hr
    simp only [aopsS, Option.some.injEq, Prod.mk.injEq] at hr
    obtain ⟨rfl, rfl, rfl, rfl⟩ := hr
    exact ⟨Nat.le_refl _, fun w0 μ w a c0 cs0 m R A M _ => ⟨rfl, μ, m, Ext.refl _ _ _, R, A, M, rfl⟩⟩
  | cons x os ih =>
    intro k fr h next u fr' h' next' u' hk hr
    have hx : ops[k]? = some x := by
      have : (ops.toList.drop k)[0]? = some x := by rw [hk]; rfl
      rw [List.getElem?_drop] at this
      simpa using this
    have hk' : ops.toList.drop (k + 1) = os := by
      rw [← List.drop_drop, hk]; rfl
    rw [show (x :: os).length = os.length + 1 from rfl, List.range'_succ]
    simp only [aopsS, cond_eq_ite] at hr
    split at hr
    · rename_i hw
      split at hr
      · cases hr
      · rename_i s hs
        have one : ∀ {v : Value} {u2 : Pan} {fr2 : Fr} {upd : Option (Nat × Option Ent)} {new : Option Ent}, aput fr x.dst v = some fr2 → aopsS P cl G ops os fr2 (applyH h next upd new) (next + 1) u2 = some (fr', h', next', u') →
            (∀ (w0 : Base) (μ : Mu) (w : World) (a : Act) (c0 : Frame) (cs0 : List Frame) (m : FrameMode), Rel P G w0 μ h w → FRel μ fr a → MRelM μ u m → μ next = none → ∃ μ1 w1 v' m', μ.le μ1 ∧ (∀ k, k ≠ next → μ1 k = μ k) ∧ Rel P G w0 μ1 (applyH h next upd new) w1 ∧ VRel μ1 v v' ∧ MRelM μ1 u2 m' ∧
              ∀ (Q : Exit → Act → List Frame → World → Prop) (l : List Nat), wpOpsS P ops Q l (a.put x.dst v') ({ c0 with mode := m' } :: cs0) w1 → wpOpsS P ops Q (k :: l) a ({ c0 with mode := m } :: cs0) w) →
            next ≤ next' ∧ ∀ (w0 : Base) (μ : Mu) (w : World) (a : Act) (c0 : Frame) (cs0 : List Frame) (m : FrameMode), Rel P G w0 μ h w → FRel μ fr a → MRelM μ u m → Fresh μ next next' →
              wpOpsS P ops (QS P G w0 μ next next' c0 cs0 fr' h' u') (k :: List.range' (k + 1) os.length) a ({ c0 with mode := m } :: cs0) w := by
          intro v u2 fr2 upd new hput hgo1 hstep
          obtain ⟨hle, hgo⟩ := ih (k + 1) fr2 _ _ u2 fr' h' next' u' hk' hgo1
          refine ⟨by omega, fun w0 μ w a c0 cs0 m R A M hf => ?_⟩
          obtain ⟨μ1, w1, v', m', hm, hout, R1, hv, M1, hstep⟩ := hstep w0 μ w a c0 cs0 m R A M (hf next (Nat.le_refl _) (by omega))
          have E : Ext μ μ1 next (next + 1) := ⟨hm, fun j hj => hout j (by omega)⟩
          refine hstep _ _ ?_
          exact wpOpsS_mono (fun e a cs w q => q.wide E (by omega) hle) _ _ _ _ (hgo w0 μ1 w1 _ c0 cs0 m' R1 (aput_rel (A.mono hm) hv hput) M1 (hf.ext E (by omega)))
        split at hr
        · rename_i v upd new hrun
          split at hr
          · rename_i fr2 hput
            refine one hput hr fun w0 μ w a c0 cs0 m R A M hn => ?_
            obtain ⟨μ1, w1, hm, hout, _, R1, v', hv, hd⟩ := aop_right F x s hs μ h w a next _ _ _ R A.t hrun hn
            refine ⟨μ1, w1, v', m, hm, hout, R1, hv, M.mono hm, fun Q l hl => ?_⟩
            simp only [wpOpsS, hx, wantedA_eq A.t, hw, if_true, hd, Oper.upon]
            exact hl
          · cases hr
        · rename_i upd new hrun
          split at hr
          · rename_i fr2 hput
            refine one hput hr fun w0 μ w a c0 cs0 m R A M hn => ?_
            obtain ⟨μ1, w1, hm, hout, _, R1, hd⟩ := aop_right F x s hs μ h w a next _ _ _ R A.t hrun hn
            refine ⟨μ1, w1, undef, m, hm, hout, R1, VRel.undef μ1, M.mono hm, fun Q l hl => ?_⟩
            simp only [OpRun] at hd
            simp only [wpOpsS, hx, wantedA_eq A.t, hw, if_true, hd, Oper.upon]
            exact hl
          · cases hr
        · rename_i upd new hrun
          split at hr
          · rename_i v
            split at hr
            · rename_i fr2 hput
              refine one hput hr fun w0 μ w a c0 cs0 m R A M hn => ?_
              obtain ⟨μ1, w1, hm, hout, _, R1, hd⟩ := aop_right F x s hs μ h w a next _ _ _ R A.t hrun hn
              simp only [OpRun] at hd
              cases m with
              | panicking ch =>
                obtain ⟨v', hv, rfl⟩ := M
                refine ⟨μ1, w1, v', .panicking [{ v := v', recovered := true }], hm, hout, R1, hv.mono hm, ⟨v', hv.mono hm, rfl⟩, fun Q l hl => ?_⟩
                simp only [wpOpsS, hx, wantedA_eq A.t, hw, if_true, hd, recoverD]
                exact hl
              | _ => exact M.elim
            · cases hr
          · rename_i hu
            split at hr
            · rename_i fr2 hput
              refine one hput hr fun w0 μ w a c0 cs0 m R A M hn => ?_
              obtain ⟨μ1, w1, hm, hout, _, R1, hd⟩ := aop_right F x s hs μ h w a next _ _ _ R A.t hrun hn
              simp only [OpRun] at hd
              refine ⟨μ1, w1, .nilIface, m, hm, hout, R1, .nilIface, M.mono hm, fun Q l hl => ?_⟩
              have hrec : recoverD ({ c0 with mode := m } :: cs0) = none := by
                cases u with
                | none => cases m <;> first | exact M.elim | rfl
                | some p =>
                  obtain ⟨v, b⟩ := p
                  cases b with
                  | false => exact absurd rfl (hu v)
                  | true => cases m with
                    | panicking ch => obtain ⟨v', _, rfl⟩ := M; rfl
                    | _ => exact M.elim
              simp only [wpOpsS, hx, wantedA_eq A.t, hw, if_true, hd, hrec]
              exact hl
            · cases hr
        · cases hr
    · cases hr
theorem execS_ok {cl : FuncId} (F : Fns P cl) : ∀ (c : Code) (fr : Fr) (h : H Ent) (next : Nat) (u : Pan) (fr' : Fr) (h' : H Ent) (next' : Nat) (u' : Pan),
    execS P cl G c fr h next u = some (fr', h', next', u') → next ≤ next' ∧ ∀ (w0 : Base) (μ : Mu) (w : World) (a : Act) (c0 : Frame) (cs0 : List Frame) (m : FrameMode), Rel P G w0 μ h w → FRel μ fr a → MRelM μ u m → Fresh μ next next' →
      c.wpS P (QS P G w0 μ next next' c0 cs0 fr' h' u') a ({ c0 with mode := m } :: cs0) w := by
  intro c
  induction c with
  | skip =>
    intro fr h next u fr' h' next' u' hr
    simp only [execS, Option.some.injEq, Prod.mk.injEq] at hr
    obtain ⟨rfl, rfl, rfl, rfl⟩ := hr
    exact ⟨Nat.le_refl _, fun w0 μ w a c0 cs0 m R A M _ => wpS_of_wp (wp_skip ⟨rfl, μ, m, Ext.refl _ _ _, R, A, M, rfl⟩)⟩
  | region id ops d =>
    intro fr h next u fr' h' next' u' hr
    cases d with
    | true => simp [execS] at hr
    | false =>
      simp only [execS, cond_false] at hr
      obtain ⟨l, g⟩ := aopsS_ok F ops.toList 0 _ _ _ _ _ _ _ _ (by simp) hr
      refine ⟨l, fun w0 μ w a c0 cs0 m R A M hf => wpS_region ?_⟩
      have := g w0 μ w a c0 cs0 m R A M hf
      rw [Array.length_toList, ← List.range_eq_range'] at this
      exact this
  | seq x y ihx ihy =>
    intro fr h next u fr' h' next' u' hr
    simp only [execS] at hr
    split at hr
    · rename_i fr1 h1 next1 u1 h1r
      obtain ⟨l1, g1⟩ := ihx _ _ _ _ _ _ _ _ h1r
      obtain ⟨l2, g2⟩ := ihy _ _ _ _ _ _ _ _ hr
      refine ⟨by omega, fun w0 μ w a c0 cs0 m R A M hf => wpS_seq (wpS_mono (fun e a1 cs1 w1 q => ?_) (g1 w0 μ w a c0 cs0 m R A M (hf.sub (Nat.le_refl _) l2)))⟩
      obtain ⟨rfl, μ1, m1, E, R1, A1, M1, rfl⟩ := q
      simp only [Exit.thenS]
      exact wpS_mono (fun e a cs w q => q.wide E l1 l2) (g2 w0 μ1 w1 a1 c0 cs0 m1 R1 A1 M1 (hf.ext E l1))
    · cases hr
  | cond c x y ihx ihy =>
    intro fr h next u fr' h' next' u' hr
    simp only [execS] at hr
    split at hr
    · rename_i hc
      obtain ⟨l1, g1⟩ := ihx _ _ _ _ _ _ _ _ hr
      refine ⟨l1, fun w0 μ w a c0 cs0 m R A M hf => ?_⟩
      have r := evalA_rel R A.t hc
      generalize hv : a.eval c = v' at r
      cases r
      exact wpS_cond hv (g1 w0 μ w a c0 cs0 m R A M hf)
    · rename_i hc
      obtain ⟨l1, g1⟩ := ihy _ _ _ _ _ _ _ _ hr
      refine ⟨l1, fun w0 μ w a c0 cs0 m R A M hf => ?_⟩
      have r := evalA_rel R A.t hc
      generalize hv : a.eval c = v' at r
      cases r
      exact wpS_cond hv (g1 w0 μ w a c0 cs0 m R A M hf)
    · cases hr
  | _ =>
    intro fr h next u fr' h' next' u' hr
    simp [execS] at hr
end
end
end Go.Proofs.YtefhaojjohddaaaGreatDoor.AM
