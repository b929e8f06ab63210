/- The abstract machine, part O: calls. -/
import Derived.Test.YtefhaojjohddaaaGreatDoorAmN
namespace Go.Proofs.YtefhaojjohddaaaGreatDoor.AM
open Go Go.RowKit
noncomputable section

def setArgs : List Value → Nat → H Value → H Value
  | [], _, t => t
  | v :: vs, i, t => setArgs vs (i + 1) (t.set i (some v))
theorem setArgs_get : ∀ (vs : List Value) (i : Nat) (t : H Value) (k : Nat), (setArgs vs i t).get k = if i ≤ k ∧ k < i + vs.length then vs[k - i]? else t.get k
  | [], i, t, k => by
    have : ¬ (i ≤ k ∧ k < i + ([] : List Value).length) := by rw [List.length_nil]; omega
    rw [if_neg this]; rfl
  | v :: vs, i, t, k => by
    rw [setArgs, setArgs_get vs (i + 1), H.get_set]
    by_cases h1 : k = i
    · subst h1
      have : ¬ (k + 1 ≤ k ∧ k < k + 1 + vs.length) := by omega
      rw [if_neg this, if_pos rfl, if_pos (by rw [List.length_cons]; omega)]
      simp
    · rw [if_neg h1]
      by_cases h2 : i + 1 ≤ k ∧ k < i + 1 + vs.length
      · rw [if_pos h2, if_pos (by rw [List.length_cons]; omega)]
        obtain ⟨m, rfl⟩ : ∃ m, k = i + 1 + m := ⟨k - (i + 1), by omega⟩
        rw [show i + 1 + m - (i + 1) = m by omega, show i + 1 + m - i = m + 1 by omega]
        simp
      · rw [if_neg h2, if_neg (by rw [List.length_cons]; omega)]
def frame0 (n : Nat) (args : List Value) : Fr := ⟨args.length + (n - args.length), setArgs args 0 .nil, []⟩
def adefer (P : Program) (cl : FuncId) (G : Nat) (f : FuncId) (args : List Value) (h : H Ent) (next : Nat) (u : Pan) : Option (H Ent × Nat × Pan) := match P.funcs[f]? with
  | some fn => match fn.body, fn.results.toList with
    | some c, [] => match execS P cl G c (frame0 fn.ntmps args) h next u with
      | some (fr, h, next, u) => match fr.ds with
        | [] => some (h, next, u)
        | _ => none
      | none => none
    | _, _ => none
  | none => none
def aleave (P : Program) (cl : FuncId) (G : Nat) (rs : List ResultVar) (fr : Fr) (h : H Ent) (next : Nat) (u : Pan) : Option (CRes × H Ent × Nat) := match fr.ds with
  | [] => match u with
    | none => match aresults P rs fr.tm h with
      | some v => some (.ret v, h, next)
      | none => none
    | some (v, false) => some (.panic v, h, next)
    | _ => none
  | [(f, args)] => match adefer P cl G f args h next u with
    | some (h, next, some (v, false)) => some (.panic v, h, next)
    | some (h, next, _) => match aresults P rs fr.tm h with
      | some v => some (.ret v, h, next)
      | none => none
    | none => none
  | _ => none
/-- What is known ahead, then a run. -/
def orCall (t c : CallF) : CallF := fun f args h next => match t f args h next with
  | some r => some r
  | none => c f args h next
def acall (P : Program) (cl : FuncId) (G : Nat) (dr : DrawF) (lf : Nat) (t : CallF) : Nat → CallF
  | 0, _, _, _, _ => none
  | k + 1, f, args, h, next => match P.funcs[f]? with
    | some fn => match fn.body with
      | some c => match exec P cl G dr lf (orCall t (acall P cl G dr lf t k)) c (frame0 fn.ntmps args) h next with
        | some (.normal, fr, h, next) => aleave P cl G fn.results.toList fr h next none
        | some (.ret, fr, h, next) => aleave P cl G fn.results.toList fr h next none
        | some (.panic v, fr, h, next) => aleave P cl G fn.results.toList fr h next (some (v, false))
        | _ => none
      | none => none
    | none => none
section
variable {P : Program} {G : Nat} {w0 : Base} {w : World} {μ : Mu} {h : H Ent} {call : CallF}
theorem frame0_rel {args : List Value} {args' : Array Value} (r : LRel μ args args'.toList) (n : Nat) : FRel μ (frame0 n args) { tmps := args' ++ Array.replicate (n - args'.size) undef, defers := [] } := by
  have hl : args.length = args'.size := by rw [r.1, Array.length_toList]
  refine ⟨fun t => ?_, by simp [frame0, hl], trivial⟩
  simp only [frame0, setArgs_get, Nat.zero_le, true_and, Nat.zero_add, Nat.sub_zero]
  by_cases ht : t < args.length
  · rw [if_pos ht]
    obtain ⟨v', h1, h2⟩ := r.get (List.getElem?_eq_getElem ht)
    rw [List.getElem?_eq_getElem ht, Option.getD_some, Array.getD_eq_getD_getElem?, Array.getElem?_append_left (by omega), ← Array.getElem?_toList, h1]
    exact h2
  · rw [if_neg ht, H.get_nil, Option.getD_none, Array.getD_eq_getD_getElem?, Array.getElem?_append_right (by omega)]
    have : (Array.replicate (n - args'.size) undef)[t - args'.size]?.getD undef = undef := by
      rw [Array.getElem?_replicate]
      split <;> rfl
    rw [this]
    exact VRel.undef μ
theorem DRel.nil_inv {ds : List Deferred} (h : DRel μ [] ds) : ds = [] := by
  cases ds with
  | nil => rfl
  | cons => exact h.elim
theorem results_nil {fn : Func} (hn : fn.results.toList = []) (tmps : Array Value) (w : World) : (results fn tmps).run P w = .ok (.tuple #[]) w := by
  have e : fn.results = #[] := by apply Array.ext'; rw [hn]
  exact results_none e tmps P w
theorem adefer_ok {cl : FuncId} (F : Fns P cl) {f : FuncId} {args : List Value} {next : Nat} {u : Pan} {h' : H Ent} {next' : Nat} {u' : Pan}
    (hr : adefer P cl G f args h next u = some (h', next', u')) : (∃ fn, P.funcs[f]? = some fn ∧ fn.body.isSome = true) ∧ next ≤ next' ∧ ∀ (w0 : Base) (μ : Mu) (w : World) (args' : Array Value) (m : FrameMode), Rel P G w0 μ h w → LRel μ args args'.toList → MRelM μ u m → Fresh μ next next' →
      CallsD P f args' m w fun e m' w' => ∃ vv, e = .returned vv ∧ ∃ μ', Ext μ μ' next next' ∧ Rel P G w0 μ' h' w' ∧ MRelM μ' u' m' := by
  unfold adefer at hr
  split at hr
  · rename_i fn hfn
    split at hr
    · rename_i c hb hres
      split at hr
      · rename_i fr h1 next1 u1 hex
        split at hr
        · rename_i hds
          simp only [Option.some.injEq, Prod.mk.injEq] at hr
          obtain ⟨rfl, rfl, rfl⟩ := hr
          obtain ⟨l, g⟩ := execS_ok F _ _ _ _ _ _ _ _ _ hex
          refine ⟨⟨fn, hfn, by rw [hb]; rfl⟩, l, fun w0 μ w args' m R r M hf => callsD_of_wpS hfn hb fun c0 cs hm => ?_⟩
          have := g w0 μ w _ c0 cs m R (frame0_rel r fn.ntmps) M hf
          have e0 : ({ c0 with mode := m } : Frame) = c0 := by subst hm; rfl
          rw [e0] at this
          refine wpS_mono (fun e a cs1 w1 q => ?_) this
          obtain ⟨rfl, μ1, m1, E, R1, A1, M1, rfl⟩ := q
          have hd := A1.d
          rw [hds] at hd
          exact ⟨hd.nil_inv, m1, rfl, _, results_nil hres _ _, _, rfl, μ1, E, R1, M1⟩
        · cases hr
      · cases hr
    · cases hr
  · cases hr
theorem aleave_ok {cl : FuncId} (F : Fns P cl) {fn : Func} {fr : Fr} {next : Nat} {u : Pan} {r : CRes} {h' : H Ent} {next' : Nat}
    (hu : ∀ v, u ≠ some (v, true))
    (hr : aleave P cl G fn.results.toList fr h next u = some (r, h', next')) : next ≤ next' ∧ ∀ (w0 : Base) (μ : Mu) (w : World) (a : Act) (m : FrameMode), Rel P G w0 μ h w → FRelW μ fr a → MRelM μ u m → Fresh μ next next' →
      Leaves P fn a.tmps (fun e w' => ∃ μ', Ext μ μ' next next' ∧ CRel μ' r e ∧ Rel P G w0 μ' h' w') a.defers m w := by
  unfold aleave at hr
  split at hr
  · rename_i hds
    split at hr
    · split at hr
      · rename_i v hv
        simp only [Option.some.injEq, Prod.mk.injEq] at hr
        obtain ⟨rfl, rfl, rfl⟩ := hr
        refine ⟨Nat.le_refl _, fun w0 μ w a m R A M hf => ?_⟩
        have hd := A.d
        rw [hds] at hd
        rw [hd.nil_inv]
        cases m <;> first | exact M.elim | skip
        obtain ⟨v', h1, h2⟩ := aresults_ok R A hv
        exact ⟨v', h2, μ, Ext.refl _ _ _, h1, R⟩
      · cases hr
    · rename_i v
      simp only [Option.some.injEq, Prod.mk.injEq] at hr
      obtain ⟨rfl, rfl, rfl⟩ := hr
      refine ⟨Nat.le_refl _, fun w0 μ w a m R A M hf => ?_⟩
      have hd := A.d
      rw [hds] at hd
      rw [hd.nil_inv]
      cases m <;> first | exact M.elim | skip
      obtain ⟨v', h1, rfl⟩ := M
      exact ⟨μ, Ext.refl _ _ _, ⟨v', h1, rfl⟩, R⟩
    · cases hr
  · rename_i f args hds
    have key : ∀ {h1 : H Ent} {next1 : Nat} {u1 : Pan}, adefer P cl G f args h next u = some (h1, next1, u1) → next ≤ next1 ∧ ∀ (w0 : Base) (μ : Mu) (w : World) (a : Act) (m : FrameMode), Rel P G w0 μ h w → FRelW μ fr a → MRelM μ u m → Fresh μ next next1 →
        ∀ (RR : Ending → World → Prop), (∀ μ1 m1 w1, Ext μ μ1 next next1 → Rel P G w0 μ1 h1 w1 → MRelM μ1 u1 m1 → Leaves P fn a.tmps RR [] (settle m1) w1) → Leaves P fn a.tmps RR a.defers m w := by
      intro h1 next1 u1 hdf
      obtain ⟨⟨fd, hfd, hbd⟩, l, g⟩ := adefer_ok F hdf
      refine ⟨l, fun w0 μ w a m R A M hf RR hRR => ?_⟩
      have hd := A.d
      rw [hds] at hd
      generalize hae : a.defers = ds at hd ⊢
      cases ds with
      | nil => exact hd.elim
      | cons d ds =>
        obtain ⟨⟨cap, ht, hl⟩, hnil⟩ := hd
        rw [hnil.nil_inv]
        obtain ⟨t, dargs⟩ := d
        simp only at ht hl
        subst ht
        refine leaves_cons (f := f) (args := dargs ++ cap) ?_ ?_ ?_
        · intro q; subst q; cases u <;> exact M.elim
        · have hname := F.name f fd hfd hbd
          have n1 : fd.name ≠ "runtime.NumGoroutine" := by simpa using hname
          have n2 : fd.body ≠ none := fun q => by rw [q] at hbd; cases hbd
          simp [invoke, callFunc, program, Sem.run, Sem.run_bind, hfd, n1, n2]
        · refine (g w0 μ w _ m R hl M hf).mono fun e m' w' q => ?_
          obtain ⟨vv, rfl, μ1, E, R1, M1⟩ := q
          exact hRR μ1 m' w' E R1 M1
    split at hr
    · rename_i h1 next1 v hdf
      obtain ⟨l, k⟩ := key hdf
      simp only [Option.some.injEq, Prod.mk.injEq] at hr
      obtain ⟨rfl, rfl, rfl⟩ := hr
      refine ⟨l, fun w0 μ w a m R A M hf => k w0 μ w a m R A M hf _ fun μ1 m1 w1 E R1 M1 => ?_⟩
      cases m1 <;> first | exact M1.elim | skip
      obtain ⟨v', q1, rfl⟩ := M1
      exact ⟨μ1, E, ⟨v', q1, rfl⟩, R1⟩
    · rename_i h1 next1 u1 hnot hdf
      obtain ⟨l, k⟩ := key hdf
      split at hr
      · rename_i v hv
        simp only [Option.some.injEq, Prod.mk.injEq] at hr
        obtain ⟨rfl, rfl, rfl⟩ := hr
        refine ⟨l, fun w0 μ w a m R A M hf => k w0 μ w a m R A M hf _ fun μ1 m1 w1 E R1 M1 => ?_⟩
        have hset : settle m1 = .returning := by
          cases u1 with
          | none => cases m1 <;> first | exact M1.elim | rfl
          | some p =>
            obtain ⟨v1, b⟩ := p
            cases b with
            | false => exact (hnot v1 rfl).elim
            | true =>
              cases m1 <;> first | exact M1.elim | skip
              obtain ⟨v', _, rfl⟩ := M1
              rfl
        rw [hset]
        obtain ⟨v', q1, q2⟩ := aresults_ok R1 (A := ⟨fun t v hv => (A.t t v hv).mono E.le, A.d.mono E.le⟩) hv
        exact ⟨v', q2, μ1, E, q1, R1⟩
      · cases hr
    · cases hr
  · cases hr
theorem leaves_mono {fn : Func} {tmps : Array Value} {R R' : Ending → World → Prop} (hq : ∀ e w, R e w → R' e w) : ∀ (ds : List Deferred) (u : FrameMode) (w : World), Leaves P fn tmps R ds u w → Leaves P fn tmps R' ds u w := by
  intro ds
  induction ds with
  | nil =>
    intro u w h
    cases u with
    | run => exact h.elim
    | returning => obtain ⟨v, a, b⟩ := h; exact ⟨v, a, hq _ _ b⟩
    | panicking ch => exact hq _ _ h
  | cons d ds ih =>
    intro u w h
    obtain ⟨h1, fv, cap, f, args, h2, h3, h4⟩ := h
    refine ⟨h1, fv, cap, f, args, h2, h3, h4.mono fun e u' w' q => ?_⟩
    cases e with
    | returned v => exact ih _ _ q
    | panicked ch => exact ih _ _ q
    | outgrown => exact hq _ _ q
theorem orCall_ok {t c : CallF} (T : CallOk P G t) (C : CallOk P G c) : CallOk P G (orCall t c) := by
  intro f args h next r h' next' hr
  unfold orCall at hr
  split at hr
  · rename_i x hx
    cases hr
    exact T _ _ _ _ _ _ _ hx
  · exact C _ _ _ _ _ _ _ hr
theorem acall_ok {cl : FuncId} (F : Fns P cl) {dr : DrawF} (D : DrawOk P G dr) (lf : Nat) {t : CallF} (T : CallOk P G t) : ∀ k, CallOk P G (acall P cl G dr lf t k) := by
  intro k
  induction k with
  | zero => intro f args h next r h' next' hr; cases hr
  | succ k ih =>
    intro f args h next r h' next' hr
    simp only [acall] at hr
    split at hr
    · rename_i fn hfn
      split at hr
      · rename_i c hb
        have B := exec_ok F D lf (orCall_ok T ih) c
        split at hr
        · rename_i fr h1 next1 hex
          obtain ⟨l1, g1⟩ := B _ _ _ _ _ _ _ hex
          obtain ⟨l2, g2⟩ := aleave_ok F (fun v => by simp) hr
          refine ⟨by omega, fun w0 μ w args' R r hf => calls_of_wp_defers hfn hb (wp_mono (g1 w0 μ w _ R (frame0_rel r fn.ntmps) (hf.sub (Nat.le_refl _) l2)) fun e a w1 q => ?_)⟩
          obtain ⟨μ1, E, R1, m⟩ := q
          cases e <;> first | exact m.elim | skip
          exact leaves_mono (fun e w q => let ⟨μ2, E2, c, R2⟩ := q; ⟨μ2, E.trans E2 l1 l2, c, R2⟩) _ _ _ (g2 w0 μ1 w1 a .returning R1 m.weak trivial (hf.ext E l1))
        · rename_i fr h1 next1 hex
          obtain ⟨l1, g1⟩ := B _ _ _ _ _ _ _ hex
          obtain ⟨l2, g2⟩ := aleave_ok F (fun v => by simp) hr
          refine ⟨by omega, fun w0 μ w args' R r hf => calls_of_wp_defers hfn hb (wp_mono (g1 w0 μ w _ R (frame0_rel r fn.ntmps) (hf.sub (Nat.le_refl _) l2)) fun e a w1 q => ?_)⟩
          obtain ⟨μ1, E, R1, m⟩ := q
          cases e <;> first | exact m.elim | skip
          exact leaves_mono (fun e w q => let ⟨μ2, E2, c, R2⟩ := q; ⟨μ2, E.trans E2 l1 l2, c, R2⟩) _ _ _ (g2 w0 μ1 w1 a .returning R1 m.weak trivial (hf.ext E l1))
        · rename_i v fr h1 next1 hex
          obtain ⟨l1, g1⟩ := B _ _ _ _ _ _ _ hex
          obtain ⟨l2, g2⟩ := aleave_ok F (fun v => by simp) hr
          refine ⟨by omega, fun w0 μ w args' R r hf => calls_of_wp_defers hfn hb (wp_mono (g1 w0 μ w _ R (frame0_rel r fn.ntmps) (hf.sub (Nat.le_refl _) l2)) fun e a w1 q => ?_)⟩
          obtain ⟨μ1, E, R1, m⟩ := q
          cases e <;> first | exact m.elim | skip
          rename_i ch
          obtain ⟨hp, A1⟩ := m
          exact leaves_mono (fun e w q => let ⟨μ2, E2, c, R2⟩ := q; ⟨μ2, E.trans E2 l1 l2, c, R2⟩) _ _ _ (g2 w0 μ1 w1 a (.panicking ch) R1 A1 hp (hf.ext E l1))
        · cases hr
      · cases hr
    · cases hr
end
end
end Go.Proofs.YtefhaojjohddaaaGreatDoor.AM
