/- The abstract machine, part I: maps, iteration over a string, a string's bytes, calls; and all operations together. -/
import Derived.Test.YtefhaojjohddaaaGreatDoorAmH
namespace Go.Proofs.YtefhaojjohddaaaGreatDoor.AM
open Go Go.RowKit
noncomputable section
section
variable {P : Program} {G : Nat} {w0 : Base} {w : World} {μ : Mu} {h : H Ent} {tm : H Value} {a : Act}

/-! ### maps with strings for keys -/
def findS (k : ByteArray) : List (Value × Value × Nat) → Nat → Option (Option (Nat × Value))
  | [], _ => some none
  | (.string s, v, _) :: es, i => bif eqL k.data.toList s.data.toList then some (some (i, v)) else findS k es (i + 1)
  | _, _ => none
theorem bytes_beq (a b : ByteArray) : (a == b) = eqL a.data.toList b.data.toList := by
  rw [show (a == b) = (a.data == b.data) from rfl, eqL_is, Bool.eq_iff_iff, beq_iff_eq, beq_iff_eq, Array.toList_inj]
theorem eqL_eq {a b : ByteArray} (hq : eqL a.data.toList b.data.toList = true) : a = b := by
  rw [eqL_is, beq_iff_eq, Array.toList_inj] at hq
  cases a; cases b
  exact congrArg ByteArray.mk hq
theorem find_rel {k : ByteArray} : ∀ {es : List (Value × Value × Nat)} {es' : List MapEntry} {i : Nat} {r : Option (Nat × Value)}, findS k es i = some r → MRel μ es es' →
    (r = none ∧ Instr.findNow .string (.string k) es' i = some none) ∨ (∃ j v v' : _, r = some (j, v) ∧ Instr.findNow .string (.string k) es' i = some (some (j, v')) ∧ VRel μ v v' ∧ i ≤ j ∧ ∃ (e : MapEntry) (kk vv : Value) (b : Nat), es'[j - i]? = some e ∧ e.key = .string k ∧ es[j - i]? = some (kk, vv, b))
  | [], [], i, r, hr, _ => by
    simp only [findS, Option.some.injEq] at hr
    exact .inl ⟨hr.symm, rfl⟩
  | [], _ :: _, _, _, _, hm => hm.elim
  | _ :: _, [], _, _, _, hm => hm.elim
  | (kk, v, b) :: es, e :: es', i, r, hr, ⟨⟨h1, h2, h3⟩, hm⟩ => by
    cases kk <;> simp only [findS] at hr <;> first | (cases hr; done) | skip
    rename_i s
    have hk : e.key = .string s := by
      generalize e.key = q at h1
      cases h1
      rfl
    simp only [Instr.findNow, hk, Instr.sameNow, bytes_beq]
    cases hq : eqL k.data.toList s.data.toList with
    | true =>
      rw [hq] at hr
      simp only [cond_true, Option.some.injEq] at hr
      refine .inr ⟨i, v, e.val, hr.symm, rfl, h2, Nat.le_refl _, e, .string s, v, b, by simp, ?_, by simp⟩
      rw [hk, eqL_eq hq]
    | false =>
      rw [hq] at hr
      simp only [cond_false] at hr
      rcases find_rel hr hm with ⟨p, q⟩ | ⟨j, u, u', p, q, r1, r2, e1, k1, v1, b1, q1, q2, q3⟩
      · exact .inl ⟨p, q⟩
      · refine .inr ⟨j, u, u', p, q, r1, by omega, e1, k1, v1, b1, ?_, q2, ?_⟩
        · rw [show j - i = (j - (i + 1)) + 1 by omega, List.getElem?_cons_succ]; exact q1
        · rw [show j - i = (j - (i + 1)) + 1 by omega, List.getElem?_cons_succ]; exact q3
theorem checkKey_run {kt : TypeId} (hk : P.underlying kt = some .string) (em : Bool) (k : ByteArray) (w : World) : (Instr.checkKey em 10000 kt (.string k)).run P w = .ok () w := by
  show (Instr.checkKey em (9999 + 1) kt (.string k)).run P w = _
  unfold Instr.checkKey
  rw [Sem.run_bind, run_underlying hk]
  rfl
theorem MRel.set {es : List (Value × Value × Nat)} {es' : List MapEntry} : ∀ {i : Nat} {k v : Value} {b : Nat} {e : MapEntry}, MRel μ es es' → VRel μ k e.key → VRel μ v e.val → e.born = b → MRel μ (es.set i (k, v, b)) (es'.set i e) := by
  induction es generalizing es' with
  | nil => intro i k v b e hm _ _ _; cases es' with
    | nil => exact trivial
    | cons _ _ => exact hm.elim
  | cons x es ih => intro i k v b e hm h1 h2 h3; cases es' with
    | nil => exact hm.elim
    | cons y es' =>
      obtain ⟨x1, x2, x3⟩ := x
      cases i with
      | zero => exact ⟨⟨h1, h2, h3⟩, hm.2⟩
      | succ i => exact ⟨hm.1, ih hm.2 h1 h2 h3⟩
theorem MRel.snoc {es : List (Value × Value × Nat)} {es' : List MapEntry} : ∀ {k v : Value} {b : Nat} {e : MapEntry}, MRel μ es es' → VRel μ k e.key → VRel μ v e.val → e.born = b → MRel μ (es ++ [(k, v, b)]) (es' ++ [e]) := by
  induction es generalizing es' with
  | nil => intro k v b e hm h1 h2 h3; cases es' with
    | nil => exact ⟨⟨h1, h2, h3⟩, trivial⟩
    | cons _ _ => exact hm.elim
  | cons x es ih => intro k v b e hm h1 h2 h3; cases es' with
    | nil => exact hm.elim
    | cons y es' =>
      obtain ⟨x1, x2, x3⟩ := x
      exact ⟨hm.1, ih hm.2 h1 h2 h3⟩
def pairOk (ok : Bool) (v : Value) (t : Bool) : Value := if ok then .tuple #[v, .bool t] else v
theorem pairOk_rel {ok t : Bool} {v v' : Value} (r : VRel μ v v') : VRel μ (pairOk ok v t) (pairOk ok v' t) := by
  cases ok
  · exact r
  · exact VRel.of_tuple (LRel.cons r (LRel.cons (.bool t) (LRel.nil _)))
def oLookup (P : Program) (G : Nat) (tm : H Value) (t : TypeId) (x ix : Operand) (ok : Bool) : Option Step := match evalA G tm x, evalA G tm ix, P.underlying t with
  | some (.map r), some (.string k), some (.map kt et) => match P.underlying kt, (P.info? et).bind (·.zero) with
    | some .string, some z => if closed z then match r with
        | none => okV (pairOk ok z false)
        | some b => some ⟨[b], fun es _ => match es with
            | [some (.map es _)] => match findS k es 0 with
              | some (some (_, v)) => some (.val (pairOk ok v true), none, none)
              | some none => some (.val (pairOk ok z false), none, none)
              | none => none
            | _ => none⟩
      else none
    | _, _ => none
  | _, _, _ => none
theorem right_lookup {o : Oper} {t : TypeId} {x ix : Operand} {ok : Bool} (ho : o.op = .lookup t x ix ok) : Right P G w0 o tm (oLookup P G tm t x ix ok) := by
  unfold oLookup
  split
  · rename_i r k kt et hx hi hd
    split
    · rename_i z hk hz
      split
      · rename_i hc
        have go : ∀ (a : Act) (w : World) (x' v : Value) (t' : Bool) (es : Array MapEntry), a.eval x = x' → a.eval ix = .string k →
            (x' = .map none ∧ es = #[] ∨ ∃ r clk, x' = .map (some r) ∧ w.heap[r]? = some (.map es clk)) → (t' = true ∧ (∃ j, Instr.findNow .string (.string k) es.toList 0 = some (some (j, v))) ∨ t' = false ∧ v = z ∧ Instr.findNow .string (.string k) es.toList 0 = some none) →
            (execOp a.eval o).run P w = .ok (.value (pairOk ok v t')) w := fun a w x' v t' es ex ei hes hf => by
          simp only [execOp, ho, ex, ei]
          refine run_v ?_
          unfold Instr.lookup
          rw [Sem.run_bind, run_underlying hd, Result.andThen_ok]
          have h1 : ∀ em, (Instr.checkKey em 10000 kt (.string k)).run P w = .ok () w := fun em => checkKey_run hk em k w
          rcases hes with ⟨rfl, rfl⟩ | ⟨r, clk, rfl, hh⟩
          · rcases hf with ⟨rfl, j, hf⟩ | ⟨rfl, rfl, hf⟩
            · simp [Instr.findNow] at hf
            · simp [Sem.run_bind, h1, Instr.findKey, run_underlying hk, Instr.findNow, zeroValue_run hz, pairOk]
          · have hg : (getObj r).run P w = .ok (.map es clk) w := by simp [getObj, Sem.run, hh]
            rcases hf with ⟨rfl, j, hf⟩ | ⟨rfl, rfl, hf⟩
            · simp [Sem.run_bind, hg, h1, Instr.findKey, run_underlying hk, hf, pairOk]
            · simp [Sem.run_bind, hg, h1, Instr.findKey, run_underlying hk, hf, zeroValue_run hz, pairOk]
        split
        · refine right_val fun μ h w a R T => ⟨_, pairOk_rel (closed_rel μ hc), ?_⟩
          have r1 := evalA_rel R T hx
          have r2 := evalA_rel R T hi
          generalize hx' : a.eval x = x' at r1
          generalize hi' : a.eval ix = i' at r2
          cases r1
          cases r2
          exact go a w _ z false #[] hx' hi' (.inl ⟨rfl, rfl⟩) (.inr ⟨rfl, rfl, rfl⟩)
        · rename_i b
          intro s hs μ h w a next r upd new R T hr hn
          cases hs
          simp only [List.map_cons, List.map_nil] at hr
          split at hr
          · rename_i es clk he
            simp only [List.cons.injEq, and_true] at he
            obtain ⟨m, ob, hm, hh, hent, _⟩ := R.ent b _ he
            cases ob <;> simp only [entRel] at hent
            rename_i es' clk'
            obtain ⟨m', hm', e'⟩ := (evalA_rel R T hx).map_inv
            rw [hm] at hm'; cases hm'
            have r2 := evalA_rel R T hi
            generalize hi' : a.eval ix = i' at r2
            cases r2
            split at hr
            · rename_i j v hf
              simp only [Option.some.injEq, Prod.mk.injEq] at hr
              obtain ⟨rfl, rfl, rfl⟩ := hr
              rcases find_rel hf hent.2 with ⟨p, _⟩ | ⟨j', u, u', p, q, r1, _⟩
              · cases p
              · simp only [Option.some.injEq, Prod.mk.injEq] at p
                obtain ⟨rfl, rfl⟩ := p
                exact good_val R (pairOk_rel r1) (go a w _ u' true es' e' hi' (.inr ⟨_, _, rfl, hh⟩) (.inl ⟨rfl, _, q⟩))
            · rename_i hf
              simp only [Option.some.injEq, Prod.mk.injEq] at hr
              obtain ⟨rfl, rfl, rfl⟩ := hr
              rcases find_rel hf hent.2 with ⟨_, q⟩ | ⟨j', u, u', p, _⟩
              · exact good_val R (pairOk_rel (closed_rel μ hc)) (go a w _ z false es' e' hi' (.inr ⟨_, _, rfl, hh⟩) (.inr ⟨rfl, rfl, q⟩))
              · cases p
            · cases hr
          · cases hr
      · exact right_none
    · exact right_none
  · exact right_none
def oMapUpdate (P : Program) (G : Nat) (tm : H Value) (t : TypeId) (x ix y : Operand) : Option Step := match evalA G tm x, evalA G tm ix, evalA G tm y, P.underlying t with
  | some (.map (some b)), some (.string k), some v, some (.map kt _) => match P.underlying kt with
    | some .string => some ⟨[b], fun es _ => match es with
        | [some (.map es clk)] => match findS k es 0 with
          | some (some (i, _)) => match es[i]? with
            | some (_, _, born) => some (.skip, some (b, some (.map (es.set i (.string k, v, born)) clk)), none)
            | none => none
          | some none => some (.skip, some (b, some (.map (es ++ [(.string k, v, clk)]) (clk + 1))), none)
          | none => none
        | _ => none⟩
    | _ => none
  | _, _, _, _ => none
theorem sameBits_self (k : ByteArray) : Instr.sameBits 10000 (.string k) (.string k) = true := by
  show Instr.sameBits (9999 + 1) (.string k) (.string k) = true
  simp [Instr.sameBits, bytes_beq, eqL_is]
theorem setObj_run {r : Nat} {o o1 : Obj} (hh : w.heap[r]? = some o) (hno : ∀ c e f, o ≠ .cells c e f) : ∃ w1, (setObj r o1).run P w = .ok () w1 ∧ But w w1 r o1 := by
  have hlt : r < w.heap.size := (Array.getElem?_eq_some_iff.1 hh).1
  refine ⟨{ w with heap := w.heap.setIfInBounds r o1 }, ?_, ⟨rfl, rfl, rfl, by simp, by simp [hlt], fun k hk => by simp [Array.getElem?_setIfInBounds_ne (Ne.symm hk)]⟩⟩
  cases o <;> first | (exact absurd rfl (hno _ _ _)) | simp [setObj, Sem.run, hh]
theorem MRel.at {es : List (Value × Value × Nat)} {es' : List MapEntry} (hm : MRel μ es es') : ∀ {i : Nat} {k v : Value} {b : Nat}, es[i]? = some (k, v, b) → ∃ e, es'[i]? = some e ∧ e.born = b := by
  induction es generalizing es' with
  | nil => intro i k v b hi; simp at hi
  | cons x es ih => intro i k v b hi; cases es' with
    | nil => exact hm.elim
    | cons y es' =>
      obtain ⟨x1, x2, x3⟩ := x
      cases i with
      | zero => simp only [List.getElem?_cons_zero, Option.some.injEq, Prod.mk.injEq] at hi; exact ⟨y, rfl, by rw [hm.1.2.2]; exact hi.2.2⟩
      | succ i => exact ih hm.2 (by simpa using hi)
theorem right_mapUpdate {o : Oper} {t : TypeId} {x ix y : Operand} (ho : o.op = .mapUpdate t x ix y ∨ o.op = .insert t x ix y) : Right P G w0 o tm (oMapUpdate P G tm t x ix y) := by
  unfold oMapUpdate
  split
  · rename_i b k v kt et hx hi hy hd
    split
    · rename_i hk
      intro s hs μ h w a next r upd new R T hr hn
      cases hs
      simp only [List.map_cons, List.map_nil] at hr
      split at hr
      · rename_i es clk he
        simp only [List.cons.injEq, and_true] at he
        obtain ⟨m, ob, hm, hh, hent, _⟩ := R.ent b _ he
        cases ob <;> simp only [entRel] at hent
        rename_i es' clk'
        obtain ⟨rfl, hmr⟩ := hent
        obtain ⟨m', hm', e'⟩ := (evalA_rel R T hx).map_inv
        rw [hm] at hm'; cases hm'
        have r2 := evalA_rel R T hi
        generalize hi' : a.eval ix = i' at r2
        cases r2
        have rv := evalA_rel R T hy
        have hg : (getObj m.b).run P w = .ok (.map es' clk') w := by simp [getObj, Sem.run, hh]
        have fin : ∀ (es1 : List (Value × Value × Nat)) (clk1 : Nat) (es1' : Array MapEntry), MRel μ es1 es1'.toList → (∀ w1, (setObj m.b (.map es1' clk1)).run P w = .ok () w1 → (Instr.mapUpdate t (.map (some m.b)) (.string k) (a.eval y)).run P w = .ok () w1) →
            Good P G w0 o a μ h w next .skip (some (b, some (.map es1 clk1))) none := fun es1 clk1 es1' hm1 hrun => by
          obtain ⟨w1, hs1, B⟩ := setObj_run (P := P) (o1 := .map es1' clk1) hh (fun c e f q => by cases q)
          refine ⟨μ, w1, Mu.le_refl μ, fun _ _ => rfl, fun _ => rfl, R.upd he rfl hm B ⟨rfl, hm1⟩, ?_⟩
          have := hrun w1 hs1
          show (execOp a.eval o).run P w = .ok .skip w1
          rcases ho with ho | ho <;> (simp only [execOp, ho, e', hi', Sem.run_bind, this]; rfl)
        have ck := checkKey_run (P := P) hk false k w
        split at hr
        · rename_i i u hf
          split at hr
          · rename_i k0 v0 born hib
            simp only [Option.some.injEq, Prod.mk.injEq] at hr
            obtain ⟨rfl, rfl, rfl⟩ := hr
            rcases find_rel hf hmr with ⟨p, _⟩ | ⟨j', u1, u', p, q, r1, r2, e1, k1, v1, b1, q1, q2, q3⟩
            · cases p
            · simp only [Option.some.injEq, Prod.mk.injEq] at p
              obtain ⟨rfl, rfl⟩ := p
              simp only [Nat.sub_zero] at q1 q3
              obtain ⟨e2, q4, q5⟩ := hmr.at hib
              rw [q1] at q4; cases q4
              have hlt : i < es'.size := by have := (List.getElem?_eq_some_iff.1 q1).1; simpa using this
              have q1' : es'[i]? = some e1 := by simpa using q1
              refine fin _ _ (es'.modify i fun e => { e with key := .string k, val := a.eval y }) ?_ (fun w1 hw1 => ?_)
              · have : (es'.modify i fun e => { e with key := .string k, val := a.eval y }).toList = es'.toList.set i { e1 with key := .string k, val := a.eval y } := by
                  apply List.ext_getElem?
                  intro n
                  rw [Array.getElem?_toList, Array.getElem?_modify, List.getElem?_set]
                  by_cases hn : i = n
                  · subst hn
                    have e3 : es'[i] = e1 := by rw [Array.getElem?_eq_getElem hlt] at q1'; exact Option.some.inj q1'
                    simp [e3, hlt]
                  · simp [hn]
                rw [this]
                exact hmr.set (.string k) rv q5
              · unfold Instr.mapUpdate
                rw [Sem.run_bind, run_underlying hd, Result.andThen_ok]
                simp [Sem.run_bind, hg, ck, Instr.findKey, run_underlying hk, q, Instr.keyThatStays, q1', q2, sameBits_self, hw1]
          · cases hr
        · rename_i hf
          simp only [Option.some.injEq, Prod.mk.injEq] at hr
          obtain ⟨rfl, rfl, rfl⟩ := hr
          rcases find_rel hf hmr with ⟨_, q⟩ | ⟨j', u, u', p, _⟩
          · refine fin _ _ (es'.push { key := .string k, val := a.eval y, born := clk' }) ?_ (fun w1 hw1 => ?_)
            · rw [Array.toList_push]
              exact hmr.snoc (.string k) rv rfl
            · unfold Instr.mapUpdate
              rw [Sem.run_bind, run_underlying hd, Result.andThen_ok]
              simp [Sem.run_bind, hg, ck, Instr.findKey, run_underlying hk, q, hw1]
          · cases p
        · cases hr
      · cases hr
    · exact right_none
  · exact right_none
end
end
end Go.Proofs.YtefhaojjohddaaaGreatDoor.AM
