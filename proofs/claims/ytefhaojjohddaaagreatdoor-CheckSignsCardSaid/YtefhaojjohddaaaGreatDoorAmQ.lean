/- The abstract machine, part Q: a region that draws its order: its run in the text's order, and what is looked at besides. -/
import Derived.Test.YtefhaojjohddaaaGreatDoorAmP
namespace Go.Proofs.YtefhaojjohddaaaGreatDoor.AM
open Go Go.RowKit
noncomputable section

structure DRec where
  big : Bool          -- it may change what is there
  a : Nat             -- its numbers for new blocks: a to b
  b : Nat
  v : Value
  new : Option Ent    -- of a small one: what it makes, at a
  hp : H Ent          -- the memory behind it (without what small ones made)
  anc : Nat           -- those ahead of it, as bits
  dst : Option Tmp
  st : Option Step    -- of a small one that looks: its step
def has (m j : Nat) : Bool := Nat.testBit m j
def ancM (done : List DRec) : List Edge → Option Nat
  | [] => some 0
  | e :: es => match ancM done es with
    | none => none
    | some m => bif Region.binds .any e then match done[e.on]? with
        | some r => some (m ||| (2 ^ e.on ||| r.anc))
        | none => none
      else some m
theorem ancM_spec {done : List DRec} : ∀ {es : List Edge} {m : Nat}, ancM done es = some m →
    (∀ e, e ∈ es → Region.binds .any e = true → ∃ r, done[e.on]? = some r ∧ has m e.on = true ∧ ∀ j, has r.anc j = true → has m j = true) ∧
    (∀ j, has m j = true → ∃ e, e ∈ es ∧ Region.binds .any e = true ∧ ∃ r, done[e.on]? = some r ∧ (j = e.on ∨ has r.anc j = true))
  | [], m, h => by
    simp only [ancM, Option.some.injEq] at h
    subst h
    exact ⟨fun e he => (by cases he), fun j hj => (by simp [has] at hj)⟩
  | e :: es, m, h => by
    simp only [ancM] at h
    split at h
    · cases h
    · rename_i m' hm'
      obtain ⟨h1, h2⟩ := ancM_spec hm'
      cases hb : Region.binds .any e with
      | false =>
        rw [hb] at h
        simp only [cond_false, Option.some.injEq] at h
        subst h
        refine ⟨fun x hx hxb => ?_, fun j hj => ?_⟩
        · cases hx with
          | head => rw [hb] at hxb; cases hxb
          | tail _ hx => exact h1 x hx hxb
        · obtain ⟨x, hx, q⟩ := h2 j hj
          exact ⟨x, List.mem_cons_of_mem _ hx, q⟩
      | true =>
        rw [hb] at h
        simp only [cond_true] at h
        split at h
        · rename_i r hr
          simp only [Option.some.injEq] at h
          subst h
          have key : ∀ j, has (m' ||| (2 ^ e.on ||| r.anc)) j = true ↔ has m' j = true ∨ j = e.on ∨ has r.anc j = true := fun j => by
            simp only [has, Nat.testBit_or, Bool.or_eq_true, Nat.testBit_two_pow, decide_eq_true_eq]
            constructor
            · rintro (q | q | q)
              · exact .inl q
              · exact .inr (.inl q.symm)
              · exact .inr (.inr q)
            · rintro (q | q | q)
              · exact .inl q
              · exact .inr (.inl q.symm)
              · exact .inr (.inr q)
          refine ⟨fun x hx hxb => ?_, fun j hj => ?_⟩
          · cases hx with
            | head => exact ⟨r, hr, (key _).2 (.inr (.inl rfl)), fun j q => (key j).2 (.inr (.inr q))⟩
            | tail _ hx =>
              obtain ⟨r1, a1, a2, a3⟩ := h1 x hx hxb
              exact ⟨r1, a1, (key _).2 (.inl a2), fun j q => (key j).2 (.inl (a3 j q))⟩
          · rcases (key j).1 hj with q | q
            · obtain ⟨x, hx, q⟩ := h2 j q
              exact ⟨x, List.mem_cons_of_mem _ hx, q⟩
            · exact ⟨e, List.mem_cons_self, hb, r, hr, q⟩
        · cases h
def newsL (S : Nat → Bool) : List DRec → Nat → List (Nat × Ent)
  | [], _ => []
  | r :: rs, i => match r.new with
    | some e => bif S i then (r.a, e) :: newsL S rs (i + 1) else newsL S rs (i + 1)
    | none => newsL S rs (i + 1)
theorem newsL_some {S : Nat → Bool} : ∀ {rs : List DRec} {i id : Nat} {e : Ent}, look1 (newsL S rs i) id = some e → ∃ k r, rs[k]? = some r ∧ r.new = some e ∧ r.a = id ∧ S (i + k) = true
  | [], i, id, e, h => by simp [newsL, look1] at h
  | r :: rs, i, id, e, h => by
    have rest : look1 (newsL S rs (i + 1)) id = some e → ∃ k r', (r :: rs)[k]? = some r' ∧ r'.new = some e ∧ r'.a = id ∧ S (i + k) = true := fun h => by
      obtain ⟨k, r', h1, h2, h3, h4⟩ := newsL_some h
      exact ⟨k + 1, r', h1, h2, h3, by rw [← h4]; congr 1; omega⟩
    simp only [newsL] at h
    split at h
    · rename_i e' he
      cases hs : S i with
      | true =>
        rw [hs] at h
        simp only [cond_true, look1] at h
        split at h
        · rename_i hid
          cases h
          exact ⟨0, r, rfl, he, hid, hs⟩
        · exact rest h
      | false =>
        rw [hs] at h
        exact rest h
    · exact rest h
theorem newsL_none {S : Nat → Bool} : ∀ {rs : List DRec} {i id : Nat}, look1 (newsL S rs i) id = none → ∀ k r e, rs[k]? = some r → r.new = some e → S (i + k) = true → r.a ≠ id
  | [], i, id, h, k, r, e, hk, _, _ => by simp at hk
  | r :: rs, i, id, h, k, r', e, hk, he, hs => by
    have rest : look1 (newsL S rs (i + 1)) id = none → ∀ k', k = k' + 1 → r'.a ≠ id := fun h k' e' => by
      subst e'
      exact newsL_none h k' r' e hk he (by rw [← hs]; congr 1; omega)
    simp only [newsL] at h
    split at h
    · rename_i e' he'
      cases hsi : S i with
      | true =>
        rw [hsi] at h
        simp only [cond_true, look1] at h
        split at h
        · cases h
        · rename_i hne
          cases k with
          | zero => cases hk; exact hne
          | succ k => exact rest h k rfl
      | false =>
        rw [hsi] at h
        cases k with
        | zero => cases hk; rw [Nat.add_zero, hsi] at hs; cases hs
        | succ k => exact rest h k rfl
    · rename_i he'
      cases k with
      | zero => cases hk; rw [he'] at he; cases he
      | succ k => exact rest h k rfl
def lookOk (m : Nat) (t : Tmp) : List (Option Tmp) → Nat → Bool
  | [], _ => true
  | some d :: ds, j => (bif Nat.beq d t then has m j else true) && lookOk m t ds (j + 1)
  | none :: ds, j => lookOk m t ds (j + 1)
theorem lookOk_spec {m : Nat} {t : Tmp} : ∀ {ds : List (Option Tmp)} {j : Nat}, lookOk m t ds j = true → ∀ (k : Nat), ds[k]? = some (some t) → has m (j + k) = true
  | [], j, _, k, hk => by simp at hk
  | none :: ds, j, h, k, hk => by
    simp only [lookOk] at h
    cases k with
    | zero => simp at hk
    | succ k => have := lookOk_spec h k hk; rw [← this]; congr 1; omega
  | some d :: ds, j, h, k, hk => by
    simp only [lookOk, Bool.and_eq_true] at h
    cases k with
    | zero =>
      simp only [List.getElem?_cons_zero, Option.some.injEq] at hk
      subst hk
      have := h.1
      rw [show Nat.beq d d = true from by rw [Nat.beq_eq]] at this
      exact this
    | succ k => have := lookOk_spec h.2 k hk; rw [← this]; congr 1; omega
def dstsOk (n : Nat) : List (Option Tmp) → Bool
  | [] => true
  | some d :: ds => (Nat.blt d n && ds.all fun x => match x with | some y => !(Nat.beq d y) | none => true) && dstsOk n ds
  | none :: ds => dstsOk n ds
theorem dstsOk_spec {n : Nat} : ∀ {ds : List (Option Tmp)}, dstsOk n ds = true → (∀ (k : Nat) (t : Tmp), ds[k]? = some (some t) → t < n) ∧ ∀ (i j : Nat) (t : Tmp), ds[i]? = some (some t) → ds[j]? = some (some t) → i = j
  | [], _ => ⟨fun k t hk => by simp at hk, fun i j t hi => by simp at hi⟩
  | none :: ds, h => by
    obtain ⟨h1, h2⟩ := dstsOk_spec (ds := ds) h
    refine ⟨fun k t hk => ?_, fun i j t hi hj => ?_⟩
    · cases k with
      | zero => simp at hk
      | succ k => exact h1 k t hk
    · cases i with
      | zero => simp at hi
      | succ i => cases j with
        | zero => simp at hj
        | succ j => rw [h2 i j t hi hj]
  | some d :: ds, h => by
    simp only [dstsOk, Bool.and_eq_true, Nat.blt_eq, List.all_eq_true] at h
    obtain ⟨⟨hd, hall⟩, h⟩ := h
    obtain ⟨h1, h2⟩ := dstsOk_spec (ds := ds) h
    have no : ∀ k, ds[k]? ≠ some (some d) := fun k hk => by
      have := hall _ (List.mem_of_getElem? hk)
      simp only [Bool.not_eq_true'] at this
      rw [show Nat.beq d d = true from by rw [Nat.beq_eq]] at this
      cases this
    refine ⟨fun k t hk => ?_, fun i j t hi hj => ?_⟩
    · cases k with
      | zero => simp at hk; subst hk; exact hd
      | succ k => exact h1 k t hk
    · cases i with
      | zero => cases j with
        | zero => rfl
        | succ j => simp at hi; subst hi; exact absurd hj (no j)
      | succ i => cases j with
        | zero => simp at hj; subst hj; exact absurd hi (no i)
        | succ j => rw [h2 i j t hi hj]
def simpleV (r : Res) (upd : Option (Nat × Option Ent)) (ok : Bool) : Option Value := match r, upd, ok with
  | .val v, none, true => some v
  | .skip, none, true => some undef
  | _, _, _ => none
section
variable (P : Program) (cl : FuncId) (G : Nat) (call : CallF) (ops : Array Oper)
def drec (dsts : List (Option Tmp)) (o : Oper) (tm : H Value) (cur : H Ent) (next : Nat) (done : List DRec) : Option DRec := match ancM done o.after.toList with
  | none => none
  | some m => bif (o.looksAt ops).all (fun t => lookOk m t dsts 0) then
      bif wantedA ops (partT tm (o.looksAt ops) .nil) o then
        match aop P cl G (partT tm (o.looksAt ops) .nil) o with
        | none => none
        | some s => match s.run (s.ids.map (addL cur (newsL (has m) done 0)).get) next with
          | none => none
          | some (r, upd, new) => match simpleV r upd (new.isNone || s.ids.isEmpty) with
            | some v => some { big := false, a := next, b := next + 1, v := v, new := new, hp := cur, anc := m, dst := o.dst, st := some s }
            | none => match after call r (applyH (addL cur (newsL (has m) done 0)) next upd new) (next + 1) with
              | some (.ret v, h2, next2) => some { big := true, a := next, b := next2, v := v, new := none, hp := h2, anc := m, dst := o.dst, st := none }
              | _ => none
      else some { big := false, a := next, b := next, v := undef, new := none, hp := cur, anc := m, dst := o.dst, st := none }
    else none
/-- An operation that panics: every one that stands ahead of it in the text is ahead of it in every order. -/
def dpan (dsts : List (Option Tmp)) (o : Oper) (tm : H Value) (cur : H Ent) (next : Nat) (done : List DRec) : Option (Nat × Value × H Ent × Nat) := match ancM done o.after.toList with
  | none => none
  | some m => bif (o.looksAt ops).all (fun t => lookOk m t dsts 0) && ((List.range done.length).all (has m) && wantedA ops (partT tm (o.looksAt ops) .nil) o) then
        match aop P cl G (partT tm (o.looksAt ops) .nil) o with
        | none => none
        | some s => match s.run (s.ids.map (addL cur (newsL (fun _ => true) done 0)).get) next with
          | none => none
          | some (r, upd, new) => match after call r (applyH (addL cur (newsL (fun _ => true) done 0)) next upd new) (next + 1) with
              | some (.panic v, h2, next2) => some (m, v, h2, next2)
              | _ => none
    else none
def laterOk (b : Nat) (os : List Oper) : Bool := os.all fun o => o.after.toList.any fun e => Region.binds .any e && Nat.ble b e.on
def putT (tm : H Value) (dst : Option Tmp) (v : Value) : H Value := match dst with
  | some d => tm.set d (some v)
  | none => tm
def dgo (dsts : List (Option Tmp)) : List Oper → H Value → H Ent → Nat → List DRec → Option (List DRec × H Value × H Ent × Nat)
  | [], tm, cur, next, done => some (done, tm, cur, next)
  | o :: os, tm, cur, next, done => match drec P cl G call ops dsts o tm cur next done with
    | some r => dgo dsts os (putT tm r.dst r.v) r.hp r.b (done ++ [r])
    | none => none
def dgoP (dsts : List (Option Tmp)) : List Oper → H Value → H Ent → Nat → List DRec → Option (List DRec × Nat × Value × H Ent × Nat)
  | [], _, _, _, _ => none
  | o :: os, tm, cur, next, done => match drec P cl G call ops dsts o tm cur next done with
    | some r => dgoP dsts os (putT tm r.dst r.v) r.hp r.b (done ++ [r])
    | none => match dpan P cl G call ops dsts o tm cur next done with
      | some p => bif laterOk done.length os then some (done, p) else none
      | none => none
end
def tmL (tm : H Value) : List DRec → H Value
  | [] => tm
  | r :: rs => tmL (putT tm r.dst r.v) rs
def curAt (h : H Ent) : List DRec → Nat → H Ent
  | _, 0 => h
  | [], _ + 1 => h
  | r :: rs, k + 1 => curAt r.hp rs k
def nextAt (n : Nat) : List DRec → Nat → Nat
  | _, 0 => n
  | [], _ + 1 => n
  | r :: rs, k + 1 => nextAt r.b rs k
theorem curAt_succ : ∀ {rs : List DRec} {h : H Ent} {k : Nat} {r : DRec}, rs[k]? = some r → curAt h rs (k + 1) = r.hp
  | [], h, k, r, hk => by simp at hk
  | x :: rs, h, 0, r, hk => by simp at hk; subst hk; cases rs <;> rfl
  | x :: rs, h, k + 1, r, hk => by rw [curAt]; exact curAt_succ hk
theorem nextAt_succ : ∀ {rs : List DRec} {n : Nat} {k : Nat} {r : DRec}, rs[k]? = some r → nextAt n rs (k + 1) = r.b
  | [], h, k, r, hk => by simp at hk
  | x :: rs, h, 0, r, hk => by simp at hk; subst hk; cases rs <;> rfl
  | x :: rs, h, k + 1, r, hk => by rw [nextAt]; exact nextAt_succ hk
theorem tmL_get : ∀ (rs : List DRec) (tm : H Value) (t : Tmp), (∃ (j : Nat) (r : DRec), rs[j]? = some r ∧ r.dst = some t ∧ (tmL tm rs).get t = some r.v) ∨ ((∀ (j : Nat) (r : DRec), rs[j]? = some r → r.dst ≠ some t) ∧ (tmL tm rs).get t = tm.get t)
  | [], tm, t => .inr ⟨fun j r hj => by simp at hj, rfl⟩
  | r :: rs, tm, t => by
    rw [tmL]
    rcases tmL_get rs (putT tm r.dst r.v) t with ⟨j, r', h1, h2, h3⟩ | ⟨h1, h2⟩
    · exact .inl ⟨j + 1, r', h1, h2, h3⟩
    · by_cases hd : r.dst = some t
      · refine .inl ⟨0, r, rfl, hd, ?_⟩
        rw [h2, hd]
        simp only [putT, H.get_set, if_true]
      · refine .inr ⟨fun j r' hj => ?_, ?_⟩
        · cases j with
          | zero => simp at hj; subst hj; exact hd
          | succ j => exact h1 j r' hj
        · rw [h2]
          cases hdd : r.dst with
          | none => rfl
          | some d =>
            have : ¬ t = d := fun q => hd (by rw [hdd, q])
            simp only [putT, H.get_set, if_neg this]
section
variable {P : Program} {cl : FuncId} {G : Nat} {call : CallF} {ops : Array Oper}
theorem dgo_spec {dsts : List (Option Tmp)} : ∀ (os : List Oper) (tm : H Value) (cur : H Ent) (next : Nat) (done recs : List DRec) (tm' : H Value) (cur' : H Ent) (next' : Nat), dgo P cl G call ops dsts os tm cur next done = some (recs, tm', cur', next') →
    ∃ rs, recs = done ++ rs ∧ rs.length = os.length ∧ tm' = tmL tm rs ∧ cur' = curAt cur rs rs.length ∧ next' = nextAt next rs rs.length ∧
      ∀ (k : Nat) (o : Oper), os[k]? = some o → ∃ r, rs[k]? = some r ∧ drec P cl G call ops dsts o (tmL tm (rs.take k)) (curAt cur rs k) (nextAt next rs k) (done ++ rs.take k) = some r
  | [], tm, cur, next, done, recs, tm', cur', next', h => by
    simp only [dgo, Option.some.injEq, Prod.mk.injEq] at h
    obtain ⟨rfl, rfl, rfl, rfl⟩ := h
    exact ⟨[], by simp, rfl, rfl, rfl, rfl, fun k o hk => by simp at hk⟩
  | o :: os, tm, cur, next, done, recs, tm', cur', next', h => by
    simp only [dgo] at h
    split at h
    · rename_i r hr
      obtain ⟨rs, h1, h2, h3, h4, h5, h6⟩ := dgo_spec os _ _ _ _ _ _ _ _ h
      refine ⟨r :: rs, by rw [h1, List.append_assoc]; rfl, by rw [List.length_cons, h2]; rfl, h3, h4, h5, fun k x hk => ?_⟩
      cases k with
      | zero =>
        simp only [List.getElem?_cons_zero, Option.some.injEq] at hk
        subst hk
        refine ⟨r, rfl, ?_⟩
        have e1 : curAt cur (r :: rs) 0 = cur := by rfl
        have e2 : nextAt next (r :: rs) 0 = next := by rfl
        rw [e1, e2]
        simpa [tmL] using hr
      | succ k =>
        obtain ⟨r', a1, a2⟩ := h6 k x hk
        refine ⟨r', a1, ?_⟩
        rw [List.append_assoc] at a2
        exact a2
    · cases h
theorem dgoP_spec {dsts : List (Option Tmp)} : ∀ (os : List Oper) (tm : H Value) (cur : H Ent) (next : Nat) (done recs : List DRec) (p : Nat × Value × H Ent × Nat), dgoP P cl G call ops dsts os tm cur next done = some (recs, p) →
    ∃ rs, recs = done ++ rs ∧ rs.length < os.length ∧ (∀ (k : Nat) (o : Oper), k < rs.length → os[k]? = some o → ∃ r, rs[k]? = some r ∧ drec P cl G call ops dsts o (tmL tm (rs.take k)) (curAt cur rs k) (nextAt next rs k) (done ++ rs.take k) = some r) ∧
      (∃ o, os[rs.length]? = some o ∧ dpan P cl G call ops dsts o (tmL tm rs) (curAt cur rs rs.length) (nextAt next rs rs.length) recs = some p) ∧ laterOk recs.length (os.drop (rs.length + 1)) = true
  | [], tm, cur, next, done, recs, p, h => by cases h
  | o :: os, tm, cur, next, done, recs, p, h => by
    simp only [dgoP] at h
    split at h
    · rename_i r hr
      obtain ⟨rs, h1, h2, h3, h4, h5⟩ := dgoP_spec os _ _ _ _ _ _ h
      refine ⟨r :: rs, by rw [h1, List.append_assoc]; rfl, by rw [List.length_cons, List.length_cons]; omega, fun k x hkl hk => ?_, h4, h5⟩
      cases k with
      | zero =>
        simp only [List.getElem?_cons_zero, Option.some.injEq] at hk
        subst hk
        refine ⟨r, rfl, ?_⟩
        have e1 : curAt cur (r :: rs) 0 = cur := by rfl
        have e2 : nextAt next (r :: rs) 0 = next := by rfl
        rw [e1, e2]
        simpa [tmL] using hr
      | succ k =>
        obtain ⟨r', a1, a2⟩ := h3 k x (by rw [List.length_cons] at hkl; omega) hk
        refine ⟨r', a1, ?_⟩
        rw [List.append_assoc] at a2
        exact a2
    · split at h
      · rename_i q hq
        simp only [cond_eq_ite] at h
        split at h
        · rename_i hl
          cases h
          refine ⟨[], by simp, by simp, fun k x hk => absurd hk (Nat.not_lt_zero _), ⟨o, rfl, ?_⟩, hl⟩
          have e1 : curAt cur [] 0 = cur := by rfl
          have e2 : nextAt next [] 0 = next := by rfl
          exact hq
        · cases h
      · cases h
/-- What is known of an operation's record. -/
structure DFact (P : Program) (cl : FuncId) (G : Nat) (call : CallF) (ops : Array Oper) (dsts : List (Option Tmp)) (o : Oper) (tm : H Value) (cur : H Ent) (next : Nat) (done : List DRec) (r : DRec) : Prop where
  anc : ancM done o.after.toList = some r.anc
  look : ∀ t, t ∈ o.looksAt ops → lookOk r.anc t dsts 0 = true
  dst : r.dst = o.dst
  a : r.a = next
  kind : (wantedA ops (partT tm (o.looksAt ops) .nil) o = false ∧ r.big = false ∧ r.v = undef ∧ r.new = none ∧ r.hp = cur ∧ r.b = next ∧ r.st = none) ∨
    (wantedA ops (partT tm (o.looksAt ops) .nil) o = true ∧ ∃ s, aop P cl G (partT tm (o.looksAt ops) .nil) o = some s ∧ ∃ x upd new, s.run (s.ids.map (addL cur (newsL (has r.anc) done 0)).get) next = some (x, upd, new) ∧
      ((simpleV x upd (new.isNone || s.ids.isEmpty) = some r.v ∧ r.big = false ∧ r.new = new ∧ r.hp = cur ∧ r.b = next + 1 ∧ r.st = some s) ∨
       (r.big = true ∧ r.new = none ∧ after call x (applyH (addL cur (newsL (has r.anc) done 0)) next upd new) (next + 1) = some (.ret r.v, r.hp, r.b))))
theorem drec_fact {dsts : List (Option Tmp)} {o : Oper} {tm : H Value} {cur : H Ent} {next : Nat} {done : List DRec} {r : DRec} (h : drec P cl G call ops dsts o tm cur next done = some r) : DFact P cl G call ops dsts o tm cur next done r := by
  unfold drec at h
  split at h
  · cases h
  · rename_i m hm
    simp only [cond_eq_ite] at h
    split at h
    · rename_i hlook
      rw [List.all_eq_true] at hlook
      split at h
      · rename_i hw
        split at h
        · cases h
        · rename_i s hs
          split at h
          · cases h
          · rename_i x upd new hrun
            split at h
            · rename_i v hv
              cases h
              exact ⟨hm, hlook, rfl, rfl, .inr ⟨hw, s, hs, x, upd, new, hrun, .inl ⟨hv, rfl, rfl, rfl, rfl, rfl⟩⟩⟩
            · split at h
              · rename_i v h2 next2 haft
                cases h
                exact ⟨hm, hlook, rfl, rfl, .inr ⟨hw, s, hs, x, upd, new, hrun, .inr ⟨rfl, rfl, haft⟩⟩⟩
              · cases h
      · rename_i hw
        cases h
        exact ⟨hm, hlook, rfl, rfl, .inl ⟨by simpa using hw, rfl, rfl, rfl, rfl, rfl, rfl⟩⟩
    · cases h

/-! ### what is looked at besides -/
def reSame (h : H Ent) (done : List DRec) (s : Step) (r : DRec) : Bool := match s.run (s.ids.map (addL h (newsL (has r.anc) done 0)).get) r.a with
  | some (.val v, none, none) => eqV v r.v
  | _ => false
def allIx (f : Nat → DRec → Bool) : List DRec → Nat → Bool
  | [], _ => true
  | r :: rs, i => f i r && allIx f rs (i + 1)
theorem allIx_spec {f : Nat → DRec → Bool} : ∀ {rs : List DRec} {i : Nat}, allIx f rs i = true → ∀ k r, rs[k]? = some r → f (i + k) r = true
  | [], i, _, k, r, hk => by simp at hk
  | x :: rs, i, h, k, r, hk => by
    simp only [allIx, Bool.and_eq_true] at h
    cases k with
    | zero => simp at hk; subst hk; exact h.1
    | succ k => have := allIx_spec h.2 k r hk; rw [← this]; congr 1; omega
def chkBig (h0 : H Ent) (recs : List DRec) (i : Nat) (r : DRec) : Bool := allIx (fun j x =>
    (!(x.big && Nat.blt j i) || has r.anc j) &&
    (match x.new with
     | none => true
     | some _ => (r.hp.get x.a).isSome || (!(has r.anc j) && ((curAt h0 recs i).get x.a).isNone))) recs 0
def chkLook (h0 : H Ent) (recs : List DRec) (i : Nat) (r : DRec) (s : Step) : Bool := allIx (fun j x =>
    (match x.new with
     | none => true
     | some _ => !(s.ids.any fun y => Nat.beq y x.a) || has r.anc j) &&
    (!x.big || (has r.anc j || (has x.anc i || (reSame (curAt h0 recs j) (recs.take i) s r && reSame x.hp (recs.take i) s r))))) recs 0
def chk (h0 : H Ent) (recs : List DRec) : Bool := allIx (fun i r => bif r.big then chkBig h0 recs i r else match r.st with
    | some s => bif s.ids.isEmpty then true else chkLook h0 recs i r s
    | none => true) recs 0
end
end
end Go.Proofs.YtefhaojjohddaaaGreatDoor.AM
