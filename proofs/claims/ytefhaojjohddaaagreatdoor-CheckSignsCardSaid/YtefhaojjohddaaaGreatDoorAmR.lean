/- The abstract machine, part R: whatever order a region draws, it comes to what the text's order comes to. -/
import Derived.Test.YtefhaojjohddaaaGreatDoorAmQ
namespace Go.Proofs.YtefhaojjohddaaaGreatDoor.AM
open Go Go.RowKit
noncomputable section

structure DD (P : Program) (cl : FuncId) (G : Nat) (call : CallF) (ops : Array Oper) (fr : Fr) (h0 : H Ent) (n0 : Nat) (recs : List DRec) : Prop where
  len : recs.length ≤ ops.size
  dok : dstsOk fr.n (ops.toList.map (·.dst)) = true
  fact : ∀ (i : Nat) (o : Oper), i < recs.length → ops[i]? = some o → ∃ r, recs[i]? = some r ∧ DFact P cl G call ops (ops.toList.map (·.dst)) o (tmL fr.tm (recs.take i)) (curAt h0 recs i) (nextAt n0 recs i) (recs.take i) r
  chk : chk h0 recs = true
def upd1 (L : Nat → Bool) (i : Nat) : Nat → Bool := fun j => if j = i then true else L j
section
variable {P : Program} {cl : FuncId} {G : Nat} {call : CallF} {ops : Array Oper} {fr : Fr} {h0 : H Ent} {n0 : Nat} {recs : List DRec} {w0 : Base} {w : World} {μ μ' : Mu}
theorem DD.op (D : DD P cl G call ops fr h0 n0 recs) {i : Nat} {r : DRec} (hr : recs[i]? = some r) : ∃ o, ops[i]? = some o ∧ DFact P cl G call ops (ops.toList.map (·.dst)) o (tmL fr.tm (recs.take i)) (curAt h0 recs i) (nextAt n0 recs i) (recs.take i) r := by
  have hl := (List.getElem?_eq_some_iff.1 hr).1
  have hi : i < ops.size := Nat.lt_of_lt_of_le hl D.len
  obtain ⟨r', h1, h2⟩ := D.fact i ops[i] hl (Array.getElem?_eq_getElem hi)
  rw [hr] at h1; cases h1
  exact ⟨_, Array.getElem?_eq_getElem hi, h2⟩
theorem take_get {i j : Nat} {r : DRec} (h : (recs.take i)[j]? = some r) : j < i ∧ recs[j]? = some r := by
  rw [List.getElem?_take] at h
  split at h
  · rename_i hj; exact ⟨hj, h⟩
  · cases h
theorem DD.anc_lt (D : DD P cl G call ops fr h0 n0 recs) : ∀ (i : Nat) (r : DRec), recs[i]? = some r → ∀ j, has r.anc j = true → j < i := by
  intro i
  induction i using Nat.strongRecOn with
  | _ i ih =>
    intro r hr j hj
    obtain ⟨o, _, f⟩ := D.op hr
    obtain ⟨e, _, _, r', h1, h2⟩ := (ancM_spec f.anc).2 j hj
    obtain ⟨h3, h4⟩ := take_get h1
    rcases h2 with rfl | h2
    · exact h3
    · exact Nat.lt_trans (ih _ h3 r' h4 j h2) h3
theorem DD.le (D : DD P cl G call ops fr h0 n0 recs) (C : CallOk P G call) {i : Nat} {r : DRec} (hr : recs[i]? = some r) : r.a = nextAt n0 recs i ∧ r.a ≤ r.b ∧ (r.new.isSome = true → r.b = r.a + 1) := by
  obtain ⟨o, _, f⟩ := D.op hr
  refine ⟨f.a, ?_, ?_⟩
  · rw [f.a]
    rcases f.kind with ⟨_, _, _, _, _, h, _⟩ | ⟨_, s, _, x, upd, new, _, ⟨_, _, _, _, h, _⟩ | ⟨_, _, h⟩⟩
    · omega
    · omega
    · have := after_le C h; omega
  · intro hn
    rw [f.a]
    rcases f.kind with ⟨_, _, _, h, _⟩ | ⟨_, s, _, x, upd, new, _, ⟨_, _, _, _, h, _⟩ | ⟨_, h, _⟩⟩
    · rw [h] at hn; cases hn
    · exact h
    · rw [h] at hn; cases hn
theorem DD.mono (D : DD P cl G call ops fr h0 n0 recs) (C : CallOk P G call) (i : Nat) : ∀ j, i ≤ j → j ≤ recs.length → nextAt n0 recs i ≤ nextAt n0 recs j := by
  intro j
  induction j with
  | zero => intro h _; rw [Nat.le_zero.1 h]; exact Nat.le_refl _
  | succ j ih =>
    intro h hj
    by_cases e : i = j + 1
    · rw [e]; exact Nat.le_refl _
    · have hr : recs[j]? = some recs[j] := List.getElem?_eq_getElem (by omega)
      obtain ⟨h1, h2, _⟩ := D.le C hr
      rw [nextAt_succ hr]
      have := ih (by omega) (by omega)
      omega
theorem DD.apart (D : DD P cl G call ops fr h0 n0 recs) (C : CallOk P G call) {i j : Nat} {r s : DRec} (hi : recs[i]? = some r) (hj : recs[j]? = some s) (h : i < j) : r.b ≤ s.a := by
  have hl := (List.getElem?_eq_some_iff.1 hj).1
  rw [← nextAt_succ hi (n := n0), (D.le C hj).1]
  exact D.mono C _ _ h (by omega)
theorem DD.news (D : DD P cl G call ops fr h0 n0 recs) (C : CallOk P G call) {i j : Nat} {r s : DRec} (hi : recs[i]? = some r) (hj : recs[j]? = some s) (ri : r.new.isSome = true) (rj : s.new.isSome = true) (e : r.a = s.a) : i = j := by
  have h1 := (D.le C hi).2.2 ri
  have h2 := (D.le C hj).2.2 rj
  rcases Nat.lt_trichotomy i j with h | h | h
  · have := D.apart C hi hj h; omega
  · exact h
  · have := D.apart C hj hi h; omega
theorem DD.look (D : DD P cl G call ops fr h0 n0 recs) (C : CallOk P G call) {S : Nat → Bool} {k id : Nat} {r : DRec} {e : Ent} (hk : recs[k]? = some r) (hn : r.new = some e) (ha : r.a = id) (hs : S k = true) {m : Nat} (hm : k < m) : look1 (newsL S (recs.take m) 0) id = some e := by
  have hk' : (recs.take m)[k]? = some r := by rw [List.getElem?_take, if_pos hm]; exact hk
  cases hl : look1 (newsL S (recs.take m) 0) id with
  | none => exact absurd ha (newsL_none hl k r e hk' hn (by rw [Nat.zero_add]; exact hs))
  | some e' =>
    obtain ⟨k', r', h1, h2, h3, _⟩ := newsL_some hl
    have := D.news C (take_get h1).2 hk (by rw [h2]; rfl) (by rw [hn]; rfl) (by rw [h3, ha])
    subst this
    rw [(take_get h1).2] at hk; cases hk
    rw [h2] at hn; exact hn
theorem DD.lookAll (D : DD P cl G call ops fr h0 n0 recs) (C : CallOk P G call) {S : Nat → Bool} {k id : Nat} {r : DRec} {e : Ent} (hk : recs[k]? = some r) (hn : r.new = some e) (ha : r.a = id) (hs : S k = true) : look1 (newsL S recs 0) id = some e := by
  have := D.look C hk hn ha hs (m := recs.length) (List.getElem?_eq_some_iff.1 hk).1
  rwa [List.take_length] at this
theorem DD.cur (D : DD P cl G call ops fr h0 n0 recs) {i : Nat} {r : DRec} (hr : recs[i]? = some r) (hb : r.big = false) : curAt h0 recs (i + 1) = curAt h0 recs i := by
  rw [curAt_succ hr]
  obtain ⟨o, _, f⟩ := D.op hr
  rcases f.kind with ⟨_, _, _, _, h, _⟩ | ⟨_, s, _, x, upd, new, _, ⟨_, _, _, h, _⟩ | ⟨h, _⟩⟩
  · exact h
  · exact h
  · rw [hb] at h; cases h
/-- From q on to m: nothing changes, or there is a first that does. -/
theorem DD.first (D : DD P cl G call ops fr h0 n0 recs) (q : Nat) : ∀ m, q ≤ m → m ≤ recs.length → curAt h0 recs q = curAt h0 recs m ∨ ∃ j r, q ≤ j ∧ j < m ∧ recs[j]? = some r ∧ r.big = true ∧ curAt h0 recs q = curAt h0 recs j := by
  intro m
  induction m with
  | zero => intro h _; rw [Nat.le_zero.1 h]; exact .inl rfl
  | succ m ih =>
    intro h hm
    by_cases e : q = m + 1
    · rw [e]; exact .inl rfl
    · have hr : recs[m]? = some recs[m] := List.getElem?_eq_getElem (by omega)
      rcases ih (by omega) (by omega) with h1 | ⟨j, r, a1, a2, a3⟩
      · cases hb : recs[m].big with
        | false => left; rw [D.cur hr hb]; exact h1
        | true => exact .inr ⟨m, _, by omega, by omega, hr, hb, h1⟩
      · exact .inr ⟨j, r, a1, by omega, a3⟩
/-- From m on to q: nothing changes, or there is a last that does. -/
theorem DD.last (D : DD P cl G call ops fr h0 n0 recs) (m : Nat) : ∀ q, m ≤ q → q ≤ recs.length → curAt h0 recs q = curAt h0 recs m ∨ ∃ j r, m ≤ j ∧ j < q ∧ recs[j]? = some r ∧ r.big = true ∧ curAt h0 recs q = r.hp := by
  intro q
  induction q with
  | zero => intro h _; rw [Nat.le_zero.1 h]; exact .inl rfl
  | succ q ih =>
    intro h hq
    by_cases e : m = q + 1
    · rw [e]; exact .inl rfl
    · have hr : recs[q]? = some recs[q] := List.getElem?_eq_getElem (by omega)
      cases hb : recs[q].big with
      | true => exact .inr ⟨q, _, by omega, by omega, hr, hb, curAt_succ hr⟩
      | false =>
        rw [D.cur hr hb]
        rcases ih (by omega) (by omega) with h1 | ⟨j, r, a1, a2, a3⟩
        · exact .inl h1
        · exact .inr ⟨j, r, a1, by omega, a3⟩

/-! ### what holds behind any part of the operations -/
structure Inv1 (P : Program) (G : Nat) (w0 : Base) (fr : Fr) (h0 : H Ent) (n0 : Nat) (recs : List DRec) (L : Nat → Bool) (μ μ' : Mu) (q : Nat) (a : Act) (w : World) : Prop where
  ext : Ext μ μ' n0 (nextAt n0 recs recs.length)
  qn : q ≤ recs.length
  big : ∀ (j : Nat) (r : DRec), recs[j]? = some r → r.big = true → (L j = true ↔ j < q)
  down : ∀ (j : Nat) (r : DRec), recs[j]? = some r → L j = true → ∀ k, has r.anc k = true → L k = true
  fresh : ∀ (j : Nat) (r : DRec), recs[j]? = some r → L j = false → ∀ id, r.a ≤ id → id < r.b → μ' id = none
  rel : Rel P G w0 μ' (addL (curAt h0 recs q) (newsL L recs 0)) w
  n : a.tmps.size = fr.n
  d : DRel μ' fr.ds a.defers
  t1 : ∀ (j : Nat) (r : DRec), recs[j]? = some r → L j = true → ∀ t, r.dst = some t → VRel μ' r.v (a.tmps.getD t undef)
  t2 : ∀ t, (∀ (j : Nat) (r : DRec), recs[j]? = some r → L j = true → r.dst ≠ some t) → VRel μ' ((fr.tm.get t).getD undef) (a.tmps.getD t undef)
variable {L : Nat → Bool} {q : Nat} {a : Act}
theorem put_same {d : Tmp} {v : Value} (h : d < a.tmps.size) : (a.put (some d) v).tmps.getD d undef = v := by
  simp [Act.put, h]
theorem put_diff {dst : Option Tmp} {t : Tmp} {v : Value} (h : dst ≠ some t) : (a.put dst v).tmps.getD t undef = a.tmps.getD t undef := by
  cases dst with
  | none => rfl
  | some d =>
    have : ¬ d = t := fun e => h (by rw [e])
    simp [Act.put, Array.getElem?_setIfInBounds_ne this]
theorem inv_put (D : DD P cl G call ops fr h0 n0 recs) (C : CallOk P G call) (I : Inv1 P G w0 fr h0 n0 recs L μ μ' q a w) {i : Nat} {r : DRec} (hr : recs[i]? = some r) (hL : L i = false) (hanc : ∀ k, has r.anc k = true → L k = true)
    {μ1 : Mu} (E : Ext μ' μ1 r.a r.b) {v' : Value} (hv : VRel μ1 r.v v') {q1 : Nat} (hq : q1 ≤ recs.length) (hbig : ∀ (j : Nat) (s : DRec), recs[j]? = some s → s.big = true → ((L j = true ∨ j = i) ↔ j < q1))
    {w1 : World} (R : Rel P G w0 μ1 (addL (curAt h0 recs q1) (newsL (upd1 L i) recs 0)) w1) : Inv1 P G w0 fr h0 n0 recs (upd1 L i) μ μ1 q1 (a.put r.dst v') w1 := by
  have hlen := (List.getElem?_eq_some_iff.1 hr).1
  obtain ⟨ha, hab, _⟩ := D.le C hr
  have hb : r.b = nextAt n0 recs (i + 1) := (nextAt_succ hr).symm
  have lo : n0 ≤ r.a := by
    rw [ha]
    have := D.mono C 0 i (Nat.zero_le _) (by omega)
    have e : nextAt n0 recs 0 = n0 := by cases recs <;> rfl
    omega
  have hi : r.b ≤ nextAt n0 recs recs.length := by rw [hb]; exact D.mono C _ _ hlen (Nat.le_refl _)
  have up : ∀ j, upd1 L i j = true ↔ L j = true ∨ j = i := fun j => by
    unfold upd1
    by_cases e : j = i <;> simp [e]
  obtain ⟨o, ho, f⟩ := D.op hr
  have dstOf : ∀ (j : Nat) (s : DRec) (t : Tmp), recs[j]? = some s → s.dst = some t → (ops.toList.map (·.dst))[j]? = some (some t) := fun j s t hj hd => by
    obtain ⟨oj, hoj, fj⟩ := D.op hj
    rw [List.getElem?_map, Array.getElem?_toList, hoj, Option.map_some, ← fj.dst, hd]
  obtain ⟨dlt, dinj⟩ := dstsOk_spec D.dok
  refine ⟨⟨Mu.le_trans I.ext.le E.le, fun j hj => (E.out j (by omega)).trans (I.ext.out j hj)⟩, hq, fun j s hj hs => (up j).trans (hbig j s hj hs), fun j s hj hl k hk => ?_, fun j s hj hl id h1 h2 => ?_, R, ?_, ?_, fun j s hj hl t ht => ?_, fun t ht => ?_⟩
  · rw [up]
    rcases (up j).1 hl with hl | rfl
    · exact .inl (I.down j s hj hl k hk)
    · rw [hr] at hj; cases hj
      exact .inl (hanc k hk)
  · have hl' : L j = false ∧ j ≠ i := by
      constructor
      · cases e : L j with
        | false => rfl
        | true => rw [(up j).2 (.inl e)] at hl; cases hl
      · intro e; rw [(up j).2 (.inr e)] at hl; cases hl
    rw [E.out id ?_]
    · exact I.fresh j s hj hl'.1 id h1 h2
    · rcases Nat.lt_or_gt_of_ne hl'.2 with h | h
      · have := D.apart C hj hr h; left; omega
      · have := D.apart C hr hj h; right; omega
  · have := I.n
    cases hd : r.dst <;> simp [Act.put, this]
  · have := I.d.mono E.le
    cases hd : r.dst <;> exact this
  · by_cases e : j = i
    · subst e
      rw [hr] at hj; cases hj
      rw [ht, put_same (by rw [I.n]; exact dlt j t (dstOf j r t hr ht))]
      exact hv
    · have hl' : L j = true := ((up j).1 hl).resolve_right e
      rw [put_diff (fun q => e (dinj j i t (dstOf j s t hj ht) (dstOf i r t hr q)))]
      exact (I.t1 j s hj hl' t ht).mono E.le
  · rw [put_diff (ht i r hr ((up i).2 (.inr rfl)))]
    exact (I.t2 t fun j s hj hl => ht j s hj ((up j).2 (.inl hl))).mono E.le
theorem aop_select {G : Nat} {tm : H Value} {o : Oper} {s : Step} (h : aop P cl G tm o = some s) (cs : Array SelectCase) (b : Bool) : o.op ≠ .select cs b := by
  intro e
  unfold aop at h
  rw [e] at h
  cases h
theorem D_look_same (D : DD P cl G call ops fr h0 n0 recs) (C : CallOk P G call) {i : Nat} {r : DRec} (hr : recs[i]? = some r) (hnew : r.new = none) {c : H Ent} (id : Nat) (x : Ent) (h : (addL c (newsL (upd1 L i) recs 0)).get id = some x) : (addL c (newsL L recs 0)).get id = some x := by
  rw [addL_get] at h ⊢
  split at h
  · rename_i y hy; exact h
  · rename_i hy
    obtain ⟨k, s, h1, h2, h3, h4⟩ := newsL_some h
    rw [Nat.zero_add] at h4
    have hk : k ≠ i := fun e => by subst e; rw [hr] at h1; cases h1; rw [hnew] at h2; cases h2
    simp only [upd1, if_neg hk] at h4
    exact D.lookAll C h1 h2 h3 h4
theorem d_step (F : Fns P cl) (D : DD P cl G call ops fr h0 n0 recs) (C : CallOk P G call) (I : Inv1 P G w0 fr h0 n0 recs L μ μ' q a w) {i : Nat} {o : Oper} (hil : i < recs.length) (ho : ops[i]? = some o) (hL : L i = false)
    (hedge : ∀ e, e ∈ o.after.toList → Region.binds .any e = true → L e.on = true) {Q : Exit → Act → World → Prop} :
    wpOp P ops Q i (fun a' w' => ∃ μ1 q1, Inv1 P G w0 fr h0 n0 recs (upd1 L i) μ μ1 q1 a' w') a w := by
  obtain ⟨r, hr, f⟩ := D.fact i o hil ho
  have hlen := (List.getElem?_eq_some_iff.1 hr).1
  obtain ⟨ha, hab, hnb⟩ := D.le C hr
  have hanc : ∀ k, has r.anc k = true → L k = true := fun k hk => by
    obtain ⟨e, h1, h2, r', h3, h4⟩ := (ancM_spec f.anc).2 k hk
    have := hedge e h1 h2
    rcases h4 with rfl | h4
    · exact this
    · exact I.down _ r' (take_get h3).2 this k h4
  have dstOf : ∀ (j : Nat) (s : DRec) (t : Tmp), recs[j]? = some s → s.dst = some t → (ops.toList.map (·.dst))[j]? = some (some t) := fun j s t hj hd => by
    obtain ⟨oj, hoj, fj⟩ := D.op hj
    rw [List.getElem?_map, Array.getElem?_toList, hoj, Option.map_some, ← fj.dst, hd]
  have hT : TRel μ' (partT (tmL fr.tm (recs.take i)) (o.looksAt ops) .nil) (actPart a (o.looksAt ops)) := actPart_rel fun t ht => by
    rcases tmL_get (recs.take i) fr.tm t with ⟨j, s, h1, h2, h3⟩ | ⟨h1, h2⟩
    · rw [h3]
      obtain ⟨_, hj⟩ := take_get h1
      have := lookOk_spec (f.look t ht) j (dstOf j s t hj h2)
      rw [Nat.zero_add] at this
      exact I.t1 j s hj (hanc j this) t h2
    · rw [h2]
      refine I.t2 t fun j s hj _ hd => ?_
      have := lookOk_spec (f.look t ht) j (dstOf j s t hj hd)
      rw [Nat.zero_add] at this
      have hlt := D.anc_lt i r hr j this
      exact h1 j s (by rw [List.getElem?_take, if_pos hlt]; exact hj) hd
  have hwant : Region.wanted o (yielded ops a.tmps) = wantedA ops (partT (tmL fr.tm (recs.take i)) (o.looksAt ops) .nil) o := by
    rw [← actPart_wanted a o, wantedA_eq hT]
  have bigs0 : r.big = false → ∀ (j : Nat) (s : DRec), recs[j]? = some s → s.big = true → ((L j = true ∨ j = i) ↔ j < q) := fun hb j s hj hs => by
    rw [← I.big j s hj hs]
    refine ⟨fun h => h.elim id fun e => ?_, .inl⟩
    subst e
    rw [hr] at hj; cases hj
    rw [hb] at hs; cases hs
  unfold wpOp
  rw [ho]
  simp only
  rw [hwant]
  rcases f.kind with ⟨hw, hb, hv, hnew, hhp, hbn, _⟩ | ⟨hw, s, hs, x, upd, new, hrun, hk⟩
  · rw [hw]
    simp only [Bool.false_eq_true, if_false]
    rw [← f.dst]
    refine ⟨μ', q, inv_put D C I hr hL hanc (Ext.refl _ _ _) (by rw [hv]; exact VRel.undef μ') I.qn (bigs0 hb) (I.rel.congr (D_look_same D C hr hnew))⟩
  · rw [hw]
    simp only [if_true]
    refine .inl ?_
    have hex := actPart_exec (ops := ops) a o (aop_select hs)
    have hchk := allIx_spec D.chk i r hr
    rw [Nat.zero_add] at hchk
    rcases hk with ⟨hsv, hb, hnew, hhp, hbn, hst⟩ | ⟨hb, hnew, haft⟩
    · -- a small one
      rw [hb] at hchk
      simp only [cond_false, hst] at hchk
      have hupd : upd = none := by
        unfold simpleV at hsv
        split at hsv <;> first | rfl | cases hsv
      have hok : new = none ∨ s.ids = [] := by
        unfold simpleV at hsv
        split at hsv
        · rename_i e; rw [Bool.or_eq_true] at e; exact e.imp (by simp) (by simp)
        · rename_i e; rw [Bool.or_eq_true] at e; exact e.imp (by simp) (by simp)
        · cases hsv
      subst hupd
      -- its run, where it is
      have hrun' : ∃ x', s.run (s.ids.map (addL (curAt h0 recs q) (newsL L recs 0)).get) r.a = some (x', none, new) ∧ simpleV x' none true = some r.v := by
        have hsv' : simpleV x none true = some r.v := by
          unfold simpleV at hsv ⊢
          split at hsv <;> first | exact hsv | cases hsv
        by_cases hids : s.ids = []
        · rw [hids] at hrun ⊢
          exact ⟨x, by rw [f.a]; exact hrun, hsv'⟩
        · have hn : new = none := hok.resolve_right hids
          subst hn
          have hne : s.ids.isEmpty = false := by cases h : s.ids with | nil => exact absurd h hids | cons => rfl
          rw [hne] at hchk
          simp only [cond_false] at hchk
          have hall := allIx_spec hchk
          -- at the memory that is there
          have at_ : ∃ x', s.run (s.ids.map (addL (curAt h0 recs q) (newsL (has r.anc) (recs.take i) 0)).get) r.a = some (x', none, none) ∧ simpleV x' none true = some r.v := by
            have orig : curAt h0 recs q = curAt h0 recs i → ∃ x', s.run (s.ids.map (addL (curAt h0 recs q) (newsL (has r.anc) (recs.take i) 0)).get) r.a = some (x', none, none) ∧ simpleV x' none true = some r.v := fun e => by
              rw [e, f.a]; exact ⟨x, hrun, hsv'⟩
            have same : ∀ c, reSame c (recs.take i) s r = true → curAt h0 recs q = c → ∃ x', s.run (s.ids.map (addL (curAt h0 recs q) (newsL (has r.anc) (recs.take i) 0)).get) r.a = some (x', none, none) ∧ simpleV x' none true = some r.v := fun c hc e => by
              rw [e]
              unfold reSame at hc
              split at hc
              · rename_i v hv
                exact ⟨.val v, hv, by rw [← eqV_eq _ _ hc]; rfl⟩
              · cases hc
            rcases Nat.le_total q i with hqi | hqi
            · rcases D.first q i hqi (by omega) with e | ⟨j, y, h1, h2, h3, h4, h5⟩
              · exact orig e
              · have hj := hall j y h3
                rw [Nat.zero_add] at hj
                simp only [Bool.and_eq_true, Bool.or_eq_true, Bool.not_eq_true', h4, Bool.true_eq_false, false_or] at hj
                rcases hj.2 with hj | hj | hj
                · have := (I.big j y h3 h4).1 (hanc j hj); omega
                · have := D.anc_lt j y h3 i hj; omega
                · exact same _ hj.1 h5
            · rcases D.last i q hqi I.qn with e | ⟨j, y, h1, h2, h3, h4, h5⟩
              · exact orig e
              · have hj := hall j y h3
                rw [Nat.zero_add] at hj
                simp only [Bool.and_eq_true, Bool.or_eq_true, Bool.not_eq_true', h4, Bool.true_eq_false, false_or] at hj
                rcases hj.2 with hj | hj | hj
                · have := D.anc_lt i r hr j hj; omega
                · have := I.down j y h3 ((I.big j y h3 h4).2 h2) i hj
                  rw [hL] at this; cases this
                · exact same _ hj.2 h5
          obtain ⟨x', h1, h2⟩ := at_
          refine ⟨x', ?_, h2⟩
          rw [← h1]
          congr 1
          refine List.map_congr_left fun id hid => ?_
          rw [addL_get, addL_get]
          split
          · rfl
          · cases hl : look1 (newsL L recs 0) id with
            | some e =>
              obtain ⟨k, y, a1, a2, a3, a4⟩ := newsL_some hl
              have hk := hall k y a1
              rw [Nat.zero_add] at hk
              simp only [Bool.and_eq_true, a2, Bool.or_eq_true, Bool.not_eq_true'] at hk
              have hanck : has r.anc k = true := hk.1.resolve_left fun q => by
                have : (s.ids.any fun z => Nat.beq z y.a) = true := List.any_eq_true.2 ⟨id, hid, by rw [a3]; exact Nat.beq_refl id⟩
                rw [this] at q; cases q
              rw [D.look C a1 a2 a3 hanck (D.anc_lt i r hr k hanck)]
            | none =>
              cases hl2 : look1 (newsL (has r.anc) (recs.take i) 0) id with
              | none => rfl
              | some e =>
                obtain ⟨k, y, a1, a2, a3, a4⟩ := newsL_some hl2
                rw [Nat.zero_add] at a4
                rw [D.lookAll C (take_get a1).2 a2 a3 (hanc k a4)] at hl
                cases hl
      obtain ⟨x', hrun', hsv'⟩ := hrun'
      have hb1 : r.b = r.a + 1 := by rw [hbn, f.a]
      have haft : after call x' (applyH (addL (curAt h0 recs q) (newsL L recs 0)) r.a none new) (r.a + 1) = some (.ret r.v, applyH (addL (curAt h0 recs q) (newsL L recs 0)) r.a none new, r.a + 1) := by
        unfold simpleV at hsv'
        split at hsv' <;> first | (rw [← Option.some.inj hsv']; rfl) | cases hsv'
      have hfresh : Fresh μ' r.a (r.a + 1) := fun id h1 h2 => I.fresh i r hr hL id h1 (by omega)
      refine op_wp C (aop_right F o) hs hrun' haft I.rel hT hex hfresh ?_ ?_
      · intro v hv μ1 w1 v' E hv' R1
        cases hv
        rw [← f.dst]
        refine ⟨μ1, q, inv_put D C I hr hL hanc (by rw [hb1]; exact E) hv' I.qn (bigs0 hb) (R1.congr fun id y hy => ?_)⟩
        cases hnw : new with
        | none =>
          simp only [applyH]
          exact D_look_same D C hr (by rw [hnew, hnw]) id y hy
        | some e =>
          simp only [applyH]
          rw [H.get_set]
          have hnow : (addL (curAt h0 recs q) (newsL L recs 0)).get r.a = none := by
            cases hg : (addL (curAt h0 recs q) (newsL L recs 0)).get r.a with
            | none => rfl
            | some z =>
              obtain ⟨m, _, hm, _⟩ := I.rel.ent r.a z hg
              rw [I.fresh i r hr hL r.a (Nat.le_refl _) (by omega)] at hm
              cases hm
          by_cases hid : id = r.a
          · subst hid
            rw [if_pos rfl]
            rw [addL_get] at hy hnow
            split at hy
            · rename_i z hz; rw [hz] at hnow; cases hnow
            · rename_i hz
              have hup : upd1 L i i = true := by simp [upd1]
              rw [D.lookAll C hr (hnew.trans hnw) rfl hup] at hy
              exact hy
          · rw [if_neg hid]
            rw [addL_get] at hy ⊢
            split at hy
            · exact hy
            · obtain ⟨k, z, a1, a2, a3, a4⟩ := newsL_some hy
              rw [Nat.zero_add] at a4
              have hk : k ≠ i := fun e => by subst e; rw [hr] at a1; cases a1; exact hid a3.symm
              simp only [upd1, if_neg hk] at a4
              exact D.lookAll C a1 a2 a3 a4
      · intro v hv; cases hv
    · -- a big one
      rw [hb] at hchk
      simp only [cond_true] at hchk
      have hall := allIx_spec hchk
      have hqi : q ≤ i := by
        rcases Nat.lt_or_ge i q with h | h
        · have := (I.big i r hr hb).2 h
          rw [hL] at this; cases this
        · exact h
      have hancB : ∀ (j : Nat) (y : DRec), recs[j]? = some y → y.big = true → j < i → has r.anc j = true := fun j y hj hy hlt => by
        have := hall j y hj
        rw [Nat.zero_add] at this
        have hb2 : Nat.blt j i = true := by rw [Nat.blt_eq]; exact hlt
        simp only [Bool.and_eq_true, Bool.or_eq_true, Bool.not_eq_true', hy, hb2, Bool.and_self, Bool.true_eq_false, false_or] at this
        exact this.1
      have hcur : curAt h0 recs q = curAt h0 recs i := by
        rcases D.first q i hqi (by omega) with e | ⟨j, y, h1, h2, h3, h4, h5⟩
        · exact e
        · have := (I.big j y h3 h4).1 (hanc j (hancB j y h3 h4 h2))
          omega
      have hpre : ∀ id y, (addL (curAt h0 recs i) (newsL (has r.anc) (recs.take i) 0)).get id = some y → (addL (curAt h0 recs q) (newsL L recs 0)).get id = some y := fun id y hy => by
        rw [addL_get] at hy ⊢
        rw [hcur]
        split at hy
        · exact hy
        · obtain ⟨k, z, a1, a2, a3, a4⟩ := newsL_some hy
          rw [Nat.zero_add] at a4
          exact D.lookAll C (take_get a1).2 a2 a3 (hanc k a4)
      obtain ⟨w2, R2, back⟩ := I.rel.hide _ hpre
      have hfresh : Fresh μ' r.a r.b := fun id h1 h2 => I.fresh i r hr hL id h1 h2
      rw [← f.a] at hrun haft
      refine op_wp C (aop_right F o) hs hrun haft R2 hT hex hfresh ?_ ?_
      · intro v hv μ1 w1 v' E hv' R1
        cases hv
        rw [← f.dst]
        refine ⟨μ1, i + 1, inv_put D C I hr hL hanc E hv' hlen (fun j y hj hy => ?_) (back μ1 r.hp w1 R1 E.le _ fun id y hy => ?_)⟩
        · constructor
          · rintro (h | h)
            · have := (I.big j y hj hy).1 h; omega
            · omega
          · intro h
            by_cases e : j = i
            · exact .inr e
            · exact .inl (hanc j (hancB j y hj hy (by omega)))
        · rw [addL_get, curAt_succ hr] at hy
          split at hy
          · rename_i z hz
            exact .inl (by rw [hz]; exact hy)
          · rename_i hz
            obtain ⟨k, y1, a1, a2, a3, a4⟩ := newsL_some hy
            rw [Nat.zero_add] at a4
            have hk : k ≠ i := fun e => by subst e; rw [hr] at a1; cases a1; rw [hnew] at a2; cases a2
            simp only [upd1, if_neg hk] at a4
            have hc := hall k y1 a1
            rw [Nat.zero_add] at hc
            simp only [Bool.and_eq_true, a2, Bool.or_eq_true, Bool.not_eq_true', a3, hz, Option.isSome_none, Bool.false_eq_true, false_or, Option.isNone_iff_eq_none] at hc
            obtain ⟨_, hna, hcn⟩ := hc
            refine .inr ⟨hz, ?_, ?_⟩
            · rw [addL_get, hcn]
              cases hl : look1 (newsL (has r.anc) (recs.take i) 0) id with
              | none => rfl
              | some e =>
                obtain ⟨k', y2, b1, b2, b3, b4⟩ := newsL_some hl
                rw [Nat.zero_add] at b4
                have := D.news C (take_get b1).2 a1 (by rw [b2]; rfl) (by rw [a2]; rfl) (by rw [b3, a3])
                subst this
                rw [hna] at b4; cases b4
            · rw [addL_get, hcur, hcn]
              exact D.lookAll C a1 a2 a3 a4
      · intro v hv; cases hv
end
end
end Go.Proofs.YtefhaojjohddaaaGreatDoor.AM
