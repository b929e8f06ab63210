/- The abstract machine, part S: a region that draws, whole; and a call of a function by a run of the machine. -/
import Derived.Test.YtefhaojjohddaaaGreatDoorAmR
namespace Go.Proofs.YtefhaojjohddaaaGreatDoor.AM
open Go Go.RowKit
noncomputable section
section
variable {P : Program} {cl : FuncId} {G : Nat} {call : CallF} {ops : Array Oper} {fr : Fr} {h0 : H Ent} {n0 : Nat} {recs : List DRec} {w0 : Base} {w : World} {μ μ' : Mu}
theorem set_is (listed : Array Bool) {i : Nat} (hi : i < listed.size) : (fun j => (listed.setIfInBounds i true).getD j false) = upd1 (fun j => listed.getD j false) i := by
  funext j
  unfold upd1
  by_cases e : j = i
  · subst e; simp [hi]
  · have : ¬ i = j := fun q => e q.symm
    simp [e, Array.getElem?_setIfInBounds_ne this]
theorem ready_all (D : DD P cl G call ops fr h0 n0 recs) (listed : Array Bool) (hs : listed.size = ops.size) (hr : Region.ready .any ops listed = []) : ∀ j, j < recs.length → listed.getD j false = true := by
  intro j
  induction j using Nat.strongRecOn with
  | _ j ih =>
    intro hj
    cases hl : listed.getD j false with
    | true => rfl
    | false =>
      have hjo : j < ops.size := Nat.lt_of_lt_of_le hj D.len
      have hm : j ∈ Region.ready .any ops listed := by
        rw [mem_ready]
        refine ⟨?_, ops[j], Array.getElem?_eq_getElem hjo, fun e he hb => ?_⟩
        · rw [Array.getD_eq_getD_getElem?] at hl ⊢
          rw [Array.getElem?_eq_getElem (by rw [hs]; exact hjo)] at hl ⊢
          exact hl
        · obtain ⟨r, _, f⟩ := D.fact j _ hj (Array.getElem?_eq_getElem hjo)
          obtain ⟨r', h1, _⟩ := (ancM_spec f.anc).1 e (by simpa using he) hb
          obtain ⟨h2, h3⟩ := take_get h1
          exact ih _ h2 (List.getElem?_eq_some_iff.1 h3).1
      rw [hr] at hm
      cases hm
theorem d_any (F : Fns P cl) (D : DD P cl G call ops fr h0 n0 recs) (hN : recs.length = ops.size) (C : CallOk P G call) {Q : Exit → Act → World → Prop}
    (hQ : ∀ L μ' q a w, (∀ j, j < recs.length → L j = true) → Inv1 P G w0 fr h0 n0 recs L μ μ' q a w → Q .normal a w) :
    ∀ (fuel : Nat) (listed : Array Bool) (a : Act) (w : World), listed.size = ops.size → ((List.range ops.size).filter fun j => !listed.getD j false).length ≤ fuel →
      (∃ μ' q, Inv1 P G w0 fr h0 n0 recs (fun j => listed.getD j false) μ μ' q a w) → wpAny P .any ops Q fuel listed a w := by
  intro fuel
  induction fuel with
  | zero =>
    intro listed a w hs hf ⟨μ', q, I⟩
    have hnil := List.eq_nil_of_length_eq_zero (Nat.le_zero.1 hf)
    have hr : Region.ready .any ops listed = [] := by
      apply List.eq_nil_iff_forall_not_mem.2
      intro j hj
      rw [mem_ready] at hj
      obtain ⟨h1, o, ho, _⟩ := hj
      have hlt := (Array.getElem?_eq_some_iff.1 ho).1
      have : j ∈ (List.range ops.size).filter fun j => !listed.getD j false := by
        rw [List.mem_filter, List.mem_range]
        refine ⟨hlt, ?_⟩
        rw [Array.getD_eq_getD_getElem?] at h1 ⊢
        rw [Array.getElem?_eq_getElem (by rw [hs]; exact hlt)] at h1 ⊢
        simpa using h1
      rw [hnil] at this
      cases this
    exact ⟨hr, hQ _ _ _ _ _ (ready_all D listed hs hr) I⟩
  | succ fuel ih =>
    intro listed a w hs hf ⟨μ', q, I⟩
    refine ⟨fun hr => hQ _ _ _ _ _ (ready_all D listed hs hr) I, fun i hi => ?_⟩
    obtain ⟨h1, o, ho, hall⟩ := mem_ready.1 hi
    have hlt := (Array.getElem?_eq_some_iff.1 ho).1
    have hL : listed.getD i false = false := by
      rw [Array.getD_eq_getD_getElem?] at h1 ⊢
      rw [Array.getElem?_eq_getElem (by rw [hs]; exact hlt)] at h1 ⊢
      exact h1
    refine wpOp_mono (fun a1 w1 hh => ?_) (d_step F D C I (by rw [hN]; exact hlt) ho hL (fun e he hb => hall e (by simpa using he) hb))
    obtain ⟨μ1, q1, I1⟩ := hh
    refine ih _ a1 w1 (by simpa using hs) ?_ ⟨μ1, q1, by rw [set_is listed (by rw [hs]; exact hlt)]; exact I1⟩
    have hset := set_is listed (i := i) (by rw [hs]; exact hlt)
    have e : ((List.range ops.size).filter fun j => !(listed.setIfInBounds i true).getD j false) = ((List.range ops.size).filter fun j => !listed.getD j false).filter fun j => decide (j ≠ i) := by
      rw [List.filter_filter]
      refine List.filter_congr fun j _ => ?_
      rw [show (listed.setIfInBounds i true).getD j false = upd1 (fun j => listed.getD j false) i j from congrFun hset j]
      unfold upd1
      by_cases e : j = i <;> simp [e]
    rw [e]
    have : (((List.range ops.size).filter fun j => !listed.getD j false).filter fun j => decide (j ≠ i)).length < ((List.range ops.size).filter fun j => !listed.getD j false).length := by
      rw [List.length_filter_lt_length_iff_exists]
      refine ⟨i, ?_, by simp⟩
      rw [List.mem_filter, List.mem_range]
      exact ⟨hlt, by simpa using hL⟩
    omega
/-! ### a region out of which it panics -/
def clearT (tm : H Value) : List DRec → H Value
  | [] => tm
  | r :: rs => clearT (match r.dst with
    | some d => tm.set d none
    | none => tm) rs
theorem clearT_get : ∀ (rs : List DRec) (tm : H Value) (t : Tmp) (v : Value), (clearT tm rs).get t = some v → tm.get t = some v ∧ ∀ (j : Nat) (r : DRec), rs[j]? = some r → r.dst ≠ some t
  | [], tm, t, v, h => ⟨h, fun j r hj => by simp at hj⟩
  | r :: rs, tm, t, v, h => by
    rw [clearT] at h
    obtain ⟨h1, h2⟩ := clearT_get rs _ t v h
    have key : tm.get t = some v ∧ r.dst ≠ some t := by
      cases hd : r.dst with
      | none => rw [hd] at h1; exact ⟨h1, by simp⟩
      | some d =>
        rw [hd] at h1
        simp only at h1
        rw [H.get_set] at h1
        split at h1
        · cases h1
        · rename_i hne; exact ⟨h1, fun q => hne (Option.some.inj q).symm⟩
    refine ⟨key.1, fun j r' hj => ?_⟩
    cases j with
    | zero => simp at hj; subst hj; exact key.2
    | succ j => exact h2 j r' hj
theorem dpan_fact {dsts : List (Option Tmp)} {o : Oper} {tm : H Value} {cur : H Ent} {next : Nat} {done : List DRec} {m : Nat} {v : Value} {h2 : H Ent} {n2 : Nat} (h : dpan P cl G call ops dsts o tm cur next done = some (m, v, h2, n2)) :
    ancM done o.after.toList = some m ∧ (∀ t, t ∈ o.looksAt ops → lookOk m t dsts 0 = true) ∧ (∀ j, j < done.length → has m j = true) ∧ wantedA ops (partT tm (o.looksAt ops) .nil) o = true ∧
      ∃ s, aop P cl G (partT tm (o.looksAt ops) .nil) o = some s ∧ ∃ x upd new, s.run (s.ids.map (addL cur (newsL (fun _ => true) done 0)).get) next = some (x, upd, new) ∧
        after call x (applyH (addL cur (newsL (fun _ => true) done 0)) next upd new) (next + 1) = some (.panic v, h2, n2) := by
  unfold dpan at h
  split at h
  · cases h
  · rename_i m' hm
    simp only [cond_eq_ite] at h
    split at h
    · rename_i hc
      rw [Bool.and_eq_true, Bool.and_eq_true, List.all_eq_true, List.all_eq_true] at hc
      split at h
      · cases h
      · rename_i s hs
        split at h
        · cases h
        · rename_i x upd new hrun
          split at h
          · rename_i v' h2' n2' haft
            cases h
            exact ⟨hm, hc.1, fun j hj => hc.2.1 j (List.mem_range.2 hj), hc.2.2, s, hs, x, upd, new, hrun, haft⟩
          · cases h
    · cases h
theorem p_step (F : Fns P cl) (D : DD P cl G call ops fr h0 n0 recs) (C : CallOk P G call) {L : Nat → Bool} {q : Nat} {a : Act} (I : Inv1 P G w0 fr h0 n0 recs L μ μ' q a w) {o : Oper} (ho : ops[recs.length]? = some o) (hL : ∀ j, j < recs.length → L j = true)
    {m : Nat} {v : Value} {h2 : H Ent} {n2 : Nat} (hp : dpan P cl G call ops (ops.toList.map (·.dst)) o (tmL fr.tm recs) (curAt h0 recs recs.length) (nextAt n0 recs recs.length) recs = some (m, v, h2, n2))
    (hf : Fresh μ' (nextAt n0 recs recs.length) n2) {K : Act → World → Prop} {Q : Exit → Act → World → Prop}
    (hQ : ∀ μ1 w1 v', Ext μ' μ1 (nextAt n0 recs recs.length) n2 → VRel μ1 v v' → Rel P G w0 μ1 h2 w1 → Q (.panic [{ v := v', recovered := false }]) a w1) : wpOp P ops Q recs.length K a w := by
  obtain ⟨p1, p2, p3, p4, s, hs, x, upd, new, hrun, haft⟩ := dpan_fact hp
  have dstOf : ∀ (j : Nat) (s : DRec) (t : Tmp), recs[j]? = some s → s.dst = some t → (ops.toList.map (·.dst))[j]? = some (some t) := fun j s t hj hd => by
    obtain ⟨oj, hoj, fj⟩ := D.op hj
    rw [List.getElem?_map, Array.getElem?_toList, hoj, Option.map_some, ← fj.dst, hd]
  have hT : TRel μ' (partT (tmL fr.tm recs) (o.looksAt ops) .nil) (actPart a (o.looksAt ops)) := actPart_rel fun t ht => by
    rcases tmL_get recs fr.tm t with ⟨j, s, h1, h2, h3⟩ | ⟨h1, h2⟩
    · rw [h3]
      exact I.t1 j s h1 (hL j (List.getElem?_eq_some_iff.1 h1).1) t h2
    · rw [h2]
      exact I.t2 t fun j s hj _ => h1 j s hj
  have hwant : Region.wanted o (yielded ops a.tmps) = true := by
    rw [← actPart_wanted a o, wantedA_eq hT, p4]
  have hcur : curAt h0 recs q = curAt h0 recs recs.length := by
    rcases D.first q recs.length I.qn (Nat.le_refl _) with e | ⟨j, y, b1, b2, b3, b4, b5⟩
    · exact e
    · have := (I.big j y b3 b4).1 (hL j b2); omega
  have R : Rel P G w0 μ' (addL (curAt h0 recs recs.length) (newsL (fun _ => true) recs 0)) w := I.rel.congr fun id x hx => by
    rw [addL_get] at hx ⊢
    rw [hcur]
    split at hx
    · exact hx
    · obtain ⟨k, y, b1, b2, b3, _⟩ := newsL_some hx
      exact D.lookAll C b1 b2 b3 (hL k (List.getElem?_eq_some_iff.1 b1).1)
  unfold wpOp
  rw [ho]
  simp only
  rw [hwant]
  simp only [if_true]
  refine .inl (op_wp C (aop_right F o) hs hrun haft R hT (actPart_exec (ops := ops) a o (aop_select hs)) hf ?_ ?_)
  · intro u hu; cases hu
  · intro u hu μ1 w1 v' E hv R1
    cases hu
    exact hQ μ1 w1 v' E hv R1
theorem d_anyP (F : Fns P cl) (D : DD P cl G call ops fr h0 n0 recs) (C : CallOk P G call) {Q : Exit → Act → World → Prop} (hb : recs.length < ops.size)
    (hedge : ∀ e, e ∈ ops[recs.length].after.toList → Region.binds .any e = true → e.on < recs.length)
    (hlater : ∀ (i : Nat) (o : Oper), recs.length < i → ops[i]? = some o → ∃ e, e ∈ o.after.toList ∧ Region.binds .any e = true ∧ recs.length ≤ e.on)
    (hPall : ∀ (listed : Array Bool) (μ' : Mu) (q : Nat) (a : Act) (w : World), Inv1 P G w0 fr h0 n0 recs (fun j => listed.getD j false) μ μ' q a w → ∀ o, ops[recs.length]? = some o → (∀ e, e ∈ o.after.toList → Region.binds .any e = true → listed.getD e.on false = true) → ∀ j, j < recs.length → listed.getD j false = true)
    (hP : ∀ L μ' q a w, (∀ j, j < recs.length → L j = true) → Inv1 P G w0 fr h0 n0 recs L μ μ' q a w → ∀ K, wpOp P ops Q recs.length K a w) :
    ∀ (fuel : Nat) (listed : Array Bool) (a : Act) (w : World), listed.size = ops.size → ((List.range ops.size).filter fun j => !listed.getD j false).length ≤ fuel → (∀ j, recs.length ≤ j → listed.getD j false = false) →
      (∃ μ' q, Inv1 P G w0 fr h0 n0 recs (fun j => listed.getD j false) μ μ' q a w) → wpAny P .any ops Q fuel listed a w := by
  have nonempty : ∀ listed : Array Bool, listed.size = ops.size → (∀ j, recs.length ≤ j → listed.getD j false = false) → Region.ready .any ops listed = [] → False := fun listed hs hl hr => by
    have hall := ready_all D listed hs hr
    have hm : recs.length ∈ Region.ready .any ops listed := by
      rw [mem_ready]
      refine ⟨?_, _, Array.getElem?_eq_getElem hb, fun e he hbd => hall _ (hedge e (by simpa using he) hbd)⟩
      have := hl recs.length (Nat.le_refl _)
      rw [Array.getD_eq_getD_getElem?] at this ⊢
      rw [Array.getElem?_eq_getElem (by rw [hs]; exact hb)] at this ⊢
      exact this
    rw [hr] at hm
    cases hm
  intro fuel
  induction fuel with
  | zero =>
    intro listed a w hs hf hl _
    exfalso
    have hnil := List.eq_nil_of_length_eq_zero (Nat.le_zero.1 hf)
    have : recs.length ∈ (List.range ops.size).filter fun j => !listed.getD j false := by
      rw [List.mem_filter, List.mem_range]
      exact ⟨hb, by rw [hl _ (Nat.le_refl _)]; rfl⟩
    rw [hnil] at this
    cases this
  | succ fuel ih =>
    intro listed a w hs hf hl ⟨μ', q, I⟩
    refine ⟨fun hr => (nonempty listed hs hl hr).elim, fun i hi => ?_⟩
    obtain ⟨h1, o, ho, hall⟩ := mem_ready.1 hi
    have hlt := (Array.getElem?_eq_some_iff.1 ho).1
    have hL : listed.getD i false = false := by
      rw [Array.getD_eq_getD_getElem?] at h1 ⊢
      rw [Array.getElem?_eq_getElem (by rw [hs]; exact hlt)] at h1 ⊢
      exact h1
    rcases Nat.lt_trichotomy i recs.length with hib | hib | hib
    · refine wpOp_mono (fun a1 w1 hh => ?_) (d_step F D C I hib ho hL (fun e he hb => hall e (by simpa using he) hb))
      obtain ⟨μ1, q1, I1⟩ := hh
      refine ih _ a1 w1 (by simpa using hs) ?_ (fun j hj => ?_) ⟨μ1, q1, by rw [set_is listed (by rw [hs]; exact hlt)]; exact I1⟩
      · have hset := set_is listed (i := i) (by rw [hs]; exact hlt)
        have e : ((List.range ops.size).filter fun j => !(listed.setIfInBounds i true).getD j false) = ((List.range ops.size).filter fun j => !listed.getD j false).filter fun j => decide (j ≠ i) := by
          rw [List.filter_filter]
          refine List.filter_congr fun j _ => ?_
          rw [show (listed.setIfInBounds i true).getD j false = upd1 (fun j => listed.getD j false) i j from congrFun hset j]
          unfold upd1
          by_cases e : j = i <;> simp [e]
        rw [e]
        have : (((List.range ops.size).filter fun j => !listed.getD j false).filter fun j => decide (j ≠ i)).length < ((List.range ops.size).filter fun j => !listed.getD j false).length := by
          rw [List.length_filter_lt_length_iff_exists]
          refine ⟨i, ?_, by simp⟩
          rw [List.mem_filter, List.mem_range]
          exact ⟨hlt, by simpa using hL⟩
        omega
      · rw [show (listed.setIfInBounds i true).getD j false = upd1 (fun j => listed.getD j false) i j from congrFun (set_is listed (i := i) (by rw [hs]; exact hlt)) j]
        unfold upd1
        rw [if_neg (by omega)]
        exact hl j hj
    · subst hib
      refine hP _ μ' q a w (fun j hj => ?_) I _
      -- all ahead of it are listed: its edges say so by way of 'has'
      exact hPall listed μ' q a w I o ho (fun e he hb => hall e (by simpa using he) hb) j hj
    · exfalso
      obtain ⟨e, e1, e2, e3⟩ := hlater i o hib ho
      have := hall e (by simpa using e1) e2
      rw [hl _ e3] at this
      cases this
def adraw (P : Program) (cl : FuncId) (G : Nat) : DrawF := fun call ops fr h next =>
  bif dstsOk fr.n (ops.toList.map (·.dst)) then
    match dgo P cl G call ops (ops.toList.map (·.dst)) ops.toList fr.tm h next [] with
    | some (recs, tm, cur, next') => bif chk h recs then some (.normal, { fr with tm := tm }, addL cur (newsL (fun _ => true) recs 0), next') else none
    | none => match dgoP P cl G call ops (ops.toList.map (·.dst)) ops.toList fr.tm h next [] with
      | some (recs, _, v, h2, next2) => bif chk h recs then some (.panic v, { fr with tm := clearT fr.tm recs }, h2, next2) else none
      | none => none
  else none
theorem inv0 (D : DD P cl G call ops fr h0 n0 recs) (C : CallOk P G call) {a : Act} (R : Rel P G w0 μ h0 w) (A : FRel μ fr a) (hf : Fresh μ n0 (nextAt n0 recs recs.length)) :
    Inv1 P G w0 fr h0 n0 recs (fun j => (Array.replicate ops.size false).getD j false) μ μ 0 a w.drew := by
  have e0 : nextAt n0 recs 0 = n0 := by cases recs <;> rfl
  have c0 : curAt h0 recs 0 = h0 := by cases recs <;> rfl
  have hL0 : ∀ j, (Array.replicate ops.size false).getD j false = false := fun j => by
    rw [Array.getD_eq_getD_getElem?, Array.getElem?_replicate]
    split <;> rfl
  refine ⟨Ext.refl _ _ _, Nat.zero_le _, fun j r hj hb => ?_, fun j r hj hl => ?_, fun j r hj _ id b1 b2 => ?_, ?_, A.n, A.d, fun j r hj hl => ?_, fun t _ => A.t t⟩
  · rw [hL0]; simp
  · rw [hL0] at hl; cases hl
  · have hlt := (List.getElem?_eq_some_iff.1 hj).1
    obtain ⟨l1, l2, _⟩ := D.le C hj
    have m1 := D.mono C 0 j (Nat.zero_le _) (by omega)
    have m2 := D.mono C (j + 1) recs.length hlt (Nat.le_refl _)
    rw [nextAt_succ hj] at m2
    exact hf id (by omega) (by omega)
  · refine Rel.congr (R.drew) fun id x hx => ?_
    rw [addL_get, c0] at hx
    split at hx
    · rename_i y hy; rw [← hx]; exact hy
    · obtain ⟨k, y, _, _, _, b4⟩ := newsL_some hx
      rw [Nat.zero_add, hL0] at b4; cases b4
  · rw [hL0] at hl; cases hl
theorem draw_ok (F : Fns P cl) (hm : P.follows .mixedOrders = true) : DrawOk P G (adraw P cl G) := by
  intro call C ops fr h next o fr' h' next' hr
  unfold adraw at hr
  simp only [cond_eq_ite] at hr
  split at hr
  · rename_i hdok
    split at hr
    · rename_i recs tm cur nx hgo
      split at hr
      · rename_i hchk
        simp only [Option.some.injEq, Prod.mk.injEq] at hr
        obtain ⟨rfl, rfl, rfl, rfl⟩ := hr
        obtain ⟨rs, h1, h2, h3, h4, h5, h6⟩ := dgo_spec _ _ _ _ _ _ _ _ _ hgo
        rw [List.nil_append] at h1
        subst h1
        have D : DD P cl G call ops fr h next recs := ⟨by rw [h2, Array.length_toList]; exact Nat.le_refl _, hdok, fun i x _ hx => by
          obtain ⟨r, a1, a2⟩ := h6 i x (by rw [Array.getElem?_toList]; exact hx)
          rw [List.nil_append] at a2
          exact ⟨r, a1, drec_fact a2⟩, hchk⟩
        have e0 : nextAt next recs 0 = next := by cases recs <;> rfl
        have c0 : curAt h recs 0 = h := by cases recs <;> rfl
        have hle : next ≤ nextAt next recs recs.length := by
          have := D.mono C 0 recs.length (Nat.zero_le _) (Nat.le_refl _)
          omega
        subst h3 h4 h5
        refine ⟨hle, fun w0 μ w a R A hf id => wp_region_any hm ?_⟩
        refine d_any (w0 := w0) (μ := μ) F D (by rw [h2, Array.length_toList]) C ?_ ops.size _ a _ (by simp) ?_ ⟨μ, 0, ?_⟩
        · intro L μ' q a1 w1 hL I
          have hcur : curAt h recs q = curAt h recs recs.length := by
            rcases D.first q recs.length I.qn (Nat.le_refl _) with e | ⟨j, y, b1, b2, b3, b4, b5⟩
            · exact e
            · have := (I.big j y b3 b4).1 (hL j b2); omega
          refine ⟨μ', I.ext, I.rel.congr fun id x hx => ?_, ?_, I.n, I.d⟩
          · rw [addL_get] at hx ⊢
            rw [hcur]
            split at hx
            · exact hx
            · obtain ⟨k, y, b1, b2, b3, _⟩ := newsL_some hx
              exact D.lookAll C b1 b2 b3 (hL k (List.getElem?_eq_some_iff.1 b1).1)
          · intro t
            rcases tmL_get recs fr.tm t with ⟨j, y, b1, b2, b3⟩ | ⟨b1, b2⟩
            · rw [b3]
              exact I.t1 j y b1 (hL j (List.getElem?_eq_some_iff.1 b1).1) t b2
            · rw [b2]
              exact I.t2 t fun j y hj _ => b1 j y hj
        · exact Nat.le_trans (List.length_filter_le _ _) (by simp)
        · exact inv0 D C R A hf
      · cases hr
    · split at hr
      · rename_i recs m v h2 next2 hgo
        split at hr
        · rename_i hchk
          simp only [Option.some.injEq, Prod.mk.injEq] at hr
          obtain ⟨rfl, rfl, rfl, rfl⟩ := hr
          obtain ⟨rs, h1, hlen, h6, ⟨ob, hob, hpan⟩, hlat⟩ := dgoP_spec _ _ _ _ _ _ _ hgo
          rw [List.nil_append] at h1
          subst h1
          replace hlen : recs.length < ops.size := by rw [← Array.length_toList (xs := ops)]; exact hlen
          have D : DD P cl G call ops fr h next recs := ⟨Nat.le_of_lt hlen, hdok, fun i x hi hx => by
            obtain ⟨r, a1, a2⟩ := h6 i x hi (by rw [Array.getElem?_toList]; exact hx)
            rw [List.nil_append] at a2
            exact ⟨r, a1, drec_fact a2⟩, hchk⟩
          rw [Array.getElem?_toList] at hob
          obtain ⟨p1, _, p3, _, s, _, x, upd, new, _, haft⟩ := dpan_fact hpan
          have hle2 := after_le C haft
          have hle : next ≤ nextAt next recs recs.length := by
            have e0 : nextAt next recs 0 = next := by cases recs <;> rfl
            have := D.mono C 0 recs.length (Nat.zero_le _) (Nat.le_refl _)
            omega
          have hobe : ops[recs.length] = ob := by
            have hx := hob
            rw [Array.getElem?_eq_getElem (xs := ops) hlen] at hx
            exact Option.some.inj hx
          refine ⟨by omega, fun w0 μ w a R A hf id => wp_region_any hm ?_⟩
          refine d_anyP (w0 := w0) (μ := μ) F D C hlen (fun e he hb => ?_) (fun i o hi ho => ?_) (fun listed μ' q a1 w1 I o ho he j hj => ?_) (fun L μ' q a1 w1 hL I K => ?_) ops.size _ a _ (by simp) ?_ (fun j _ => ?_) ⟨μ, 0, inv0 D C R A (hf.sub (Nat.le_refl _) (by omega))⟩
          · rw [hobe] at he
            obtain ⟨r, h1, _⟩ := (ancM_spec p1).1 e he hb
            exact (List.getElem?_eq_some_iff.1 h1).1
          · unfold laterOk at hlat
            rw [List.all_eq_true] at hlat
            have hmem : o ∈ ops.toList.drop (recs.length + 1) := by
              refine List.mem_of_getElem? (i := i - (recs.length + 1)) ?_
              rw [List.getElem?_drop, Array.getElem?_toList, show recs.length + 1 + (i - (recs.length + 1)) = i by omega]
              exact ho
            obtain ⟨e, e1, e2⟩ := List.any_eq_true.1 (hlat o hmem)
            rw [Bool.and_eq_true, Nat.ble_eq] at e2
            exact ⟨e, e1, e2⟩
          · have eo : o = ob := by rw [hob] at ho; exact (Option.some.inj ho).symm
            subst eo
            obtain ⟨e, e1, e2, r', e3, e4⟩ := (ancM_spec p1).2 j (p3 j hj)
            rcases e4 with rfl | e4
            · exact he e e1 e2
            · exact I.down _ r' e3 (he e e1 e2) j e4
          · refine p_step F D C I hob hL hpan (fun j x1 x2 => (I.ext.out j (.inr x1)).trans (hf j (by omega) x2)) fun μ1 w2 v' E hv R2 => ?_
            refine ⟨μ1, I.ext.trans E hle (by omega), R2, ⟨v', hv, rfl⟩, ⟨fun t u hu => ?_, I.d.mono E.le⟩⟩
            obtain ⟨c1, c2⟩ := clearT_get _ _ _ _ hu
            have := I.t2 t fun j r hj _ => c2 j r hj
            rw [c1] at this
            exact this.mono E.le
          · exact Nat.le_trans (List.length_filter_le _ _) (by simp)
          · rw [Array.getD_eq_getD_getElem?, Array.getElem?_replicate]
            split <;> rfl
        · cases hr
      · cases hr
  · cases hr
/-- The machine. -/
def run (P : Program) (cl : FuncId) (G lf : Nat) (t : CallF) (k : Nat) : CallF := acall P cl G (adraw P cl G) lf t k
theorem run_ok (F : Fns P cl) (hm : P.follows .mixedOrders = true) (lf : Nat) {t : CallF} (T : CallOk P G t) (k : Nat) : CallOk P G (run P cl G lf t k) := acall_ok F (draw_ok F hm) lf T k
end
end
end Go.Proofs.YtefhaojjohddaaaGreatDoor.AM
