/- The abstract machine, part E: loads, stores, slices, lengths. -/
import Derived.Test.YtefhaojjohddaaaGreatDoorAmD
namespace Go.Proofs.YtefhaojjohddaaaGreatDoor.AM
open Go Go.RowKit
noncomputable section
section
variable {P : Program} {G : Nat} {w0 : Base} {w : World} {μ : Mu} {h : H Ent} {tm : H Value} {a : Act}

/-- The machine's cells are the first of the world's. -/
def PW (μ : Mu) (c c' : List Value) : Prop := ∀ (i : Nat) (v : Value), c[i]? = some v → ∃ v', c'[i]? = some v' ∧ VRel μ v v'
theorem PW.seg {c c' : List Value} (hp : PW μ c c') {o n : Nat} (hl : o + n ≤ c.length) (hc : c.length ≤ c'.length) : LRel μ ((c.drop o).take n) ((c'.drop o).take n) := by
  refine ⟨by simp; omega, fun i v v' x y => ?_⟩
  rw [List.getElem?_take] at x y
  split at x
  · rename_i hi
    rw [if_pos hi, List.getElem?_drop] at y
    rw [List.getElem?_drop] at x
    obtain ⟨u, h1, h2⟩ := hp _ _ x
    rw [h1] at y; cases y
    exact h2
  · cases x
theorem PW.store {c c' vs vs' : List Value} (hp : PW μ c c') (hv : LRel μ vs vs') {o : Nat} (hl : o + vs.length ≤ c.length) (hc : c.length ≤ c'.length) :
    PW μ (c.take o ++ vs ++ c.drop (o + vs.length)) (c'.take o ++ vs' ++ c'.drop (o + vs.length)) := by
  have hvl := hv.1
  intro i v x
  rw [List.append_assoc] at x ⊢
  by_cases h1 : i < o
  · rw [List.getElem?_append_left (by simp; omega), List.getElem?_take, if_pos h1] at x
    obtain ⟨u, a, b⟩ := hp _ _ x
    refine ⟨u, ?_, b⟩
    rw [List.getElem?_append_left (by simp; omega), List.getElem?_take, if_pos h1]
    exact a
  · rw [List.getElem?_append_right (by simp; omega)] at x
    have e1 : i - (c.take o).length = i - o := by simp; omega
    have e2 : i - (c'.take o).length = i - o := by simp; omega
    rw [e1] at x
    rw [List.getElem?_append_right (by simp; omega), e2]
    by_cases h2 : i - o < vs.length
    · rw [List.getElem?_append_left h2] at x
      obtain ⟨u, a, b⟩ := hv.get x
      exact ⟨u, by rw [List.getElem?_append_left (by omega)]; exact a, b⟩
    · rw [List.getElem?_append_right (by omega), List.getElem?_drop] at x
      obtain ⟨u, a, b⟩ := hp _ _ x
      refine ⟨u, ?_, b⟩
      rw [List.getElem?_append_right (by omega), List.getElem?_drop, ← hvl]
      exact a
theorem but_setCells {b : Nat} {e : TypeId} {fr : Nat × Nat} : ∀ (vs : List Value) (o : Nat) (w : World) (c : Array Value), w.heap[b]? = some (.cells c e fr) → o + vs.length ≤ c.size →
    ∃ c1 : Array Value, But w (w.setCells b o vs) b (.cells c1 e fr) ∧ c1.toList = c.toList.take o ++ vs ++ c.toList.drop (o + vs.length)
  | [], o, w, c, hb, _ => ⟨c, ⟨rfl, rfl, rfl, rfl, hb, fun _ _ => rfl⟩, by simp⟩
  | v :: vs, o, w, c, hb, hl => by
    have hs : (w.setCell ⟨b, o, none⟩ v).heap[b]? = some (.cells (c.setIfInBounds o v) e fr) := by
      simp [World.setCell, Array.getElem?_modify, hb]
    obtain ⟨c1, B, e1⟩ := but_setCells vs (o + 1) (w.setCell ⟨b, o, none⟩ v) (c.setIfInBounds o v) hs (by simp at hl ⊢; omega)
    refine ⟨c1, ⟨B.os, B.tape, B.output, by rw [show w.setCells b o (v :: vs) = (w.setCell ⟨b, o, none⟩ v).setCells b (o + 1) vs from rfl, B.size]; simp, B.at_, fun k hk => by
      rw [show w.setCells b o (v :: vs) = (w.setCell ⟨b, o, none⟩ v).setCells b (o + 1) vs from rfl, B.other k hk]
      exact Below.heap_setCell w ⟨b, o, none⟩ v k hk⟩, ?_⟩
    rw [e1, Array.toList_setIfInBounds]
    simp only [List.length_cons] at hl ⊢
    have ho : o < c.toList.length := by simp; omega
    rw [show o + (vs.length + 1) = o + 1 + vs.length by omega]
    rw [List.drop_set_of_lt (by omega)]
    congr 1
    rw [List.take_set, List.take_succ_eq_append_getElem ho, List.set_append]
    have hm : min o c.size = o := by simp at ho; omega
    simp only [List.length_take, Array.length_toList, hm, if_neg (Nat.lt_irrefl o), Nat.sub_self, List.set_cons_zero]
    simp
def loadA (P : Program) (t : TypeId) (c : List Value) (o : Nat) : Option Value := match P.underlying t with
  | none => none
  | some d => if d.isRow then match P.info? t with
      | some i => if o + i.size ≤ c.length then some (.agg ((c.drop o).take i.size).toArray) else none
      | none => none
    else c[o]?
theorem load_run {t : TypeId} {c : List Value} {c' : Array Value} {o b : Nat} {v : Value} {e : TypeId} {fr : Nat × Nat} (hl : loadA P t c o = some v) (hb : w.heap[b]? = some (.cells c' e fr)) (hc : c.length ≤ c'.size) (hp : PW μ c c'.toList) :
    ∃ v', VRel μ v v' ∧ (Instr.loadAt t (.pointer (some ⟨b, o, none⟩))).run P w = .ok v' w := by
  unfold loadA at hl
  split at hl
  · cases hl
  · rename_i d hd
    split at hl
    · rename_i hr
      split at hl
      · rename_i i hi
        split at hl
        · rename_i hle
          cases hl
          have hs := hp.seg hle (by simpa using hc)
          refine ⟨.agg ((c'.toList.drop o).take i.size).toArray, VRel.of_list (by simpa using hs), ?_⟩
          have hlen : ((c'.toList.drop o).take i.size).length = i.size := by simp; omega
          refine run_loadAt_mid w b o t _ d (fun j v hj => ?_) hd hr (by rw [hi, hlen]; rfl)
          rw [cell_of_row w b (o + j) c' e fr hb]
          rw [List.getElem?_take] at hj
          split at hj
          · rw [List.getElem?_drop] at hj; simpa using hj
          · cases hj
        · cases hl
      · cases hl
    · rename_i hr
      obtain ⟨v', h1, h2⟩ := hp _ _ hl
      refine ⟨v', h2, ?_⟩
      have hagg : (isAgg t).run P w = .ok false w := by
        unfold isAgg
        rw [Sem.run_bind, run_underlying hd w]
        cases d <;> first | rfl | (simp at hr)
      have hcell : w.cell? ⟨b, o, none⟩ = some v' := by rw [cell_of_row w b o c' e fr hb]; simpa using h1
      simp [Instr.loadAt, Instr.sureAddr, loadVar, hagg, run_load, hcell]
def oLoad (P : Program) (G : Nat) (tm : H Value) (t : TypeId) (x : Operand) : Option Step := match evalA G tm x with
  | some (.pointer (some ⟨b, o, none⟩)) => some ⟨[b], fun es _ => match es with
      | [some (.cells _ _ c _)] => match loadA P t c o with
        | some v => some (.val v, none, none)
        | none => none
      | _ => none⟩
  | _ => none
theorem right_load {o : Oper} {t : TypeId} {x : Operand} (ho : o.op = .load t x) : Right P G w0 o tm (oLoad P G tm t x) := by
  unfold oLoad
  split
  · rename_i b off hx
    intro s hs μ h w a next r upd new R T hr hn
    cases hs
    simp only [List.map_cons, List.map_nil] at hr
    split at hr
    · rename_i wr g c e he
      simp only [List.cons.injEq, and_true] at he
      split at hr
      · rename_i v hv
        simp only [Option.some.injEq, Prod.mk.injEq] at hr
        obtain ⟨rfl, rfl, rfl⟩ := hr
        obtain ⟨m, c', fr, ee, hm, hh, hty, _, _, _, _, _, hle, hp⟩ := R.row he
        have rx := evalA_rel R T hx
        generalize hx' : a.eval x = x' at rx
        cases rx
        rename_i m' hm'
        rw [hm] at hm'; cases hm'
        obtain ⟨v', h1, h2⟩ := load_run hv hh hle (fun i v hv => by obtain ⟨u, p, q⟩ := hp i v hv; exact ⟨u, by simpa using p, q⟩)
        refine good_val R h1 ?_
        simp only [execOp, ho, hx']
        exact run_v h2
      · cases hr
    · cases hr
  · exact right_none
def oStore (P : Program) (G : Nat) (tm : H Value) (t : TypeId) (x y : Operand) : Option Step := match evalA G tm x, evalA G tm y, P.info? t with
  | some (.pointer (some ⟨b, o, none⟩)), some v, some i => some ⟨[b], fun es _ => match es with
      | [some (.cells true g c e)] => if v.cells.toList.length = i.size ∧ o + i.size ≤ c.length ∧ v.cells.toList.all Value.oneCell' = true then some (.skip, some (b, some (.cells true g (c.take o ++ v.cells.toList ++ c.drop (o + i.size)) e)), none) else none
      | _ => none⟩
  | _, _, _ => none
theorem all_one {l l' : List Value} (hl : LRel μ l l') (h1 : l.all Value.oneCell' = true) : ∀ v ∈ l', v.oneCell' = true := fun v hv => by
  obtain ⟨i, hi⟩ := List.getElem?_of_mem hv
  have : i < l.length := by rw [hl.1]; exact (List.getElem?_eq_some_iff.1 hi).1
  have r := hl.2 i l[i] v (List.getElem?_eq_getElem this) hi
  rw [← oneRel r]
  exact List.all_eq_true.1 h1 _ (List.getElem_mem this)
/-- Cells that lie in the middle of a row are written. -/
theorem wrote {b : Nat} {m : MuE} {g : Bool} {c : List Value} {e : TypeId} {vs vs' : List Value} {o : Nat} (R : Rel P G w0 μ h w) (hb : h.get b = some (.cells true g c e)) (hm : μ b = some m) (hv : LRel μ vs vs') (hl : o + vs.length ≤ c.length) :
    Rel P G w0 μ (h.set b (some (.cells true g (c.take o ++ vs ++ c.drop (o + vs.length)) e))) (w.setCells m.b o vs') ∧
    (∀ j, j < vs'.length → (w.cell? ⟨m.b, o + 0 + j, none⟩).isSome = true) ∧ (∀ j, j < vs'.length → w.frozen? ⟨m.b, o + 0 + j, none⟩ = false) := by
  obtain ⟨m', c', fr, ee, hm', hh, hty, hg, hex, hgr, hfr, hB, hle, hp⟩ := R.row hb
  rw [hm] at hm'; cases hm'
  have hf : fr = (0, 0) := hfr rfl
  subst hf
  have hte := (hty rfl).symm
  subst hte
  obtain ⟨c1, B, e1⟩ := but_setCells vs' o w c' hh (by rw [← hv.1]; omega)
  have hp' : PW μ c c'.toList := fun i v hv => by obtain ⟨u, p, q⟩ := hp i v hv; exact ⟨u, by simpa using p, q⟩
  have hcs : c1.size = c'.size := by
    have : c1.toList.length = c'.size := by rw [e1]; simp; have := hv.1; omega
    simpa using this
  have hcl : (c.take o ++ vs ++ c.drop (o + vs.length)).length = c.length := by simp; omega
  have st := hp'.store hv hl (by simpa using hle)
  rw [hv.1, ← e1] at st
  refine ⟨R.upd hb rfl hm B ⟨fun _ => rfl, hg, fun q => by rw [hcs, hcl]; exact hex q, fun q => by rw [hcs]; exact hgr q, fun _ => rfl, by rw [hcs, hcl]; exact hle, fun i v hi => ?_⟩, fun j hj => ?_, fun j hj => ?_⟩
  · rw [hv.1] at hi
    obtain ⟨u, p, q⟩ := st i v hi
    exact ⟨u, by simpa using p, q⟩
  · rw [cell_of_row w m.b _ c' e _ hh]
    have : o + 0 + j < c'.size := by have := hv.1; omega
    simp only [Nat.add_zero] at this
    simp [this]
  · simp [World.frozen?, hh]
theorem right_store {o : Oper} {t : TypeId} {x y : Operand} (ho : o.op = .store t x y) : Right P G w0 o tm (oStore P G tm t x y) := by
  unfold oStore
  split
  · rename_i b off v i hx hy hi
    intro s hs μ h w a next r upd new R T hr hn
    cases hs
    simp only [List.map_cons, List.map_nil] at hr
    split at hr
    · rename_i g c e he
      simp only [List.cons.injEq, and_true] at he
      split at hr
      · rename_i hc
        obtain ⟨h1, h2, h3⟩ := hc
        simp only [Option.some.injEq, Prod.mk.injEq] at hr
        obtain ⟨rfl, rfl, rfl⟩ := hr
        have rx := evalA_rel R T hx
        have ry := (evalA_rel R T hy).cells
        generalize hx' : a.eval x = x' at rx
        cases rx
        rename_i m hm
        obtain ⟨R1, hcell, hfroz⟩ := wrote R he hm ry (by rw [h1]; exact h2)
        rw [h1] at R1
        refine ⟨μ, _, Mu.le_refl μ, fun _ _ => rfl, fun _ => rfl, R1, ?_⟩
        have hst := run_storeCells_cells (P := P) m.b off (a.eval y).cells.toList 0 w hcell hfroz (all_one ry h3)
        have hsz : (a.eval y).cells.size = i.size := by have := ry.1; simp at this h1; omega
        show (execOp a.eval o).run P w = .ok .skip _
        simp only [execOp, ho, hx', Sem.run_bind]
        have : (Instr.storeAt t (.pointer (some ⟨m.b, off, none⟩)) (a.eval y)).run P w = .ok () (w.setCells m.b off (a.eval y).cells.toList) := by
          simp only [Nat.add_zero] at hst
          simp [Instr.storeAt, Instr.sureAddr, storeVar, sizeOf, typeInfo, hi, hsz, hst]
        rw [this]
        rfl
      · cases hr
    · cases hr
  · exact right_none
def oMakeSlice (P : Program) (G : Nat) (tm : H Value) (t : TypeId) (x y : Operand) : Option Step := match evalA G tm x, evalA G tm y, P.underlying t with
  | some (.int _ l), some (.int _ c), some (.slice e) => match P.info? e with
    | some i => match i.zero with
      | some z => if closed z && decide (0 ≤ l) && decide (l ≤ c) && decide (c ≤ 1048576) && decide (i.bytes ≤ 1048576) then
          mkStep ((Array.range (c.toNat * i.size)).map (z.cells[· % z.cells.size]!)).toList e (fun n => .slice (some ⟨n, 0, none⟩) l.toNat c.toNat) else none
      | none => none
    | none => none
  | _, _, _ => none
theorem right_makeSlice {o : Oper} {t : TypeId} {x y : Operand} (ho : o.op = .makeSlice t x y) : Right P G w0 o tm (oMakeSlice P G tm t x y) := by
  unfold oMakeSlice
  split
  · rename_i k l k' c e hx hy hd
    split
    · rename_i i hi
      split
      · rename_i z hz
        split
        · rename_i hc
          simp only [Bool.and_eq_true, decide_eq_true_iff] at hc
          obtain ⟨⟨⟨⟨h1, h2⟩, h3⟩, h4⟩, h5⟩ := hc
          refine right_mk fun μ h w a next R T hn => ⟨_, made_rel h1 _, _, newSlice μ next _ _ _, ?_⟩
          have rx := evalA_rel R T hx
          have ry := evalA_rel R T hy
          generalize hx' : a.eval x = x' at rx
          generalize hy' : a.eval y = y' at ry
          cases rx
          cases ry
          simp only [execOp, ho, hx', hy']
          refine run_v (run_make w t e i z hd hi hz k k' l c h2 h3 ?_ (by omega))
          have : (i.bytes : Int) * c ≤ 1048576 * 1048576 := Int.mul_le_mul (by omega) h4 (by omega) (by omega)
          omega
        · exact right_none
      · exact right_none
    · exact right_none
  · exact right_none
end
end
end Go.Proofs.YtefhaojjohddaaaGreatDoor.AM
