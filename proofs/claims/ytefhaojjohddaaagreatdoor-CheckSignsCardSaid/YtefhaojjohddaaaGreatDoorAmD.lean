/- The abstract machine, part D: operations on memory. -/
import Derived.Test.YtefhaojjohddaaaGreatDoorAmC
import Derived.Laws.MakeOwn
namespace Go.Proofs.YtefhaojjohddaaaGreatDoor.AM
open Go Go.RowKit
noncomputable section
section
variable {P : Program} {G : Nat} {w0 : Base} {w : World} {μ : Mu} {h : H Ent} {tm : H Value} {a : Act}

/-! ### new blocks of cells -/
theorem oneRel {v v' : Value} (r : VRel μ v v') : v.oneCell' = v'.oneCell' := by cases r <;> rfl
theorem pw_of (c c' : List Value) (h : LRel μ c c') : ∀ (i : Nat) (v : Value), c[i]? = some v → ∃ v', c'[i]? = some v' ∧ VRel μ v v' := fun _ _ hv => h.get hv
theorem ent_new {j : Nat} {g : Bool} {sz n wsz : Nat} {c : List Value} {c' : Array Value} {e : TypeId} (hm : LRel μ c c'.toList) (hj : μ j = none) (hg : g = false) :
    entRel P (μ.put j ⟨wsz, g, sz, n⟩) ⟨wsz, g, sz, n⟩ (.cells true g c e) (.cells c' e) := by
  have hl : c'.size = c.length := by have := hm.1; simp at this; exact this.symm
  refine ⟨fun _ => rfl, rfl, fun _ => hl, fun q => (by rw [hg] at q; cases q), fun _ => rfl, by omega, fun i v hv => ?_⟩
  obtain ⟨v', h1, h2⟩ := hm.get hv
  exact ⟨v', by simpa using h1, h2.mono (Mu.le_put hj)⟩
/-- A block of known size is made. -/
theorem good_new (R : Rel P G w0 μ h w) {o : Oper} {next : Nat} {c : List Value} {c' : Array Value} {e : TypeId} {v : Value} (hn : μ next = none) (hc : LRel μ c c'.toList)
    (hr : ∃ v', VRel (μ.put next ⟨w.heap.size, false, 0, 0⟩) v v' ∧ (execOp a.eval o).run P w = .ok (.value v') (w.alloc (.cells c' e))) : Good P G w0 o a μ h w next (.val v) none (some (.cells true false c e)) := by
  obtain ⟨v', h1, h2⟩ := hr
  exact ⟨_, _, Mu.le_put hn, fun k hk => Mu.put_other _ _ hk, fun q => (by cases q), R.new hn (ent_new hc hn rfl), v', h1, h2⟩
def mkStep (c : List Value) (e : TypeId) (v : Nat → Value) : Option Step := some ⟨[], fun _ next => some (.val (v next), none, some (.cells true false c e))⟩
theorem right_mk {o : Oper} {c : List Value} {e : TypeId} {v : Nat → Value}
    (hv : ∀ (μ : Mu) (h : H Ent) (w : World) (a : Act) (next : Nat), Rel P G w0 μ h w → TRel μ tm a → μ next = none → ∃ c' : Array Value, LRel μ c c'.toList ∧ ∃ v', VRel (μ.put next ⟨w.heap.size, false, 0, 0⟩) (v next) v' ∧ (execOp a.eval o).run P w = .ok (.value v') (w.alloc (.cells c' e))) : Right P G w0 o tm (mkStep c e v) := by
  intro s hs μ h w a next r upd new R T hr hn
  cases hs
  simp only [List.map_nil, Option.some.injEq, Prod.mk.injEq] at hr
  obtain ⟨rfl, rfl, rfl⟩ := hr
  obtain ⟨c', h1, h2⟩ := hv μ h w a next R T hn
  exact good_new R hn h1 h2
theorem newPtr (μ : Mu) (next b : Nat) : VRel (μ.put next ⟨b, false, 0, 0⟩) (.pointer (some ⟨next, 0, none⟩)) (.pointer (some ⟨b, 0, none⟩)) := .ptr 0 (Mu.put_same μ next ⟨b, false, 0, 0⟩)
theorem newSlice (μ : Mu) (next b n c : Nat) : VRel (μ.put next ⟨b, false, 0, 0⟩) (.slice (some ⟨next, 0, none⟩) n c) (.slice (some ⟨b, 0, none⟩) n c) :=
  .slice 0 n (Mu.put_same μ next ⟨b, false, 0, 0⟩) (Nat.le_refl _) (fun _ => rfl) (fun q => by cases q)
def oAlloc (P : Program) (t : TypeId) : Option Step := match (P.info? t).bind (·.zero) with
  | some z => if closed z then mkStep z.cells.toList t (fun n => .pointer (some ⟨n, 0, none⟩)) else none
  | none => none
theorem run_newVar (t : TypeId) (v : Value) (w : World) : (newVar t v).run P w = .ok ⟨w.heap.size, 0, none⟩ (w.alloc (.cells v.cells t)) := rfl
theorem right_alloc {o : Oper} {t : TypeId} (ho : o.op = .alloc t) : Right P G w0 o tm (oAlloc P t) := by
  unfold oAlloc
  split
  · rename_i z hz
    split
    · rename_i hc
      refine right_mk fun μ h w a next R T hn => ⟨z.cells, (closed_rel μ hc).cells, _, newPtr μ next _, ?_⟩
      simp only [execOp, ho]
      refine run_v ?_
      unfold Instr.alloc
      rw [Sem.run_bind, zeroValue_run hz, Result.andThen_ok]
      rfl
    · exact right_none
  · exact right_none
def oBox (G : Nat) (tm : H Value) (t : TypeId) (x : Operand) : Option Step := match evalA G tm x with
  | some v => mkStep v.cells.toList t (fun n => .pointer (some ⟨n, 0, none⟩))
  | none => none
theorem right_box {o : Oper} {t : TypeId} {x : Operand} (ho : o.op = .box t x) : Right P G w0 o tm (oBox G tm t x) := by
  unfold oBox
  split
  · rename_i v hx
    refine right_mk fun μ h w a next R T hn => ⟨(a.eval x).cells, (evalA_rel R T hx).cells, _, newPtr μ next _, ?_⟩
    simp only [execOp, ho]
    exact run_v rfl
  · exact right_none
/-! parts that are put in their places -/
def PRel (μ : Mu) : List (Nat × Value) → List (Nat × Value) → Prop
  | [], [] => True
  | (i, v) :: l, (i', v') :: l' => i' = i ∧ VRel μ v v' ∧ PRel μ l l'
  | _, _ => False
theorem foldl_rel {off : Nat} : ∀ (l l' : List Value) (k : Nat) (cs cs' : Array Value), LRel μ l l' → LRel μ cs.toList cs'.toList →
    LRel μ ((l.zipIdx k).foldl (fun cs (c, j) => cs.setIfInBounds (off + j) c) cs).toList ((l'.zipIdx k).foldl (fun cs (c, j) => cs.setIfInBounds (off + j) c) cs').toList
  | [], l', k, cs, cs', hl, hc => by rw [LRel.nil_inv hl]; exact hc
  | v :: l, l', k, cs, cs', hl, hc => by
    obtain ⟨v', m', rfl, h1, h2⟩ := LRel.cons_inv hl
    simp only [List.zipIdx_cons, List.foldl_cons]
    refine foldl_rel l m' (k + 1) _ _ h2 ?_
    rw [Array.toList_setIfInBounds, Array.toList_setIfInBounds]
    exact hc.set _ h1
theorem fill_rel {place : Nat → Option (Nat × Nat)} : ∀ (ps ps' : List (Nat × Value)) (cs cs' r : Array Value), PRel μ ps ps' → LRel μ cs.toList cs'.toList → Instr.fill place cs ps = some r → ∃ r', Instr.fill place cs' ps' = some r' ∧ LRel μ r.toList r'.toList
  | [], [], cs, cs', r, _, hc, hr => by simp only [Instr.fill, Option.some.injEq] at hr; subst hr; exact ⟨cs', rfl, hc⟩
  | [], _ :: _, _, _, _, hp, _, _ => hp.elim
  | _ :: _, [], _, _, _, hp, _, _ => hp.elim
  | (i, v) :: ps, (i', v') :: ps', cs, cs', r, hp, hc, hr => by
    obtain ⟨rfl, hv, hp⟩ := hp
    simp only [Instr.fill] at hr ⊢
    cases hpl : place i' with
    | none => rw [hpl] at hr; cases hr
    | some q =>
      obtain ⟨off, size⟩ := q
      rw [hpl] at hr
      have hcl := hv.cells
      have s1 : v'.cells.size = v.cells.size := by have := hcl.1; simp at this; exact this.symm
      have s2 : cs'.size = cs.size := by have := hc.1; simp at this; exact this.symm
      simp only at hr ⊢
      rw [s1, s2]
      split at hr
      · cases hr
      · rename_i hne
        rw [if_neg hne]
        refine fill_rel ps ps' _ _ r hp ?_ hr
        have := foldl_rel (off := off) v.cells.toList v'.cells.toList 0 cs cs' hcl hc
        rw [← Array.foldl_toList, ← Array.foldl_toList, Array.toList_zipIdx, Array.toList_zipIdx]
        exact this
def evalP (G : Nat) (tm : H Value) : List (Nat × Operand) → Option (List (Nat × Value))
  | [] => some []
  | (i, x) :: xs => match evalA G tm x with
    | some v => match evalP G tm xs with
      | some vs => some ((i, v) :: vs)
      | none => none
    | none => none
theorem evalP_rel (R : Rel P G w0 μ h w) (T : TRel μ tm a) : ∀ {xs : List (Nat × Operand)} {vs : List (Nat × Value)}, evalP G tm xs = some vs → PRel μ vs (xs.map fun (i, x) => (i, a.eval x))
  | [], vs, hv => by simp only [evalP, Option.some.injEq] at hv; subst hv; exact trivial
  | (i, x) :: xs, vs, hv => by
    simp only [evalP] at hv
    split at hv
    · rename_i v h1
      split at hv
      · rename_i us h2
        cases hv
        exact ⟨rfl, evalA_rel R T h1, evalP_rel R T h2⟩
      · cases hv
    · cases hv
theorem built_rel {t : TypeId} {ps ps' : List (Nat × Value)} {r : Array Value} (hz : ∀ z, (P.info? t).bind (·.zero) = some z → closed z = true) (hp : PRel μ ps ps') (hr : P.built t ps = some r) : ∃ r', P.built t ps' = some r' ∧ LRel μ r.toList r'.toList := by
  unfold Program.built at hr ⊢
  cases hi : P.info? t with
  | none => rw [hi] at hr; cases hr
  | some it =>
    cases hu : P.underlying t with
    | none => rw [hi, hu] at hr; cases hr
    | some d =>
      rw [hi, hu] at hr
      cases d <;> simp only at hr ⊢ <;> first
        | (cases hr; done)
        | (split at hr
           · rename_i z p hz' hp'
             have hcz := hz z (by rw [hi]; exact hz')
             exact fill_rel _ _ _ _ _ hp (closed_rel μ hcz).cells hr
           · cases hr)
def oBuild (P : Program) (G : Nat) (tm : H Value) (t : TypeId) (parts : Array (Nat × Operand)) : Option Step := match evalP G tm parts.toList, (P.info? t).bind (·.zero) with
  | some ps, some z => if closed z then match P.built t ps with
      | some r => okV (.agg r)
      | none => none
    else none
  | _, _ => none
theorem right_build {o : Oper} {t : TypeId} {parts : Array (Nat × Operand)} (ho : o.op = .build t parts) : Right P G w0 o tm (oBuild P G tm t parts) := by
  unfold oBuild
  split
  · rename_i ps z hps hz
    split
    · rename_i hc
      split
      · rename_i r hb
        refine right_val fun μ h w a R T => ?_
        obtain ⟨r', h1, h2⟩ := built_rel (fun z' hz' => by rw [hz] at hz'; cases hz'; exact hc) (evalP_rel R T hps) hb
        refine ⟨.agg r', VRel.of_list h2, ?_⟩
        simp only [execOp, ho]
        refine run_v (run_build w t _ r' ?_)
        rw [← h1]
        congr 1
        simp
      · exact right_none
    · exact right_none
  · exact right_none
def oBuildSlice (P : Program) (G : Nat) (tm : H Value) (t : TypeId) (len : Nat) (parts : Array (Nat × Operand)) : Option Step := match evalP G tm parts.toList, P.underlying t with
  | some ps, some (.slice e) => match P.info? e with
    | some ie => match ie.zero with
      | some z => if closed z && decide (¬ len * ie.size > 2 ^ 24) then
          if len * ie.size = 0 then (if ps.isEmpty then mkStep [] e (fun n => .slice (some ⟨n, 0, none⟩) len len) else none)
          else match Instr.fill (fun i => some (i * ie.size, ie.size)) ((Array.range (len * ie.size)).map (z.cells[· % z.cells.size]!)) ps with
            | some r => mkStep r.toList e (fun n => .slice (some ⟨n, 0, none⟩) len len)
            | none => none
        else none
      | none => none
    | none => none
  | _, _ => none
theorem made_rel {z : Value} (hc : closed z = true) (n : Nat) : LRel μ ((Array.range n).map (z.cells[· % z.cells.size]!)).toList ((Array.range n).map (z.cells[· % z.cells.size]!)).toList := by
  refine ⟨rfl, fun i v v' p q => ?_⟩
  rw [p] at q; cases q
  have hm : v ∈ ((Array.range n).map (z.cells[· % z.cells.size]!)).toList := List.mem_of_getElem? p
  simp only [Array.toList_map, List.mem_map] at hm
  obtain ⟨k, hk, rfl⟩ := hm
  have hcl := (closed_rel μ hc).cells
  by_cases hs : k % z.cells.size < z.cells.size
  · have e : z.cells[k % z.cells.size]! = z.cells[k % z.cells.size] := getElem!_pos z.cells (k % z.cells.size) hs
    rw [e]
    have g : z.cells.toList[k % z.cells.size]? = some (z.cells[k % z.cells.size]) := by simp [hs]
    exact hcl.2 _ _ _ g g
  · have e : z.cells[k % z.cells.size]! = default := getElem!_neg z.cells (k % z.cells.size) hs
    rw [e]
    exact .bool _
theorem right_buildSlice {o : Oper} {t : TypeId} {len : Nat} {parts : Array (Nat × Operand)} (ho : o.op = .buildSlice t len parts) : Right P G w0 o tm (oBuildSlice P G tm t len parts) := by
  unfold oBuildSlice
  split
  · rename_i ps e hps hd
    split
    · rename_i ie hi
      split
      · rename_i z hz
        split
        · rename_i hcs
          simp only [Bool.and_eq_true, decide_eq_true_iff] at hcs
          split
          · rename_i h0
            split
            · rename_i hemp
              refine right_mk fun μ h w a next R T hn => ⟨#[], LRel.nil μ, _, newSlice μ next _ _ _, ?_⟩
              have hp := evalP_rel R T hps
              cases ps with
              | cons p ps => cases hemp
              | nil =>
                simp only [execOp, ho]
                refine run_v ?_
                have hpe : parts.toList.map (fun (i, x) => (i, a.eval x)) = [] := by
                  cases hq : parts.toList.map (fun (i, x) => (i, a.eval x)) with
                  | nil => rfl
                  | cons q qs => rw [hq] at hp; exact hp.elim
                have hpz : parts = #[] := by
                  have := List.map_eq_nil_iff.1 hpe
                  exact Array.toList_eq_nil_iff.1 this
                have hn : ¬ len * ie.size > 2 ^ 24 := by rw [h0]; decide
                simp only [Instr.buildSlice, Sem.run_bind, run_underlying hd, Result.andThen_ok, sizeOf, typeInfo]
                simp [hi, hn, h0, hpz, Instr.fill, newRow, Array.range_zero']
            · exact right_none
          · rename_i h0
            split
            · rename_i r hf
              refine right_mk fun μ h w a next R T hn => ?_
              obtain ⟨r', h1, h2⟩ := fill_rel _ _ _ _ _ (evalP_rel R T hps) (made_rel (μ := μ) hcs.1 (len * ie.size)) hf
              refine ⟨r', h2, _, newSlice μ next _ _ _, ?_⟩
              simp only [execOp, ho]
              refine run_v (run_buildSlice w t e len _ r' ie z hd hi hz hcs.2 h0 ?_)
              rw [← h1]
              congr 1
              simp
            · exact right_none
        · exact right_none
      · exact right_none
    · exact right_none
  · exact right_none
end
end
end Go.Proofs.YtefhaojjohddaaaGreatDoor.AM
