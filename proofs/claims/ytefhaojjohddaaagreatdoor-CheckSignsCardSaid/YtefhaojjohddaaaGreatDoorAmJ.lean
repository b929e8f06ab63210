/- The abstract machine, part J: iteration over a string, a string's bytes, calls, panics; and all operations together. -/
import Derived.Test.YtefhaojjohddaaaGreatDoorAmI
namespace Go.Proofs.YtefhaojjohddaaaGreatDoor.AM
open Go Go.RowKit
noncomputable section
section
variable {P : Program} {G : Nat} {w0 : Base} {w : World} {μ : Mu} {h : H Ent} {tm : H Value} {a : Act}

def oRange (P : Program) (G : Nat) (tm : H Value) (t : TypeId) (x : Operand) : Option Step := match evalA G tm x, P.underlying t with
  | some (.string s), some .string => some ⟨[], fun _ next => some (.val (.pointer (some ⟨next, 0, none⟩)), none, some (.iter s 0))⟩
  | _, _ => none
theorem right_range {o : Oper} {t : TypeId} {x : Operand} (ho : o.op = .range t x) : Right P G w0 o tm (oRange P G tm t x) := by
  unfold oRange
  split
  · rename_i s hx hd
    intro st hst μ h w a next r upd new R T hr hn
    cases hst
    simp only [List.map_nil, Option.some.injEq, Prod.mk.injEq] at hr
    obtain ⟨rfl, rfl, rfl⟩ := hr
    have rx := evalA_rel R T hx
    generalize hx' : a.eval x = x' at rx
    cases rx
    refine ⟨_, _, Mu.le_put hn, fun k hk => Mu.put_other _ _ hk, fun q => (by cases q), R.new (o := .stringIter s 0) (g := false) (sz := 0) (n := 0) hn ⟨rfl, rfl⟩, _, newPtr μ next w.heap.size, ?_⟩
    simp only [execOp, ho, hx']
    refine run_v ?_
    unfold Instr.range
    rw [Sem.run_bind, run_underlying hd]
    rfl
  · exact right_none
def oNext (G : Nat) (tm : H Value) (x : Operand) (str : Bool) : Option Step := match str, evalA G tm x with
  | true, some (.pointer (some ⟨b, 0, none⟩)) => some ⟨[b], fun es _ => match es with
      | [some (.iter s pos)] => if pos < s.size then
          match Utf8.decode s pos with
          | (c, width) => some (.val (.tuple #[.bool true, .int .i64 pos, .int .i32 c]), some (b, some (.iter s (pos + width))), none)
        else some (.val (.tuple #[.bool false]), none, none)
      | _ => none⟩
  | _, _ => none
theorem right_next {o : Oper} {x : Operand} {str : Bool} (ho : o.op = .next x str) : Right P G w0 o tm (oNext G tm x str) := by
  unfold oNext
  split
  · rename_i b hx
    intro st hst μ h w a next r upd new R T hr hn
    cases hst
    simp only [List.map_cons, List.map_nil] at hr
    split at hr
    · rename_i s pos he
      simp only [List.cons.injEq, and_true] at he
      obtain ⟨m, ob, hm, hh, hent, _⟩ := R.ent b _ he
      cases ob <;> simp only [entRel] at hent
      rename_i s' pos'
      obtain ⟨e1, e2⟩ := hent
      rw [e1, e2] at hh
      clear e1 e2
      obtain ⟨m', hm', e'⟩ := (evalA_rel R T hx).ptr_inv
      rw [hm] at hm'; cases hm'
      have hg : (getObj m.b).run P w = .ok (.stringIter s pos) w := by simp [getObj, Sem.run, hh]
      split at hr
      · rename_i hlt
        simp only [Option.some.injEq, Prod.mk.injEq] at hr
        obtain ⟨rfl, rfl, rfl⟩ := hr
        obtain ⟨w1, hs1, B⟩ := setObj_run (P := P) (o1 := .stringIter s (pos + (Utf8.decode s pos).2)) hh (fun c e f q => by cases q)
        refine ⟨μ, w1, Mu.le_refl μ, fun _ _ => rfl, fun _ => rfl, R.upd he rfl hm B ⟨rfl, rfl⟩, _, closed_rel μ rfl, ?_⟩
        simp only [execOp, ho, e']
        refine run_v ?_
        simp [Instr.next, Sem.run_bind, hg, hlt, hs1, goInt]
      · rename_i hlt
        simp only [Option.some.injEq, Prod.mk.injEq] at hr
        obtain ⟨rfl, rfl, rfl⟩ := hr
        refine good_val R (closed_rel μ rfl) ?_
        simp only [execOp, ho, e']
        refine run_v ?_
        simp [Instr.next, Sem.run_bind, hg, hlt]
    · cases hr
  · exact right_none

/-! ### conversions -/
def oConvert (P : Program) (G : Nat) (tm : H Value) (s d : TypeId) (x : Operand) : Option Step := match evalA G tm x with
  | some u => match P.underlying s, P.underlying d, u with
    | some .string, some (.slice e), .string b => match P.underlying e with
      | some (.int .u8) => match P.info? e with
        | some i => if i.size = 1 ∧ b.size ≤ 1048576 then some ⟨[], fun _ next => some (.val (.slice (some ⟨next, 0, none⟩) b.size b.size), none, some (.cells false true (byteCells b) e))⟩ else none
        | none => none
      | _ => none
    | some _, some (.int k), .int _ n => okV (.int k (wrapF k n))
    | _, _, _ => if closed u then okP P (convert s d u) else none
  | none => none
theorem freeze_new (w : World) (c : Array Value) (e : TypeId) (n : Nat) : (w.alloc (.cells c e)).freeze ⟨w.heap.size, n, none⟩ 1 = w.alloc (.cells c e (n, n + 1)) := by
  simp only [World.freeze, if_neg (show ¬ (1 : Nat) = 0 by decide)]
  have key : ∀ a b : World, a.os = b.os → a.tape = b.tape → a.output = b.output → a.drawn = b.drawn → a.heap = b.heap → a = b := fun a b h1 h2 h3 h5 h4 => by
    cases a; cases b; simp only at h1 h2 h3 h4 h5; subst h1 h2 h3 h4 h5; rfl
  refine key _ _ rfl rfl rfl rfl ?_
  apply Array.ext_getElem?
  intro i
  show ((w.heap.push _).modify _ _)[i]? = (w.heap.push _)[i]?
  rw [Array.getElem?_modify, Array.getElem?_push, Array.getElem?_push]
  by_cases hi : i = w.heap.size
  · subst hi; simp
  · have : ¬ w.heap.size = i := fun q => hi q.symm
    simp [hi, this]
theorem run_stringToBytes (e : TypeId) (s : ByteArray) (w : World) : (Conv.stringToBytes e s).run P w = .ok (.slice (some ⟨w.heap.size, 0, none⟩) s.size (grownCap w s.size 0 e))
    (w.drew.alloc (.cells (s.data.map (fun b : UInt8 => Value.int .u8 (b.toNat : Int)) ++ Array.replicate (grownCap w s.size 0 e - s.size) (Value.int .u8 0)) e (grownCap w s.size 0 e, grownCap w s.size 0 e + 1))) := by
  have hge := grownCap_ge w s.size 0 e
  have hsz : (s.data.map (fun b : UInt8 => Value.int .u8 (b.toNat : Int)) ++ Array.replicate (grownCap w s.size 0 e - s.size) (Value.int .u8 0)).size = grownCap w s.size 0 e := by
    simp
    have : s.data.size = s.size := rfl
    omega
  rw [← freeze_new, ← hsz]
  simp only [Conv.stringToBytes, Sem.run_bind]
  have hc : (choose (.appendCap s.size 0 e)).run P w = .ok (grownCap w s.size 0 e) w.drew := rfl
  rw [hc]
  simp only [Result.andThen_ok]
  rw [hsz]
  have hn : ∀ cs : Array Value, (newRow e cs).run P w.drew = .ok ⟨w.heap.size, 0, none⟩ (w.drew.alloc (.cells cs e)) := fun cs => rfl
  rw [hn]
  simp only [Result.andThen_ok, markStringish, Sem.run_bind]
  have hs : ∀ cs : Array Value, (shape w.heap.size).run P (w.drew.alloc (.cells cs e)) = .ok (some (e, cs.size)) (w.drew.alloc (.cells cs e)) := fun cs => by
    have hq := heap_alloc_new w.drew (.cells cs e)
    simp only [shape, Sem.run, World.shape?]
    rw [show (w.drew.alloc (.cells cs e)).heap[w.heap.size]? = some (.cells cs e) from hq]
  rw [hs]
  simp only [Result.andThen_ok]
  rw [hsz]
  rfl
theorem right_convert {o : Oper} {s d : TypeId} {x : Operand} (ho : o.op = .convert s d x) : Right P G w0 o tm (oConvert P G tm s d x) := by
  unfold oConvert
  split
  · rename_i u hx
    split
    · rename_i e b hs hd
      split
      · rename_i he
        split
        · rename_i i hi
          split
          · rename_i hsz
            intro st hst μ h w a next r upd new R T hr hn
            cases hst
            simp only [List.map_nil, Option.some.injEq, Prod.mk.injEq] at hr
            obtain ⟨rfl, rfl, rfl⟩ := hr
            have rx := evalA_rel R T hx
            generalize hx' : a.eval x = x' at rx
            cases rx
            have hge := grownCap_ge w b.size 0 e
            have hdl : b.data.toList.length = b.size := by rw [Array.length_toList]; rfl
            have hcs : (b.data.map (fun b : UInt8 => Value.int .u8 (b.toNat : Int)) ++ Array.replicate (grownCap w b.size 0 e - b.size) (Value.int .u8 0)).size = grownCap w b.size 0 e := by
              simp
              have : b.data.size = b.size := rfl
              omega
            refine ⟨_, _, Mu.le_put hn, fun k hk => Mu.put_other _ _ hk, fun q => (by cases q), R.drew.new (o := .cells (b.data.map (fun b : UInt8 => Value.int .u8 (b.toNat : Int)) ++ Array.replicate (grownCap w b.size 0 e - b.size) (Value.int .u8 0)) e (grownCap w b.size 0 e, grownCap w b.size 0 e + 1)) (g := true) (sz := 1) (n := grownCap w b.size 0 e) hn ?_, .slice (some ⟨w.heap.size, 0, none⟩) b.size (grownCap w b.size 0 e), ?_, ?_⟩
            · refine ⟨fun q => (by cases q), rfl, fun q => (by cases q), fun _ => ⟨hcs, by rw [hi, Option.map_some, hsz.1]⟩, fun q => (by cases q), ?_, fun k v hk => ?_⟩
              · rw [hcs, byteCells_length]; exact hge
              · have hk2 : k < b.data.size := by have := (List.getElem?_eq_some_iff.1 hk).1; rw [byteCells_length] at this; exact this
                unfold byteCells at hk
                rw [List.getElem?_map] at hk
                refine ⟨v, ?_, ?_⟩
                · rw [Array.getElem?_append_left (by simpa using hk2), Array.getElem?_map, ← Array.getElem?_toList]
                  exact hk
                · obtain ⟨y, _, rfl⟩ := Option.map_eq_some_iff.1 hk
                  exact .int _ _
            · exact .slice 0 _ (Mu.put_same μ next ⟨w.heap.size, true, 1, grownCap w b.size 0 e⟩) hge (fun q => by cases q) (fun _ => by simp)
            · simp only [execOp, ho, hx']
              refine run_v ?_
              unfold convert
              rw [Sem.run_bind, run_underlying hs, Result.andThen_ok, Sem.run_bind, run_underlying hd, Result.andThen_ok]
              simp only [Sem.run_bind, run_underlying he, Result.andThen_ok]
              exact run_stringToBytes e b w
          · exact right_none
        · exact right_none
      · exact right_none
    · rename_i sd k k0 n hs hd
      refine right_val fun μ h w a R T => ⟨_, .int _ _, ?_⟩
      have rx := evalA_rel R T hx
      generalize hx' : a.eval x = x' at rx
      cases rx
      simp only [execOp, ho, hx']
      refine run_v ?_
      unfold convert
      rw [Sem.run_bind, run_underlying hs, Result.andThen_ok, Sem.run_bind, run_underlying hd, Result.andThen_ok, wrapF_eq]
      rfl
    · split
      · rename_i hc
        refine right_pure fun μ h w a R T => ?_
        have ex := closed_eq hc (evalA_rel R T hx)
        simp only [execOp, ho, ex]
      · exact right_none
  · exact right_none

/-! ### calls, panics -/
def oPanic (G : Nat) (tm : H Value) (x : Operand) : Option Step := match evalA G tm x with
  | some (.iface t u) => some ⟨[], fun _ _ => some (.panic (.iface t u), none, none)⟩
  | _ => none
theorem right_panic {o : Oper} {x : Operand} (ho : o.op = .panic x) : Right P G w0 o tm (oPanic G tm x) := by
  unfold oPanic
  split
  · rename_i t u hx
    intro st hst μ h w a next r upd new R T hr hn
    cases hst
    simp only [List.map_nil, Option.some.injEq, Prod.mk.injEq] at hr
    obtain ⟨rfl, rfl, rfl⟩ := hr
    have rx := evalA_rel R T hx
    refine ⟨μ, w, Mu.le_refl μ, fun _ _ => rfl, fun _ => rfl, R, a.eval x, rx, ?_⟩
    generalize hx' : a.eval x = x' at rx
    cases rx
    simp only [execOp, ho, hx']
    exact run_vp rfl
  · exact right_none
/-- What is known of the program's functions. -/
structure Fns (P : Program) (cl : FuncId) : Prop where
  name : ∀ (k : FuncId) (fn : Func), P.funcs[k]? = some fn → fn.body.isSome = true → (fn.name == "runtime.NumGoroutine") = false
  clone : ∀ (args : Array Value) (w : World), (callFunc cl args).run P w = (do pure (Next.value (← Extern.MapsClone.clone args)) : Sem Next).run P w
def oCall (P : Program) (cl : FuncId) (G : Nat) (tm : H Value) (f : Operand) (args : Array Operand) : Option Step := match evalA G tm f, evalL G tm args.toList with
  | some (.func (.func k) first captured), some vs => match P.funcs[k]? with
    | some fn => if fn.body.isSome then some ⟨[], fun _ _ => some (.enter k (first ++ vs.toArray ++ captured), none, none)⟩
      else if k = cl ∧ first.size = 0 ∧ captured.size = 0 then match vs with
        | [.iface t (.map (some b))] => some ⟨[b], fun es next => match es with
            | [some (.map es clk)] => some (.val (.iface t (.map (some next))), none, some (.map es clk))
            | _ => none⟩
        | _ => none
      else none
    | none => none
  | _, _ => none
theorem VRel.func_inv {k : FuncId} {x c : Array Value} {v' : Value} (r : VRel μ (.func (.func k) x c) v') : ∃ x' c', v' = .func (.func k) x' c' ∧ LRel μ x.toList x'.toList ∧ LRel μ c.toList c'.toList := by
  cases r with
  | func f hx h1 hc h2 => exact ⟨_, _, rfl, ⟨by simpa using hx, fun i v v' a b => h1 i v v' (by simpa using a) (by simpa using b)⟩, ⟨by simpa using hc, fun i v v' a b => h2 i v v' (by simpa using a) (by simpa using b)⟩⟩
theorem right_call {cl : FuncId} (F : Fns P cl) {o : Oper} {f : Operand} {args : Array Operand} {ts : Array TypeId} (ho : o.op = .call { callee := .value f, args := args, argTypes := ts }) : Right P G w0 o tm (oCall P cl G tm f args) := by
  have go : ∀ (a : Act) (w : World) (k : FuncId) (x' c' : Array Value), a.eval f = .func (.func k) x' c' → (execOp a.eval o).run P w = (callFunc k (x' ++ args.map a.eval ++ c')).run P w := fun a w k x' c' e => by
    simp only [execOp, ho, resolve, e, Deferred.ofValue, invoke, Sem.run_bind, Sem.run_pure, Result.andThen_ok]
  unfold oCall
  split
  · rename_i k first captured vs hf hv
    split
    · rename_i fn hfn
      split
      · rename_i hb
        intro st hst μ h w a next r upd new R T hr hn
        cases hst
        simp only [List.map_nil, Option.some.injEq, Prod.mk.injEq] at hr
        obtain ⟨rfl, rfl, rfl⟩ := hr
        obtain ⟨x', c', e, h1, h2⟩ := (evalA_rel R T hf).func_inv
        have h3 := evalL_arr R T hv
        refine ⟨μ, w, Mu.le_refl μ, fun _ _ => rfl, fun _ => rfl, R, x' ++ args.map a.eval ++ c', ?_, ?_⟩
        · simp only [Array.toList_append]
          exact (h1.append h3).append h2
        · rw [go a w k x' c' e]
          have hname := F.name k fn hfn hb
          have h1 : fn.name ≠ "runtime.NumGoroutine" := by simpa using hname
          have h2 : fn.body ≠ none := fun q => by rw [q] at hb; cases hb
          simp [callFunc, program, Sem.run, Sem.run_bind, hfn, h1, h2]
      · split
        · rename_i hnb hcl
          obtain ⟨rfl, hz1, hz2⟩ := hcl
          split
          · rename_i t b
            intro st hst μ h w a next r upd new R T hr hn
            cases hst
            simp only [List.map_cons, List.map_nil] at hr
            split at hr
            · rename_i es clk he
              simp only [List.cons.injEq, and_true] at he
              simp only [Option.some.injEq, Prod.mk.injEq] at hr
              obtain ⟨rfl, rfl, rfl⟩ := hr
              obtain ⟨x', c', e, h1, h2⟩ := (evalA_rel R T hf).func_inv
              have h3 := evalL_arr R T hv
              obtain ⟨m, ob, hm, hh, hent, _⟩ := R.ent b _ he
              cases ob <;> simp only [entRel] at hent
              rename_i es' clk'
              obtain ⟨rfl, hmr⟩ := hent
              obtain ⟨v', l', e3, r3, r4⟩ := LRel.cons_inv h3
              have e4 := LRel.nil_inv r4
              subst e4
              cases r3
              rename_i q rq
              obtain ⟨m', hm', e5⟩ := rq.map_inv
              rw [hm] at hm'; cases hm'
              subst e5
              have ex : x' = #[] := Array.eq_empty_of_size_eq_zero (by have := h1.1; simp at this; omega)
              have ec : c' = #[] := Array.eq_empty_of_size_eq_zero (by have := h2.1; simp at this; omega)
              have ea : args.map a.eval = #[.iface t (.map (some m.b))] := by apply Array.ext'; rw [e3]
              refine ⟨_, _, Mu.le_put hn, fun k hk => Mu.put_other _ _ hk, fun q => (by cases q), R.new (o := .map es' clk') (g := false) (sz := 0) (n := 0) hn ⟨rfl, hmr.mono (Mu.le_put hn)⟩, .iface t (.map (some w.heap.size)), .iface t (.map (Mu.put_same μ next ⟨w.heap.size, false, 0, 0⟩)), ?_⟩
              rw [go a w _ x' c' e, ex, ec, ea]
              simp only [Array.empty_append, Array.append_empty]
              rw [F.clone]
              refine run_v ?_
              show (do
                let ob ← getObj m.b
                match ob with
                | .map entries clock => do pure (.iface t (.map (some (← newObj (.map entries clock)))))
                | _ => stuck "maps.clone: a map expected" : Sem Value).run P w = _
              simp [Sem.run_bind, getObj, newObj, Sem.run, hh]
            · cases hr
          · exact right_none
        · exact right_none
    · exact right_none
  · exact right_none
end
end
end Go.Proofs.YtefhaojjohddaaaGreatDoor.AM
