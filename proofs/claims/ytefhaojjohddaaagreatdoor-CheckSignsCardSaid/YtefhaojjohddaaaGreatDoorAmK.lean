/- The abstract machine, part K: deferred calls, recover, new maps; and all operations together. -/
import Derived.Test.YtefhaojjohddaaaGreatDoorAmJ
namespace Go.Proofs.YtefhaojjohddaaaGreatDoor.AM
open Go Go.RowKit
noncomputable section
section
variable {P : Program} {G : Nat} {w0 : Base} {w : World} {μ : Mu} {h : H Ent} {tm : H Value} {a : Act}

def oMakeMap (r : Option Operand) : Option Step := match r with
  | none => some ⟨[], fun _ next => some (.val (.map (some next)), none, some (.map [] 0))⟩
  | some _ => none
theorem right_makeMap {o : Oper} {t : TypeId} {r : Option Operand} (ho : o.op = .makeMap t r) : Right P G w0 o tm (oMakeMap r) := by
  unfold oMakeMap
  split
  · intro st hst μ h w a next r upd new R T hr hn
    cases hst
    simp only [List.map_nil, Option.some.injEq, Prod.mk.injEq] at hr
    obtain ⟨rfl, rfl, rfl⟩ := hr
    refine ⟨_, _, Mu.le_put hn, fun k hk => Mu.put_other _ _ hk, fun q => (by cases q), R.new (o := .map #[] 0) (g := false) (sz := 0) (n := 0) hn ⟨rfl, trivial⟩, .map (some w.heap.size), .map (Mu.put_same μ next ⟨w.heap.size, false, 0, 0⟩), ?_⟩
    simp only [execOp, ho]
    exact run_v rfl
  · exact right_none
def oDefer (G : Nat) (tm : H Value) (f : Operand) (args : Array Operand) : Option Step := match evalA G tm f, evalL G tm args.toList with
  | some (.func (.func k) first captured), some vs => some ⟨[], fun _ _ => some (.defer k (first ++ vs.toArray ++ captured), none, none)⟩
  | _, _ => none
theorem right_defer {o : Oper} {f : Operand} {args : Array Operand} {ts : Array TypeId} (ho : o.op = .defer { callee := .value f, args := args, argTypes := ts }) : Right P G w0 o tm (oDefer G tm f args) := by
  unfold oDefer
  split
  · rename_i k first captured vs hf hv
    intro st hst μ h w a next r upd new R T hr hn
    cases hst
    simp only [List.map_nil, Option.some.injEq, Prod.mk.injEq] at hr
    obtain ⟨rfl, rfl, rfl⟩ := hr
    obtain ⟨x', c', e, h1, h2⟩ := (evalA_rel R T hf).func_inv
    have h3 := evalL_arr R T hv
    refine ⟨μ, w, Mu.le_refl μ, fun _ _ => rfl, fun _ => rfl, R, { target := .fn (.func k) c', args := x' ++ args.map a.eval }, ?_, c', x' ++ args.map a.eval, rfl, rfl, ?_⟩
    · simp only [execOp, ho, resolve, e, Deferred.ofValue, Sem.run_bind, Sem.run_pure, Result.andThen_ok]
    · simp only [Array.toList_append]
      exact (h1.append h3).append h2
  · exact right_none
def oRecover : Option Step := some ⟨[], fun _ _ => some (.recover, none, none)⟩
theorem right_recover {o : Oper} {args : Array Operand} {ts : Array TypeId} (ho : o.op = .call { callee := .builtin .recover, args := args, argTypes := ts }) : Right P G w0 o tm oRecover := by
  intro st hst μ h w a next r upd new R T hr hn
  cases hst
  simp only [List.map_nil, Option.some.injEq, Prod.mk.injEq] at hr
  obtain ⟨rfl, rfl, rfl⟩ := hr
  refine ⟨μ, w, Mu.le_refl μ, fun _ _ => rfl, fun _ => rfl, R, ?_⟩
  show (execOp a.eval o).run P w = _
  rw [run_builtin ho]
  rfl

/-! ### all of them -/
def oBuiltin (P : Program) (G : Nat) (tm : H Value) (b : Builtin) (args : Array Operand) (ts : Array TypeId) (ty : TypeId) : Option Step := match b, args.toList, ts.toList with
  | .len, [x], [t] => oLen P G tm x t
  | .append, [s, x], [t, tx] => oAppend P G tm s x t tx
  | .recover, _, _ => oRecover
  | _, _, _ => oClosed P G tm b args ts ty
def aop (P : Program) (cl : FuncId) (G : Nat) (tm : H Value) (o : Oper) : Option Step := match o.op with
  | .move x => oMove G tm x
  | .assign x => oMove G tm x
  | .load t x => oLoad P G tm t x
  | .store t x y => oStore P G tm t x y
  | .call { callee := .value f, args := args, argTypes := _ } => oCall P cl G tm f args
  | .call { callee := .builtin b, args := args, argTypes := ts } => oBuiltin P G tm b args ts o.type
  | .binOp op t x y _ => oBin P G tm op t x y
  | .unOp op _ x => oUn P G tm op x
  | .fieldAddr t x f => oFieldAddr P G tm t x f
  | .field t x f => oField P G tm t x f
  | .indexAddr t x i => oIndexAddr P G tm t x i
  | .index t x i => oIndex P G tm t x i
  | .extract x i => oExtract G tm x i
  | .pick c x y => oPick G tm c x y
  | .nilCheck x => oNilCheck G tm x
  | .alloc t => oAlloc P t
  | .box t x => oBox G tm t x
  | .build t ps => oBuild P G tm t ps
  | .buildSlice t n ps => oBuildSlice P G tm t n ps
  | .makeSlice t x y => oMakeSlice P G tm t x y
  | .slice t x lo hi mx => oSlice P G tm t x lo hi mx
  | .lookup t x i ok => oLookup P G tm t x i ok
  | .mapUpdate t m k x => oMapUpdate P G tm t m k x
  | .insert t m k x => oMapUpdate P G tm t m k x
  | .makeMap _ r => oMakeMap r
  | .makeInterface t x => oMakeInterface P G tm t x
  | .makeFunc fn x c => oMakeFunc G tm fn x c
  | .typeAssert x _ t ok => oTypeAssert P G tm x t ok
  | .range t x => oRange P G tm t x
  | .next x s => oNext G tm x s
  | .convert s d x => oConvert P G tm s d x
  | .panic x => oPanic G tm x
  | .defer { callee := .value f, args := args, argTypes := _ } => oDefer G tm f args
  | _ => none
theorem right_builtin {o : Oper} {b : Builtin} {args : Array Operand} {ts : Array TypeId} (ho : o.op = .call { callee := .builtin b, args := args, argTypes := ts }) : Right P G w0 o tm (oBuiltin P G tm b args ts o.type) := by
  unfold oBuiltin
  split
  · rename_i x t h1 h2
    have e1 : args = #[x] := by apply Array.ext'; rw [h1]
    have e2 : ts = #[t] := by apply Array.ext'; rw [h2]
    exact right_len (by rw [ho, e1, e2])
  · rename_i s x t tx h1 h2
    have e1 : args = #[s, x] := by apply Array.ext'; rw [h1]
    have e2 : ts = #[t, tx] := by apply Array.ext'; rw [h2]
    exact right_append (by rw [ho, e1, e2])
  · exact right_recover ho
  · exact right_closed ho
theorem aop_right {cl : FuncId} (F : Fns P cl) (o : Oper) : Right P G w0 o tm (aop P cl G tm o) := by
  obtain ⟨dst, op, ty, pos, after, guard⟩ := o
  unfold aop
  dsimp only
  split
  · exact right_move (.inl rfl)
  · exact right_move (.inr rfl)
  · exact right_load rfl
  · exact right_store rfl
  · exact right_call F rfl
  · exact right_builtin rfl
  · exact right_bin rfl
  · exact right_un rfl
  · exact right_fieldAddr rfl
  · exact right_field rfl
  · exact right_indexAddr rfl
  · exact right_index rfl
  · exact right_extract rfl
  · exact right_pick rfl
  · exact right_nilCheck rfl
  · exact right_alloc rfl
  · exact right_box rfl
  · exact right_build rfl
  · exact right_buildSlice rfl
  · exact right_makeSlice rfl
  · exact right_slice rfl
  · exact right_lookup rfl
  · exact right_mapUpdate (.inl rfl)
  · exact right_mapUpdate (.inr rfl)
  · exact right_makeMap rfl
  · exact right_makeInterface rfl
  · exact right_makeFunc rfl
  · exact right_typeAssert rfl
  · exact right_range rfl
  · exact right_next rfl
  · exact right_convert rfl
  · exact right_panic rfl
  · exact right_defer rfl
  · exact right_none
end
end
end Go.Proofs.YtefhaojjohddaaaGreatDoor.AM
