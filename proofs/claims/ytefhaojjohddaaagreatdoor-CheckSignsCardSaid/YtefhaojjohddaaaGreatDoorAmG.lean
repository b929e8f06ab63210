/- The abstract machine, part G: lengths, appends, a string's bytes. -/
import Derived.Test.YtefhaojjohddaaaGreatDoorAmF
namespace Go.Proofs.YtefhaojjohddaaaGreatDoor.AM
open Go Go.RowKit
noncomputable section
section
variable {P : Program} {G : Nat} {w0 : Base} {w : World} {μ : Mu} {h : H Ent} {tm : H Value} {a : Act}

/-- A builtin's call. -/
theorem run_builtin {o : Oper} {b : Builtin} {args : Array Operand} {ts : Array TypeId} (ho : o.op = .call { callee := .builtin b, args := args, argTypes := ts }) (w : World) :
    (execOp a.eval o).run P w = (builtin b ts o.type (args.map fun | .const _ => true | _ => false) (args.map a.eval)).run P w := by
  simp only [execOp, ho, resolve, invoke, Sem.run_bind, Sem.run_pure, Result.andThen_ok]
  rfl
theorem evalL_arr (R : Rel P G w0 μ h w) (T : TRel μ tm a) {xs : Array Operand} {vs : List Value} (hv : evalL G tm xs.toList = some vs) : LRel μ vs (xs.map a.eval).toList := by
  have := evalL_rel R T hv
  simpa using this
theorem LRel.closed {l l' : List Value} (hl : LRel μ l l') (hc : l.all closed = true) : l' = l := by
  apply List.ext_getElem?
  intro i
  by_cases hi : i < l.length
  · have h1 : l[i]? = some l[i] := List.getElem?_eq_getElem hi
    obtain ⟨v', h2, h3⟩ := hl.get h1
    rw [h1, h2, closed_eq (List.all_eq_true.1 hc _ (List.getElem_mem hi)) h3]
  · have := hl.1
    rw [List.getElem?_eq_none (by omega), List.getElem?_eq_none (by omega)]
/-- max, min, and whatever else closed arguments suffice for. -/
def oClosed (P : Program) (G : Nat) (tm : H Value) (b : Builtin) (args : Array Operand) (ts : Array TypeId) (ty : TypeId) : Option Step := match b, evalL G tm args.toList with
  | .max, some vs => if vs.all closed then okP P (Builtin.max_ ts ty vs.toArray) else none
  | .min, some vs => if vs.all closed then okP P (Builtin.min_ ts ty vs.toArray) else none
  | _, _ => none
theorem right_closed {o : Oper} {b : Builtin} {args : Array Operand} {ts : Array TypeId} (ho : o.op = .call { callee := .builtin b, args := args, argTypes := ts }) : Right P G w0 o tm (oClosed P G tm b args ts o.type) := by
  unfold oClosed
  split
  · rename_i vs hv
    split
    · rename_i hc
      refine right_pure fun μ h w a R T => ?_
      have e := (evalL_arr R T hv).closed hc
      have e' : args.map a.eval = vs.toArray := by apply Array.ext'; simpa using e
      simp only [execOp, ho, resolve, invoke, builtin, e']
      rfl
    · exact right_none
  · rename_i vs hv
    split
    · rename_i hc
      refine right_pure fun μ h w a R T => ?_
      have e := (evalL_arr R T hv).closed hc
      have e' : args.map a.eval = vs.toArray := by apply Array.ext'; simpa using e
      simp only [execOp, ho, resolve, invoke, builtin, e']
      rfl
    · exact right_none
  · exact right_none
def oLen (P : Program) (G : Nat) (tm : H Value) (x : Operand) (t : TypeId) : Option Step := match evalA G tm x, P.underlying t with
  | some (.string s), some .string => okV (.int .i64 s.size)
  | some (.slice _ n _), some (.slice _) => okV (.int .i64 n)
  | some (.map none), some (.map _ _) => okV (.int .i64 0)
  | some (.map (some b)), some (.map _ _) => some ⟨[b], fun es _ => match es with
      | [some (.map es _)] => some (.val (.int .i64 es.length), none, none)
      | _ => none⟩
  | _, _ => none
theorem right_len {o : Oper} {x : Operand} {t : TypeId} (ho : o.op = .call { callee := .builtin .len, args := #[x], argTypes := #[t] }) : Right P G w0 o tm (oLen P G tm x t) := by
  have go : ∀ (a : Act) (w : World) (v : Value), (Builtin.len_ #[t] o.type #[a.eval x]).run P w = .ok v w → (execOp a.eval o).run P w = .ok (.value v) w := fun a w v hv => by
    rw [run_builtin ho]
    simp only [builtin, List.map_toArray, List.map_cons, List.map_nil]
    exact run_v hv
  unfold oLen
  split
  · rename_i s hx hd
    refine right_val fun μ h w a R T => ⟨_, .int _ _, go a w _ ?_⟩
    have r := evalA_rel R T hx
    generalize a.eval x = x' at r
    cases r
    simp [Builtin.len_, run_underlying hd, goInt]
  · rename_i ad n c e hx hd
    refine right_val fun μ h w a R T => ⟨_, .int _ _, go a w _ ?_⟩
    have r := evalA_rel R T hx
    generalize a.eval x = x' at r
    cases r <;> simp [Builtin.len_, run_underlying hd, goInt]
  · rename_i k e hx hd
    refine right_val fun μ h w a R T => ⟨_, .int _ _, go a w _ ?_⟩
    have r := evalA_rel R T hx
    generalize a.eval x = x' at r
    cases r
    simp [Builtin.len_, run_underlying hd, goInt]
  · rename_i b k e hx hd
    intro s hs μ h w a next r upd new R T hr hn
    cases hs
    simp only [List.map_cons, List.map_nil] at hr
    split at hr
    · rename_i es clk he
      simp only [List.cons.injEq, and_true] at he
      simp only [Option.some.injEq, Prod.mk.injEq] at hr
      obtain ⟨rfl, rfl, rfl⟩ := hr
      obtain ⟨m, ob, hm, hh, hent, _⟩ := R.ent b _ he
      cases ob <;> simp only [entRel] at hent
      rename_i es' clk'
      refine good_val R (.int _ _) (go a w _ ?_)
      obtain ⟨m', hm', e'⟩ := (evalA_rel R T hx).map_inv
      rw [hm] at hm'; cases hm'
      rw [e']
      have hl := hent.2.len
      simp only [Array.length_toList] at hl
      simp [Builtin.len_, run_underlying hd, getObj, Sem.run, hh, goInt, hl]
    · cases hr
  · exact right_none

/-! ### append -/
/-- What the second argument yields. -/
def srcIds : Value → List Nat
  | .slice (some ⟨b, _, none⟩) _ _ => [b]
  | _ => []
def srcCells (P : Program) (size : Nat) (tx : TypeId) (x : Value) (es : List (Option Ent)) : Option (Nat × List Value) := match x, es with
  | .slice none 0 _, _ => match P.underlying tx with
    | some (.slice _) => some (0, [])
    | _ => none
  | .slice (some ⟨_, o, none⟩) n _, [some (.cells _ _ c _)] => match P.underlying tx with
    | some (.slice _) => if o + n * size ≤ c.length then some (n, (c.drop o).take (n * size)) else none
    | _ => none
  | .string s, _ => match P.underlying tx with
    | some .string => if size = 1 then some (s.size, byteCells s) else none
    | _ => none
  | _, _ => none
theorem src_rel {size : Nat} {tx : TypeId} {x x' : Value} {n : Nat} {news : List Value} (R : Rel P G w0 μ h w) (hs : srcCells P size tx x ((srcIds x).map h.get) = some (n, news)) (hx : VRel μ x x') (h1 : news.all Value.oneCell' = true) :
    ∃ news', LRel μ news news' ∧ Src P size tx x' n news' w := by
  cases x with
  | slice ad k c =>
    cases ad with
    | none =>
      cases hx
      cases k with
      | succ k => simp [srcCells] at hs
      | zero =>
        simp only [srcCells] at hs
        split at hs
        · rename_i e hd
          simp only [Option.some.injEq, Prod.mk.injEq] at hs
          obtain ⟨rfl, rfl⟩ := hs
          exact ⟨[], LRel.nil μ, Src.ofNil w hd c⟩
        · cases hs
    | some ad =>
      obtain ⟨b, o, sp⟩ := ad
      cases sp with
      | some q => simp [srcIds, srcCells] at hs
      | none =>
        simp only [srcIds, List.map_cons, List.map_nil] at hs
        cases he : h.get b with
        | none => rw [he] at hs; simp [srcCells] at hs
        | some ent =>
          rw [he] at hs
          cases ent <;> simp only [srcCells] at hs <;> first | (cases hs; done) | skip
          rename_i wr g cc e
          split at hs
          · rename_i e' hd
            split at hs
            · rename_i hle
              simp only [Option.some.injEq, Prod.mk.injEq] at hs
              obtain ⟨rfl, rfl⟩ := hs
              obtain ⟨m, c', fr, ee, hm, hh, hty, _, _, _, _, _, hcl, hp⟩ := R.row he
              obtain ⟨m', c2, hm', rfl, _⟩ := hx.slice_inv
              rw [hm] at hm'; cases hm'
              have hp' : PW μ cc c'.toList := fun i v hv => by obtain ⟨u, p, q⟩ := hp i v hv; exact ⟨u, by simpa using p, q⟩
              have hs := hp'.seg hle (by simpa using hcl)
              refine ⟨_, hs, Src.ofSlice w hd ⟨m.b, o, none⟩ k c2 _ ?_ (fun j u hu => ?_) (all_one hs h1)⟩
              · rw [← hs.1]; simp; omega
              · rw [Addr.add_lit, cell_of_row w m.b (o + j) c' ee fr hh]
                rw [List.getElem?_take] at hu
                split at hu
                · rw [List.getElem?_drop] at hu; simpa using hu
                · cases hu
            · cases hs
          · cases hs
  | string s =>
    cases hx
    simp only [srcCells] at hs
    split at hs
    · rename_i hd
      split at hs
      · rename_i h1'
        simp only [Option.some.injEq, Prod.mk.injEq] at hs
        obtain ⟨rfl, rfl⟩ := hs
        subst h1'
        refine ⟨_, ⟨rfl, fun i v v' p q => ?_⟩, Src.ofString w hd s⟩
        rw [p] at q; cases q
        obtain ⟨u, _, rfl⟩ := List.mem_map.1 (List.mem_of_getElem? p)
        exact .int _ _
      · cases hs
    · cases hs
  | _ => simp [srcCells] at hs
end
end
end Go.Proofs.YtefhaojjohddaaaGreatDoor.AM
