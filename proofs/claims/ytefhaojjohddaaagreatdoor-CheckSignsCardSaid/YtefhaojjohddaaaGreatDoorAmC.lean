/- The abstract machine, part C: operands, and operations that change no memory. -/
import Derived.Test.YtefhaojjohddaaaGreatDoorAmB
namespace Go.Proofs.YtefhaojjohddaaaGreatDoor.AM
open Go Go.RowKit
noncomputable section

inductive Res where
  | val (v : Value)
  | skip
  | enter (f : FuncId) (args : Array Value)
  | defer (f : FuncId) (args : Array Value)
  | panic (v : Value)
  | recover
/-- What an operation wants: the blocks that it looks at; then, out of what they hold and the next free number: its result, the one block that it changes, the one that it makes. -/
structure Step where
  ids : List Nat
  run : List (Option Ent) → Nat → Option (Res × Option (Nat × Option Ent) × Option Ent)
def applyH (h : H Ent) (next : Nat) (upd : Option (Nat × Option Ent)) (new : Option Ent) : H Ent :=
  match upd, new with
  | none, none => h
  | some (j, x), none => h.set j x
  | none, some y => h.set next (some y)
  | some (j, x), some y => (h.set j x).set next (some y)
def TRel (μ : Mu) (tm : H Value) (a : Act) : Prop := ∀ t, VRel μ ((tm.get t).getD undef) (a.tmps.getD t undef)
theorem TRel.mono {μ μ' : Mu} (hm : μ.le μ') {tm : H Value} {a : Act} (h : TRel μ tm a) : TRel μ' tm a := fun t => (h t).mono hm
def evalA (G : Nat) (tm : H Value) : Operand → Option Value
  | .tmp t => some ((tm.get t).getD undef)
  | .const v => bif closed v then some v else none
  | .global g => bif Nat.blt g G then some (.pointer (some ⟨g, 0, none⟩)) else none
  | .func f => some (.func (.func f) #[] #[])
section
variable {P : Program} {G : Nat} {w0 : Base} {w : World} {μ : Mu} {h : H Ent} {tm : H Value} {a : Act}
theorem evalA_rel (R : Rel P G w0 μ h w) (T : TRel μ tm a) {x : Operand} {v : Value} (hv : evalA G tm x = some v) : VRel μ v (a.eval x) := by
  cases x with
  | tmp t => simp only [evalA, Option.some.injEq] at hv; subst hv; exact T t
  | const u =>
    simp only [evalA, cond_eq_ite] at hv
    split at hv
    · rename_i hc; cases hv; exact closed_rel μ hc
    · cases hv
  | global g =>
    simp only [evalA, cond_eq_ite] at hv
    split at hv
    · rename_i hc
      cases hv
      obtain ⟨m, hm, e⟩ := R.glob g (by rw [Nat.blt_eq] at hc; exact hc)
      have := VRel.ptr (μ := μ) 0 hm
      rw [e] at this
      exact this
    · cases hv
  | func f => simp only [evalA, Option.some.injEq] at hv; subst hv; exact .func f rfl (fun i v v' a => by simp at a) rfl (fun i v v' a => by simp at a)
def evalL (G : Nat) (tm : H Value) : List Operand → Option (List Value)
  | [] => some []
  | x :: xs => match evalA G tm x with
    | some v => match evalL G tm xs with
      | some vs => some (v :: vs)
      | none => none
    | none => none
theorem evalL_rel (R : Rel P G w0 μ h w) (T : TRel μ tm a) : ∀ {xs : List Operand} {vs : List Value}, evalL G tm xs = some vs → LRel μ vs (xs.map a.eval)
  | [], vs, hv => by simp only [evalL, Option.some.injEq] at hv; subst hv; exact LRel.nil μ
  | x :: xs, vs, hv => by
    simp only [evalL] at hv
    split at hv
    · rename_i v h1
      split at hv
      · rename_i us h2
        cases hv
        exact LRel.cons (evalA_rel R T h1) (evalL_rel R T h2)
      · cases hv
    · cases hv
/-- What an operation comes to. -/
def OpRun (P : Program) (o : Oper) (a : Act) (w : World) (r : Res) (μ : Mu) (w' : World) : Prop := match r with
  | .val v => ∃ v', VRel μ v v' ∧ (execOp a.eval o).run P w = .ok (.value v') w'
  | .skip => (execOp a.eval o).run P w = .ok .skip w'
  | .enter f args => ∃ args', LRel μ args.toList args'.toList ∧ (execOp a.eval o).run P w = .ok (.enter f args') w'
  | .defer f args => ∃ d : Deferred, (execOp a.eval o).run P w = .ok (.defer d) w' ∧ ∃ cap da, d.target = .fn (.func f) cap ∧ d.args = da ∧ LRel μ args.toList (da ++ cap).toList
  | .panic v => ∃ v', VRel μ v v' ∧ (execOp a.eval o).run P w = .halt (.panic v') w'
  | .recover => (execOp a.eval o).run P w = .ok .recover w'
def Good (P : Program) (G : Nat) (w0 : Base) (o : Oper) (a : Act) (μ : Mu) (h : H Ent) (w : World) (next : Nat) (r : Res) (upd : Option (Nat × Option Ent)) (new : Option Ent) : Prop :=
  ∃ μ' w', μ.le μ' ∧ (∀ k, k ≠ next → μ' k = μ k) ∧ (new = none → μ' = μ) ∧ Rel P G w0 μ' (applyH h next upd new) w' ∧ OpRun P o a w r μ' w'
theorem good_val (R : Rel P G w0 μ h w) {o : Oper} {next : Nat} {v v' : Value} (hv : VRel μ v v') (hr : (execOp a.eval o).run P w = .ok (.value v') w) : Good P G w0 o a μ h w next (.val v) none none :=
  ⟨μ, w, Mu.le_refl μ, fun _ _ => rfl, fun _ => rfl, R, v', hv, hr⟩
/-- An operation without a look at memory. -/
def okV (v : Value) : Option Step := some ⟨[], fun _ _ => some (.val v, none, none)⟩
/-- 'stp' is right for o: whatever it comes to. -/
def Right (P : Program) (G : Nat) (w0 : Base) (o : Oper) (tm : H Value) (stp : Option Step) : Prop :=
  ∀ s, stp = some s → ∀ (μ : Mu) (h : H Ent) (w : World) (a : Act) (next : Nat) r upd new, Rel P G w0 μ h w → TRel μ tm a → s.run (s.ids.map h.get) next = some (r, upd, new) → μ next = none → Good P G w0 o a μ h w next r upd new
theorem right_none {o : Oper} : Right P G w0 o tm none := fun s hs => by cases hs
theorem right_val {o : Oper} {v : Value} (hv : ∀ (μ : Mu) (h : H Ent) (w : World) (a : Act), Rel P G w0 μ h w → TRel μ tm a → ∃ v', VRel μ v v' ∧ (execOp a.eval o).run P w = .ok (.value v') w) : Right P G w0 o tm (okV v) := by
  intro s hs μ h w a next r upd new R T hr hn
  cases hs
  simp only [List.map_nil, Option.some.injEq, Prod.mk.injEq] at hr
  obtain ⟨rfl, rfl, rfl⟩ := hr
  obtain ⟨v', h1, h2⟩ := hv μ h w a R T
  exact good_val R h1 h2
/-- What is reckoned out of closed values alone. -/
def okP (P : Program) (s : Sem Value) : Option Step := match prun P s with
  | some (.ok v) => if closed v then okV v else none
  | some (.error v) => if closed v then some ⟨[], fun _ _ => some (.panic v, none, none)⟩ else none
  | none => none
theorem run_v {s : Sem Value} {v : Value} {w w' : World} (h : s.run P w = .ok v w') : (do pure (Next.value (← s)) : Sem Next).run P w = .ok (.value v) w' := by
  rw [Sem.run_bind, h]; rfl
theorem run_vp {s : Sem Value} {v : Value} {w w' : World} (h : s.run P w = .halt (.panic v) w') : (do pure (Next.value (← s)) : Sem Next).run P w = .halt (.panic v) w' := by
  rw [Sem.run_bind, h]; rfl
theorem right_pure {o : Oper} {s : Sem Value} (hs : ∀ (μ : Mu) (h : H Ent) (w : World) (a : Act), Rel P G w0 μ h w → TRel μ tm a → execOp a.eval o = (do pure (Next.value (← s)) : Sem Next)) : Right P G w0 o tm (okP P s) := by
  intro t ht μ h w a next r upd new R T hr hn
  unfold okP at ht
  split at ht
  · rename_i v hv
    split at ht
    · rename_i hc
      cases ht
      simp only [List.map_nil, Option.some.injEq, Prod.mk.injEq] at hr
      obtain ⟨rfl, rfl, rfl⟩ := hr
      exact good_val R (closed_rel μ hc) (by rw [hs μ h w a R T]; exact run_v (prun_ok hv w))
    · cases ht
  · rename_i v hv
    split at ht
    · rename_i hc
      cases ht
      simp only [List.map_nil, Option.some.injEq, Prod.mk.injEq] at hr
      obtain ⟨rfl, rfl, rfl⟩ := hr
      exact ⟨μ, w, Mu.le_refl μ, fun _ _ => rfl, fun _ => rfl, R, v, closed_rel μ hc, by rw [hs μ h w a R T]; exact run_vp (prun_panic hv w)⟩
    · cases ht
  · cases ht

/-! ### moves, picks, checks -/
def oMove (G : Nat) (tm : H Value) (x : Operand) : Option Step := match evalA G tm x with
  | some v => okV v
  | none => none
theorem right_move {o : Oper} {x : Operand} (ho : o.op = .move x ∨ o.op = .assign x) : Right P G w0 o tm (oMove G tm x) := by
  unfold oMove
  split
  · rename_i v hv
    refine right_val fun μ h w a R T => ⟨_, evalA_rel R T hv, ?_⟩
    rcases ho with ho | ho <;> simp [execOp, ho]
  · exact right_none
def oPick (G : Nat) (tm : H Value) (c x y : Operand) : Option Step := match evalA G tm c, evalA G tm x, evalA G tm y with
  | some (.bool t), some u, some v => okV (if t then u else v)
  | _, _, _ => none
theorem right_pick {o : Oper} {c x y : Operand} (ho : o.op = .pick c x y) : Right P G w0 o tm (oPick G tm c x y) := by
  unfold oPick
  split
  · rename_i t u v hc hu hv
    refine right_val fun μ h w a R T => ?_
    have rc := evalA_rel R T hc
    generalize hcv : a.eval c = cv at rc
    cases rc
    refine ⟨if t then a.eval x else a.eval y, ?_, ?_⟩
    · cases t
      · exact evalA_rel R T hv
      · exact evalA_rel R T hu
    · simp [execOp, ho, hcv, asBool]
  · exact right_none
def oNilCheck (G : Nat) (tm : H Value) (x : Operand) : Option Step := match evalA G tm x with
  | some (.pointer (some b)) => okV (.pointer (some b))
  | some (.func (.func f) y c) => okV (.func (.func f) y c)
  | _ => none
theorem right_nilCheck {o : Oper} {x : Operand} (ho : o.op = .nilCheck x) : Right P G w0 o tm (oNilCheck G tm x) := by
  unfold oNilCheck
  split
  · rename_i b hv
    refine right_val fun μ h w a R T => ?_
    have r := evalA_rel R T hv
    refine ⟨_, r, ?_⟩
    generalize hx : a.eval x = v' at r
    cases r
    simp [execOp, ho, hx]
  · rename_i f y c hv
    refine right_val fun μ h w a R T => ?_
    have r := evalA_rel R T hv
    refine ⟨_, r, ?_⟩
    generalize hx : a.eval x = v' at r
    cases r
    simp [execOp, ho, hx]
  · exact right_none

/-! ### two operands -/
def eqL : List UInt8 → List UInt8 → Bool
  | [], [] => true
  | a :: x, b :: y => bif Nat.beq a.toNat b.toNat then eqL x y else false
  | _, _ => false
theorem eqL_is : ∀ x y : List UInt8, eqL x y = (x == y)
  | [], [] => rfl
  | [], _ :: _ => rfl
  | _ :: _, [] => rfl
  | a :: x, b :: y => by
    simp only [eqL, eqL_is x y, cond_eq_ite, Nat.beq_eq]
    by_cases e : a = b
    · subst e; simp
    · have : ¬ a.toNat = b.toNat := fun q => e (UInt8.toNat_inj.1 q)
      simp [this, e]
def nilPair (d : Option TypeDesc) (u v : Value) : Bool := match d, u, v with
  | some (.pointer _), .pointer none, .pointer (some _) | some (.pointer _), .pointer (some _), .pointer none => true
  | some (.slice _), .slice none _ _, .slice (some _) _ _ | some (.slice _), .slice (some _) _ _, .slice none _ _ => true
  | some (.map _ _), .map none, .map (some _) | some (.map _ _), .map (some _), .map none => true
  | some (.func _ _ _), .nilFunc, .func _ _ _ | some (.func _ _ _), .func _ _ _, .nilFunc => true
  | some (.interface _), .nilIface, .iface _ _ | some (.interface _), .iface _ _, .nilIface => true
  | _, _, _ => false
/-! whole numbers, by a quick road -/
def limF : IntKind → Nat
  | .u8 => 256
  | .u16 => 65536
  | .u32 => 4294967296
  | .u64 => 18446744073709551616
  | .i32 => 2147483648
  | .i64 => 9223372036854775808
  | _ => 0
def wrapF (k : IntKind) (n : Int) : Int := match n with
  | .ofNat m => bif Nat.blt m (limF k) then .ofNat m else k.wrap (.ofNat m)
  | .negSucc m => k.wrap (.negSucc m)
theorem wrapF_eq (k : IntKind) (n : Int) : wrapF k n = k.wrap n := by
  cases n with
  | negSucc m => rfl
  | ofNat m =>
    simp only [wrapF, cond_eq_ite, Nat.blt_eq]
    split
    · rename_i h
      cases k <;> simp only [limF] at h
      all_goals first
        | omega
        | (rw [IntKind.wrap_u8]; simp only [Int.ofNat_eq_natCast]; omega)
        | (rw [IntKind.wrap_u16]; simp only [Int.ofNat_eq_natCast]; omega)
        | (rw [IntKind.wrap_u32]; simp only [Int.ofNat_eq_natCast]; omega)
        | (rw [IntKind.wrap_u64]; simp only [Int.ofNat_eq_natCast]; omega)
        | (rw [IntKind.wrap_i32]; simp only [Int.ofNat_eq_natCast]; omega)
        | (rw [IntKind.wrap_i64]; simp only [Int.ofNat_eq_natCast]; omega)
    · rfl
def eqI : Int → Int → Bool
  | .ofNat a, .ofNat b => Nat.beq a b
  | .negSucc a, .negSucc b => Nat.beq a b
  | _, _ => false
def ltI : Int → Int → Bool
  | .ofNat a, .ofNat b => Nat.blt a b
  | .negSucc _, .ofNat _ => true
  | .ofNat _, .negSucc _ => false
  | .negSucc a, .negSucc b => Nat.blt b a
theorem eqI_eq (a b : Int) : eqI a b = decide (a = b) := by
  cases a <;> cases b <;> rw [Bool.eq_iff_iff, decide_eq_true_iff] <;> simp only [eqI, Nat.beq_eq, Bool.false_eq_true, false_iff, Int.negSucc.injEq, Int.ofNat_eq_natCast]
  · omega
  · omega
  · omega
theorem ltI_eq (a b : Int) : ltI a b = decide (a < b) := by
  cases a <;> cases b <;> rw [Bool.eq_iff_iff, decide_eq_true_iff] <;> simp only [ltI, Nat.blt_eq, Bool.false_eq_true, false_iff, true_iff, Int.ofNat_eq_natCast] <;> omega
def fastI (op : BinOp) (k : IntKind) (a b : Int) : Option Value := match op with
  | .add => some (.int k (wrapF k (Int.add a b)))
  | .sub => some (.int k (wrapF k (Int.sub a b)))
  | .eql => some (.bool (eqI a b))
  | .neq => some (.bool (!eqI a b))
  | .lss => some (.bool (ltI a b))
  | .leq => some (.bool (!ltI b a))
  | .gtr => some (.bool (ltI b a))
  | .geq => some (.bool (!ltI a b))
  | _ => none
theorem fastI_run {op : BinOp} {k : IntKind} {a b : Int} {v : Value} (h : fastI op k a b = some v) (t : TypeId) (x y : Operand) : (do eqGuard op t x y (.int k a) (.int k b); binOp op t (.int k a) (.int k b) : Sem Value) = pure v := by
  have e1 : eqGuard op t x y (.int k a) (.int k b) = pure () := by
    unfold eqGuard; split <;> rfl
  rw [e1]
  change binOp op t (.int k a) (.int k b) = pure v
  cases op <;> simp only [fastI, Option.some.injEq, reduceCtorEq] at h <;> subst h <;> simp [binOp, Op.intArith, Op.intCmp, wrapF_eq, eqI_eq, ltI_eq]
  all_goals first
    | rfl
    | (congr 2; rw [Bool.eq_iff_iff]; simp)
def oBin (P : Program) (G : Nat) (tm : H Value) (op : BinOp) (t : TypeId) (x y : Operand) : Option Step :=
  match evalA G tm x, evalA G tm y with
  | some (.int k a), some (.int k' b) => match fastI op k a b with
    | some v => if k = k' then okV v else none
    | none => okP P (do eqGuard op t x y (.int k a) (.int k' b); binOp op t (.int k a) (.int k' b))
  | some (.string s), some (.string s') => match op with
    | .eql => okV (.bool (eqL s.data.toList s'.data.toList))
    | .neq => okV (.bool (!eqL s.data.toList s'.data.toList))
    | _ => okP P (Op.stringOp op s s')
  | some u, some v =>
    if closed u && closed v then okP P (do eqGuard op t x y u v; binOp op t u v)
    else if nilPair (P.underlying t) u v then match op with
      | .eql => okV (.bool false)
      | .neq => okV (.bool true)
      | _ => none
    else none
  | _, _ => none
theorem nilPair_run {t : TypeId} {u v u' v' : Value} (hn : nilPair (P.underlying t) u v = true) (hu : VRel μ u u') (hv : VRel μ v v') (x y : Operand) (w : World) :
    (do eqGuard .eql t x y u' v'; binOp .eql t u' v' : Sem Value).run P w = .ok (.bool false) w ∧ (do eqGuard .neq t x y u' v'; binOp .neq t u' v' : Sem Value).run P w = .ok (.bool true) w := by
  generalize hd : P.underlying t = d at hn
  unfold nilPair at hn
  have fin : (∀ n, (Op.equalIn (n + 1) t u' v').run P w = .ok false w) → eqGuard .eql t x y u' v' = pure () → eqGuard .neq t x y u' v' = pure () → binOp .eql t u' v' = (do pure (.bool (← Op.equal t u' v')) : Sem Value) → binOp .neq t u' v' = (do pure (.bool (!(← Op.equal t u' v'))) : Sem Value) →
      (do eqGuard .eql t x y u' v'; binOp .eql t u' v' : Sem Value).run P w = .ok (.bool false) w ∧ (do eqGuard .neq t x y u' v'; binOp .neq t u' v' : Sem Value).run P w = .ok (.bool true) w := fun h1 h2 h3 h4 h5 => by
    have h1' : (Op.equal t u' v').run P w = .ok false w := h1 9999
    rw [h2, h3, h4, h5]
    exact ⟨by rw [Sem.run_bind, Sem.run_pure, Result.andThen_ok, Sem.run_bind, h1']; rfl, by rw [Sem.run_bind, Sem.run_pure, Result.andThen_ok, Sem.run_bind, h1']; rfl⟩
  split at hn <;> first
    | (cases hn; done)
    | (cases hu; cases hv; exact fin (fun n => by unfold Op.equalIn; rw [Sem.run_bind, run_underlying hd]; rfl) rfl rfl rfl rfl)
theorem right_bin {o : Oper} {op : BinOp} {t ty : TypeId} {x y : Operand} (ho : o.op = .binOp op t x y ty) : Right P G w0 o tm (oBin P G tm op t x y) := by
  unfold oBin
  split
  · rename_i k i k' i' hx hy
    split
    · rename_i v hv
      split
      · rename_i hk
        subst hk
        refine right_val fun μ h w a R T => ⟨v, ?_, ?_⟩
        · cases op <;> simp only [fastI, Option.some.injEq, reduceCtorEq] at hv <;> subst hv <;> first | exact .int _ _ | exact .bool _
        · have rx := evalA_rel R T hx
          have ry := evalA_rel R T hy
          generalize hx' : a.eval x = u' at rx
          generalize hy' : a.eval y = v' at ry
          cases rx
          cases ry
          simp only [execOp, ho, hx', hy']
          refine run_v ?_
          rw [fastI_run hv]
          rfl
      · exact right_none
    · refine right_pure fun μ h w a R T => ?_
      have rx := evalA_rel R T hx
      have ry := evalA_rel R T hy
      generalize hx' : a.eval x = u' at rx
      generalize hy' : a.eval y = v' at ry
      cases rx
      cases ry
      simp only [execOp, ho, hx', hy']
  · rename_i s s' hx hy
    have key : ∀ (μ : Mu) (h : H Ent) (w : World) (a : Act), Rel P G w0 μ h w → TRel μ tm a → execOp a.eval o = (do pure (Next.value (← Op.stringOp op s s')) : Sem Next) := fun μ h w a R T => by
      have rx := evalA_rel R T hx
      have ry := evalA_rel R T hy
      generalize hx' : a.eval x = u' at rx
      generalize hy' : a.eval y = v' at ry
      cases rx
      cases ry
      have : ∀ op, (do eqGuard op t x y (.string s) (.string s'); binOp op t (.string s) (.string s') : Sem Value) = Op.stringOp op s s' := fun op => by
        have e1 : eqGuard op t x y (.string s) (.string s') = pure () := by
          unfold eqGuard; split <;> rfl
        rw [e1]
        cases op <;> rfl
      simp only [execOp, ho, hx', hy']
      rw [← this op]
    split
    · refine right_val fun μ h w a R T => ⟨_, .bool _, ?_⟩
      rw [key μ h w a R T]
      refine run_v ?_
      simp [Op.stringOp, eqL_is, ByteArray.toList_eq]
    · refine right_val fun μ h w a R T => ⟨_, .bool _, ?_⟩
      rw [key μ h w a R T]
      refine run_v ?_
      simp [Op.stringOp, eqL_is, ByteArray.toList_eq]
    · exact right_pure key
  · rename_i u v _ hx hy
    split
    · rename_i hc
      simp only [Bool.and_eq_true] at hc
      refine right_pure fun μ h w a R T => ?_
      have ex := closed_eq hc.1 (evalA_rel R T hx)
      have ey := closed_eq hc.2 (evalA_rel R T hy)
      simp only [execOp, ho, ex, ey]
    · split
      · rename_i hn
        split
        · refine right_val fun μ h w a R T => ⟨_, .bool _, ?_⟩
          simp only [execOp, ho]
          exact run_v (nilPair_run hn (evalA_rel R T hx) (evalA_rel R T hy) x y w).1
        · refine right_val fun μ h w a R T => ⟨_, .bool _, ?_⟩
          simp only [execOp, ho]
          exact run_v (nilPair_run hn (evalA_rel R T hx) (evalA_rel R T hy) x y w).2
        · exact right_none
      · exact right_none
  · exact right_none
def oUn (P : Program) (G : Nat) (tm : H Value) (op : UnOp) (x : Operand) : Option Step := match evalA G tm x with
  | some u => if closed u then okP P (Op.unary op u) else none
  | none => none
theorem right_un {o : Oper} {op : UnOp} {t : TypeId} {x : Operand} (ho : o.op = .unOp op t x) : Right P G w0 o tm (oUn P G tm op x) := by
  unfold oUn
  split
  · rename_i u hx
    split
    · rename_i hc
      refine right_pure fun μ h w a R T => ?_
      have ex := closed_eq hc (evalA_rel R T hx)
      simp only [execOp, ho, ex]
    · exact right_none
  · exact right_none
def oMakeInterface (P : Program) (G : Nat) (tm : H Value) (t : TypeId) (x : Operand) : Option Step := match evalA G tm x with
  | some u => match P.underlying t with
    | some (.interface _) => none
    | some _ => okV (.iface t u)
    | none => none
  | none => none
theorem right_makeInterface {o : Oper} {t : TypeId} {x : Operand} (ho : o.op = .makeInterface t x) : Right P G w0 o tm (oMakeInterface P G tm t x) := by
  unfold oMakeInterface
  split
  · rename_i u hx
    split
    · exact right_none
    · rename_i d hd hne
      refine right_val fun μ h w a R T => ⟨_, .iface t (evalA_rel R T hx), ?_⟩
      simp only [execOp, ho]
      refine run_v ?_
      unfold Instr.makeInterface
      rw [Sem.run_bind, run_underlying hne]
      simp only [Result.andThen_ok]
      cases d <;> first | (exact absurd rfl (hd _)) | rfl
    · exact right_none
  · exact right_none
def oMakeFunc (G : Nat) (tm : H Value) (fn : Fn) (first captured : Array Operand) : Option Step := match fn with
  | .func f => match evalL G tm first.toList, evalL G tm captured.toList with
    | some x, some c => okV (.func (.func f) x.toArray c.toArray)
    | _, _ => none
  | _ => none
theorem right_makeFunc {o : Oper} {fn : Fn} {first captured : Array Operand} (ho : o.op = .makeFunc fn first captured) : Right P G w0 o tm (oMakeFunc G tm fn first captured) := by
  unfold oMakeFunc
  split
  · rename_i f
    split
    · rename_i x c hx hc
      refine right_val fun μ h w a R T => ⟨.func (.func f) (first.map a.eval) (captured.map a.eval), ?_, ?_⟩
      · have r1 := evalL_rel R T hx
        have r2 := evalL_rel R T hc
        refine .func f ?_ ?_ ?_ ?_
        · have := r1.1; simpa using this
        · intro i v v' p q; exact r1.2 i v v' (by simpa using p) (by simpa using q)
        · have := r2.1; simpa using this
        · intro i v v' p q; exact r2.2 i v v' (by simpa using p) (by simpa using q)
      · simp only [execOp, ho]
        exact run_v rfl
    · exact right_none
  · exact right_none

/-! ### parts of structs, addresses -/
def isRow : Option TypeDesc → Bool
  | some (.struct _) | some (.array _ _) => true
  | _ => false
def partA (P : Program) (t : TypeId) (c : List Value) (off : Nat) : Option Value := match P.underlying t with
  | none => none
  | some d => if isRow (some d) then match P.info? t with
      | some i => some (.agg ((c.drop off).take i.size).toArray)
      | none => none
    else c[off]?
theorem part_run {t : TypeId} {c : List Value} {c' : Array Value} {off : Nat} {v : Value} (hp : partA P t c off = some v) (hc : LRel μ c c'.toList) (w : World) : ∃ v', VRel μ v v' ∧ (part t c' off).run P w = .ok v' w := by
  unfold partA at hp
  split at hp
  · cases hp
  · rename_i d hd
    have hagg : (isAgg t).run P w = .ok (isRow (some d)) w := by
      unfold isAgg
      rw [Sem.run_bind, run_underlying hd w]
      cases d <;> rfl
    split at hp
    · rename_i hr
      split at hp
      · rename_i i hi
        cases hp
        refine ⟨.agg (c'.extract off (off + i.size)), VRel.of_list ?_, ?_⟩
        · have := (hc.drop off).take i.size
          simpa [List.extract_eq_take_drop] using this
        · rw [hr] at hagg
          simp [part, hagg, sizeOf, typeInfo, hi]
      · cases hp
    · rename_i hr
      obtain ⟨v', h1, h2⟩ := hc.get hp
      refine ⟨v', h2, ?_⟩
      rw [Bool.not_eq_true] at hr
      rw [hr] at hagg
      have h1' : c'[off]? = some v' := by simpa using h1
      simp [part, hagg, h1']
def oField (P : Program) (G : Nat) (tm : H Value) (t : TypeId) (x : Operand) (f : Nat) : Option Step := match evalA G tm x, P.underlying t with
  | some (.agg c), some (.struct fs) => match fs[f]? with
    | some fd => match partA P fd.type c.toList fd.offset with
      | some v => okV v
      | none => none
    | none => none
  | _, _ => none
theorem right_field {o : Oper} {t : TypeId} {x : Operand} {f : Nat} (ho : o.op = .field t x f) : Right P G w0 o tm (oField P G tm t x f) := by
  unfold oField
  split
  · rename_i c fs hx hd
    split
    · rename_i fd hf
      split
      · rename_i v hp
        refine right_val fun μ h w a R T => ?_
        obtain ⟨c', e, hc⟩ := VRel.agg_iff (evalA_rel R T hx)
        obtain ⟨v', h1, h2⟩ := part_run hp hc w
        refine ⟨v', h1, ?_⟩
        simp only [execOp, ho, e]
        refine run_v ?_
        simp [Instr.field, run_underlying hd, hf, asAgg, h2]
      · exact right_none
    · exact right_none
  · exact right_none
def oFieldAddr (P : Program) (G : Nat) (tm : H Value) (t : TypeId) (x : Operand) (f : Nat) : Option Step := match evalA G tm x, P.underlying t with
  | some (.pointer (some ⟨b, o, none⟩)), some (.struct fs) => match fs[f]? with
    | some fd => match P.info? fd.type with
      | some i => if i.size = 0 then none else okV (.pointer (some ⟨b, o + fd.offset, none⟩))
      | none => none
    | none => none
  | _, _ => none
theorem right_fieldAddr {o : Oper} {t : TypeId} {x : Operand} {f : Nat} (ho : o.op = .fieldAddr t x f) : Right P G w0 o tm (oFieldAddr P G tm t x f) := by
  unfold oFieldAddr
  split
  · rename_i b off fs hx hd
    split
    · rename_i fd hf
      split
      · rename_i i hi
        split
        · exact right_none
        · rename_i hz
          refine right_val fun μ h w a R T => ?_
          have r := evalA_rel R T hx
          generalize hx' : a.eval x = v' at r
          cases r
          rename_i m hm
          refine ⟨_, .ptr (off + fd.offset) hm, ?_⟩
          simp only [execOp, ho, hx']
          refine run_v ?_
          simp [Instr.fieldAt, run_underlying hd, hf, Instr.sureAddr, fieldPlace, sizeOf, typeInfo, hi, hz, Addr.add_lit]
      · exact right_none
    · exact right_none
  · exact right_none
def inRange (i : Int) (n : Nat) : Bool := decide (0 ≤ i) && decide (i < n)
def oIndexAddr (P : Program) (G : Nat) (tm : H Value) (t : TypeId) (x ix : Operand) : Option Step := match evalA G tm x, evalA G tm ix, P.underlying t with
  | some (.slice (some ⟨b, o, none⟩) n _), some (.int _ i), some (.slice e) => match P.info? e with
    | some ie => if inRange i n then okV (.pointer (some ⟨b, o + i.toNat * ie.size, none⟩)) else none
    | none => none
  | some (.pointer (some ⟨b, o, none⟩)), some (.int _ i), some (.array n e) => match P.info? e with
    | some ie => if inRange i n then okV (.pointer (some ⟨b, o + i.toNat * ie.size, none⟩)) else none
    | none => none
  | _, _, _ => none
theorem right_indexAddr {o : Oper} {t : TypeId} {x ix : Operand} (ho : o.op = .indexAddr t x ix) : Right P G w0 o tm (oIndexAddr P G tm t x ix) := by
  unfold oIndexAddr
  split
  · rename_i b off n c k i e hx hi hd
    split
    · rename_i ie he
      split
      · rename_i hr
        simp only [inRange, Bool.and_eq_true, decide_eq_true_iff] at hr
        refine right_val fun μ h w a R T => ?_
        have r := evalA_rel R T hx
        have r2 := evalA_rel R T hi
        generalize hx' : a.eval x = v' at r
        generalize hi' : a.eval ix = u' at r2
        cases r
        cases r2
        rename_i m c' hm hc hg hn
        refine ⟨_, .ptr (off + i.toNat * ie.size) hm, ?_⟩
        simp only [execOp, ho, hx', hi']
        refine run_v ?_
        simp [Instr.indexAt, asIntOf, run_underlying hd, hr, sizeOf, typeInfo, he, Addr.add_lit]
      · exact right_none
    · exact right_none
  · rename_i b off k i n e hx hi hd
    split
    · rename_i ie he
      split
      · rename_i hr
        simp only [inRange, Bool.and_eq_true, decide_eq_true_iff] at hr
        refine right_val fun μ h w a R T => ?_
        have r := evalA_rel R T hx
        have r2 := evalA_rel R T hi
        generalize hx' : a.eval x = v' at r
        generalize hi' : a.eval ix = u' at r2
        cases r
        cases r2
        rename_i m hm
        refine ⟨_, .ptr (off + i.toNat * ie.size) hm, ?_⟩
        simp only [execOp, ho, hx', hi']
        refine run_v ?_
        simp [Instr.indexAt, asIntOf, run_underlying hd, hr, Instr.sureAddr, sizeOf, typeInfo, he, Addr.add_lit]
      · exact right_none
    · exact right_none
  · exact right_none
def oIndex (P : Program) (G : Nat) (tm : H Value) (t : TypeId) (x ix : Operand) : Option Step := match evalA G tm x, evalA G tm ix with
  | some u, some v => if closed u && closed v then okP P (Instr.index t u v) else none
  | _, _ => none
theorem right_index {o : Oper} {t : TypeId} {x ix : Operand} (ho : o.op = .index t x ix) : Right P G w0 o tm (oIndex P G tm t x ix) := by
  unfold oIndex
  split
  · rename_i u v hx hy
    split
    · rename_i hc
      simp only [Bool.and_eq_true] at hc
      refine right_pure fun μ h w a R T => ?_
      have ex := closed_eq hc.1 (evalA_rel R T hx)
      have ey := closed_eq hc.2 (evalA_rel R T hy)
      simp only [execOp, ho, ex, ey]
    · exact right_none
  · exact right_none
def oExtract (G : Nat) (tm : H Value) (x : Operand) (i : Nat) : Option Step := match evalA G tm x with
  | some (.tuple vs) => match vs[i]? with
    | some v => okV v
    | none => none
  | _ => none
theorem right_extract {o : Oper} {x : Operand} {i : Nat} (ho : o.op = .extract x i) : Right P G w0 o tm (oExtract G tm x i) := by
  unfold oExtract
  split
  · rename_i vs hx
    split
    · rename_i v hv
      refine right_val fun μ h w a R T => ?_
      obtain ⟨c', e, hc⟩ := VRel.tuple_iff (evalA_rel R T hx)
      obtain ⟨v', h1, h2⟩ := hc.get (by simpa using hv)
      have h1' : c'[i]? = some v' := by simpa using h1
      refine ⟨v', h2, ?_⟩
      simp only [execOp, ho, e]
      refine run_v ?_
      simp [Instr.extract, h1']
    · exact right_none
  · exact right_none
def notOk (P : Program) (t : TypeId) (ok : Bool) : Option Step := if ok then match (P.info? t).bind (·.zero) with
    | some z => if closed (.tuple #[z, .bool false]) then okV (.tuple #[z, .bool false]) else none
    | none => none
  else none
def oTypeAssert (P : Program) (G : Nat) (tm : H Value) (x : Operand) (t : TypeId) (ok : Bool) : Option Step := match evalA G tm x, P.underlying t with
  | some _, some (.interface _) => none
  | some (.iface u v), some _ => if u = t then okV (if ok then .tuple #[v, .bool true] else v) else notOk P t ok
  | some .nilIface, some _ => notOk P t ok
  | _, _ => none
theorem zeroValue_run {t : TypeId} {z : Value} (hz : (P.info? t).bind (·.zero) = some z) (w : World) : (zeroValue t).run P w = .ok z w := by
  cases hi : P.info? t with
  | none => simp [hi] at hz
  | some i =>
    rw [hi] at hz
    simp only [Option.bind_some] at hz
    simp [zeroValue, typeInfo, hi, hz]
theorem right_notOk {o : Oper} {t : TypeId} {ok : Bool} (hr : ∀ z, ok = true → (P.info? t).bind (·.zero) = some z → ∀ (μ : Mu) (h : H Ent) (w : World) (a : Act), Rel P G w0 μ h w → TRel μ tm a → (execOp a.eval o).run P w = .ok (.value (.tuple #[z, .bool false])) w) : Right P G w0 o tm (notOk P t ok) := by
  unfold notOk
  split
  · rename_i hok
    split
    · rename_i z hz
      split
      · rename_i hc
        exact right_val fun μ h w a R T => ⟨_, closed_rel μ hc, hr z hok hz μ h w a R T⟩
      · exact right_none
    · exact right_none
  · exact right_none
theorem right_typeAssert {o : Oper} {x : Operand} {t xt : TypeId} {ok : Bool} (ho : o.op = .typeAssert x xt t ok) : Right P G w0 o tm (oTypeAssert P G tm x t ok) := by
  unfold oTypeAssert
  split
  · exact right_none
  · rename_i u v d hni hx hd
    have hnot : ∀ ms, d ≠ .interface ms := fun ms e => hni ms e
    split
    · rename_i hu
      subst hu
      refine right_val fun μ h w a R T => ?_
      have r := evalA_rel R T hx
      generalize hx' : a.eval x = v' at r
      cases r
      rename_i v'' hv
      refine ⟨if ok then .tuple #[v'', .bool true] else v'', ?_, ?_⟩
      · cases ok
        · exact hv
        · exact VRel.of_tuple (LRel.cons hv (LRel.cons (.bool true) (LRel.nil _)))
      · simp only [execOp, ho, hx']
        refine run_v ?_
        unfold Instr.typeAssert
        simp only [Sem.run_bind, run_underlying hd, Result.andThen_ok]
        cases d <;> first | (exact absurd rfl (hnot _)) | simp
    · rename_i hne
      refine right_notOk fun z hok hz μ h w a R T => ?_
      have r := evalA_rel R T hx
      generalize hx' : a.eval x = v' at r
      cases r
      rename_i v'' hv
      subst hok
      simp only [execOp, ho, hx']
      refine run_v ?_
      unfold Instr.typeAssert
      simp only [Sem.run_bind, run_underlying hd, Result.andThen_ok]
      cases d <;> first | (exact absurd rfl (hnot _)) | simp [hne, zeroValue_run hz]
  · rename_i d hni hx hd
    have hnot : ∀ ms, d ≠ .interface ms := fun ms e => hni ms e
    refine right_notOk fun z hok hz μ h w a R T => ?_
    have r := evalA_rel R T hx
    generalize hx' : a.eval x = v' at r
    cases r
    subst hok
    simp only [execOp, ho, hx']
    refine run_v ?_
    unfold Instr.typeAssert
    simp only [Sem.run_bind, run_underlying hd, Result.andThen_ok]
    cases d <;> first | (exact absurd rfl (hnot _)) | simp [zeroValue_run hz]
  · exact right_none
end
end
end Go.Proofs.YtefhaojjohddaaaGreatDoor.AM
