/- The abstract machine, part T: what was reckoned once is known. -/
import Derived.Test.YtefhaojjohddaaaGreatDoorAmS
namespace Go.Proofs.YtefhaojjohddaaaGreatDoor.AM
open Go Go.RowKit
noncomputable section

def eqEnt : Ent → Ent → Bool
  | .cells wr g c e, .cells wr' g' c' e' => (wr == wr' && g == g') && (Nat.beq e e' && eqVL eqS c c')
  | _, _ => false
theorem eqEnt_eq {x y : Ent} (h : eqEnt x y = true) : x = y := by
  cases x <;> cases y <;> simp only [eqEnt, Bool.and_eq_true, beq_iff_eq, Nat.beq_eq, Bool.false_eq_true] at h
  obtain ⟨⟨rfl, rfl⟩, h3, h4⟩ := h
  rw [h3, eqVL_eq eqS_eq _ _ h4]
def treeOf : List (Nat × Ent) → H Ent → H Ent
  | [], h => h
  | (id, e) :: l, h => treeOf l (h.set id (some e))
def dropAll : List (Nat × Ent) → H Ent → H Ent
  | [], h => h
  | (id, _) :: l, h => dropAll l (h.set id none)
/-- The last entry at a number. -/
def lastOf (l : List (Nat × Ent)) (id : Nat) (x : Option Ent) : Option Ent := match l with
  | [] => x
  | (j, e) :: l => lastOf l id (if id = j then some e else x)
theorem treeOf_get : ∀ (l : List (Nat × Ent)) (h : H Ent) (id : Nat), (treeOf l h).get id = lastOf l id (h.get id)
  | [], h, id => rfl
  | (j, e) :: l, h, id => by rw [treeOf, treeOf_get l, H.get_set]; rfl
theorem lastOf_or : ∀ (l : List (Nat × Ent)) (id : Nat) (x : Option Ent), (∃ e, (id, e) ∈ l ∧ ∀ x, lastOf l id x = some e) ∨ ((∀ e, (id, e) ∉ l) ∧ ∀ x, lastOf l id x = x)
  | [], id, x => .inr ⟨fun e h => (by cases h), fun x => rfl⟩
  | (j, e) :: l, id, x => by
    rcases lastOf_or l id x with ⟨e', h1, h2⟩ | ⟨h1, h2⟩
    · exact .inl ⟨e', List.mem_cons_of_mem _ h1, fun x => h2 _⟩
    · by_cases hj : id = j
      · subst hj
        exact .inl ⟨e, List.mem_cons_self, fun x => by rw [lastOf, h2, if_pos rfl]⟩
      · refine .inr ⟨fun e' h => ?_, fun x => by rw [lastOf, h2, if_neg hj]⟩
        cases h with
        | head => exact hj rfl
        | tail _ h => exact h1 e' h
theorem dropAll_get : ∀ (l : List (Nat × Ent)) (h : H Ent) (id : Nat), (dropAll l h).get id = none ∨ ((dropAll l h).get id = h.get id ∧ ∀ e, (id, e) ∉ l)
  | [], h, id => .inr ⟨rfl, fun e h => (by cases h)⟩
  | (j, e) :: l, h, id => by
    rcases dropAll_get l (h.set j none) id with h1 | ⟨h1, h2⟩
    · exact .inl h1
    · rw [H.get_set] at h1
      by_cases hj : id = j
      · rw [if_pos hj] at h1; exact .inl h1
      · rw [if_neg hj] at h1
        refine .inr ⟨h1, fun e' h => ?_⟩
        cases h with
        | head => exact hj rfl
        | tail _ h => exact h2 e' h
/-- A call that was reckoned once. -/
structure Fact where
  f : FuncId
  args : List Value
  pre : List (Nat × Ent)     -- what it needs
  n0 : Nat
  r : CRes
  post : List (Nat × Ent)    -- what it leaves
  n1 : Nat
def FactOk (P : Program) (G : Nat) (x : Fact) : Prop := x.n0 ≤ x.n1 ∧ ∀ (w0 : Base) (μ : Mu) (w : World) (args' : Array Value), Rel P G w0 μ (treeOf x.pre .nil) w → LRel μ x.args args'.toList → Fresh μ x.n0 x.n1 →
  Calls P x.f args' w fun e w' => ∃ μ', Ext μ μ' x.n0 x.n1 ∧ CRel μ' x.r e ∧ Rel P G w0 μ' (treeOf x.post .nil) w'
/-- Two values are the same, two levels deep. -/
def eqW : Value → Value → Bool
  | .agg c, .agg c' => eqVL eqV c.toList c'.toList
  | .tuple c, .tuple c' => eqVL eqV c.toList c'.toList
  | v, v' => eqS v v'
theorem eqW_eq : ∀ (v v' : Value), eqW v v' = true → v = v' := by
  intro v v' h
  unfold eqW at h
  split at h
  · rename_i c c'
    exact congrArg Value.agg (Array.ext' (eqVL_eq eqV_eq _ _ h))
  · rename_i c c'
    exact congrArg Value.tuple (Array.ext' (eqVL_eq eqV_eq _ _ h))
  · exact eqS_eq _ _ h
def eqR : CRes → CRes → Bool
  | .ret v, .ret v' => eqW v v'
  | .panic v, .panic v' => eqW v v'
  | _, _ => false
theorem eqR_eq {x y : CRes} (h : eqR x y = true) : x = y := by
  cases x <;> cases y <;> simp only [eqR, Bool.false_eq_true] at h <;> rw [eqW_eq _ _ h]
def factChk (c : CallF) (x : Fact) : Bool := match c x.f x.args (treeOf x.pre .nil) x.n0 with
  | some (r, h, n) => eqR r x.r && (Nat.beq n x.n1 && x.post.all fun p => match h.get p.1 with
      | some e => eqEnt e p.2
      | none => false)
  | none => false
section
variable {P : Program} {cl : FuncId} {G : Nat}
theorem fact_ok {c : CallF} (C : CallOk P G c) {x : Fact} (h : factChk c x = true) : FactOk P G x := by
  unfold factChk at h
  split at h
  · rename_i r h' n hr
    simp only [Bool.and_eq_true, Nat.beq_eq, List.all_eq_true] at h
    obtain ⟨h1, h2, h3⟩ := h
    obtain ⟨hle, go⟩ := C _ _ _ _ _ _ _ hr
    rw [h2] at hle go
    rw [eqR_eq h1] at go
    refine ⟨hle, fun w0 μ w args' R A hf => (go w0 μ w args' R A hf).mono fun e w' q => ?_⟩
    obtain ⟨μ', E, cr, R'⟩ := q
    refine ⟨μ', E, cr, R'.congr fun id y hy => ?_⟩
    rw [treeOf_get, H.get_nil] at hy
    rcases lastOf_or x.post id none with ⟨e', m1, m2⟩ | ⟨_, m2⟩
    · rw [m2] at hy
      cases hy
      have := h3 _ m1
      split at this
      · rename_i e hg; rw [hg, eqEnt_eq this]
      · cases this
    · rw [m2] at hy; cases hy
  · cases h
def eqArgs : List Value → List Value → Bool := eqVL eqV
def preOk (h : H Ent) : List (Nat × Ent) → Bool
  | [] => true
  | (id, e) :: l => (match h.get id with
    | some y => eqEnt y e
    | none => false) && preOk h l
theorem preOk_spec {h : H Ent} : ∀ {l : List (Nat × Ent)}, preOk h l = true → ∀ id e, (id, e) ∈ l → h.get id = some e
  | [], _, id, e, hm => by cases hm
  | (j, y) :: l, hp, id, e, hm => by
    simp only [preOk, Bool.and_eq_true] at hp
    cases hm with
    | head =>
      have := hp.1
      split at this
      · rename_i z hz; rw [hz, eqEnt_eq this]
      · cases this
    | tail _ hm => exact preOk_spec hp.2 id e hm
def factCall : List Fact → CallF
  | [], _, _, _, _ => none
  | x :: xs, f, args, h, next => bif Nat.beq x.f f && (eqArgs x.args args && (Nat.ble next x.n0 && preOk h x.pre)) then some (x.r, treeOf x.post (dropAll x.pre h), x.n1) else factCall xs f args h next
theorem factCall_ok : ∀ {xs : List Fact}, (∀ x, x ∈ xs → FactOk P G x) → CallOk P G (factCall xs)
  | [], _ => fun f args h next r h' next' hr => by cases hr
  | x :: xs, hx => fun f args h next r h' next' hr => by
    simp only [factCall, cond_eq_ite] at hr
    split at hr
    · rename_i hc
      simp only [Bool.and_eq_true, Nat.beq_eq, Nat.ble_eq] at hc
      obtain ⟨h1, h2, h3, h4⟩ := hc
      have ha : x.args = args := eqVL_eq eqV_eq _ _ h2
      obtain ⟨hle, go⟩ := hx x List.mem_cons_self
      simp only [Option.some.injEq, Prod.mk.injEq] at hr
      obtain ⟨rfl, rfl, rfl⟩ := hr
      subst h1 ha
      refine ⟨by omega, fun w0 μ w args' R A hf => ?_⟩
      have hsub : ∀ id y, (treeOf x.pre .nil).get id = some y → h.get id = some y := fun id y hy => by
        rw [treeOf_get, H.get_nil] at hy
        rcases lastOf_or x.pre id none with ⟨e', m1, m2⟩ | ⟨_, m2⟩
        · rw [m2] at hy; rw [← hy]; exact preOk_spec h4 id e' m1
        · rw [m2] at hy; cases hy
      obtain ⟨w1, R1, back⟩ := R.hide _ hsub
      refine (go w1 μ w args' R1 A (hf.sub h3 (Nat.le_refl _))).mono fun e w' q => ?_
      obtain ⟨μ', E, cr, R'⟩ := q
      refine ⟨μ', E.wide h3 (Nat.le_refl _), cr, back μ' _ w' R' E.le _ fun id y hy => ?_⟩
      rw [treeOf_get] at hy
      rw [treeOf_get, H.get_nil]
      rcases lastOf_or x.post id none with ⟨e', m1, m2⟩ | ⟨m1, m2⟩
      · rw [m2] at hy ⊢; exact .inl hy
      · rw [m2] at hy
        rw [m2]
        refine .inr ⟨rfl, ?_, ?_⟩
        · rcases dropAll_get x.pre h id with d1 | ⟨_, d2⟩
          · rw [d1] at hy; cases hy
          · rw [treeOf_get, H.get_nil]
            rcases lastOf_or x.pre id none with ⟨e', p1, _⟩ | ⟨_, p2⟩
            · exact absurd p1 (d2 e')
            · exact p2 none
        · rcases dropAll_get x.pre h id with d1 | ⟨d1, _⟩
          · rw [d1] at hy; cases hy
          · rw [← d1]; exact hy
    · exact factCall_ok (fun y hy => hx y (List.mem_cons_of_mem _ hy)) _ _ _ _ _ _ _ hr
end
end
end Go.Proofs.YtefhaojjohddaaaGreatDoor.AM
