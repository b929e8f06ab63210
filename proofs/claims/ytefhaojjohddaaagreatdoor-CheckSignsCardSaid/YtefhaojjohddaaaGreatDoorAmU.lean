/- The abstract machine, part U: calls whose arguments and result name no block: known once, for every place. -/
import Derived.Test.YtefhaojjohddaaaGreatDoorAmT
namespace Go.Proofs.YtefhaojjohddaaaGreatDoor.AM
open Go Go.RowKit
noncomputable section

structure CFact where
  f : FuncId
  args : List Value
  pre : List (Nat × Ent)     -- globals that it reads
  v : Value
def preGlob (G : Nat) : List (Nat × Ent) → Bool
  | [] => true
  | (id, .cells false false c _) :: l => (Nat.blt id G && c.all closed) && preGlob G l
  | _ => false
def cfactChk (G : Nat) (c : CallF) (x : CFact) : Bool := (preGlob G x.pre && (x.args.all closed && closed x.v)) && match c x.f x.args (treeOf x.pre .nil) G with
  | some (.ret v, _, _) => eqV v x.v
  | _ => false
def mu0 (G : Nat) : Mu := fun k => if k < G then some ⟨k, false, 0, 0⟩ else none
structure Same (w w' : World) : Prop where
  os : w'.os = w.os
  tape : w'.tape = w.tape
  output : w'.output = w.output
  size : w.heap.size ≤ w'.heap.size
  keep : ∀ b, b < w.heap.size → w'.heap[b]? = w.heap[b]?
def CFactOk (P : Program) (G : Nat) (x : CFact) : Prop := (preGlob G x.pre = true ∧ x.args.all closed = true ∧ closed x.v = true) ∧ ∀ w : World, G ≤ w.heap.size →
  (∀ id e, (id, e) ∈ x.pre → ∃ o, w.heap[id]? = some o ∧ entRel P (mu0 G) ⟨id, false, 0, 0⟩ e o) → Calls P x.f x.args.toArray w fun e w' => e = .returned x.v ∧ Same w w'
theorem preGlob_spec {G : Nat} : ∀ {l : List (Nat × Ent)}, preGlob G l = true → ∀ id e, (id, e) ∈ l → id < G ∧ ∃ c ty, e = .cells false false c ty ∧ c.all closed = true
  | [], _, id, e, hm => by cases hm
  | (j, y) :: l, h, id, e, hm => by
    cases y with
    | cells wr g c ty =>
      cases wr <;> cases g <;> simp only [preGlob, Bool.false_eq_true] at h
      rw [Bool.and_eq_true, Bool.and_eq_true, Nat.blt_eq] at h
      cases hm with
      | head => exact ⟨h.1.1, c, ty, rfl, h.1.2⟩
      | tail _ hm => exact preGlob_spec h.2 id e hm
    | map => simp [preGlob] at h
    | iter => simp [preGlob] at h
section
variable {P : Program} {cl : FuncId} {G : Nat}
theorem all_closed_rel (μ : Mu) {l : List Value} (h : l.all closed = true) : LRel μ l l := ⟨rfl, fun i v v' a b => by
  rw [a] at b; cases b
  exact closed_rel μ (List.all_eq_true.1 h _ (List.mem_of_getElem? a))⟩
theorem cfact_ok {c : CallF} (C : CallOk P G c) {x : CFact} (h : cfactChk G c x = true) : CFactOk P G x := by
  unfold cfactChk at h
  simp only [Bool.and_eq_true] at h
  obtain ⟨⟨hg, ha, hv⟩, h⟩ := h
  refine ⟨⟨hg, ha, hv⟩, fun w hG hpre => ?_⟩
  split at h
  · rename_i v h' n hr
    obtain ⟨hle, go⟩ := C _ _ _ _ _ _ _ hr
    have heq := eqV_eq _ _ h
    subst heq
    have hm0 : ∀ k m, mu0 G k = some m → k < G ∧ m.b = k := fun k m hk => by
      unfold mu0 at hk
      split at hk
      · rename_i hlt; cases hk; exact ⟨hlt, rfl⟩
      · cases hk
    have tree : ∀ id y, (treeOf x.pre .nil).get id = some y → (id, y) ∈ x.pre := fun id y hy => by
      rw [treeOf_get, H.get_nil] at hy
      rcases lastOf_or x.pre id none with ⟨e', m1, m2⟩ | ⟨_, m2⟩
      · rw [m2] at hy; cases hy; exact m1
      · rw [m2] at hy; cases hy
    have R : Rel P G ⟨w, fun b => b < w.heap.size, fun b hb => hb⟩ (mu0 G) (treeOf x.pre .nil) w := by
      refine ⟨⟨rfl, rfl, rfl, Nat.le_refl _, fun _ _ => rfl⟩, fun k hk => Nat.lt_of_lt_of_le hk hG, fun k hk => ⟨⟨k, false, 0, 0⟩, if_pos hk, rfl⟩, fun j y hj => ?_, fun i j y z m m' _ _ hm hm' e => ?_⟩
      · have hmem := tree j y hj
        obtain ⟨hlt, c, ty, rfl, _⟩ := preGlob_spec hg j y hmem
        obtain ⟨o, h1, h2⟩ := hpre j _ hmem
        exact ⟨⟨j, false, 0, 0⟩, o, if_pos hlt, h1, h2, .inl ⟨hlt, rfl⟩⟩
      · have a1 := hm0 i m hm
        have a2 := hm0 j m' hm'
        omega
    refine (go _ _ w x.args.toArray R (all_closed_rel _ ha) (fun j h1 _ => if_neg (by omega))).mono fun e w' q => ?_
    obtain ⟨μ', E, cr, R'⟩ := q
    cases e with
    | returned v' => exact ⟨by rw [closed_eq hv cr], R'.below.os, R'.below.tape, R'.below.output, R'.below.size, R'.below.keep⟩
    | _ => exact cr.elim
  · cases h
def cfactCall (G : Nat) : List CFact → CallF
  | [], _, _, _, _ => none
  | x :: xs, f, args, h, next => bif Nat.beq x.f f && (eqArgs x.args args && preOk h x.pre) then some (.ret x.v, h, next) else cfactCall G xs f args h next
theorem cfactCall_ok : ∀ {xs : List CFact}, (∀ x, x ∈ xs → CFactOk P G x) → CallOk P G (cfactCall G xs)
  | [], _ => fun f args h next r h' next' hr => by cases hr
  | x :: xs, hx => fun f args h next r h' next' hr => by
    simp only [cfactCall, cond_eq_ite] at hr
    split at hr
    · rename_i hc
      simp only [Bool.and_eq_true, Nat.beq_eq] at hc
      obtain ⟨h1, h2, h4⟩ := hc
      have ha : x.args = args := eqVL_eq eqV_eq _ _ h2
      obtain ⟨⟨c1, c2, c3⟩, go⟩ := hx x List.mem_cons_self
      simp only [Option.some.injEq, Prod.mk.injEq] at hr
      obtain ⟨rfl, rfl, rfl⟩ := hr
      subst h1 ha
      refine ⟨Nat.le_refl _, fun w0 μ w args' R A hf => ?_⟩
      have e : args' = x.args.toArray := by
        apply Array.ext'
        exact A.closed c2
      subst e
      have hG : G ≤ w.heap.size := by
        rcases Nat.eq_zero_or_pos G with h0 | h0
        · omega
        · have := w0.lt _ (R.gk (G - 1) (by omega))
          have := R.below.size
          omega
      refine (go w hG fun id y hm => ?_).mono fun e w' q => ?_
      · obtain ⟨hlt, c, ty, rfl, hcl⟩ := preGlob_spec c1 id y hm
        obtain ⟨m, o, a1, a2, a3, _⟩ := R.ent id _ (preOk_spec h4 id _ hm)
        obtain ⟨m', b1, b2⟩ := R.glob id hlt
        rw [a1] at b1; cases b1
        rw [b2] at a2
        refine ⟨o, a2, ?_⟩
        cases o <;> simp only [entRel] at a3 ⊢
        obtain ⟨k1, k2, k3, k4, k5, k6, k7⟩ := a3
        refine ⟨k1, trivial, k3, fun q => (by cases q), k5, k6, fun i v hi => ?_⟩
        obtain ⟨v', p1, p2⟩ := k7 i v hi
        have hvc := List.all_eq_true.1 hcl _ (List.mem_of_getElem? hi)
        rw [closed_eq hvc p2] at p1
        exact ⟨v, p1, closed_rel _ hvc⟩
      · obtain ⟨rfl, S⟩ := q
        refine ⟨μ, Ext.refl _ _ _, closed_rel μ c3, ⟨S.os.trans R.below.os, S.tape.trans R.below.tape, S.output.trans R.below.output, Nat.le_trans R.below.size S.size, fun b hb => (S.keep b (Nat.lt_of_lt_of_le (w0.lt b hb) R.below.size)).trans (R.below.keep b hb)⟩, R.gk, R.glob, fun j y hj => ?_, R.inj⟩
        obtain ⟨m, o, a1, a2, a3, a4⟩ := R.ent j y hj
        exact ⟨m, o, a1, by rw [S.keep _ (Array.getElem?_eq_some_iff.1 a2).1]; exact a2, a3, a4⟩
    · exact cfactCall_ok (fun y hy => hx y (List.mem_cons_of_mem _ hy)) _ _ _ _ _ _ _ hr
end
end
end Go.Proofs.YtefhaojjohddaaaGreatDoor.AM
