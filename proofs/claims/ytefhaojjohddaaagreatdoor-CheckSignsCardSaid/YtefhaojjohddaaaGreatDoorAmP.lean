/- The abstract machine, part P: hidden blocks; equal values; a part of the temporaries: what the regions that draw need. -/
import Derived.Test.YtefhaojjohddaaaGreatDoorAmO
namespace Go.Proofs.YtefhaojjohddaaaGreatDoor.AM
open Go Go.RowKit
noncomputable section

/-! ### more entries -/
def addL (h : H Ent) : List (Nat × Ent) → H Ent
  | [] => h
  | (id, e) :: l => match h.get id with
    | some _ => addL h l
    | none => addL (h.set id (some e)) l
def look1 (l : List (Nat × Ent)) (id : Nat) : Option Ent := match l with
  | [] => none
  | (j, e) :: l => if j = id then some e else look1 l id
theorem addL_get : ∀ (l : List (Nat × Ent)) (h : H Ent) (id : Nat), (addL h l).get id = match h.get id with
    | some x => some x
    | none => look1 l id
  | [], h, id => by cases hg : h.get id <;> simp [addL, look1, hg]
  | (j, e) :: l, h, id => by
    simp only [addL, look1]
    split
    · rename_i x hx
      rw [addL_get l h id]
      by_cases hj : j = id
      · subst hj; rw [hx]
      · rw [if_neg hj]
    · rename_i hx
      rw [addL_get l _ id, H.get_set]
      by_cases hj : j = id
      · subst hj; rw [hx]; simp
      · rw [if_neg hj, if_neg (fun q => hj q.symm)]
section
variable {P : Program} {G : Nat} {w0 : Base} {w : World} {μ : Mu} {h : H Ent}
theorem Rel.congr (R : Rel P G w0 μ h w) {h' : H Ent} (e : ∀ id x, h'.get id = some x → h.get id = some x) : Rel P G w0 μ h' w :=
  ⟨R.below, R.gk, R.glob, fun j x hj => R.ent j x (e j x hj), fun i j x y m m' hi hj => R.inj i j x y m m' (e i x hi) (e j y hj)⟩
/-- Some entries put aside: their blocks stay; and taken up again. -/
theorem Rel.hide (R : Rel P G w0 μ h w) (h' : H Ent) (hs : ∀ id x, h'.get id = some x → h.get id = some x) :
    ∃ w1 : Base, Rel P G w1 μ h' w ∧ ∀ (μ' : Mu) (h2 : H Ent) (w2 : World), Rel P G w1 μ' h2 w2 → μ.le μ' → ∀ h3 : H Ent,
      (∀ id x, h3.get id = some x → h2.get id = some x ∨ (h2.get id = none ∧ h'.get id = none ∧ h.get id = some x)) → Rel P G w0 μ' h3 w2 := by
  let X : Nat → Prop := fun b => ∃ id x m, h.get id = some x ∧ h'.get id = none ∧ μ id = some m ∧ m.b = b
  have hX : ∀ b, X b → b < w.heap.size := fun b ⟨id, x, m, a, _, c, d⟩ => by
    obtain ⟨m', o, a', b', _⟩ := R.ent id x a
    rw [c] at a'; cases a'
    rw [← d]
    exact (Array.getElem?_eq_some_iff.1 b').1
  refine ⟨⟨w, fun b => w0.K b ∨ X b, fun b hb => hb.elim (fun k => Nat.lt_of_lt_of_le (w0.lt b k) R.below.size) (hX b)⟩, ?_, ?_⟩
  · refine ⟨⟨rfl, rfl, rfl, Nat.le_refl _, fun _ _ => rfl⟩, fun k hk => .inl (R.gk k hk), R.glob, fun j x hj => ?_, fun i j x y m m' hi hj => R.inj i j x y m m' (hs i x hi) (hs j y hj)⟩
    obtain ⟨m, o, a, b, c, d⟩ := R.ent j x (hs j x hj)
    refine ⟨m, o, a, b, c, d.imp id fun nk q => q.elim nk fun ⟨i, y, m', e1, e2, e3, e4⟩ => ?_⟩
    have := R.inj i j y x m' m e1 (hs j x hj) e3 a e4
    subst this
    rw [hj] at e2; cases e2
  · intro μ' h2 w2 R2 hle h3 h3s
    have old : ∀ id x, h.get id = some x → h'.get id = none → ∃ m o, μ' id = some m ∧ w2.heap[m.b]? = some o ∧ entRel P μ' m x o ∧ ((id < G ∧ x.wr = false) ∨ ¬ w0.K m.b) ∧ μ id = some m ∧ X m.b := fun id x a1 a2 => by
      obtain ⟨m, o, a, b, c, d⟩ := R.ent id x a1
      have hx : X m.b := ⟨id, x, m, a1, a2, a, rfl⟩
      exact ⟨m, o, hle _ _ a, by rw [R2.below.keep _ (.inr hx)]; exact b, c.mono hle, d, a, hx⟩
    refine ⟨⟨R2.below.os.trans R.below.os, R2.below.tape.trans R.below.tape, R2.below.output.trans R.below.output, Nat.le_trans R.below.size R2.below.size, fun b hb => (R2.below.keep b (.inl hb)).trans (R.below.keep b hb)⟩, R.gk, R2.glob, fun j x hj => ?_, ?_⟩
    · rcases h3s j x hj with a | ⟨_, a, b⟩
      · obtain ⟨m, o, a1, b1, c1, d1⟩ := R2.ent j x a
        exact ⟨m, o, a1, b1, c1, d1.imp id fun nk q => nk (.inl q)⟩
      · obtain ⟨m, o, a1, b1, c1, d1, _⟩ := old j x b a
        exact ⟨m, o, a1, b1, c1, d1⟩
    · have mixed : ∀ i j x y m m', h2.get i = some x → h2.get j = none → h'.get j = none → h.get j = some y → μ' i = some m → μ' j = some m' → m.b = m'.b → i = j := by
        intro i j x y m m' hi hj0 hj1 hj2 hm hm' e
        obtain ⟨mm, o, a1, _, _, d1, a2, hx⟩ := old j y hj2 hj1
        rw [hm'] at a1; cases a1
        obtain ⟨m2, o2, b1, _, _, d2⟩ := R2.ent i x hi
        rw [hm] at b1; cases b1
        rcases d2 with ⟨ig, _⟩ | nk
        · obtain ⟨m3, c1, c2⟩ := R2.glob i ig
          rw [hm] at c1; cases c1
          rcases d1 with ⟨jg, _⟩ | nk2
          · obtain ⟨m4, c3, c4⟩ := R2.glob j jg
            rw [hm'] at c3; cases c3
            omega
          · exact (nk2 (by rw [← e, c2]; exact R.gk i ig)).elim
        · exact (nk (.inr (e ▸ hx))).elim
      intro i j x y m m' hi hj hm hm' e
      rcases h3s i x hi with a | ⟨a0, a1, a2⟩ <;> rcases h3s j y hj with b | ⟨b0, b1, b2⟩
      · exact R2.inj i j x y m m' a b hm hm' e
      · exact mixed i j x y m m' a b0 b1 b2 hm hm' e
      · exact (mixed j i y x m' m b a0 a1 a2 hm' hm e.symm).symm
      · obtain ⟨n1, _, p1, _, _, _, p2, _⟩ := old i x a2 a1
        obtain ⟨n2, _, q1, _, _, _, q2, _⟩ := old j y b2 b1
        rw [hm] at p1; cases p1
        rw [hm'] at q1; cases q1
        exact R.inj i j x y m m' a2 b2 p2 q2 e
end

/-! ### equal values -/
def eqBytes (a b : ByteArray) : Bool := eqL a.data.toList b.data.toList
def eqVL (f : Value → Value → Bool) : List Value → List Value → Bool
  | [], [] => true
  | v :: l, v' :: l' => f v v' && eqVL f l l'
  | _, _ => false
def eqS : Value → Value → Bool
  | .bool a, .bool b => a == b
  | .int k n, .int k' n' => decide (k = k') && decide (n = n')
  | .string a, .string b => eqBytes a b
  | .pointer none, .pointer none => true
  | .pointer (some ⟨b, o, none⟩), .pointer (some ⟨b', o', none⟩) => Nat.beq b b' && Nat.beq o o'
  | .slice none n c, .slice none n' c' => Nat.beq n n' && Nat.beq c c'
  | .slice (some ⟨b, o, none⟩) n c, .slice (some ⟨b', o', none⟩) n' c' => (Nat.beq b b' && Nat.beq o o') && (Nat.beq n n' && Nat.beq c c')
  | .map none, .map none => true
  | .map (some b), .map (some b') => Nat.beq b b'
  | .nilFunc, .nilFunc => true
  | .nilIface, .nilIface => true
  | _, _ => false
def eqV : Value → Value → Bool
  | .agg c, .agg c' => eqVL eqS c.toList c'.toList
  | .tuple c, .tuple c' => eqVL eqS c.toList c'.toList
  | v, v' => eqS v v'
theorem eqVL_eq {f : Value → Value → Bool} (hf : ∀ v v', f v v' = true → v = v') : ∀ (l l' : List Value), eqVL f l l' = true → l = l'
  | [], [], _ => rfl
  | [], _ :: _, h => by cases h
  | _ :: _, [], h => by cases h
  | v :: l, v' :: l', h => by
    simp only [eqVL, Bool.and_eq_true] at h
    rw [hf _ _ h.1, eqVL_eq hf l l' h.2]
theorem eqBytes_eq {a b : ByteArray} (h : eqBytes a b = true) : a = b := by
  unfold eqBytes at h
  rw [eqL_is, beq_iff_eq] at h
  have h2 : a.data = b.data := by apply Array.ext'; exact h
  exact ByteArray.ext h2
theorem eqS_eq : ∀ (v v' : Value), eqS v v' = true → v = v' := by
  intro v v' h
  unfold eqS at h
  split at h
  all_goals try simp only [Bool.and_eq_true, beq_iff_eq, decide_eq_true_eq, Nat.beq_eq] at h
  all_goals first
    | rfl
    | (obtain ⟨⟨rfl, rfl⟩, rfl, rfl⟩ := h; rfl)
    | (obtain ⟨rfl, rfl⟩ := h; rfl)
    | (subst h; rfl)
    | (rw [eqBytes_eq h])
    | cases h
theorem eqV_eq : ∀ (v v' : Value), eqV v v' = true → v = v' := by
  intro v v' h
  unfold eqV at h
  split at h
  · rename_i c c'
    have := eqVL_eq eqS_eq _ _ h
    have : c = c' := by apply Array.ext'; exact this
    rw [this]
  · rename_i c c'
    have := eqVL_eq eqS_eq _ _ h
    have : c = c' := by apply Array.ext'; exact this
    rw [this]
  · exact eqS_eq _ _ h
/-! ### a part of the temporaries -/
def partT (tm : H Value) : List Tmp → H Value → H Value
  | [], t => t
  | x :: xs, t => match tm.get x with
    | some v => partT tm xs (t.set x (some v))
    | none => partT tm xs t
theorem partT_get (tm : H Value) : ∀ (xs : List Tmp) (t : H Value) (k : Nat), (partT tm xs t).get k = if k ∈ xs ∧ (tm.get k).isSome = true then tm.get k else t.get k
  | [], t, k => by simp [partT]
  | x :: xs, t, k => by
    simp only [partT]
    split
    · rename_i v hv
      rw [partT_get tm xs, H.get_set]
      by_cases hk : k = x
      · subst hk
        simp [hv]
      · simp [hk]
    · rename_i hv
      rw [partT_get tm xs]
      by_cases hk : k = x
      · subst hk
        simp [hv]
      · simp [hk]
/-- The same frame with only some of its temporaries. -/
def actPart (a : Act) (xs : List Tmp) : Act := { a with tmps := a.tmps.mapIdx fun i v => if i ∈ xs then v else undef }
theorem actPart_get (a : Act) (xs : List Tmp) (t : Nat) : (actPart a xs).tmps[t]? = (a.tmps[t]?).map fun v => if t ∈ xs then v else undef := by
  simp [actPart, Array.getElem?_mapIdx]
theorem actPart_in (a : Act) {xs : List Tmp} {t : Nat} (h : t ∈ xs) : (actPart a xs).tmps[t]? = a.tmps[t]? := by
  rw [actPart_get]
  cases a.tmps[t]? <;> simp [h]
theorem actPart_eval (a : Act) {xs : List Tmp} {x : Operand} (h : ∀ t, x = .tmp t → t ∈ xs) : (actPart a xs).eval x = a.eval x := by
  cases x with
  | tmp t =>
    simp only [Act.eval, Array.getD_eq_getD_getElem?]
    rw [actPart_in a (h t rfl)]
  | _ => rfl
theorem actPart_exec {ops : Array Oper} (a : Act) (o : Oper) (hs : ∀ cs b, o.op ≠ .select cs b) : execOp (actPart a (o.looksAt ops)).eval o = execOp a.eval o :=
  execOp_congr o hs fun x hx => actPart_eval a fun t ht => by
    subst ht
    exact List.mem_append_left _ (List.mem_filterMap.2 ⟨.tmp t, by simpa using hx, rfl⟩)
theorem actPart_wanted {ops : Array Oper} (a : Act) (o : Oper) : Region.wanted o (yielded ops (actPart a (o.looksAt ops)).tmps) = Region.wanted o (yielded ops a.tmps) := by
  unfold Region.wanted
  cases hg : o.guard with
  | none => rfl
  | some gw =>
    obtain ⟨g, want⟩ := gw
    have hy : yielded ops (actPart a (o.looksAt ops)).tmps g = yielded ops a.tmps g := by
      unfold yielded
      cases ht : (ops[g]?).bind (·.dst) with
      | none => rfl
      | some t =>
        have : t ∈ o.looksAt ops := by simp [Oper.looksAt, hg, ht]
        simp only [Option.bind_some]
        rw [actPart_in a this]
    simp only [hy]
theorem actPart_rel {μ : Mu} {tm : H Value} {a : Act} {xs : List Tmp} (h : ∀ t, t ∈ xs → VRel μ ((tm.get t).getD undef) (a.tmps.getD t undef)) : TRel μ (partT tm xs .nil) (actPart a xs) := by
  intro t
  rw [partT_get, Array.getD_eq_getD_getElem?]
  by_cases ht : t ∈ xs
  · have := h t ht
    rw [actPart_in a ht]
    rw [Array.getD_eq_getD_getElem?] at this
    cases hv : tm.get t with
    | none =>
      rw [hv] at this
      simpa [ht, hv, H.get_nil] using this
    | some v =>
      rw [hv] at this
      simpa [ht, hv] using this
  · rw [actPart_get]
    simp only [ht, false_and, if_false, H.get_nil, Option.getD_none]
    cases a.tmps[t]? <;> exact VRel.undef μ
end
end Go.Proofs.YtefhaojjohddaaaGreatDoor.AM
