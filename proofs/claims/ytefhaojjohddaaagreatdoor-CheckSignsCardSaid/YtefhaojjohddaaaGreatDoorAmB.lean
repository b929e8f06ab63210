/- The abstract machine, part B: its memory, how it stands to the world's, and its operations. -/
import Derived.Test.YtefhaojjohddaaaGreatDoorAmA
import Derived.Great.BuildSlice
import Derived.Laws.Strings
import Derived.WalkSpells
namespace Go.Proofs.YtefhaojjohddaaaGreatDoor.AM
open Go Go.RowKit
noncomputable section

/-! ### Memory -/
inductive Ent where
  | cells (wr g : Bool) (c : List Value) (e : TypeId)
  | map (es : List (Value × Value × Nat)) (clk : Nat)
  | iter (s : ByteArray) (pos : Nat)
def Ent.wr : Ent → Bool
  | .cells wr _ _ _ => wr
  | _ => true
def MRel (μ : Mu) : List (Value × Value × Nat) → List MapEntry → Prop
  | [], [] => True
  | (k, v, b) :: es, e :: es' => (VRel μ k e.key ∧ VRel μ v e.val ∧ e.born = b) ∧ MRel μ es es'
  | _, _ => False
theorem MRel.mono {μ μ' : Mu} (hm : μ.le μ') : ∀ {es : List (Value × Value × Nat)} {es' : List MapEntry}, MRel μ es es' → MRel μ' es es'
  | [], [], _ => trivial
  | [], _ :: _, h => h.elim
  | _ :: _, [], h => h.elim
  | (_, _, _) :: _, _ :: _, ⟨⟨a, b, c⟩, k⟩ => ⟨⟨a.mono hm, b.mono hm, c⟩, k.mono hm⟩
theorem MRel.len {μ : Mu} : ∀ {es : List (Value × Value × Nat)} {es' : List MapEntry}, MRel μ es es' → es'.length = es.length
  | [], [], _ => rfl
  | [], _ :: _, h => h.elim
  | _ :: _, [], h => h.elim
  | (_, _, _) :: _, _ :: _, ⟨_, k⟩ => by simp [k.len]
def entRel (P : Program) (μ : Mu) (m : MuE) : Ent → Obj → Prop
  | .cells wr g c e, .cells c' e' fr => (wr = true → e' = e) ∧ m.g = g ∧ (g = false → c'.size = c.length) ∧ (g = true → c'.size = m.n ∧ (P.info? e).map (·.size) = some m.sz) ∧ (wr = true → fr = (0, 0)) ∧
      c.length ≤ c'.size ∧ ∀ (i : Nat) (v : Value), c[i]? = some v → ∃ v', c'[i]? = some v' ∧ VRel μ v v'
  | .map es clk, .map es' clk' => clk' = clk ∧ MRel μ es es'.toList
  | .iter s pos, .stringIter s' pos' => s' = s ∧ pos' = pos
  | _, _ => False
theorem entRel.mono {P : Program} {μ μ' : Mu} (hm : μ.le μ') {m : MuE} {x : Ent} {o : Obj} (h : entRel P μ m x o) : entRel P μ' m x o := by
  cases x <;> cases o <;> simp only [entRel] at h ⊢
  · obtain ⟨h1, h2, h3, h4, h5, h6, h7⟩ := h
    exact ⟨h1, h2, h3, h4, h5, h6, fun i v hi => let ⟨v', a, b⟩ := h7 i v hi; ⟨v', a, b.mono hm⟩⟩
  · exact ⟨h.1, h.2.mono hm⟩
  · exact h
/-- Where a run began: the world then, and the blocks that must stay. -/
structure Base where
  w : World
  K : Nat → Prop
  lt : ∀ b, K b → b < w.heap.size
structure Keeps (B : Base) (w : World) : Prop where
  os : w.os = B.w.os
  tape : w.tape = B.w.tape
  output : w.output = B.w.output
  size : B.w.heap.size ≤ w.heap.size
  keep : ∀ b, B.K b → w.heap[b]? = B.w.heap[b]?
structure Rel (P : Program) (G : Nat) (w0 : Base) (μ : Mu) (h : H Ent) (w : World) : Prop where
  below : Keeps w0 w
  gk : ∀ k, k < G → w0.K k
  glob : ∀ k, k < G → ∃ m, μ k = some m ∧ m.b = k
  ent : ∀ j x, h.get j = some x → ∃ m o, μ j = some m ∧ w.heap[m.b]? = some o ∧ entRel P μ m x o ∧ ((j < G ∧ x.wr = false) ∨ ¬ w0.K m.b)
  inj : ∀ i j x y m m', h.get i = some x → h.get j = some y → μ i = some m → μ j = some m' → m.b = m'.b → i = j
section
variable {P : Program} {G : Nat} {w0 : Base} {w : World} {μ : Mu} {h : H Ent}
theorem Rel.drew (R : Rel P G w0 μ h w) : Rel P G w0 μ h w.drew := ⟨⟨R.below.os, R.below.tape, R.below.output, R.below.size, R.below.keep⟩, R.gk, R.glob, R.ent, R.inj⟩
theorem Rel.fresh (R : Rel P G w0 μ h w) : ¬ w0.K w.heap.size := fun k => by
  have := w0.lt _ k
  have := R.below.size
  omega
theorem Keeps.alloc {B : Base} (k : Keeps B w) (o : Obj) : Keeps B (w.alloc o) := ⟨k.os, k.tape, k.output, by rw [World.size_alloc]; exact Nat.le_succ_of_le k.size, fun b hb => by
  rw [Below.heap_alloc _ _ _ (Nat.lt_of_lt_of_le (B.lt b hb) k.size)]; exact k.keep b hb⟩
theorem Rel.new (R : Rel P G w0 μ h w) {j : Nat} (hj : μ j = none) {x : Ent} {o : Obj} {g : Bool} {sz n : Nat} (he : entRel P (μ.put j ⟨w.heap.size, g, sz, n⟩) ⟨w.heap.size, g, sz, n⟩ x o) : Rel P G w0 (μ.put j ⟨w.heap.size, g, sz, n⟩) (h.set j (some x)) (w.alloc o) := by
  have hle := Mu.le_put (p := ⟨w.heap.size, g, sz, n⟩) hj
  have lt : ∀ k y, h.get k = some y → ∀ m, μ k = some m → m.b < w.heap.size := fun k y hk m hm => by
    obtain ⟨m', o', a, b, _⟩ := R.ent k y hk
    rw [hm] at a; cases a
    exact (Array.getElem?_eq_some_iff.1 b).1
  have old : ∀ k y, h.get k = some y → k ≠ j := fun k y hk e => by
    obtain ⟨m', o', a, _⟩ := R.ent k y hk
    rw [e, hj] at a; cases a
  refine ⟨R.below.alloc o, R.gk, fun k hk => ?_, fun k y hk => ?_, fun i k y z m m' hi hk hm hm' e => ?_⟩
  · obtain ⟨m, a, b⟩ := R.glob k hk
    exact ⟨m, hle _ _ a, b⟩
  · rw [H.get_set] at hk
    by_cases e : k = j
    · rw [if_pos e] at hk; cases hk
      subst e
      exact ⟨_, o, Mu.put_same _ _ _, heap_alloc_new w o, he, .inr R.fresh⟩
    · rw [if_neg e] at hk
      obtain ⟨m, o', a, b, c, d⟩ := R.ent k y hk
      exact ⟨m, o', hle _ _ a, by rw [Below.heap_alloc _ _ _ (lt k y hk m a)]; exact b, c.mono hle, d⟩
  · rw [H.get_set] at hi hk
    by_cases e1 : i = j
    · by_cases e2 : k = j
      · rw [e1, e2]
      · rw [if_neg e2] at hk
        rw [Mu.put_other _ _ e2] at hm'
        rw [e1, Mu.put_same] at hm
        cases hm
        have := lt k z hk m' hm'
        simp only at e
        omega
    · rw [if_neg e1] at hi
      rw [Mu.put_other _ _ e1] at hm
      by_cases e2 : k = j
      · rw [e2, Mu.put_same] at hm'
        cases hm'
        have := lt i y hi m hm
        simp only at e
        omega
      · rw [if_neg e2] at hk
        rw [Mu.put_other _ _ e2] at hm'
        exact R.inj i k y z m m' hi hk hm hm' e
theorem Rel.gone (R : Rel P G w0 μ h w) (j : Nat) : Rel P G w0 μ (h.set j none) w := by
  refine ⟨R.below, R.gk, R.glob, fun k y hk => ?_, fun i k y z m m' hi hk hm hm' e => ?_⟩
  · rw [H.get_set] at hk
    split at hk
    · cases hk
    · exact R.ent k y hk
  · rw [H.get_set] at hi hk
    split at hi
    · cases hi
    · split at hk
      · cases hk
      · exact R.inj i k y z m m' hi hk hm hm' e
/-- A world that is the same but for one block. -/
structure But (w w1 : World) (b : Nat) (o : Obj) : Prop where
  os : w1.os = w.os
  tape : w1.tape = w.tape
  output : w1.output = w.output
  size : w1.heap.size = w.heap.size
  at_ : w1.heap[b]? = some o
  other : ∀ k, k ≠ b → w1.heap[k]? = w.heap[k]?
theorem Rel.upd (R : Rel P G w0 μ h w) {j : Nat} {x x1 : Ent} {m : MuE} {w1 : World} {o1 : Obj} (hj : h.get j = some x) (hx : x.wr = true) (hm : μ j = some m) (hb : But w w1 m.b o1) (he : entRel P μ m x1 o1) : Rel P G w0 μ (h.set j (some x1)) w1 := by
  obtain ⟨mm, oo, a, b, c, d⟩ := R.ent j x hj
  rw [hm] at a; cases a
  have hB : ¬ w0.K m.b := d.resolve_left fun q => by rw [hx] at q; cases q.2
  refine ⟨⟨hb.os.trans R.below.os, hb.tape.trans R.below.tape, hb.output.trans R.below.output, by rw [hb.size]; exact R.below.size, fun k hk => (hb.other k (fun e => hB (e ▸ hk))).trans (R.below.keep k hk)⟩, R.gk, R.glob, fun k y hk => ?_, fun i k y z p p' hi hk hp hp' e => ?_⟩
  · rw [H.get_set] at hk
    by_cases e : k = j
    · rw [if_pos e] at hk; cases hk
      subst e
      exact ⟨m, o1, hm, hb.at_, he, .inr hB⟩
    · rw [if_neg e] at hk
      obtain ⟨m', o', a', b', c', d'⟩ := R.ent k y hk
      exact ⟨m', o', a', by rw [hb.other _ (fun q => e (R.inj k j y x m' m hk hj a' hm q))]; exact b', c', d'⟩
  · rw [H.get_set] at hi hk
    have gi : ∃ y', h.get i = some y' := by
      split at hi
      · rename_i q; exact ⟨x, q ▸ hj⟩
      · exact ⟨y, hi⟩
    have gk : ∃ z', h.get k = some z' := by
      split at hk
      · rename_i q; exact ⟨x, q ▸ hj⟩
      · exact ⟨z, hk⟩
    obtain ⟨y', gi⟩ := gi
    obtain ⟨z', gk⟩ := gk
    exact R.inj i k y' z' p p' gi gk hp hp' e
/-- A row that grew in place: its younger name. -/
theorem Rel.move (R : Rel P G w0 μ h w) {j j' : Nat} {x x1 : Ent} {m : MuE} {w1 : World} {o1 : Obj} (hj : h.get j = some x) (hx : x.wr = true) (hm : μ j = some m) (hj' : μ j' = none) (hb : But w w1 m.b o1) (he : entRel P (μ.put j' m) m x1 o1) : Rel P G w0 (μ.put j' m) ((h.set j none).set j' (some x1)) w1 := by
  obtain ⟨mm, oo, a, b, c, d⟩ := R.ent j x hj
  rw [hm] at a; cases a
  have hB : ¬ w0.K m.b := d.resolve_left fun q => by rw [hx] at q; cases q.2
  have hle := Mu.le_put (p := m) hj'
  have old : ∀ k y, h.get k = some y → k ≠ j' := fun k y hk e => by
    obtain ⟨m', o', a, _⟩ := R.ent k y hk
    rw [e, hj'] at a; cases a
  have key : ∀ k y, ((h.set j none).set j' (some x1)).get k = some y → (k = j' ∧ y = x1) ∨ (k ≠ j' ∧ k ≠ j ∧ h.get k = some y) := fun k y hk => by
    rw [H.get_set, H.get_set] at hk
    by_cases e : k = j'
    · rw [if_pos e] at hk; cases hk; exact .inl ⟨e, rfl⟩
    · rw [if_neg e] at hk
      by_cases e2 : k = j
      · rw [if_pos e2] at hk; cases hk
      · rw [if_neg e2] at hk; exact .inr ⟨e, e2, hk⟩
  refine ⟨⟨hb.os.trans R.below.os, hb.tape.trans R.below.tape, hb.output.trans R.below.output, by rw [hb.size]; exact R.below.size, fun k hk => (hb.other k (fun e => hB (e ▸ hk))).trans (R.below.keep k hk)⟩, R.gk, fun k hk => ?_, fun k y hk => ?_, fun i k y z p p' hi hk hp hp' e => ?_⟩
  · obtain ⟨m', a, b⟩ := R.glob k hk
    exact ⟨m', hle _ _ a, b⟩
  · rcases key k y hk with ⟨rfl, rfl⟩ | ⟨e1, e2, hk⟩
    · exact ⟨m, o1, Mu.put_same _ _ _, hb.at_, he, .inr hB⟩
    · obtain ⟨m', o', a', b', c', d'⟩ := R.ent k y hk
      exact ⟨m', o', hle _ _ a', by rw [hb.other _ (fun q => e2 (R.inj k j y x m' m hk hj a' hm q))]; exact b', c'.mono hle, d'⟩
  · rcases key i y hi with ⟨rfl, rfl⟩ | ⟨e1, e2, hi2⟩
    · rcases key k z hk with ⟨rfl, rfl⟩ | ⟨f1, f2, hk2⟩
      · rfl
      · rw [Mu.put_same] at hp; cases hp
        rw [Mu.put_other _ _ f1] at hp'
        exact absurd (R.inj k j z x p' m hk2 hj hp' hm e.symm) f2
    · rw [Mu.put_other _ _ e1] at hp
      rcases key k z hk with ⟨rfl, rfl⟩ | ⟨f1, f2, hk2⟩
      · rw [Mu.put_same] at hp'; cases hp'
        exact absurd (R.inj i j y x p m hi2 hj hp hm e) e2
      · rw [Mu.put_other _ _ f1] at hp'
        exact R.inj i k y z p p' hi2 hk2 hp hp' e
/-- What a block of cells holds. -/
theorem Rel.row (R : Rel P G w0 μ h w) {j : Nat} {wr g : Bool} {c : List Value} {e : TypeId} (hj : h.get j = some (.cells wr g c e)) :
    ∃ m c' fr ee, μ j = some m ∧ w.heap[m.b]? = some (.cells c' ee fr) ∧ (wr = true → ee = e) ∧ m.g = g ∧ (g = false → c'.size = c.length) ∧ (g = true → c'.size = m.n ∧ (P.info? e).map (·.size) = some m.sz) ∧ (wr = true → fr = (0, 0)) ∧ (wr = true → ¬ w0.K m.b) ∧
      c.length ≤ c'.size ∧ ∀ (i : Nat) (v : Value), c[i]? = some v → ∃ v', c'[i]? = some v' ∧ VRel μ v v' := by
  obtain ⟨m, o, a, b, cc, d⟩ := R.ent j _ hj
  cases o <;> simp only [entRel] at cc
  obtain ⟨h1, h2, h3, h4, h5, h6, h7⟩ := cc
  exact ⟨m, _, _, _, a, b, h1, h2, h3, h4, h5, fun q => d.resolve_left fun q2 => (by rw [show wr = false from q2.2] at q; cases q), h6, h7⟩
end

/-! ### Operations that look at no memory -/
def prun {α : Type} (P : Program) : Sem α → Option (Except Value α)
  | .pure a => some (.ok a)
  | .program k => prun P (k P)
  | .mark _ k => prun P k
  | .choose q k => if q.forced then prun P (k 0) else none
  | .halt (.panic v) => some (.error v)
  | _ => none
theorem prun_ok {α : Type} {P : Program} : ∀ {s : Sem α} {a : α}, prun P s = some (.ok a) → ∀ w, s.run P w = .ok a w := by
  intro s
  induction s with
  | pure a => intro a' h w; simp only [prun, Option.some.injEq, Except.ok.injEq] at h; subst h; rfl
  | program k ih => intro a h w; exact ih P h w
  | mark m k ih => intro a h w; exact ih h w
  | choose q k ih =>
    intro a h w
    simp only [prun] at h
    split at h
    · rename_i hq
      simp only [Sem.run, hq, if_true]
      exact ih 0 h w
    · cases h
  | halt x => intro a h w; cases x <;> simp [prun] at h
  | _ => intro a h w; simp [prun] at h
theorem prun_panic {α : Type} {P : Program} : ∀ {s : Sem α} {v : Value}, prun P s = some (.error v) → ∀ w, s.run P w = .halt (.panic v) w := by
  intro s
  induction s with
  | pure a => intro a' h w; simp [prun] at h
  | program k ih => intro a h w; exact ih P h w
  | mark m k ih => intro a h w; exact ih h w
  | choose q k ih =>
    intro a h w
    simp only [prun] at h
    split at h
    · rename_i hq
      simp only [Sem.run, hq, if_true]
      exact ih 0 h w
    · cases h
  | halt x =>
    intro a h w
    cases x <;> simp [prun] at h
    subst h; rfl
  | _ => intro a h w; simp [prun] at h
end
end Go.Proofs.YtefhaojjohddaaaGreatDoor.AM
