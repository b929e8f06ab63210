/- The abstract machine, part F: slices, lengths, appends, maps, strings. -/
import Derived.Test.YtefhaojjohddaaaGreatDoorAmE
namespace Go.Proofs.YtefhaojjohddaaaGreatDoor.AM
open Go Go.RowKit
noncomputable section
section
variable {P : Program} {G : Nat} {w0 : Base} {w : World} {μ : Mu} {h : H Ent} {tm : H Value} {a : Act}

theorem VRel.slice_inv {b o n c : Nat} {v' : Value} (r : VRel μ (.slice (some ⟨b, o, none⟩) n c) v') : ∃ m c', μ b = some m ∧ v' = .slice (some ⟨m.b, o, none⟩) n c' ∧ c ≤ c' ∧ (m.g = false → c' = c) ∧ (m.g = true → o + c' * m.sz ≤ m.n) := by
  cases r with
  | slice o n h hc hg hn => exact ⟨_, _, h, rfl, hc, hg, hn⟩
theorem VRel.ptr_inv {b o : Nat} {v' : Value} (r : VRel μ (.pointer (some ⟨b, o, none⟩)) v') : ∃ m, μ b = some m ∧ v' = .pointer (some ⟨m.b, o, none⟩) := by
  cases r with
  | ptr o h => exact ⟨_, h, rfl⟩
theorem VRel.map_inv {b : Nat} {v' : Value} (r : VRel μ (.map (some b)) v') : ∃ m, μ b = some m ∧ v' = .map (some m.b) := by
  cases r with
  | map h => exact ⟨_, h, rfl⟩

/-! ### slicing -/
def evalO (G : Nat) (tm : H Value) : Option Operand → Option (Option Value)
  | none => some none
  | some x => match evalA G tm x with
    | some v => some (some v)
    | none => none
theorem evalO_int (R : Rel P G w0 μ h w) (T : TRel μ tm a) {x : Option Operand} {k : IntKind} {i : Int} (hx : evalO G tm x = some (some (.int k i))) : x.map a.eval = some (.int k i) := by
  cases x with
  | none => simp [evalO] at hx
  | some x =>
    simp only [evalO] at hx
    split at hx
    · rename_i v hv
      simp only [Option.some.injEq] at hx
      subst hx
      have r := evalA_rel R T hv
      generalize hx' : a.eval x = x' at r
      cases r
      simp [hx']
    · cases hx
theorem evalO_none {x : Option Operand} (hx : evalO G tm x = some none) : x.map a.eval = none := by
  cases x with
  | none => rfl
  | some x =>
    simp only [evalO] at hx
    split at hx <;> simp at hx
/-- A bound's number: its own, or what stands for it. -/
def bnd (d : Int) : Option Value → Option Int
  | none => some d
  | some (.int _ i) => some i
  | _ => none
def oSlice (P : Program) (G : Nat) (tm : H Value) (t : TypeId) (x : Operand) (lo hi mx : Option Operand) : Option Step := match mx, evalA G tm x, evalO G tm lo, evalO G tm hi with
  | none, some (.slice (some ⟨b, o, none⟩) n c), some l, some u => match P.underlying t, bnd 0 l, bnd n u with
    | some (.slice e), some i, some j => match P.info? e with
      | some ie => if decide (0 ≤ i) && decide (i ≤ j) && decide (j ≤ c) then some ⟨[b], fun es _ => match es with
          | [some (.cells _ false _ _)] => some (.val (.slice (some (if c = i.toNat then ⟨b, o, none⟩ else ⟨b, o + i.toNat * ie.size, none⟩)) (j.toNat - i.toNat) (c - i.toNat)), none, none)
          | [some (.cells _ true _ e')] => if (i = 0 ∨ i.toNat < c) ∧ e' = e then some (.val (.slice (some ⟨b, o + i.toNat * ie.size, none⟩) (j.toNat - i.toNat) (c - i.toNat)), none, none) else none
          | _ => none⟩ else none
      | none => none
    | _, _, _ => none
  | none, some u, some l, some v => if closed u && (l.all closed) && (v.all closed) then okP P (Instr.sliceAt t u l v none) else none
  | _, _, _, _ => none
theorem evalO_closed (R : Rel P G w0 μ h w) (T : TRel μ tm a) {x : Option Operand} {l : Option Value} (hx : evalO G tm x = some l) (hc : l.all closed = true) : x.map a.eval = l := by
  cases x with
  | none => simp only [evalO, Option.some.injEq] at hx; rw [← hx]; rfl
  | some x =>
    simp only [evalO] at hx
    split at hx
    · rename_i v hv
      simp only [Option.some.injEq] at hx
      subst hx
      simp only [Option.all_some] at hc
      rw [Option.map_some, closed_eq hc (evalA_rel R T hv)]
    · cases hx
theorem run_bounds {c : Nat} {n : Nat} {lo hi : Option Value} {i j : Int} (hl : bnd 0 lo = some i) (hu : bnd n hi = some j) (h0 : 0 ≤ i) (h1 : i ≤ j) (h2 : j ≤ c) (w : World) :
    (Instr.sliceBounds true n c lo hi none).run P w = .ok (i.toNat, j.toNat, c) w := by
  have ej : ((j.toNat : Nat) : Int) = j := Int.toNat_of_nonneg (by omega)
  have key : ∀ (v : Value) (k : IntKind) (z : Int) (y : Nat) (code : BoundsCode), 0 ≤ z → z ≤ y → (Instr.sliceBound (.int k z) y code).run P w = .ok z.toNat w := fun v k z y code z0 z1 => by
    simp [Instr.sliceBound, asIntOf, z0, z1]
  unfold Instr.sliceBounds
  cases hi with
  | none =>
    simp only [bnd, Option.some.injEq] at hu
    subst hu
    cases lo with
    | none => simp only [bnd, Option.some.injEq] at hl; subst hl; simp
    | some v =>
      cases v <;> simp only [bnd] at hl <;> first | (cases hl; done) | skip
      simp only [Option.some.injEq] at hl
      subst hl
      simp [Sem.run_bind, key (.bool true) _ _ _ _ h0 h1]
  | some u =>
    cases u <;> simp only [bnd] at hu <;> first | (cases hu; done) | skip
    simp only [Option.some.injEq] at hu
    subst hu
    cases lo with
    | none => simp only [bnd, Option.some.injEq] at hl; subst hl; simp [Sem.run_bind, key (.bool true) _ _ _ _ h1 h2]
    | some v =>
      cases v <;> simp only [bnd] at hl <;> first | (cases hl; done) | skip
      simp only [Option.some.injEq] at hl
      subst hl
      simp [Sem.run_bind, key (.bool true) _ _ _ _ (Int.le_trans h0 h1) h2, key (.bool true) _ _ _ _ h0 (show _ ≤ ((_ : Nat) : Int) by rw [ej]; exact h1)]
theorem evalO_bnd (R : Rel P G w0 μ h w) (T : TRel μ tm a) {x : Option Operand} {l : Option Value} {d i : Int} (hx : evalO G tm x = some l) (hb : bnd d l = some i) : bnd d (x.map a.eval) = some i := by
  cases l with
  | none => rw [evalO_none hx]; exact hb
  | some v =>
    cases v <;> simp only [bnd] at hb <;> first | (cases hb; done) | skip
    rw [evalO_int R T hx]
    exact hb
theorem right_slice {o : Oper} {t : TypeId} {x : Operand} {lo hi mx : Option Operand} (ho : o.op = .slice t x lo hi mx) : Right P G w0 o tm (oSlice P G tm t x lo hi mx) := by
  unfold oSlice
  split
  · rename_i b off n c l u hx hlo hhi
    split
    · rename_i e i j hd hl hu
      split
      · rename_i ie hi'
        split
        · rename_i hc
          simp only [Bool.and_eq_true, decide_eq_true_iff] at hc
          obtain ⟨⟨h0, h1⟩, h2⟩ := hc
          intro s hs μ h w a next r upd new R T hr hn
          cases hs
          simp only [List.map_cons, List.map_nil] at hr
          have rx := evalA_rel R T hx
          generalize hx' : a.eval x = x' at rx
          have go : ∀ (base : Option Addr) (c' : Nat), j ≤ c' → a.eval x = .slice base n c' → (execOp a.eval o).run P w = .ok (.value (.slice (if c' = i.toNat then base else base.map (·.add (i.toNat * ie.size))) (j.toNat - i.toNat) (c' - i.toNat))) w := fun base c' hj e => by
            simp only [execOp, ho, e]
            refine run_v ?_
            have hb := run_bounds (P := P) (c := c') (evalO_bnd R T hlo hl) (evalO_bnd R T hhi hu) h0 h1 hj w
            simp [Instr.sliceAt, Instr.slice, run_underlying hd, hb, sizeOf, typeInfo, hi']
          split at hr
          · rename_i wr cs e' he
            simp only [List.cons.injEq, and_true] at he
            simp only [Option.some.injEq, Prod.mk.injEq] at hr
            obtain ⟨rfl, rfl, rfl⟩ := hr
            obtain ⟨m, c', fr, ee, hm, hh, hty, hg, _⟩ := R.row he
            obtain ⟨m', cc, hm', rfl, hcc, hgg, hnn⟩ := rx.slice_inv
            rw [hm] at hm'; cases hm'
            have ec := hgg hg
            subst ec
            refine good_val R ?_ (go _ _ h2 hx')
            by_cases q : cc = i.toNat
            · simp only [if_pos q]
              exact .slice off _ hm (Nat.le_refl _) (fun _ => rfl) (fun q => by rw [hg] at q; cases q)
            · simp only [if_neg q, Option.map_some, Addr.add_lit]
              exact .slice (off + i.toNat * ie.size) _ hm (Nat.le_refl _) (fun _ => rfl) (fun q => by rw [hg] at q; cases q)
          · rename_i wr cs e' he
            simp only [List.cons.injEq, and_true] at he
            split at hr
            · rename_i hcond
              simp only [Option.some.injEq, Prod.mk.injEq] at hr
              obtain ⟨rfl, rfl, rfl⟩ := hr
              obtain ⟨m, c', fr, ee, hm, hh, hty, hg, _, hgr, _⟩ := R.row he
              obtain ⟨m', cc, hm', rfl, hcc, hgg, hnn⟩ := rx.slice_inv
              rw [hm] at hm'; cases hm'
              obtain ⟨q1, q2⟩ := hgr rfl
              rw [hcond.2, hi'] at q2
              simp only [Option.map_some, Option.some.injEq] at q2
              have hn' := hnn hg
              rw [← q2] at hn'
              refine good_val R ?_ (go _ cc (by omega) hx')
              have hadd : (if cc = i.toNat then some (⟨m.b, off, none⟩ : Addr) else (some (⟨m.b, off, none⟩ : Addr)).map (·.add (i.toNat * ie.size))) = some ⟨m.b, off + i.toNat * ie.size, none⟩ := by
                by_cases q : cc = i.toNat
                · have : i = 0 := by rcases hcond.1 with z | z <;> omega
                  subst this
                  simp [Addr.add_lit]
                · simp only [if_neg q, Option.map_some, Addr.add_lit]
              rw [hadd]
              refine .slice (off + i.toNat * ie.size) _ hm (by omega) (fun q => by rw [hg] at q; cases q) (fun _ => ?_)
              rw [← q2, Nat.sub_mul]
              have : i.toNat * ie.size ≤ cc * ie.size := Nat.mul_le_mul_right _ (by omega)
              omega
            · cases hr
          · cases hr
        · exact right_none
      · exact right_none
    · exact right_none
  · rename_i u l v _ hx hlo hhi
    split
    · rename_i hc
      simp only [Bool.and_eq_true] at hc
      refine right_pure fun μ h w a R T => ?_
      have ex := closed_eq hc.1.1 (evalA_rel R T hx)
      simp only [execOp, ho, ex, evalO_closed R T hlo hc.1.2, evalO_closed R T hhi hc.2, Option.map_none]
    · exact right_none
  · exact right_none
end
end
end Go.Proofs.YtefhaojjohddaaaGreatDoor.AM
