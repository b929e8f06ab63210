/- Part 4 of the proof of TwiceMoves: what the functions compute as plain Lean functions, that the machine comes to just these answers, and that the answer is true; no conditions. -/
import Derived.Test.YtjjnfobeeflnhaaTwiceMovesZ0
import Derived.Test.YtjjnfobeeflnhaaTwiceMovesZ1
import Derived.Test.YtjjnfobeeflnhaaTwiceMovesZ2
import Derived.Test.YtjjnfobeeflnhaaTwiceMovesZ3
import Derived.Test.YtjjnfobeeflnhaaRows
import Derived.WalkKit
import Derived.ProofKit
import Derived.OpenShut
import Derived.ShutString
import Derived.ChangeOld
import Derived.Below
import Derived.SizedLaws
/- What works on two rows of coefficients tells: tests, products, divisions, greatest common divisors. -/
namespace Go.Proofs.Ytjjnfobeeflnhaa.L
open Go.RowKit Go.Proofs.YtjjnfobeeflnhaaW.PrintWords Go.Proofs.Ytjjnfobeeflnhaa.J
set_option linter.unusedVariables false
set_option linter.unusedSimpArgs false

section
variable {q : Nat}
theorem oI_max (f : List (Fin q)) (h : f.length ≤ 1000) : (oI f).length ≤ maxLen := by rw [oI_length]; simp only [maxLen]; omega
end
section
variable {q : Nat} [NeZero q]
/-! the greatest common divisor -/
/-- d divides f. -/
def Dvd (d f : List (Fin q)) : Prop := ∃ c, Fld.Eqv f (Fld.mul c d)
theorem Dvd.nil (d : List (Fin q)) : Dvd d [] := ⟨[], Fld.Eqv.refl _⟩
end
end Go.Proofs.Ytjjnfobeeflnhaa.L

/- The statement PolyValued as plain Lean. -/
namespace Go.Proofs.Ytjjnfobeeflnhaa.L
open Go.RowKit Go.Proofs.YtjjnfobeeflnhaaW.PrintWords Go.Proofs.Ytjjnfobeeflnhaa.J
set_option linter.unusedVariables false
set_option linter.unusedSimpArgs false

section
variable {q : Nat} [NeZero q]
theorem minusI_fp (hq : q ≤ 65537) (f g : List (Fin q)) : minusI (q : Int) (oI f) (oI g) = oI (Fld.trim (Fld.sub f g)) :=
  zip_fp (fun a b => (field_Minus.f (q : Int) a b).getD 0) (fun a b => a - b) (fun a b => by simp only [minus_fp hq, Option.getD_some]) f g
theorem minus_rows (hq : q ≤ 65537) (f g : List (Fin q)) (hf : f.length ≤ 1000000000) (hg : g.length ≤ 1000000000) : Ev (fun k => poly_Minus.f k (q : Int) (oI f) (oI g)) (oI (Fld.trim (Fld.sub f g))) := by
  have hz : (q : Int) ≠ 0 := by have := q_pos (q := q); omega
  have h := minusI_spec (q : Int) (oI f) (oI g) hz (by rw [oI_length, oI_length]; omega) (2 * max (oI f).length (oI g).length + 2) (by omega)
  rw [minusI_fp hq] at h
  exact Ev.of (poly_Minus.mono _ _ _) h
end

end Go.Proofs.Ytjjnfobeeflnhaa.L

/- A mask whose high values are less by a product: what the program's call answers, and the laws of it. -/
namespace Go.Proofs.Ytjjnfobeeflnhaa.L
open Go.RowKit Go.Proofs.YtjjnfobeeflnhaaW.PrintWords Go.Proofs.Ytjjnfobeeflnhaa.J
set_option linter.unusedVariables false
set_option linter.unusedSimpArgs false

section
variable {q : Nat} [NeZero q]
/-- One row of the moved mask. -/
def mvF (l : List (List (Fin q))) (z b : List (Fin q)) (k : Nat) : List (Fin q) := Fld.trim (Fld.sub (l.getD k []) (Fld.trim (Fld.smul (Fld.co b k) z)))
def mvL (l : List (List (Fin q))) (z b : List (Fin q)) (n : Nat) : List (List (Fin q)) := (List.range n).map (mvF l z b)
theorem mvL_length (l : List (List (Fin q))) (z b : List (Fin q)) (n : Nat) : (mvL l z b n).length = n := by simp [mvL]
theorem mvF_length (l : List (List (Fin q))) (z b : List (Fin q)) (k w : Nat) (hl : ∀ f ∈ l, f.length ≤ w) (hz : z.length ≤ w) : (mvF l z b k).length ≤ w := by
  have h : (l.getD k []).length ≤ w := by
    rw [List.getD_eq_getElem?_getD]
    by_cases hk : k < l.length
    · rw [List.getElem?_eq_getElem hk]; exact hl _ (List.getElem_mem hk)
    · rw [List.getElem?_eq_none (by omega)]; exact Nat.zero_le _
  have h1 := Fld.trim_length_le (Fld.smul (Fld.co b k) z)
  rw [Fld.smul_length] at h1
  have h2 := Fld.trim_length_le (Fld.sub (l.getD k []) (Fld.trim (Fld.smul (Fld.co b k) z)))
  rw [Fld.sub_length] at h2
  unfold mvF
  omega
theorem mvL_rows (l : List (List (Fin q))) (z b : List (Fin q)) (n w : Nat) (hl : ∀ f ∈ l, f.length ≤ w) (hz : z.length ≤ w) : ∀ f ∈ mvL l z b n, f.length ≤ w := fun f hf => by
  obtain ⟨k, _, rfl⟩ := List.mem_map.1 hf
  exact mvF_length l z b k w hl hz
/-- What is computed so far, and nothing behind. -/
def mvO (l : List (List (Fin q))) (z b : List (Fin q)) (n i : Nat) : List (List Int) := (mvL l z b i).map oI ++ List.replicate (n - i) []
theorem mvO_length (l : List (List (Fin q))) (z b : List (Fin q)) (n i : Nat) (h : i ≤ n) : (mvO l z b n i).length = n := by simp [mvO, mvL]; omega
theorem mvL_succ (l : List (List (Fin q))) (z b : List (Fin q)) (i : Nat) : mvL l z b (i + 1) = mvL l z b i ++ [mvF l z b i] := by simp [mvL, List.range_succ]
theorem mvO_set (l : List (List (Fin q))) (z b : List (Fin q)) (n i : Nat) (h : i < n) : (mvO l z b n i).set i (oI (mvF l z b i)) = mvO l z b n (i + 1) := by
  obtain ⟨m, rfl⟩ : ∃ m, n = i + 1 + m := ⟨n - (i + 1), by omega⟩
  unfold mvO
  rw [mvL_succ, List.map_append, show i + 1 + m - i = m + 1 by omega, show i + 1 + m - (i + 1) = m by omega, List.replicate_succ]
  have hl : ((mvL l z b i).map oI).length = i := by simp [mvL]
  rw [List.set_append_right _ _ (by omega), hl, Nat.sub_self, List.set_cons_zero, List.append_assoc]
  rfl
end
section
variable {q : Nat}
theorem rd_map (l : List (List (Fin q))) (i : Nat) : rd_L3 (l.map oI) (i : Int) = oI (l.getD i []) := by
  simp only [rd_L3, Int.toNat_natCast, List.getD_eq_getElem?_getD, List.getElem?_map]
  by_cases h : i < l.length
  · rw [List.getElem?_eq_getElem h]; rfl
  · rw [List.getElem?_eq_none (by omega)]; rfl
end
section
variable {q : Nat} [NeZero q]
theorem moved_loop (hq : q ≤ 65537) (p n t : Int) (l : List (List (Fin q))) (z b : List (Fin q)) (hl : l.length ≤ 1000) (hr : ∀ f ∈ l, f.length ≤ 1000) (hz : z.length ≤ 1000) (m : Nat) : ∀ i : Nat, i + m = l.length →
    Ev (fun k => twice_Moved.l0 k (oI z) (oI b) (mvO l z b l.length i) (l.map oI) (l.length : Int) (i : Int) (q : Int) n t) ((mvL l z b l.length).map oI, 0) := by
  induction m with
  | zero =>
    intro i hi
    obtain rfl : i = l.length := by omega
    refine Ev.step (f := fun k => some ((mvL l z b l.length).map oI, 0)) (fun k => ?_) (Ev.now _)
    conv => lhs; simp only [twice_Moved.l0]
    rw [if_neg (by omega)]
    simp [mvO]
  | succ m ih =>
    intro i hi
    have hw : wrap64 ((i : Int) + 1) = ((i + 1 : Nat) : Int) := by rw [w64_small (by omega) (by omega)]; omega
    have h := ih (i + 1) (by omega)
    rw [← mvO_set l z b l.length i (by omega)] at h
    have hgl : (l.getD i []).length ≤ 1000 := by
      rw [List.getD_eq_getElem?_getD, List.getElem?_eq_getElem (show i < l.length by omega)]
      exact hr _ (List.getElem_mem _)
    have h1 := Fld.trim_length_le (Fld.smul (Fld.co b i) z)
    rw [Fld.smul_length] at h1
    have hby := by_rows hq z (Fld.co b i) (by omega)
    have hmi := minus_rows hq (l.getD i []) (Fld.trim (Fld.smul (Fld.co b i) z)) (by omega) (by omega)
    have hlen := mvO_length l z b l.length i (by omega)
    refine Ev.step (f := fun k => (poly_By.f k (q : Int) (oI z) (nI (Fld.co b i))).bind fun v => (poly_Minus.f k (q : Int) (oI (l.getD i [])) v).bind fun u => twice_Moved.l0 k (oI z) (oI b) ((mvO l z b l.length i).set i u) (l.map oI) (l.length : Int) ((i + 1 : Nat) : Int) (q : Int) n t) (fun k => ?_) (Ev.bind hby (Ev.bind hmi h))
    conv => lhs; simp only [twice_Moved.l0]
    rw [if_pos (by omega), if_pos (by omega), if_pos (by rw [List.length_map]; omega), rd_map, hw]
    simp only [hlen, show ((i : Int) < (l.length : Int)) by omega, if_true, Int.toNat_natCast]
    by_cases hb : (i : Int) < ((oI b).length : Int)
    · rw [if_pos hb, rd_oI]
    · rw [oI_length] at hb
      rw [oI_length, if_neg hb, Fld.co_ge (f := b) (by omega), nI_zero]
theorem pre_ok (p t : Int) (row : List Int) (hl : row.length ≤ maxLen) (ht : (row.length : Int) ≤ t + 1) (hw : wrap64 (t + 1) = t + 1) (hb : belowV p row = 0) {c : Nat → Option (List (List Int) × Int)} {r : List (List Int) × Int} (h : Ev c r) : Ev (fun k => twice_Moved.pre k p t row (c k)) r := by
  unfold twice_Moved.pre
  simp only [hw, show ¬ ((row.length : Int) > t + 1) by omega, if_false]
  have hf := field_below p row hl
  rw [hb] at hf
  refine Ev.bind hf ?_
  simp only [if_true]
  exact h
end
section
variable {q : Nat}
theorem belowV_oI (f : List (Fin q)) : belowV (q : Int) (oI f) = 0 := by
  unfold belowV
  rw [if_pos fun x hx => (oI_range f x hx).2]
end
section
variable {q : Nat} [NeZero q]
theorem moved_ok (hq : q ≤ 65537) (n : Int) (t : Nat) (ht : t ≤ 3) (l : List (List (Fin q))) (z b : List (Fin q)) (hc : checkV (q : Int) n (t : Int) (l.map oI) = 0) (hl : l.length = t + 1) (hr : ∀ f ∈ l, f.length ≤ t + 1) (hz : z.length ≤ t + 1) (hb : b.length ≤ t + 1) :
    Ev (fun k => twice_Moved.f k (q : Int) n (t : Int) (l.map oI) (oI z) (oI b)) ((mvL l z b l.length).map oI, 0) := by
  have hw : wrap64 ((t : Int) + 1) = (t : Int) + 1 := w64_small (by omega) (by omega)
  have loop := moved_loop hq (q : Int) n (t : Int) l z b (by omega) (fun f hf => by have := hr f hf; omega) (by omega) l.length 0 (by omega)
  have e0 : mvO l z b l.length 0 = List.replicate l.length [] := by simp [mvO, mvL]
  rw [e0] at loop
  unfold twice_Moved.f
  refine Ev.bind (twice_check (q : Int) n (t : Int) (l.map oI) (fun f hf => by obtain ⟨g, hg, rfl⟩ := List.mem_map.1 hf; have := hr g hg; exact oI_max g (by omega))) ?_
  simp only [hc, if_true]
  refine pre_ok _ _ _ (oI_max z (by omega)) (by rw [oI_length]; omega) hw (belowV_oI z) (pre_ok _ _ _ (oI_max b (by omega)) (by rw [oI_length]; omega) hw (belowV_oI b) ?_)
  simp only [List.length_map, show (0 : Int) ≤ (l.length : Int) by omega, if_true, Int.toNat_natCast, show l.length ≤ 11728124029610 by omega]
  exact loop
/-! the laws -/
end

end Go.Proofs.Ytjjnfobeeflnhaa.L

/- The statement TwiceMoved as plain Lean. -/
namespace Go.Proofs.Ytjjnfobeeflnhaa.L
open Go.RowKit Go.Proofs.YtjjnfobeeflnhaaW.PrintWords Go.Proofs.Ytjjnfobeeflnhaa.J
set_option linter.unusedVariables false
set_option linter.unusedSimpArgs false



theorem len_of {a : Nat} {t : Int} {n : Nat} (ht : t = (n : Int)) (h : ¬ ((a : Int) > t + 1)) : a ≤ n + 1 := by omega
theorem len_201 {a : Nat} {t : Int} (ht : t ≤ 3) (h : ¬ ((a : Int) > t + 1)) : a ≤ 201 := by omega
theorem nat_of {p : Int} (h : 3 ≤ p) : ∃ q : Nat, p = (q : Int) := ⟨p.toNat, by omega⟩
theorem nat_of0 {p : Int} (h : 0 ≤ p) : ∃ q : Nat, p = (q : Int) := ⟨p.toNat, by omega⟩
theorem within_of {p : Int} {l : List Int} {t : Int} (ht : t ≤ 3) (h : ¬ ((l.length : Int) > t + 1)) (hb : belowV p l = 0) : withinV p l = 0 := by
  rw [withinV_ne _ _ (len_201 ht h)]; exact hb
end Go.Proofs.Ytjjnfobeeflnhaa.L

/- The statement TwiceMoves as plain Lean. -/
namespace Go.Proofs.Ytjjnfobeeflnhaa.L
open Go.RowKit Go.Proofs.YtjjnfobeeflnhaaW.PrintWords Go.Proofs.Ytjjnfobeeflnhaa.J
set_option linter.unusedVariables false
set_option linter.unusedSimpArgs false

/-- What one row adds to what is wrong. -/
def addV (p t e : Int) (row : List Int) : Int := if e = 0 then (if (row.length : Int) > wrap64 (t + 1) then 3 else belowV p row) else e
theorem addV_ne (p t : Int) {e : Int} (h : e ≠ 0) (row : List Int) : addV p t e row = e := by
  unfold addV
  rw [if_neg h]
theorem step_at (p t e : Int) (row : List Int) (hl : row.length ≤ maxLen) : Ev (fun k => juntolaw07_TwiceMoves.step k p t e row) (addV p t e row) := by
  unfold juntolaw07_TwiceMoves.step addV
  by_cases h0 : e = 0
  · simp only [h0, if_true]
    by_cases h1 : (row.length : Int) > wrap64 (t + 1)
    · simp only [h1, if_true]; exact Ev.now _
    · simp only [h1, if_false]; exact ref_within p row hl
  · simp only [h0, if_false]; exact Ev.now _
theorem both_at (p t e : Int) (a b : List Int) (ha : a.length ≤ maxLen) (hb : b.length ≤ maxLen) : Ev (fun k => juntolaw07_TwiceMoves.both k p t e a b) (addV p t (addV p t e a) b) := by
  unfold juntolaw07_TwiceMoves.both
  exact Ev.bind (step_at p t e a ha) (step_at p t _ b hb)
theorem pre_at (p t : Int) (row : List Int) (hl : row.length ≤ maxLen) {c : Nat → Option (List (List Int) × Int)} {r : List (List Int) × Int} (h : addV p t 0 row = 0 → Ev c r) : Ev (fun k => twice_Moved.pre k p t row (c k)) (if addV p t 0 row = 0 then r else ([], addV p t 0 row)) := by
  unfold twice_Moved.pre
  unfold addV at h ⊢
  simp only [if_true] at h ⊢
  by_cases h1 : (row.length : Int) > wrap64 (t + 1)
  · simp only [h1, if_true, show ¬ ((3 : Int) = 0) by decide, if_false]
    exact Ev.now _
  · simp only [h1, if_false] at h ⊢
    refine Ev.bind (field_below p row hl) ?_
    by_cases hb : belowV p row = 0
    · simp only [hb, if_true]
      exact h hb
    · simp only [hb, if_false]
      exact Ev.now _
section
variable {q : Nat} [NeZero q]
theorem co_more (b : List (Fin q)) (n i : Nat) : Fld.co (b ++ List.replicate n (0 : Fin q)) i = Fld.co b i := by
  rw [co_append]
  by_cases h : i < b.length
  · rw [if_pos h]
  · rw [if_neg h, co_zeros (q := q), Fld.co_ge (f := b) (by omega)]
theorem rmoved_loop (h1 : 1 < q) (hq : q ≤ 65537) (p n t : Int) (l : List (List (Fin q))) (z b : List (Fin q)) (hl : l.length ≤ 1000) (hr : ∀ f ∈ l, f.length ≤ 1000) (hz : z.length ≤ 1000) (m : Nat) : ∀ i : Nat, i + m = l.length →
    Ev (fun k => juntoref07_Moved.l0 k (oI z) (oI (b ++ List.replicate l.length (0 : Fin q))) ((mvL l z b i).map oI) (l.map oI) (l.length : Int) (i : Int) (q : Int) n t) ((mvL l z b l.length).map oI) := by
  induction m with
  | zero =>
    intro i hi
    obtain rfl : i = l.length := by omega
    refine Ev.step (f := fun k => some ((mvL l z b l.length).map oI)) (fun k => ?_) (Ev.now _)
    conv => lhs; simp only [juntoref07_Moved.l0]
    rw [if_neg (by omega)]
  | succ m ih =>
    intro i hi
    have hw : wrap64 ((i : Int) + 1) = ((i + 1 : Nat) : Int) := by rw [w64_small (by omega) (by omega)]; omega
    have h := ih (i + 1) (by omega)
    rw [mvL_succ, List.map_append] at h
    have hgl : (l.getD i []).length ≤ 1000 := by
      rw [List.getD_eq_getElem?_getD, List.getElem?_eq_getElem (show i < l.length by omega)]
      exact hr _ (List.getElem_mem _)
    have h2 := Fld.trim_length_le (Fld.smul (Fld.co b i) z)
    rw [Fld.smul_length] at h2
    have hby := scale_rows hq z (Fld.co b i) (by omega)
    have hmi := sub_rows h1 hq (l.getD i []) (Fld.trim (Fld.smul (Fld.co b i) z)) (by omega) (by omega)
    refine Ev.step (f := fun k => (juntoref02_Scale.f k (q : Int) (oI z) (nI (Fld.co b i))).bind fun v => (juntoref02_Sub.f k (q : Int) (oI (l.getD i [])) v).bind fun u => juntoref07_Moved.l0 k (oI z) (oI (b ++ List.replicate l.length (0 : Fin q))) ((mvL l z b i).map oI ++ [u]) (l.map oI) (l.length : Int) ((i + 1 : Nat) : Int) (q : Int) n t) (fun k => ?_) (Ev.bind hby (Ev.bind hmi h))
    conv => lhs; simp only [juntoref07_Moved.l0]
    rw [if_pos (by omega), if_pos (by omega), if_pos (by rw [List.length_map]; omega), if_pos (by rw [oI_length (q := q), List.length_append, List.length_replicate]; omega), rd_map, rd_oI, co_more, hw]
    simp only [show ((mvL l z b i).map oI).length < 5864062014805 by rw [List.length_map, mvL_length]; omega, if_true]
theorem ref_moved (h1 : 1 < q) (hq : q ≤ 65537) (n t : Int) (l : List (List (Fin q))) (z b : List (Fin q)) (hl : l.length ≤ 1000) (hr : ∀ f ∈ l, f.length ≤ 1000) (hz : z.length ≤ 1000) (hb : b.length ≤ 1000) : Ev (fun k => juntoref07_Moved.f k (q : Int) n t (l.map oI) (oI z) (oI b)) ((mvL l z b l.length).map oI) := by
  refine Ev.congr (fun k => ?_) (rmoved_loop h1 hq (q : Int) n t l z b hl hr hz l.length 0 (by omega))
  unfold juntoref07_Moved.f
  have e : oI b ++ List.replicate l.length 0 = oI (b ++ List.replicate l.length (0 : Fin q)) := by rw [oI_append, oI_zeros (q := q)]
  simp only [Option.bind_some, List.nil_append, List.length_nil, List.length_map, Int.toNat_natCast, e]
  rw [if_pos (by rw [oI_length]; omega), if_pos (by omega), if_pos (by rw [oI_length]; omega)]
  rfl
end
theorem moves_out (p n t e : Int) (he : e ≠ 0) : Ev (fun k => (juntolaw07_is.f k [] e [] e).bind fun u => if u = true then (juntolaw07_alive.f k).bind fun v => some v else some false) true := by
  refine Ev.bind (is07_bad e he) ?_
  simp only [if_true]
  exact Ev.bind alive07 (Ev.now _)
theorem addV_wide {p t : Int} (ht : wrap64 (t + 1) = t + 1) {row : List Int} (h : addV p t 0 row = 0) : ¬ ((row.length : Int) > t + 1) ∧ belowV p row = 0 := by
  unfold addV at h
  rw [if_pos rfl, ht] at h
  by_cases h1 : (row.length : Int) > t + 1
  · rw [if_pos h1] at h; cases h
  · rw [if_neg h1] at h; exact ⟨h1, h⟩
theorem wrap_small {t : Int} (h0 : 0 ≤ t) (h3 : t ≤ 3) : wrap64 (t + 1) = t + 1 := w64_small (by omega) (by omega)

set_option maxHeartbeats 1000000 in
theorem twiceMoves (x0_0 : Int) (x0_1 : Int) (x0_2 : Int) (x1 : List (List Int)) (x2_0 : List Int) (x2_1 : List Int) (w0_0 : (Lit.int .u64 x0_0).wf = true) (w0_1 : (Lit.int .i64 x0_1).wf = true) (w0_2 : (Lit.int .i64 x0_2).wf = true) (w1 : x1.length ≤ maxLen ∧ x1.length * 24 ≤ 140737488351232 ∧ ∀ x1' ∈ x1, x1'.length ≤ maxLen ∧ x1'.length * 8 ≤ 140737488351232 ∧ ∀ x1'' ∈ x1', (Lit.int .u64 x1'').wf = true) (w2_0 : x2_0.length ≤ maxLen ∧ x2_0.length * 8 ≤ 140737488351232 ∧ ∀ x2_0' ∈ x2_0, (Lit.int .u64 x2_0').wf = true) (w2_1 : x2_1.length ≤ maxLen ∧ x2_1.length * 8 ≤ 140737488351232 ∧ ∀ x2_1' ∈ x2_1, (Lit.int .u64 x2_1').wf = true) : ∃ k, juntolaw07_TwiceMoves.f k x0_0 x0_1 x0_2 x1 x2_0 x2_1 = some true := by
  suffices h : Ev (fun k => juntolaw07_TwiceMoves.f k x0_0 x0_1 x0_2 x1 x2_0 x2_1) true from h.rounds
  have hu : ∀ c ∈ x2_0, 0 ≤ c := fun c hc => (u64_wf (w2_0.2.2 c hc)).1
  have hv : ∀ c ∈ x2_1, 0 ≤ c := fun c hc => (u64_wf (w2_1.2.2 c hc)).1
  have rc := ref_check x0_0 x0_1 x0_2 x1 w1.1 (fun f hf => (w1.2.2 f hf).1)
  have pc := twice_check x0_0 x0_1 x0_2 x1 (fun f hf => (w1.2.2 f hf).1)
  have bt := both_at x0_0 x0_2 (checkV x0_0 x0_1 x0_2 x1) x2_0 x2_1 w2_0.1 w2_1.1
  unfold juntolaw07_TwiceMoves.f
  by_cases h0 : checkV x0_0 x0_1 x0_2 x1 = 0
  · rw [h0] at rc pc bt
    have hs := (checkV_zero h0).1
    obtain ⟨h3, hq, hn1, hn13, ht0, ht3, hnt, hnp⟩ := setupV_small hs
    have hw := wrap_small ht0 ht3
    by_cases e1 : addV x0_0 x0_2 0 x2_0 = 0
    · by_cases e2 : addV x0_0 x0_2 0 x2_1 = 0
      · have hp1 := (setupV_ok hs).1
        obtain ⟨b1, b3⟩ := addV_wide hw e1
        obtain ⟨b2, b4⟩ := addV_wide hw e2
        have c1 := within_of ht3 b1 b3
        have c2 := within_of ht3 b2 b4
        obtain ⟨q, rfl⟩ := nat_of h3
        have hz : NeZero q := ⟨fun e => by rw [e] at h3; exact absurd h3 (by decide)⟩
        have h2 : 2 < q := Int.ofNat_lt.1 (Int.lt_of_lt_of_le (by decide : (2 : Int) < 3) h3)
        have hq' : q ≤ 65537 := Int.ofNat_le.1 hq
        obtain ⟨t, rfl⟩ := nat_of0 ht0
        have ht3' : t ≤ 3 := Int.ofNat_le.1 ht3
        have l1 := len_of rfl b1
        have l2 := len_of rfl b2
        obtain ⟨f, fs, rfl, hfl, hrow, hmax⟩ := mask_of h0 (fun f hf c hc => (u64_wf ((w1.2.2 f hf).2.2 c hc)).1) q rfl
        obtain ⟨z, rfl, hZ⟩ := rows_of c1 hu
        obtain ⟨b, rfl, hB⟩ := rows_of c2 hv
        rw [oI_length] at l1 l2
        have hlen : (f :: fs).length = t + 1 := by rw [List.length_cons, Int.ofNat_inj.1 hfl.1]
        have hr : ∀ g ∈ f :: fs, g.length ≤ t + 1 := fun g hg => Int.ofNat_le.1 (hrow g hg)
        have k0 : t + 1 ≤ 1000 := Nat.le_trans (Nat.add_le_add_right ht3' 1) (by decide)
        have hm := moved_ok hq' x0_1 t ht3' (f :: fs) z b h0 hlen hr l1 l2
        have rm := ref_moved (Nat.lt_trans (by decide) h2) hq' x0_1 (t : Int) (f :: fs) z b (hlen ▸ k0) (fun g hg => Nat.le_trans (hr g hg) k0) (Nat.le_trans l1 k0) (Nat.le_trans l2 k0)
        have hmr := mvL_rows (f :: fs) z b (f :: fs).length (t + 1) hr l1
        have sm := is07_same ((mvL (f :: fs) z b (f :: fs).length).map oI) (by rw [List.length_map, mvL_length, hlen]; exact Nat.le_trans k0 (by decide)) (fun g hg => by obtain ⟨u, hu, rfl⟩ := List.mem_map.1 hg; exact oI_max u (Nat.le_trans (hmr u hu) k0))
        rw [e1, e2] at bt
        refine Ev.bind hm (Ev.bind rc (Ev.bind bt ?_))
        simp only [if_true]
        refine Ev.bind rm (Ev.bind sm ?_)
        simp only [if_true]
        exact Ev.bind alive07 (Ev.now _)
      · have pm : Ev (fun k => twice_Moved.f k x0_0 x0_1 x0_2 x1 x2_0 x2_1) ([], addV x0_0 x0_2 0 x2_1) := by
          unfold twice_Moved.f
          refine Ev.bind pc ?_
          simp only [if_true]
          have hi := pre_at x0_0 x0_2 x2_1 w2_1.1 (c := fun k => if 0 ≤ (x1.length : Int) then (if ((x1.length : Int) : Int).toNat ≤ 11728124029610 then (twice_Moved.l0 k x2_0 x2_1 (List.replicate ((x1.length : Int) : Int).toNat []) x1 (x1.length : Int) 0 x0_0 x0_1 x0_2) else none) else none) (r := ([], addV x0_0 x0_2 0 x2_1)) (fun e => absurd e e2)
          rw [if_neg e2] at hi
          have ho := pre_at x0_0 x0_2 x2_0 w2_0.1 (fun _ => hi)
          rw [if_pos e1] at ho
          exact ho
        rw [e1] at bt
        refine Ev.bind pm (Ev.bind rc (Ev.bind bt ?_))
        simp only [e2, if_false]
        exact moves_out x0_0 x0_1 x0_2 _ e2
    · have pm : Ev (fun k => twice_Moved.f k x0_0 x0_1 x0_2 x1 x2_0 x2_1) ([], addV x0_0 x0_2 0 x2_0) := by
        unfold twice_Moved.f
        refine Ev.bind pc ?_
        simp only [if_true]
        have ho := pre_at x0_0 x0_2 x2_0 w2_0.1 (c := fun k => twice_Moved.pre k x0_0 x0_2 x2_1 (if 0 ≤ (x1.length : Int) then (if ((x1.length : Int) : Int).toNat ≤ 11728124029610 then (twice_Moved.l0 k x2_0 x2_1 (List.replicate ((x1.length : Int) : Int).toNat []) x1 (x1.length : Int) 0 x0_0 x0_1 x0_2) else none) else none)) (r := ([], addV x0_0 x0_2 0 x2_0)) (fun e => absurd e e1)
        rw [if_neg e1] at ho
        exact ho
      have eb : addV x0_0 x0_2 (addV x0_0 x0_2 0 x2_0) x2_1 = addV x0_0 x0_2 0 x2_0 := addV_ne _ _ e1 _
      rw [eb] at bt
      refine Ev.bind pm (Ev.bind rc (Ev.bind bt ?_))
      simp only [e1, if_false]
      exact moves_out x0_0 x0_1 x0_2 _ e1
  · have pm : Ev (fun k => twice_Moved.f k x0_0 x0_1 x0_2 x1 x2_0 x2_1) ([], checkV x0_0 x0_1 x0_2 x1) := by
      unfold twice_Moved.f
      refine Ev.bind pc ?_
      simp only [h0, if_false]
      exact Ev.now _
    have ea : ∀ row, addV x0_0 x0_2 (checkV x0_0 x0_1 x0_2 x1) row = checkV x0_0 x0_1 x0_2 x1 := fun row => addV_ne _ _ h0 row
    rw [ea, ea] at bt
    refine Ev.bind pm (Ev.bind rc (Ev.bind bt ?_))
    simp only [h0, if_false]
    exact moves_out x0_0 x0_1 x0_2 _ h0

end Go.Proofs.Ytjjnfobeeflnhaa.L

/- The row of TwiceMoves: for every input the call returns true and changes nothing; no conditions. Out of the contract of the function and the plain law. -/
namespace Go.Proofs.Ytjjnfobeeflnhaa.twiceMoves
open Go.ChangeShapes Go.WideShapes Go.ChangeAt Go.RowKit Go.Proofs.YtjjnfobeeflnhaaW.PrintWords Go.Proofs.Ytjjnfobeeflnhaa.J Go.Proofs.Ytjjnfobeeflnhaa.Op
set_option linter.unusedVariables false
theorem own : ownKnob Try.prog.godebug = none := by kernel_rfl
theorem laidOut : laidOutB Try.prog = true := by kernel_rfl
set_option maxRecDepth 100000 in
theorem op0 : Opens Try.prog (Kd.pair (Kd.int .u64) (Kd.pair (Kd.int .i64) (Kd.int .i64))) 24 (fun x => (fun n => (Lit.int .u64 n).wf = true) x.1 ∧ (fun x => (fun n => (Lit.int .i64 n).wf = true) x.1 ∧ (fun n => (Lit.int .i64 n).wf = true) x.2) x.2) := (op_agg Try.underlying24 (opL_cons (by kernel_rfl) (by kernel_rfl) (op_int Try.underlying22) (by kernel_rfl) (opL_cons (by kernel_rfl) (by kernel_rfl) (op_int Try.underlying3) (by kernel_rfl) (opL_one (by kernel_rfl) (by kernel_rfl) (op_int Try.underlying3)))))
set_option maxRecDepth 100000 in
theorem op1 : Opens Try.prog (Kd.slice 31 (Kd.slice 22 (Kd.int .u64))) 25 (fun l => l.length ≤ maxLen ∧ l.length * 24 ≤ 140737488351232 ∧ ∀ a ∈ l, (fun l => l.length ≤ maxLen ∧ l.length * 8 ≤ 140737488351232 ∧ ∀ a ∈ l, (fun n => (Lit.int .u64 n).wf = true) a) a) := (op_slice Try.underlying25 (by kernel_rfl) (by kernel_rfl) (op_slice Try.underlying31 (by kernel_rfl) (by kernel_rfl) (op_int Try.underlying22)))
set_option maxRecDepth 100000 in
theorem op2 : Opens Try.prog (Kd.pair (Kd.slice 22 (Kd.int .u64)) (Kd.slice 22 (Kd.int .u64))) 50 (fun x => (fun l => l.length ≤ maxLen ∧ l.length * 8 ≤ 140737488351232 ∧ ∀ a ∈ l, (fun n => (Lit.int .u64 n).wf = true) a) x.1 ∧ (fun l => l.length ≤ maxLen ∧ l.length * 8 ≤ 140737488351232 ∧ ∀ a ∈ l, (fun n => (Lit.int .u64 n).wf = true) a) x.2) := (op_agg Try.underlying50 (opL_cons (by kernel_rfl) (by kernel_rfl) (op_slice Try.underlying31 (by kernel_rfl) (by kernel_rfl) (op_int Try.underlying22)) (by kernel_rfl) (opL_one (by kernel_rfl) (by kernel_rfl) (op_slice Try.underlying31 (by kernel_rfl) (by kernel_rfl) (op_int Try.underlying22)))))
set_option maxRecDepth 100000 in
theorem lifted (os : Os) (started : os.Started) (H : Type) (enc : TypeId × Value → H) :
    ReturnsInHanded {} Try.checked os 9 .any (Rows.twiceMovesSpec.pre6 enc Try.prog Try.f9 Rows.twiceMovesRow.domain false) (Rows.twiceMovesSpec.post enc Try.prog Try.f9 false true false false) := by
  refine returnsInHanded_of_change_sized (C := Try.checked) own started (by kernel_rfl) Try.func9
    (ChangeSpec.witness6 (enc := enc) (C := Try.checked) false ⟨#[], #[.agg #[.int .u64 0, .int .i64 0, .int .i64 0], .slice none 0 0, .agg #[.slice none 0 0, .slice none 0 0]], []⟩ 8 (by kernel_rfl) (by kernel_rfl) (by kernel_rfl) (by kernel_rfl)) ?_
  intro W base args ds gs before hval0 hW hcnd hsz0 _
  have hsz : (DataW.weightsEach Try.prog (Try.f9.params.toList ++ Rows.twiceMovesSpec.plain.varTypes Try.prog) (ds ++ gs)).all (· ≤ reachBytes) = true := hsz0
  have hval : ∀ (j : Nat) t v, Try.f9.params[j]? = some t → args[j]? = some v → Value.okWide Try.prog W .any base t v := hval0
  have hW' := hW
  obtain ⟨p, q, hA0, hV, rfl, hfz, hnd⟩ := hW
  have hA : DataW.TrodAll enc Try.prog W 0 (fun _ => true) true Try.f9.params.toList args.toList ds p := hA0
  rw [Try.params9] at hA hval hsz
  obtain ⟨v0, vs0, d0, ds0, p0, q0, hargs, rfl, rfl, h0, r0⟩ := trodAll_cons hA
  obtain ⟨v1, vs1, d1, ds1, p1, q1, rfl, rfl, rfl, h1, r1⟩ := trodAll_cons r0
  obtain ⟨v2, vs2, d2, ds2, p2, q2, rfl, rfl, rfl, h2, r2⟩ := trodAll_cons r1
  obtain ⟨rfl, rfl, rfl⟩ := trodAll_nil r2
  obtain rfl : args = #[v0, v1, v2] := by cases args; simp_all
  obtain ⟨rfl, rfl⟩ := trodVars_none hV
  have k0 := h0
  have lt0 : ∀ x ∈ p0, x.block < W.heap.size := by obtain ⟨m, hm⟩ := k0; exact DataW.trod_lt m _ _ _ hm
  obtain ⟨cs0, rfl, hn0⟩ := okWide_agg Try.underlying24 (hval 0 24 v0 rfl rfl)
  obtain ⟨⟨x0_0, x0_1, x0_2⟩, K0, ⟨w0_0, w0_1, w0_2⟩⟩ := arg op0 (by show cs0.toList.length = _; rw [Array.length_toList, hn0]; kernel_rfl) h0 hsz (j := 0) rfl rfl
  obtain ⟨g0_0, rg0_0, qg0_0, l0_0, M0_0⟩ := K0
  have l0_0' : g0_0 = [Value.int .u64 x0_0] := l0_0
  obtain ⟨g0_1, rg0_1, qg0_1, l0_1, M0_1⟩ := M0_0
  have l0_1' : g0_1 = [Value.int .i64 x0_1] := l0_1
  have M0_1' : rg0_1 = [Value.int .i64 x0_2] := M0_1
  obtain rfl : cs0 = #[.int .u64 x0_0, .int .i64 x0_1, .int .i64 x0_2] := by
    apply Array.toList_inj.1
    have z0 : cs0.toList = _ := qg0_0
    rw [z0, l0_0', qg0_1, l0_1', M0_1']
    rfl
  have k1 := h1
  have lt1 : ∀ x ∈ p1, x.block < W.heap.size := by obtain ⟨m, hm⟩ := k1; exact DataW.trod_lt m _ _ _ hm
  obtain ⟨a1, len1, cap1, rfl⟩ := okWide_slice Try.underlying25 (hval 1 25 v1 rfl rfl)
  obtain ⟨x1, ⟨A1, c1, e1, hc1, hr1⟩, w1⟩ := arg op1 rfl h1 hsz (j := 1) rfl rfl
  have e1' : [Value.slice a1 len1 cap1] = [Value.slice A1 x1.length c1] := e1
  obtain ⟨rfl, rfl, rfl⟩ : a1 = A1 ∧ len1 = x1.length ∧ cap1 = c1 := by simpa using e1'
  have k2 := h2
  have lt2 : ∀ x ∈ p2, x.block < W.heap.size := by obtain ⟨m, hm⟩ := k2; exact DataW.trod_lt m _ _ _ hm
  obtain ⟨cs2, rfl, hn2⟩ := okWide_agg Try.underlying50 (hval 2 50 v2 rfl rfl)
  obtain ⟨⟨x2_0, x2_1⟩, K2, ⟨w2_0, w2_1⟩⟩ := arg op2 (by show cs2.toList.length = _; rw [Array.length_toList, hn2]; kernel_rfl) h2 hsz (j := 2) rfl rfl
  obtain ⟨g2_0, rg2_0, qg2_0, l2_0, M2_0⟩ := K2
  obtain ⟨A2_0, c2_0, l2_0', hc2_0, hr2_0⟩ := l2_0
  obtain ⟨A2_1, c2_1, M2_0', hc2_1, hr2_1⟩ := M2_0
  obtain rfl : cs2 = #[.slice A2_0 x2_0.length c2_0, .slice A2_1 x2_1.length c2_1] := by
    apply Array.toList_inj.1
    have z2 : cs2.toList = _ := qg2_0
    rw [z2, l2_0', M2_0']
    rfl
  clear hA0 hval0 hsz0 hsz
  obtain ⟨k, h⟩ := L.twiceMoves x0_0 x0_1 x0_2 x1 x2_0 x2_1 w0_0 w0_1 w0_2 w1 w2_0 w2_1
  refine (juntolaw07_TwiceMoves.calls k x0_0 x0_1 x0_2 _ _ x1 (fun k => k < W.heap.size) _ _ x2_0 (fun k => k < W.heap.size) _ _ x2_1 true W hr1 hc1 (Kd.V_mk hc2_0 (Kd.C_F (Kd.heap_int _) hr2_0)) (Kd.V_mk hc2_1 (Kd.C_F (Kd.heap_int _) hr2_1)) h).mono fun e W' ⟨he, bel⟩ => ?_
  subst he
  exact ⟨_, rfl, _, _, _, [], _, [], hW', trodAll_mk1 (shut_bool Try.underlying4 _), (trodAll_cons_mk (Below.trod laidOut (by kernel_rfl) (of_decide_eq_true (by kernel_rfl)) k0 bel lt0) (trodAll_cons_mk (Below.trod laidOut (by kernel_rfl) (of_decide_eq_true (by kernel_rfl)) k1 bel lt1) (trodAll_cons_mk (Below.trod laidOut (by kernel_rfl) (of_decide_eq_true (by kernel_rfl)) k2 bel lt2) trodAll_mk0))), rfl, bel.frame _, fun h => by cases h⟩
set_option maxRecDepth 100000 in
theorem closed : joinedFacts Try.pinned.checked.prog 9 Try.f9 Rows.twiceMovesSpec Rows.twiceMovesRow = true := by
  unfold joinedFacts
  repeat' with_reducible refine Bool.and_eq_true_iff.2 ⟨?_, ?_⟩
  all_goals first
    | with_reducible exact Facts.enters
    | (rw [Facts.final]; kernel_rfl)
    | (rw [Facts.made]; kernel_rfl)
    | kernel_rfl
theorem over : Rows.twiceMovesRow.holds Try.pinned (OpenSpec.ofChange Rows.twiceMovesSpec) :=
  OpenClaim.holds_of_wide 9 Try.f9 rfl rfl rfl rfl rfl rfl rfl ⟨rfl, rfl, rfl, rfl, rfl⟩ rfl rfl rfl rfl rfl (by kernel_rfl) Try.func9 closed
    (of_decide_eq_true (by kernel_rfl)) (by unfold Func.isWrapper; first | (rw [if_pos (by decide +kernel)]; kernel_rfl) | (rw [if_neg (by decide +kernel)]; exact ⟨rfl, rfl⟩))
    (fun os started H enc _ => lifted os started H enc)
theorem proved : Rows.TwiceMovesSaid := over
#print axioms proved
end Go.Proofs.Ytjjnfobeeflnhaa.twiceMoves
namespace Go.Proofs.Ytjjnfobeeflnhaa
/-- The row, under a short name, for the claim. -/
theorem twiceMoves_holds : Rows.TwiceMovesSaid := twiceMoves.proved
end Go.Proofs.Ytjjnfobeeflnhaa
