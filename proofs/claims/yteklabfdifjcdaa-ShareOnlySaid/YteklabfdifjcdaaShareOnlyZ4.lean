/- Part 4 of the proof of ShareOnly: what the functions compute as plain Lean functions, that the machine comes to just these answers, and that the answer is true; no conditions. -/
import Derived.Test.YteklabfdifjcdaaShareOnlyZ0
import Derived.Test.YteklabfdifjcdaaShareOnlyZ1
import Derived.Test.YteklabfdifjcdaaShareOnlyZ2
import Derived.Test.YteklabfdifjcdaaShareOnlyZ3
import Derived.WalkSmall
import Derived.Test.YteklabfdifjcdaaRows
import Derived.WalkKit
import Derived.ProofKit
import Derived.OpenShut
import Derived.ShutString
import Derived.ChangeOld
import Derived.Below
import Derived.SizedLaws
/- Polynomials over the residues modulo a prime, as lists of coefficients: sums, products, values, trailing zeros, division, interpolation. Plain Lean, no program in sight. -/
namespace Go.Proofs.Yteklabfdifjcdaa.Fld
set_option linter.unusedVariables false
set_option linter.unusedSimpArgs false

section
variable {p : Nat} [NeZero p]

/-! ### sums -/
def sm : Nat → (Nat → Fin p) → Fin p
  | 0, _ => 0
  | n + 1, g => sm n g + g n
theorem sm_succ (n : Nat) (g : Nat → Fin p) : sm (n + 1) g = sm n g + g n := rfl
theorem sm_congr {n : Nat} {g h : Nat → Fin p} (e : ∀ i, i < n → g i = h i) : sm n g = sm n h := by
  induction n with
  | zero => rfl
  | succ n ih => rw [sm_succ, sm_succ, ih (fun i hi => e i (by omega)), e n (by omega)]
theorem sm_zero {n : Nat} {g : Nat → Fin p} (e : ∀ i, i < n → g i = 0) : sm n g = 0 := by
  induction n with
  | zero => rfl
  | succ n ih => rw [sm_succ, ih (fun i hi => e i (by omega)), e n (by omega)]; grind
theorem sm_add (n : Nat) (g h : Nat → Fin p) : sm n (fun i => g i + h i) = sm n g + sm n h := by
  induction n with
  | zero => show (0 : Fin p) = 0 + 0; grind
  | succ n ih => rw [sm_succ, sm_succ, sm_succ, ih]; grind
theorem sm_mul (n : Nat) (c : Fin p) (g : Nat → Fin p) : sm n (fun i => c * g i) = c * sm n g := by
  induction n with
  | zero => show (0 : Fin p) = c * 0; grind
  | succ n ih => rw [sm_succ, sm_succ, ih]; grind
theorem sm_mul' (n : Nat) (c : Fin p) (g : Nat → Fin p) : sm n (fun i => g i * c) = sm n g * c := by
  induction n with
  | zero => show (0 : Fin p) = 0 * c; grind
  | succ n ih => rw [sm_succ, sm_succ, ih]; grind
theorem sm_front (n : Nat) (g : Nat → Fin p) : sm (n + 1) g = g 0 + sm n (fun i => g (i + 1)) := by
  induction n with
  | zero => show 0 + g 0 = g 0 + 0; grind
  | succ n ih => rw [sm_succ, ih, sm_succ]; grind
theorem sm_rev (n : Nat) (g : Nat → Fin p) : sm (n + 1) g = sm (n + 1) (fun i => g (n - i)) := by
  induction n generalizing g with
  | zero => rfl
  | succ n ih =>
    rw [sm_front, ih (fun i => g (i + 1)), sm_succ (n + 1) (fun i => g (n + 1 - i))]
    have : sm (n + 1) (fun i => g (n - i + 1)) = sm (n + 1) (fun i => g (n + 1 - i)) := sm_congr fun i hi => by congr 1; omega
    rw [this, show n + 1 - (n + 1) = 0 by omega]; grind
theorem sm_one {n k : Nat} {g : Nat → Fin p} (hk : k < n) (e : ∀ i, i < n → i ≠ k → g i = 0) : sm n g = g k := by
  induction n with
  | zero => omega
  | succ n ih =>
    rw [sm_succ]
    by_cases h : k = n
    · rw [h, sm_zero (fun i hi => e i (by omega) (by omega))]; grind
    · rw [ih (by omega) (fun i h1 h2 => e i (by omega) h2), e n (by omega) (by omega)]; grind

/-! ### coefficients, values -/
def co (f : List (Fin p)) (i : Nat) : Fin p := f.getD i 0
theorem co_nil (i : Nat) : co ([] : List (Fin p)) i = 0 := by simp [co]
theorem co_cons_zero (a : Fin p) (f : List (Fin p)) : co (a :: f) 0 = a := by simp [co]
theorem co_cons_succ (a : Fin p) (f : List (Fin p)) (i : Nat) : co (a :: f) (i + 1) = co f i := by simp [co]
theorem co_ge {f : List (Fin p)} {i : Nat} (h : f.length ≤ i) : co f i = 0 := by simp [co, List.getD_eq_getElem?_getD, List.getElem?_eq_none h]
theorem co_lt {f : List (Fin p)} {i : Nat} (h : i < f.length) : co f i = f[i] := by simp [co, List.getD_eq_getElem?_getD, h]
/-- The value at a place (Horner). -/
def ev (f : List (Fin p)) (x : Fin p) : Fin p := f.foldr (fun c v => v * x + c) 0
theorem ev_nil (x : Fin p) : ev [] x = 0 := rfl
theorem ev_cons (a : Fin p) (f : List (Fin p)) (x : Fin p) : ev (a :: f) x = ev f x * x + a := rfl
theorem ev_sm (f : List (Fin p)) (x : Fin p) : ∀ n, f.length ≤ n → ev f x = sm n (fun i => co f i * x ^ i) := by
  induction f with
  | nil => intro n _; rw [ev_nil, sm_zero]; intro i _; rw [co_nil]; grind
  | cons a f ih =>
    intro n hn
    obtain ⟨m, rfl⟩ : ∃ m, n = m + 1 := ⟨n - 1, by simp at hn; omega⟩
    rw [ev_cons, sm_front, ih m (by simp at hn; omega), co_cons_zero]
    have : sm m (fun i => co (a :: f) (i + 1) * x ^ (i + 1)) = sm m (fun i => co f i * x ^ i * x) := sm_congr fun i _ => by rw [co_cons_succ]; grind
    rw [this, sm_mul']; grind
/-- Equal as polynomials. -/
def Eqv (f g : List (Fin p)) : Prop := ∀ i, co f i = co g i
theorem Eqv.refl (f : List (Fin p)) : Eqv f f := fun _ => rfl
theorem Eqv.symm {f g : List (Fin p)} (h : Eqv f g) : Eqv g f := fun i => (h i).symm
theorem Eqv.trans {f g k : List (Fin p)} (h : Eqv f g) (h' : Eqv g k) : Eqv f k := fun i => (h i).trans (h' i)
theorem Eqv.ev {f g : List (Fin p)} (h : Eqv f g) (x : Fin p) : ev f x = ev g x := by
  rw [ev_sm f x (max f.length g.length) (by omega), ev_sm g x (max f.length g.length) (by omega)]
  exact sm_congr fun i _ => by rw [h i]

/-! ### trailing zeros -/
def trim (f : List (Fin p)) : List (Fin p) := f.foldr (fun c r => if r = [] ∧ c = 0 then [] else c :: r) []
theorem trim_nil : trim ([] : List (Fin p)) = [] := rfl
theorem trim_cons (a : Fin p) (f : List (Fin p)) : trim (a :: f) = if trim f = [] ∧ a = 0 then [] else a :: trim f := rfl
theorem trim_co (f : List (Fin p)) : Eqv (trim f) f := by
  induction f with
  | nil => exact Eqv.refl _
  | cons a f ih =>
    intro i
    rw [trim_cons]
    split
    · rename_i h
      obtain ⟨h1, rfl⟩ := h
      cases i with
      | zero => rw [co_nil, co_cons_zero]
      | succ i => rw [co_nil, co_cons_succ, ← ih i, h1, co_nil]
    · cases i with
      | zero => rw [co_cons_zero, co_cons_zero]
      | succ i => rw [co_cons_succ, co_cons_succ, ih i]
theorem trim_eq_nil {f : List (Fin p)} (h : ∀ i, co f i = 0) : trim f = [] := by
  induction f with
  | nil => rfl
  | cons a f ih =>
    rw [trim_cons, if_pos ⟨ih (fun i => by rw [← co_cons_succ a, h]), by rw [← co_cons_zero a f, h]⟩]
theorem trim_congr {f g : List (Fin p)} (h : Eqv f g) : trim f = trim g := by
  induction f generalizing g with
  | nil => rw [trim_nil, trim_eq_nil (fun i => by rw [← h i, co_nil])]
  | cons a f ih =>
    cases g with
    | nil => rw [trim_nil, trim_eq_nil (fun i => by rw [h i, co_nil])]
    | cons b g =>
      have h0 : a = b := by have := h 0; rwa [co_cons_zero, co_cons_zero] at this
      have h1 : Eqv f g := fun i => by have := h (i + 1); rwa [co_cons_succ, co_cons_succ] at this
      rw [trim_cons, trim_cons, ih h1, h0]
theorem trim_trim (f : List (Fin p)) : trim (trim f) = trim f := trim_congr (trim_co f)
theorem trim_length_le (f : List (Fin p)) : (trim f).length ≤ f.length := by
  induction f with
  | nil => simp [trim_nil]
  | cons a f ih => rw [trim_cons]; split <;> simp <;> omega
theorem trim_length_of {f : List (Fin p)} {n : Nat} (h : ∀ i, n ≤ i → co f i = 0) : (trim f).length ≤ n := by
  induction f generalizing n with
  | nil => simp [trim_nil]
  | cons a f ih =>
    rw [trim_cons]
    split
    · simp
    · rename_i hne
      cases n with
      | zero =>
        exfalso; apply hne
        exact ⟨trim_eq_nil fun i => by rw [← co_cons_succ a, h _ (by omega)], by rw [← co_cons_zero a f, h 0 (by omega)]⟩
      | succ n =>
        have := ih (n := n) (fun i hi => by rw [← co_cons_succ a, h _ (by omega)])
        simp; omega
theorem trim_last {f : List (Fin p)} (h : trim f ≠ []) : co f ((trim f).length - 1) ≠ 0 := by
  intro h0
  have hl : 0 < (trim f).length := List.length_pos_iff.2 h
  have := trim_length_of (f := f) (n := (trim f).length - 1) (fun i hi => by
    by_cases e : i = (trim f).length - 1
    · rw [e]; exact h0
    · rw [← trim_co f i]; exact co_ge (by omega))
  omega
/-- Nothing to trim. -/
def Tr (f : List (Fin p)) : Prop := trim f = f
theorem Tr.trim (f : List (Fin p)) : Tr (trim f) := trim_trim f
theorem Tr.ext {f g : List (Fin p)} (hf : Tr f) (hg : Tr g) (h : Eqv f g) : f = g := by rw [← hf, ← hg, trim_congr h]
theorem Tr.last {f : List (Fin p)} (hf : Tr f) (h : f ≠ []) : co f (f.length - 1) ≠ 0 := by
  have := trim_last (f := f) (by rw [hf]; exact h)
  rwa [hf] at this
/-! ### making a list out of its coefficients -/
def mk (n : Nat) (c : Nat → Fin p) : List (Fin p) := (List.range n).map c
end
section
variable {p : Nat}
theorem mk_length (n : Nat) (c : Nat → Fin p) : (mk n c).length = n := by simp [mk]
end
section
variable {p : Nat} [NeZero p]
theorem co_mk (n : Nat) (c : Nat → Fin p) (i : Nat) : co (mk n c) i = if i < n then c i else 0 := by
  by_cases h : i < n
  · rw [co_lt (by rw [mk_length]; exact h), if_pos h]; simp [mk]
  · rw [co_ge (by rw [mk_length]; omega), if_neg h]

/-! ### sums, products -/
def add (f g : List (Fin p)) : List (Fin p) := mk (max f.length g.length) (fun i => co f i + co g i)
def sub (f g : List (Fin p)) : List (Fin p) := mk (max f.length g.length) (fun i => co f i - co g i)
def smul (c : Fin p) (f : List (Fin p)) : List (Fin p) := f.map (c * ·)
theorem co_add (f g : List (Fin p)) (i : Nat) : co (add f g) i = co f i + co g i := by
  unfold add; rw [co_mk]; split
  · rfl
  · rw [co_ge (f := f) (by omega), co_ge (f := g) (by omega)]; grind
theorem co_sub (f g : List (Fin p)) (i : Nat) : co (sub f g) i = co f i - co g i := by
  unfold sub; rw [co_mk]; split
  · rfl
  · rw [co_ge (f := f) (by omega), co_ge (f := g) (by omega)]; grind
theorem co_smul (c : Fin p) (f : List (Fin p)) (i : Nat) : co (smul c f) i = c * co f i := by
  unfold smul
  by_cases h : i < f.length
  · rw [co_lt (by simpa using h), co_lt h]; simp
  · rw [co_ge (by simp; omega), co_ge (by omega)]; grind
end
section
variable {p : Nat}
theorem smul_length (c : Fin p) (f : List (Fin p)) : (smul c f).length = f.length := by simp [smul]
end
section
variable {p : Nat} [NeZero p]
theorem add_length (f g : List (Fin p)) : (add f g).length = max f.length g.length := mk_length _ _
theorem sub_length (f g : List (Fin p)) : (sub f g).length = max f.length g.length := mk_length _ _
theorem ev_add (f g : List (Fin p)) (x : Fin p) : ev (add f g) x = ev f x + ev g x := by
  rw [ev_sm (add f g) x (max f.length g.length) (by rw [add_length]; omega), ev_sm f x (max f.length g.length) (by omega), ev_sm g x (max f.length g.length) (by omega), ← sm_add]
  exact sm_congr fun i _ => by rw [co_add]; grind
theorem ev_sub (f g : List (Fin p)) (x : Fin p) : ev (sub f g) x = ev f x - ev g x := by
  have h : Eqv (add (sub f g) g) f := fun i => by rw [co_add, co_sub]; grind
  have := h.ev x
  rw [ev_add] at this
  grind
theorem ev_smul (c : Fin p) (f : List (Fin p)) (x : Fin p) : ev (smul c f) x = c * ev f x := by
  rw [ev_sm (smul c f) x f.length (by rw [smul_length]; omega), ev_sm f x f.length (by omega), ← sm_mul]
  exact sm_congr fun i _ => by rw [co_smul]; grind

/-- A product of coefficients. -/
def cv (c d : Nat → Fin p) (n : Nat) : Fin p := sm (n + 1) (fun i => c i * d (n - i))
theorem cv_congr {c c' d d' : Nat → Fin p} (h : ∀ i, c i = c' i) (h' : ∀ i, d i = d' i) (n : Nat) : cv c d n = cv c' d' n := sm_congr fun i _ => by rw [h, h']
theorem cv_comm (c d : Nat → Fin p) (n : Nat) : cv c d n = cv d c n := by
  unfold cv
  rw [sm_rev]
  exact sm_congr fun i hi => by rw [show n - (n - i) = i by omega]; grind
theorem cv_add (c d d' : Nat → Fin p) (n : Nat) : cv c (fun i => d i + d' i) n = cv c d n + cv c d' n := by
  unfold cv; rw [← sm_add]; exact sm_congr fun i _ => by grind
/-- A product. -/
def mul : List (Fin p) → List (Fin p) → List (Fin p)
  | [], _ => []
  | a :: f, g => add (smul a g) (0 :: mul f g)
theorem co_mul (f g : List (Fin p)) (n : Nat) : co (mul f g) n = cv (co f) (co g) n := by
  induction f generalizing n with
  | nil => rw [mul, co_nil]; unfold cv; rw [sm_zero]; intro i _; rw [co_nil]; grind
  | cons a f ih =>
    rw [mul, co_add, co_smul]
    unfold cv
    rw [sm_front, co_cons_zero]
    cases n with
    | zero => rw [co_cons_zero]; show a * co g 0 + 0 = a * co g 0 + 0; rfl
    | succ n =>
      rw [co_cons_succ, ih n]
      unfold cv
      congr 1
      exact sm_congr fun i _ => by rw [co_cons_succ, show n + 1 - (i + 1) = n - i by omega]
theorem ev_mul (f g : List (Fin p)) (x : Fin p) : ev (mul f g) x = ev f x * ev g x := by
  induction f with
  | nil => rw [mul, ev_nil]; grind
  | cons a f ih => rw [mul, ev_add, ev_smul, ev_cons, ih, ev_cons]; grind
theorem co_mul_ge {f g : List (Fin p)} {n : Nat} (h : f.length + g.length ≤ n + 1) : co (mul f g) n = 0 := by
  rw [co_mul]; unfold cv
  refine sm_zero fun i hi => ?_
  by_cases h1 : f.length ≤ i
  · rw [co_ge h1]; grind
  · rw [co_ge (f := g) (by omega)]; grind
theorem co_mul_top {f g : List (Fin p)} (hf : f ≠ []) (hg : g ≠ []) : co (mul f g) (f.length + g.length - 2) = co f (f.length - 1) * co g (g.length - 1) := by
  have h1 := List.length_pos_iff.2 hf
  have h2 := List.length_pos_iff.2 hg
  rw [co_mul]; unfold cv
  rw [sm_one (k := f.length - 1) (by omega)]
  · rw [show f.length + g.length - 2 - (f.length - 1) = g.length - 1 by omega]
  · intro i hi hne
    by_cases h : f.length ≤ i
    · rw [co_ge h]; grind
    · rw [co_ge (f := g) (by omega)]; grind

/-! ### equations between polynomials -/
theorem Eqv.add {f f' g g' : List (Fin p)} (h : Eqv f f') (h' : Eqv g g') : Eqv (add f g) (add f' g') := fun i => by rw [co_add, co_add, h i, h' i]
theorem Eqv.sub {f f' g g' : List (Fin p)} (h : Eqv f f') (h' : Eqv g g') : Eqv (sub f g) (sub f' g') := fun i => by rw [co_sub, co_sub, h i, h' i]
theorem Eqv.mul {f f' g g' : List (Fin p)} (h : Eqv f f') (h' : Eqv g g') : Eqv (mul f g) (mul f' g') := fun i => by rw [co_mul, co_mul, cv_congr h h']
theorem mul_comm (f g : List (Fin p)) : Eqv (mul f g) (mul g f) := fun i => by rw [co_mul, co_mul, cv_comm]
theorem mul_add (f g k : List (Fin p)) : Eqv (mul f (Fld.add g k)) (Fld.add (mul f g) (mul f k)) := fun i => by
  rw [co_mul, co_add, co_mul, co_mul, cv_congr (fun _ => rfl) (co_add g k), cv_add]
theorem mul_sub (f g k : List (Fin p)) : Eqv (mul f (Fld.sub g k)) (Fld.sub (mul f g) (mul f k)) := fun i => by
  have h : Eqv (Fld.add (Fld.sub g k) k) g := fun i => by rw [co_add, co_sub]; grind
  have h1 := (mul_add f (Fld.sub g k) k).symm.trans ((Eqv.refl f).mul h) i
  rw [co_add] at h1
  rw [co_sub, ← h1]; grind
theorem sub_mul (f g k : List (Fin p)) : Eqv (mul (Fld.sub f g) k) (Fld.sub (mul f k) (mul g k)) :=
  (mul_comm _ _).trans ((mul_sub k f g).trans ((mul_comm _ _).sub (mul_comm _ _)))
/-! ### degrees of products, roots -/
theorem trim_mul_length (hp : Pr p) {f g : List (Fin p)} (hf : trim f ≠ []) (hg : trim g ≠ []) : (trim (mul f g)).length + 1 = (trim f).length + (trim g).length := by
  have e : Eqv (mul f g) (mul (trim f) (trim g)) := (trim_co f).symm.mul (trim_co g).symm
  rw [trim_congr e]
  have h1 := List.length_pos_iff.2 hf
  have h2 := List.length_pos_iff.2 hg
  have ht := co_mul_top hf hg
  have hn : co (mul (trim f) (trim g)) ((trim f).length + (trim g).length - 2) ≠ 0 := by
    rw [ht]
    intro h
    rcases mul_eq_zero hp h with h | h
    · exact (Tr.trim f).last hf h
    · exact (Tr.trim g).last hg h
  have hle := trim_length_of (f := mul (trim f) (trim g)) (n := (trim f).length + (trim g).length - 1) (fun i hi => co_mul_ge (by omega))
  have hge : (trim f).length + (trim g).length - 2 < (trim (mul (trim f) (trim g))).length := by
    apply Nat.lt_of_not_le
    intro h
    exact hn (by rw [← trim_co]; exact co_ge h)
  omega
/-- Synthetic division by x - a. -/
theorem root_factor (f : List (Fin p)) (a : Fin p) : ∃ q : List (Fin p), q.length = f.length - 1 ∧ Eqv f (add (mul [-a, 1] q) [ev f a]) := by
  induction f with
  | nil => exact ⟨[], rfl, fun i => by
      rw [co_add, co_mul, ev_nil]
      have : cv (co [-a, 1]) (co []) i = 0 := by unfold cv; exact sm_zero fun j _ => by rw [co_nil]; grind
      rw [this, co_nil]
      cases i with
      | zero => rw [co_cons_zero]; grind
      | succ i => rw [co_cons_succ, co_nil]; grind⟩
  | cons c f ih =>
    obtain ⟨q, hq, he⟩ := ih
    cases f with
    | nil =>
      refine ⟨[], rfl, fun i => ?_⟩
      rw [co_add, co_mul]
      have : cv (co [-a, 1]) (co []) i = 0 := by unfold cv; exact sm_zero fun j _ => by rw [co_nil]; grind
      rw [this, ev_cons, ev_nil]
      cases i with
      | zero => rw [co_cons_zero, co_cons_zero]; grind
      | succ i => rw [co_cons_succ, co_cons_succ]; grind
    | cons d f =>
      refine ⟨ev (d :: f) a :: q, by simp at hq ⊢; omega, fun i => ?_⟩
      have key : ∀ j, co (mul [-a, 1] q) j = co (d :: f) j - co [ev (d :: f) a] j := fun j => by have := he j; rw [co_add] at this; grind
      have hm : ∀ (r : List (Fin p)) j, co (mul [-a, 1] r) j = -a * co r j + (if j = 0 then 0 else co r (j - 1)) := by
        intro r j
        rw [mul, mul, mul, co_add, co_smul]
        cases j with
        | zero => rw [co_cons_zero]; simp
        | succ j =>
          rw [co_cons_succ, co_add, co_smul]
          have : co (0 :: ([] : List (Fin p))) j = 0 := by cases j with
            | zero => rfl
            | succ j => rw [co_cons_succ, co_nil]
          rw [this]; simp; grind
      have hE : ev (c :: d :: f) a = ev (d :: f) a * a + c := rfl
      rw [co_add, hm, hE]
      generalize ev (d :: f) a = z at *
      cases i with
      | zero => rw [co_cons_zero, co_cons_zero, co_cons_zero]; simp; grind
      | succ i =>
        rw [co_cons_succ, co_cons_succ, co_cons_succ, co_nil]
        have k := key i
        rw [hm] at k
        clear he key hm hE
        cases i with
        | zero =>
          simp only [co_cons_zero, co_cons_succ, if_true] at k ⊢
          simp only [Nat.succ_ne_zero, if_false, Nat.add_sub_cancel, Nat.zero_add, Nat.sub_self, co_cons_zero]
          grind
        | succ i =>
          simp only [co_cons_succ, co_nil, Nat.succ_ne_zero, if_false, Nat.add_sub_cancel] at k ⊢
          grind
/-- Not more roots than the degree. -/
theorem roots_le (hp : Pr p) : ∀ (n : Nat) (f : List (Fin p)) (xs : List (Fin p)), xs.Nodup → (∀ x, x ∈ xs → ev f x = 0) → f.length ≤ n → xs.length = n → ∀ i, co f i = 0
  | 0, f, _, _, _, h, _ => by
    intro i; rw [List.eq_nil_of_length_eq_zero (by omega : f.length = 0), co_nil]
  | n + 1, f, xs, hn, hr, h, hl => by
    cases xs with
    | nil => simp at hl
    | cons a xs =>
      obtain ⟨hna, hn⟩ := List.nodup_cons.1 hn
      obtain ⟨q, hq, he⟩ := root_factor f a
      have ha := hr a (by simp)
      have hz : ∀ i, co q i = 0 := by
        refine roots_le hp n q xs hn (fun x hx => ?_) (by omega) (by simpa using hl)
        have h1 := he.ev x
        rw [ev_add, ev_mul, hr x (by simp [hx]), ev_cons, ev_cons, ev_nil, ev_cons, ev_nil, ha] at h1
        have h2 : (x - a) * ev q x = 0 := by grind
        rcases mul_eq_zero hp h2 with h3 | h3
        · exact absurd (by grind : x = a) (by rintro rfl; exact hna hx)
        · exact h3
      intro i
      rw [he i, co_add, co_mul, ha]
      have : cv (co [-a, 1]) (co q) i = 0 := by unfold cv; exact sm_zero fun j _ => by rw [hz]; grind
      rw [this]
      cases i with
      | zero => rw [co_cons_zero]; grind
      | succ i => rw [co_cons_succ, co_nil]; grind
/-- Polynomials of degree less than n that have the same values at n places are the same. -/
theorem unique (hp : Pr p) {f g xs : List (Fin p)} (hn : xs.Nodup) (hf : (trim f).length ≤ xs.length) (hg : (trim g).length ≤ xs.length) (h : ∀ x, x ∈ xs → ev f x = ev g x) : Eqv f g := by
  have e : Eqv (sub (trim f) (trim g)) (sub f g) := (trim_co f).sub (trim_co g)
  have := roots_le hp xs.length (sub (trim f) (trim g)) xs hn (fun x hx => by rw [e.ev, ev_sub, h x hx]; grind) (by rw [sub_length]; omega) rfl
  intro i
  have h1 := (e i).symm.trans (this i)
  rw [co_sub] at h1
  grind
end
end Go.Proofs.Yteklabfdifjcdaa.Fld

/- The program's words over the residues modulo a number: numbers, rows of coefficients, sums, products, values. -/
namespace Go.Proofs.Yteklabfdifjcdaa.L
open Go.RowKit Go.Proofs.YteklabfdifjcdaaW.PrintWords Go.Proofs.Yteklabfdifjcdaa.J
set_option linter.unusedVariables false
set_option linter.unusedSimpArgs false

section
variable {q : Nat} [NeZero q]
/-- The number that a residue is. -/
def nI (a : Fin q) : Int := (a.val : Int)
/-- A row of residues as numbers. -/
def oI (f : List (Fin q)) : List Int := f.map nI

theorem q_pos : 0 < q := Nat.pos_of_ne_zero (NeZero.ne q)
end
section
variable {q : Nat}
theorem nI_range (a : Fin q) : 0 ≤ nI a ∧ nI a < (q : Int) := by
  have := a.isLt
  unfold nI; omega
theorem nI_inj {a b : Fin q} (h : nI a = nI b) : a = b := Fin.ext (by unfold nI at h; omega)
end
section
variable {q : Nat} [NeZero q]
theorem nI_zero : nI (0 : Fin q) = 0 := by simp [nI]
theorem nI_eq_zero {a : Fin q} : nI a = 0 ↔ a = 0 := ⟨fun h => nI_inj (h.trans nI_zero.symm), fun h => by rw [h, nI_zero]⟩
theorem nI_one (h : 1 < q) : nI (1 : Fin q) = 1 := by
  have : ((1 : Fin q) : Nat) = 1 % q := rfl
  unfold nI; rw [this, Nat.mod_eq_of_lt h]; rfl
end
section
variable {q : Nat}
theorem nI_of {x : Int} (h0 : 0 ≤ x) (h1 : x < (q : Int)) : ∃ a : Fin q, nI a = x := ⟨⟨x.toNat, by omega⟩, by show ((x.toNat : Nat) : Int) = x; omega⟩
theorem nI_mul (a b : Fin q) : nI (a * b) = nI a * nI b % (q : Int) := by
  unfold nI; rw [Fin.val_mul]; simp
theorem nI_add (a b : Fin q) : nI (a + b) = (nI a + nI b) % (q : Int) := by
  unfold nI; rw [Fin.val_add]; simp
theorem oI_nil : oI ([] : List (Fin q)) = [] := rfl
theorem oI_cons (a : Fin q) (f : List (Fin q)) : oI (a :: f) = nI a :: oI f := rfl
theorem oI_append (f g : List (Fin q)) : oI (f ++ g) = oI f ++ oI g := by simp [oI]
theorem oI_length (f : List (Fin q)) : (oI f).length = f.length := by simp [oI]
theorem oI_of : ∀ {l : List Int}, (∀ c ∈ l, 0 ≤ c ∧ c < (q : Int)) → ∃ f : List (Fin q), oI f = l
  | [], _ => ⟨[], rfl⟩
  | a :: l, h => by
    obtain ⟨x, hx⟩ := nI_of (h a (by simp)).1 (h a (by simp)).2
    obtain ⟨f, hf⟩ := oI_of (l := l) (fun c hc => h c (by simp [hc]))
    exact ⟨x :: f, by rw [oI_cons, hx, hf]⟩
theorem oI_inj : ∀ {f g : List (Fin q)}, oI f = oI g → f = g
  | [], [], _ => rfl
  | [], _ :: _, h => by cases h
  | _ :: _, [], h => by cases h
  | a :: f, b :: g, h => by
    rw [oI_cons, oI_cons] at h
    injection h with h1 h2
    rw [nI_inj h1, oI_inj h2]
theorem oI_range (f : List (Fin q)) : ∀ c ∈ oI f, 0 ≤ c ∧ c < (q : Int) := by
  intro c hc
  obtain ⟨a, _, rfl⟩ := List.mem_map.1 hc
  exact nI_range a
end
section
variable {q : Nat} [NeZero q]
theorem oI_getD (f : List (Fin q)) (i : Nat) : (oI f).getD i 0 = nI (Fld.co f i) := by
  by_cases h : i < f.length
  · rw [Fld.co_lt h]; simp [oI, List.getD_eq_getElem?_getD, h]
  · rw [Fld.co_ge (by omega), nI_zero]; simp [oI, List.getD_eq_getElem?_getD, List.getElem?_eq_none (show f.length ≤ i by omega)]
theorem rd_oI (f : List (Fin q)) (i : Nat) : rd (oI f) (i : Int) = nI (Fld.co f i) := by
  rw [← oI_getD]; simp [rd]
end
section
variable {q : Nat}
theorem oI_set (f : List (Fin q)) (i : Nat) (a : Fin q) : (oI f).set i (nI a) = oI (f.set i a) := by simp [oI, List.map_set]
end
section
variable {q : Nat} [NeZero q]
theorem oI_zeros (n : Nat) : List.replicate n (0 : Int) = oI (List.replicate n (0 : Fin q)) := by simp [oI, nI_zero]
theorem short_oI (f : List (Fin q)) : shortI (oI f) = oI (Fld.trim f) := by
  induction f with
  | nil => rfl
  | cons a f ih =>
    have e : shortI (oI (a :: f)) = if shortI (oI f) = [] ∧ nI a = 0 then [] else nI a :: shortI (oI f) := rfl
    rw [e, ih, Fld.trim_cons]
    by_cases h : Fld.trim f = [] ∧ a = 0
    · rw [if_pos h, if_pos (by rw [h.1, h.2]; exact ⟨rfl, nI_zero⟩)]; rfl
    · rw [if_neg h, if_neg (fun h' => h ⟨oI_inj (h'.1.trans oI_nil.symm), nI_eq_zero.1 h'.2⟩)]; rfl

theorem co_set (f : List (Fin q)) (i : Nat) (a : Fin q) (hi : i < f.length) (s : Nat) : Fld.co (f.set i a) s = if s = i then a else Fld.co f s := by
  unfold Fld.co
  rw [List.getD_eq_getElem?_getD, List.getD_eq_getElem?_getD]
  by_cases h : s = i
  · subst h; rw [if_pos rfl, List.getElem?_set_self hi]; rfl
  · rw [if_neg h, List.getElem?_set_ne (by omega)]
/-! what the field's words tell -/
section
variable (hq : q ≤ 65537)
include hq
end

/-! rows -/
theorem short_fp (f : List (Fin q)) (hl : f.length ≤ 1000000000) : Ev (fun k => poly_Short.f k (oI f)) (oI (Fld.trim f)) := by
  rw [← short_oI]
  exact ⟨f.length + 1, fun k hk => short_spec (oI f) (by rw [oI_length]; omega) k (by rw [oI_length]; omega)⟩
theorem at_fp (hq : q ≤ 65537) (f : List (Fin q)) (x : Fin q) : valV (q : Int) (nI x) (oI f) = nI (Fld.ev f x) := by
  induction f with
  | nil => exact nI_zero.symm
  | cons a f ih =>
    rw [Fld.ev_cons, nI_add, nI_mul, ← ih]; rfl
theorem at_rows (hq : q ≤ 65537) (f : List (Fin q)) (x : Fin q) : poly_At.f (q : Int) (oI f) (nI x) = some (nI (Fld.ev f x)) := by
  have hp := q_pos (q := q)
  rw [poly_at (by omega) (by omega) (nI_range x).1 (nI_range x).2 (oI f) (oI_range f), at_fp hq]
/-- A row that is filled from the front on. -/
def fill (n j : Nat) (F : Nat → Fin q) : List (Fin q) := Fld.mk n (fun i => if i < j then F i else 0)
theorem fill_zero (n : Nat) (F : Nat → Fin q) : fill n 0 F = List.replicate n 0 := by
  apply List.ext_getElem (by simp [fill, Fld.mk])
  intro i h1 h2
  simp [fill, Fld.mk]
theorem fill_length (n j : Nat) (F : Nat → Fin q) : (fill n j F).length = n := Fld.mk_length _ _
theorem fill_set (n j : Nat) (F : Nat → Fin q) : (fill n j F).set j (F j) = fill n (j + 1) F := by
  apply List.ext_getElem (by simp [fill, Fld.mk])
  intro i h1 h2
  simp only [fill, Fld.mk, List.getElem_set, List.getElem_map, List.getElem_range]
  by_cases h : j = i
  · rw [if_pos h, if_pos (by omega), h]
  · rw [if_neg h]
    by_cases h' : i < j
    · rw [if_pos h', if_pos (by omega)]
    · rw [if_neg h', if_neg (by omega)]
theorem fill_all (n : Nat) (F : Nat → Fin q) : fill n n F = Fld.mk n F := by
  apply List.ext_getElem (by simp [fill, Fld.mk])
  intro i h1 h2
  have : i < n := by simpa [fill, Fld.mk] using h1
  simp [fill, Fld.mk, this]

/-! products -/
/-- What the first i rows of a product come to. -/
def part (f g : List (Fin q)) (i s : Nat) : Fin q := Fld.sm i (fun j => if j ≤ s then Fld.co f j * Fld.co g (s - j) else 0)
/-- The row h stands at factor i, k of a product. -/
def At2 (f g h : List (Fin q)) (i k : Nat) : Prop := ∀ s, Fld.co h s = part f g i s + (if i ≤ s ∧ s < i + k then Fld.co f i * Fld.co g (s - i) else 0)
theorem At2.next {f g h : List (Fin q)} {i k : Nat} (H : At2 f g h i k) (hk : i + k < h.length) : At2 f g (h.set (i + k) (Fld.co h (i + k) + Fld.co f i * Fld.co g k)) i (k + 1) := fun s => by
  rw [co_set _ _ _ hk]
  by_cases e : s = i + k
  · subst e
    rw [if_pos rfl, H (i + k), if_neg (by omega), if_pos (by omega), show i + k - i = k by omega]; grind
  · rw [if_neg e, H s]
    by_cases e' : i ≤ s ∧ s < i + k
    · rw [if_pos e', if_pos (by omega)]
    · rw [if_neg e', if_neg (by omega)]
/-! inverses -/
end

end Go.Proofs.Yteklabfdifjcdaa.L

/- Rows drawn from a tape, rows without noughts at the end, rows compared: what the words tell. -/
namespace Go.Proofs.Yteklabfdifjcdaa.L
open Go.RowKit Go.Proofs.YteklabfdifjcdaaW.PrintWords Go.Proofs.Yteklabfdifjcdaa.J
set_option linter.unusedVariables false
set_option linter.unusedSimpArgs false

/-! rows compared -/
theorem rd_getD (l : List Int) (i : Nat) : rd l (i : Int) = l.getD i 0 := by simp [rd]
theorem same_loop (a b : List Int) (hl : a.length = b.length) (hs : a.length ≤ maxLen) : ∀ (m i : Nat), i + m = a.length → Ev (fun k => juntoref01_Same.l0 k a b (a.length : Int) (i : Int)) (decide (a.drop i = b.drop i))
  | 0, i, hi => by
    have e : a.drop i = b.drop i := by rw [List.drop_of_length_le (by omega), List.drop_of_length_le (by omega)]
    rw [decide_eq_true e]
    refine Ev.step (f := fun k => some true) (fun k => ?_) (Ev.now _)
    simp only [juntoref01_Same.l0]
    rw [if_neg (by omega)]
  | m + 1, i, hi => by
    have hm : (a.length : Int) ≤ 9223372036854775807 := by simp only [maxLen] at hs; omega
    have h1 : i < a.length := by omega
    have h2 : i < b.length := by omega
    have ra : rd a (i : Int) = a[i] := by simp [rd, List.getD_eq_getElem?_getD, h1]
    have rb : rd b (i : Int) = b[i] := by simp [rd, List.getD_eq_getElem?_getD, h2]
    by_cases e : a[i] = b[i]
    · have e2 : decide (a.drop i = b.drop i) = decide (a.drop (i + 1) = b.drop (i + 1)) := by
        rw [List.drop_eq_getElem_cons h1, List.drop_eq_getElem_cons h2, e]
        exact decide_eq_decide.2 ⟨fun h => (List.cons.inj h).2, fun h => by rw [h]⟩
      rw [e2]
      refine Ev.step (f := fun k => juntoref01_Same.l0 k a b (a.length : Int) ((i + 1 : Nat) : Int)) (fun k => ?_) (same_loop a b hl hs m (i + 1) (by omega))
      conv => lhs; simp only [juntoref01_Same.l0]
      rw [if_pos (by omega), if_pos (by omega), if_pos (by omega), if_pos (by omega), ra, rb, if_pos e, w64_small (by omega) (by omega)]
      rfl
    · have e2 : decide (a.drop i = b.drop i) = false := by
        rw [List.drop_eq_getElem_cons h1, List.drop_eq_getElem_cons h2]
        exact decide_eq_false fun h => e (List.cons.inj h).1
      rw [e2]
      refine Ev.step (f := fun k => some false) (fun k => ?_) (Ev.now _)
      simp only [juntoref01_Same.l0]
      rw [if_pos (by omega), if_pos (by omega), if_pos (by omega), if_pos (by omega), ra, rb, if_neg e]
theorem same_at (a b : List Int) (hs : a.length ≤ maxLen) : Ev (fun k => juntoref01_Same.f k a b) (decide (a = b)) := by
  unfold juntoref01_Same.f
  by_cases h : a.length = b.length
  · have := same_loop a b h hs a.length 0 (by omega)
    rw [List.drop_zero, List.drop_zero] at this
    exact Ev.congr (fun k => if_pos (by omega)) this
  · rw [decide_eq_false (fun e => h (by rw [e]))]
    exact Ev.congr (fun k => if_neg (by omega)) (Ev.now _)
/-! rows without noughts at the end -/
section
variable {q : Nat} [NeZero q]
/-! rows drawn from a tape -/
/-- The residue of a number. -/
def resid (q : Nat) [NeZero q] (x : Int) : Fin q := Fin.ofNat q (x % (q : Int)).toNat
theorem nI_resid (x : Int) : nI (resid q x) = x % (q : Int) := by
  have hp := q_pos (q := q)
  have h0 : 0 ≤ x % (q : Int) := Int.emod_nonneg _ (by omega)
  have h1 : x % (q : Int) < (q : Int) := Int.emod_lt_of_pos _ (by omega)
  unfold nI resid
  simp only [Fin.ofNat]
  rw [Nat.mod_eq_of_lt (by omega)]
  omega
theorem resid_zero : resid q 0 = 0 := nI_inj (by rw [nI_resid, nI_zero]; simp)
/-- The first n numbers of a tape. -/
def drawn (q : Nat) [NeZero q] (tape : List Int) (n : Nat) : List (Fin q) := Fld.mk n (fun i => resid q (tape.getD i 0))
theorem fill_skip {n j : Nat} {F : Nat → Fin q} (h : F j = 0) : fill n j F = fill n (j + 1) F := by
  unfold fill Fld.mk
  apply List.map_congr_left
  intro i _
  by_cases e : i = j
  · subst e; rw [if_neg (by omega), if_pos (by omega), h]
  · by_cases e' : i < j
    · rw [if_pos e', if_pos (by omega)]
    · rw [if_neg e', if_neg (by omega)]
theorem take_loop (hq : q ≤ 65537) (tape : List Int) (hs : tape.length ≤ 17592186044415) (hu : ∀ c ∈ tape, 0 ≤ c) (n : Nat) (hn : n ≤ 1000000000) : ∀ (m i : Nat), i + m = n →
    Ev (fun k => field_Take.l0 k (q : Int) tape (n : Int) (oI (fill n i fun j => resid q (tape.getD j 0))) (n : Int) (i : Int)) (oI (drawn q tape n), tape.drop n)
  | 0, i, hi => by
    obtain rfl : i = n := by omega
    have hp := q_pos (q := q)
    have e : fill i i (fun j => resid q (tape.getD j 0)) = drawn q tape i := fill_all _ _
    rw [e]
    refine Ev.step (f := fun k => some (oI (drawn q tape i), tape.drop i)) (fun k => ?_) (Ev.now _)
    have hd : tape.drop (mn (i : Int) (tape.length : Int)).toNat = tape.drop i := by
      by_cases h : i ≤ tape.length
      · have : (mn (i : Int) (tape.length : Int)).toNat = i := by unfold mn; split <;> omega
        rw [this]
      · have : (mn (i : Int) (tape.length : Int)).toNat = tape.length := by unfold mn; split <;> omega
        rw [this, List.drop_of_length_le (Nat.le_refl _), List.drop_of_length_le (by omega)]
    have h0 : 0 ≤ mn (i : Int) (tape.length : Int) := by unfold mn; split <;> omega
    have h1 : mn (i : Int) (tape.length : Int) ≤ (tape.length : Int) := by unfold mn; split <;> omega
    simp only [field_Take.l0]
    rw [if_neg (by omega), Option.bind_some, if_pos h0, if_pos h1, hd, if_pos (by simp; omega)]
    rfl
  | m + 1, i, hi => by
    have hp := q_pos (q := q)
    refine Ev.step (f := fun k => field_Take.l0 k (q : Int) tape (n : Int) (oI (fill n (i + 1) fun j => resid q (tape.getD j 0))) (n : Int) ((i + 1 : Nat) : Int)) (fun k => ?_) (take_loop hq tape hs hu n hn m (i + 1) (by omega))
    conv => lhs; simp only [field_Take.l0]
    rw [if_pos (by omega), w64_small (n := (i : Int) + 1) (by omega) (by omega)]
    by_cases h : i < tape.length
    · have h0 : 0 ≤ tape.getD i 0 := by
        rw [List.getD_eq_getElem?_getD, List.getElem?_eq_getElem h]; exact hu _ (List.getElem_mem h)
      rw [if_pos (by omega), if_pos (by omega), if_neg (by omega), if_pos (by rw [oI_length, fill_length]; omega), rd_getD, Int.tmod_eq_emod_of_nonneg h0, ← nI_resid, Int.toNat_natCast, oI_set, fill_set n i (fun j => resid q (tape.getD j 0))]
      rfl
    · have e : resid q (tape.getD i 0) = 0 := by
        rw [List.getD_eq_getElem?_getD, List.getElem?_eq_none (by omega)]; exact resid_zero
      rw [if_neg (by omega), fill_skip (F := fun j => resid q (tape.getD j 0)) e]
      rfl
theorem take_fp (hq : q ≤ 65537) (tape : List Int) (hs : tape.length ≤ 17592186044415) (hu : ∀ c ∈ tape, 0 ≤ c) (n : Nat) (hn : n ≤ 1000000000) : Ev (fun k => field_Take.f k (q : Int) tape (n : Int)) (oI (drawn q tape n), tape.drop n) := by
  have h := take_loop hq tape hs hu n hn n 0 (by omega)
  rw [fill_zero, ← oI_zeros] at h
  refine Ev.congr (fun k => ?_) h
  unfold field_Take.f
  rw [if_pos (by omega), Int.toNat_natCast, if_pos (by omega), Option.bind_some]
  simp
end

end Go.Proofs.Yteklabfdifjcdaa.L

/- The reference's words over the residues modulo a prime: sums, differences, products, inverses. -/
namespace Go.Proofs.Yteklabfdifjcdaa.L
open Go.RowKit Go.Proofs.YteklabfdifjcdaaW.PrintWords Go.Proofs.Yteklabfdifjcdaa.J
set_option linter.unusedVariables false
set_option linter.unusedSimpArgs false


/-! parties as numbers -/
/-! tests of rows of coefficients -/
/-- What both tests of a row answer: 0, 2 or 3. -/
def withinV (p : Int) (l : List Int) : Int := if (l.length : Int) > 201 then 3 else belowV p l
def isV (p : Int) : List (List Int) → Int
  | [] => 0
  | f :: fs => if withinV p f = 0 then isV p fs else withinV p f
theorem is_loop (p : Int) (l : List (List Int)) (hn : l.length ≤ 1000000) (hl : ∀ f ∈ l, f.length ≤ maxLen) : ∀ (m i : Nat), i + m = l.length → Ev (fun k => poly_Is.l0 k p l (l.length : Int) (i : Int)) (isV p (l.drop i))
  | 0, i, hi => by
    rw [List.drop_of_length_le (by omega), isV]
    refine Ev.step (f := fun k => some 0) (fun k => ?_) (Ev.now _)
    simp only [poly_Is.l0]
    rw [if_neg (by omega)]
  | m + 1, i, hi => by
    have hlt : i < l.length := by omega
    have hr : rd_L2 l (i : Int) = l[i] := by simp [rd_L2, List.getD_eq_getElem?_getD, hlt]
    rw [List.drop_eq_getElem_cons hlt, isV]
    by_cases h3 : ((l[i]).length : Int) > 201
    · have e : withinV p l[i] = 3 := by unfold withinV; rw [if_pos h3]
      rw [e, if_neg (by decide)]
      refine Ev.step (f := fun k => some 3) (fun k => ?_) (Ev.now _)
      simp only [poly_Is.l0]
      rw [if_pos (by omega), if_pos (by omega), if_pos (by omega), hr, if_pos h3]
    · have e : withinV p l[i] = belowV p l[i] := by unfold withinV; rw [if_neg h3]
      rw [e]
      refine Ev.step (f := fun k => (field_Below.f k p l[i]).bind fun t => if t = 0 then poly_Is.l0 k p l (l.length : Int) ((i + 1 : Nat) : Int) else some t) (fun k => ?_) (Ev.bind (field_below p _ (hl _ (List.getElem_mem hlt))) ?_)
      · conv => lhs; simp only [poly_Is.l0]
        rw [if_pos (by omega), if_pos (by omega), if_pos (by omega), hr, if_neg h3, w64_small (by omega) (by omega)]
        rfl
      · by_cases h0 : belowV p l[i] = 0
        · simp only [h0, if_true]
          exact is_loop p l hn hl m (i + 1) (by omega)
        · simp only [h0, if_false]
          exact Ev.now _
theorem poly_is (p : Int) (l : List (List Int)) (hn : l.length ≤ 1000000) (hl : ∀ f ∈ l, f.length ≤ maxLen) (hp : isP p = true) : Ev (fun k => poly_Is.f k p l) (isV p l) := by
  unfold poly_Is.f
  refine Ev.bind (field_is p) ?_
  simp only [hp, if_true]
  have h := is_loop p l hn hl l.length 0 (by omega)
  rw [List.drop_zero] at h
  exact h

end Go.Proofs.Yteklabfdifjcdaa.L

/- Small facts about numbers that came in, setups and rows. -/
namespace Go.Proofs.Yteklabfdifjcdaa.L
open Go.RowKit Go.Proofs.YteklabfdifjcdaaW.PrintWords Go.Proofs.Yteklabfdifjcdaa.J

theorem u64_wf {n : Int} (h : (Lit.int .u64 n).wf = true) : 0 ≤ n ∧ n < 18446744073709551616 := by
  simp [Lit.wf, IntKind.min, IntKind.max, IntKind.signed, IntKind.bits] at h
  omega

theorem belowV_zero {p : Int} {l : List Int} (h : belowV p l = 0) : ∀ x ∈ l, x < p := by
  unfold belowV at h
  split at h
  · assumption
  · cases h

/-- A setup that is one: its numbers. -/
theorem setupV_small {p n t : Int} (h : setupV p n t = 0) : 3 ≤ p ∧ p ≤ 65537 ∧ 1 ≤ n ∧ n ≤ 13 ∧ 0 ≤ t ∧ t ≤ 3 ∧ 4 * t + 1 ≤ n ∧ n < p := by
  obtain ⟨hp, h1, h2, h4, h5, h6⟩ := setupV_ok h
  have hp2 := (isP_iff p).1 hp
  omega

end Go.Proofs.Yteklabfdifjcdaa.L

/- Both ways to share a polynomial answer alike, and what they answer. -/
namespace Go.Proofs.Yteklabfdifjcdaa.L
open Go.RowKit Go.Proofs.YteklabfdifjcdaaW.PrintWords Go.Proofs.Yteklabfdifjcdaa.J
set_option linter.unusedVariables false
set_option linter.unusedSimpArgs false

theorem isV_one (p : Int) (l : List Int) : isV p [l] = withinV p l := by
  rw [isV, isV]; split
  · rename_i h; exact h.symm
  · rfl
theorem withinV_ne (p : Int) (l : List Int) (h : l.length ≤ 201) : withinV p l = belowV p l := by
  unfold withinV
  rw [if_neg (by omega)]
section
variable {q : Nat} [NeZero q]
/-- The point of party i + 1. -/
def pt (q : Nat) [NeZero q] (i : Nat) : Fin q := resid q ((i : Int) + 1)
theorem nI_pt {i : Nat} (h : i + 1 < q) : nI (pt q i) = (i : Int) + 1 := by
  unfold pt
  rw [nI_resid, Int.emod_eq_of_lt (by omega) (by omega)]
/-- The shares of a polynomial. -/
def sharesF (f : List (Fin q)) (n : Nat) : List (Fin q) := Fld.mk n (fun i => Fld.ev f (pt q i))
end
section
variable {q : Nat}
theorem mk_succ (n : Nat) (F : Nat → Fin q) : Fld.mk (n + 1) F = Fld.mk n F ++ [F n] := by
  unfold Fld.mk; rw [List.range_succ]; simp
end
section
variable {q : Nat} [NeZero q]
theorem of_loop (hq : q ≤ 65537) (f : List (Fin q)) (n : Nat) (t : Int) (hn : n < q) (m : Nat) : ∀ i : Nat, i + m = n → Ev (fun k => share_Of.l0 k (oI f) (oI (fill n i fun j => Fld.ev f (pt q j))) (n : Int) (i : Int) (q : Int) (n : Int) t) (oI (sharesF f n)) := by
  induction m with
  | zero =>
    intro i hi
    obtain rfl : i = n := by omega
    refine Ev.step (f := fun k => some (oI (sharesF f i))) (fun k => ?_) (Ev.now _)
    simp only [share_Of.l0]
    rw [if_neg (by omega), fill_all]
    rfl
  | succ m ih =>
    intro i hi
    have hw : wrap64 ((i : Int) + 1) = ((i + 1 : Nat) : Int) := by rw [w64_small (by omega) (by omega)]; omega
    have hp : IntKind.u64.wrap ((i + 1 : Nat) : Int) = nI (pt q i) := by rw [u64_small (by omega) (by omega), nI_pt (by omega)]; omega
    refine Ev.step (f := fun k => share_Of.l0 k (oI f) (oI (fill n (i + 1) fun j => Fld.ev f (pt q j))) (n : Int) ((i + 1 : Nat) : Int) (q : Int) (n : Int) t) (fun k => ?_) (ih (i + 1) (by omega))
    conv => lhs; simp only [share_Of.l0]
    rw [if_pos (by omega), hw, hp, at_rows hq, Option.bind_some, if_pos (by omega), if_pos (by rw [oI_length, fill_length]; omega), Int.toNat_natCast, oI_set, fill_set n i (fun j => Fld.ev f (pt q j))]
theorem share_of (hq : q ≤ 65537) (f : List (Fin q)) (n : Nat) (t : Int) (hn : n < q) : Ev (fun k => share_Of.f k (q : Int) (n : Int) t (oI f)) (oI (sharesF f n)) := by
  have h := of_loop hq f n t hn n 0 (by omega)
  rw [fill_zero, ← oI_zeros] at h
  refine Ev.congr (fun k => ?_) h
  unfold share_Of.f
  rw [if_pos (by omega), Int.toNat_natCast, if_pos (by omega), Option.bind_some]
  simp
theorem share_shares_ok (hq : q ≤ 65537) (f : List (Fin q)) (hf : f.length ≤ 201) (n : Nat) (t : Int) (h0 : setupV (q : Int) (n : Int) t = 0) : Ev (fun k => share_Shares.f k (q : Int) (n : Int) t (oI f)) (oI (sharesF f n), 0) := by
  have hh := setupV_small h0
  have hi : isV (q : Int) [oI f] = 0 := by
    rw [isV_one, withinV_ne _ _ (by rw [oI_length]; exact hf)]
    unfold belowV
    rw [if_pos (fun x hx => (oI_range f x hx).2)]
  unfold share_Shares.f
  refine Ev.bind (share_setup _ _ _) ?_
  simp only [h0, if_true]
  refine Ev.bind (poly_is (q : Int) [oI f] (by simp) (fun g hg => by rw [List.mem_singleton.1 hg, oI_length]; simp only [maxLen]; omega) (setupV_ok h0).1) ?_
  simp only [hi, if_true]
  exact Ev.bind (share_of hq f n t (by omega)) (Ev.now _)
end
end Go.Proofs.Yteklabfdifjcdaa.L

/- Interpolation over the residues modulo a prime: by differences (Newton) and by basis polynomials (Lagrange). Plain Lean, no program in sight. -/
namespace Go.Proofs.Yteklabfdifjcdaa.Fld
set_option linter.unusedVariables false
set_option linter.unusedSimpArgs false

section
variable {p : Nat} [NeZero p]

/-- The polynomial by differences, from its end on. -/
def hn (x d : Nat → Fin p) (n : Nat) : Nat → List (Fin p)
  | 0 => []
  | m + 1 => trim (add (trim (mul (hn x d n m) [-(x (n - (m + 1))), 1])) [d (n - (m + 1))])
/-! by basis polynomials -/
end
end Go.Proofs.Yteklabfdifjcdaa.Fld

/- Both ways to lay a polynomial through points tell the same one: what the words tell. -/

namespace Go.Proofs.Yteklabfdifjcdaa.L
open Go.RowKit Go.Proofs.YteklabfdifjcdaaW.PrintWords Go.Proofs.Yteklabfdifjcdaa.J
set_option linter.unusedVariables false
set_option linter.unusedSimpArgs false

section
variable {q : Nat}
theorem mk_congr {n : Nat} {F G : Nat → Fin q} (h : ∀ i, i < n → F i = G i) : Fld.mk n F = Fld.mk n G := by
  unfold Fld.mk
  exact List.map_congr_left fun i hi => h i (List.mem_range.1 hi)
end
section
variable {q : Nat} [NeZero q]
/-! the program's -/
/-! the reference's -/
end
section
variable {q : Nat} [NeZero q]
/-! shares as points -/
end

end Go.Proofs.Yteklabfdifjcdaa.L

/- The statement ShareSetups as plain Lean: both tests of a setup and both tests of a list of corrupted parties answer alike. -/
namespace Go.Proofs.Yteklabfdifjcdaa.L
open Go.RowKit Go.Proofs.YteklabfdifjcdaaW.PrintWords Go.Proofs.Yteklabfdifjcdaa.J
set_option linter.unusedVariables false
set_option linter.unusedSimpArgs false

def riseV (n : Int) : Int → List Int → Bool
  | _, [] => true
  | prev, x :: xs => if x ≤ prev then false else if x > n then false else riseV n x xs

where setupV2 (p n t : Int) : Int := setupV p n t

theorem rd_at (l : List Int) (i : Nat) (h : i < l.length) : rd l (i : Int) = l[i] := by
  simp [rd, List.getD_eq_getElem?_getD, h]

theorem ref_rise (n : Int) (l : List Int) (hs : l.length ≤ maxLen) : ∀ (m i : Nat) (prev : Int), i + m = l.length → 0 ≤ prev → (i = 0 → prev = 0) → (∀ h : 0 < i ∧ i - 1 < l.length, prev = l[i - 1]'h.2 ∧ 1 ≤ prev) →
    Ev (fun k => juntoref04_Rising.l0 k n l l (l.length : Int) (i : Int)) (riseV n prev (l.drop i))
  | 0, i, prev, hi, hp, hz, hq => by
    rw [List.drop_of_length_le (by omega)]
    refine Ev.step (f := fun k => some true) (fun k => ?_) (Ev.now _)
    simp only [juntoref04_Rising.l0]
    rw [if_neg (by omega)]
  | m + 1, i, prev, hi, hp, hz, hq => by
    have hm : (l.length : Int) ≤ 9223372036854775807 := by simp only [maxLen] at hs; omega
    have hlt : i < l.length := by omega
    rw [List.drop_eq_getElem_cons hlt]
    unfold riseV
    by_cases h0 : l[i] < 1
    · have h1 : l[i] ≤ prev := by omega
      simp only [h1, if_true]
      refine Ev.step (f := fun k => some false) (fun k => ?_) (Ev.now _)
      simp only [juntoref04_Rising.l0]
      rw [if_pos (by omega), if_pos (by omega), if_pos (by omega), rd_at l i hlt, if_pos h0]
    · by_cases h2 : l[i] > n
      · have e : (if l[i] ≤ prev then false else if l[i] > n then false else riseV n l[i] (l.drop (i + 1))) = false := by
          split
          · rfl
          · first | rfl | rw [if_pos h2]
        rw [e]
        refine Ev.step (f := fun k => some false) (fun k => ?_) (Ev.now _)
        simp only [juntoref04_Rising.l0]
        rw [if_pos (by omega), if_pos (by omega), if_pos (by omega), rd_at l i hlt, if_neg h0, if_pos h2]
      · have next : ¬ l[i] ≤ prev → Ev (fun k => juntoref04_Rising.l0 k n l l (l.length : Int) ((i + 1 : Nat) : Int)) (if l[i] ≤ prev then false else if l[i] > n then false else riseV n l[i] (l.drop (i + 1))) := by
          intro h1
          rw [if_neg h1, if_neg h2]
          exact ref_rise n l hs m (i + 1) l[i] (by omega) (by omega) (by omega) (fun h => ⟨rfl, by omega⟩)
        by_cases hi0 : i = 0
        · have hpz := hz hi0
          refine Ev.step (f := fun k => juntoref04_Rising.l0 k n l l (l.length : Int) ((i + 1 : Nat) : Int)) (fun k => ?_) (next (by omega))
          conv => lhs; simp only [juntoref04_Rising.l0]
          rw [if_pos (by omega), if_pos (by omega), if_pos (by omega), rd_at l i hlt, if_neg h0, if_neg h2, if_neg (by omega), w64_small (by omega) (by omega)]
          rfl
        · obtain ⟨hp1, hp2⟩ := hq ⟨by omega, by omega⟩
          have hr : rd l (((i - 1 : Nat)) : Int) = prev := by rw [rd_at l (i - 1) (by omega)]; exact hp1.symm
          have hw : wrap64 ((i : Int) - 1) = ((i - 1 : Nat) : Int) := by rw [w64_small (by omega) (by omega)]; omega
          by_cases h1 : l[i] ≤ prev
          · rw [if_pos h1]
            refine Ev.step (f := fun k => some false) (fun k => ?_) (Ev.now _)
            simp only [juntoref04_Rising.l0]
            rw [if_pos (by omega), if_pos (by omega), if_pos (by omega), rd_at l i hlt, if_neg h0, if_neg h2, if_pos (by omega), hw, if_pos (by omega), if_pos (by omega), hr, if_pos (by omega)]
          · refine Ev.step (f := fun k => juntoref04_Rising.l0 k n l l (l.length : Int) ((i + 1 : Nat) : Int)) (fun k => ?_) (next h1)
            conv => lhs; simp only [juntoref04_Rising.l0]
            rw [if_pos (by omega), if_pos (by omega), if_pos (by omega), rd_at l i hlt, if_neg h0, if_neg h2, if_pos (by omega), hw, if_pos (by omega), if_pos (by omega), hr, if_neg (by omega), w64_small (by omega) (by omega)]
            rfl

theorem alive04 : Ev (fun k => juntolaw04_alive.f k) true := Ev.of juntolaw04_alive.mono (k := 60) (by decide +kernel)

end Go.Proofs.Yteklabfdifjcdaa.L

/- Division with rest of polynomials over the residues modulo a prime: one step, and that there is but one answer. Plain Lean, no program in sight. -/
namespace Go.Proofs.Yteklabfdifjcdaa.Fld
set_option linter.unusedVariables false
set_option linter.unusedSimpArgs false

section
variable {p : Nat} [NeZero p]

theorem div_unique (hp : Pr p) {g Q Q' R R' : List (Fin p)} (hg : trim g ≠ []) (h : Eqv (add (mul Q g) R) (add (mul Q' g) R')) (hR : (trim R).length < (trim g).length) (hR' : (trim R').length < (trim g).length) : Eqv Q Q' ∧ Eqv R R' := by
  have hD : Eqv (mul (sub Q Q') g) (sub R' R) := fun i => by
    have h1 := h i
    rw [co_add, co_add] at h1
    rw [sub_mul Q Q' g i, co_sub, co_sub]
    grind
  by_cases hd : trim (sub Q Q') = []
  · have hQ : Eqv Q Q' := fun i => by
      have : co (sub Q Q') i = 0 := by rw [← trim_co (sub Q Q') i, hd, co_nil]
      rw [co_sub] at this
      grind
    refine ⟨hQ, fun i => ?_⟩
    have h1 := h i
    have h2 := hQ.mul (Eqv.refl g) i
    rw [co_add, co_add, h2] at h1
    grind
  · exfalso
    have h1 := trim_mul_length hp hd hg
    rw [trim_congr hD] at h1
    have h2 := trim_length_of (f := sub R' R) (n := (trim g).length - 1) (fun i hi => by
      rw [co_sub, ← trim_co R' i, ← trim_co R i, co_ge (f := trim R') (by omega), co_ge (f := trim R) (by omega)]; grind)
    have h3 := List.length_pos_iff.2 hd
    have h4 := List.length_pos_iff.2 hg
    omega
end
end Go.Proofs.Yteklabfdifjcdaa.Fld

/- Both ways to divide with rest answer alike, and what they answer. -/

namespace Go.Proofs.Yteklabfdifjcdaa.L
open Go.RowKit Go.Proofs.YteklabfdifjcdaaW.PrintWords Go.Proofs.Yteklabfdifjcdaa.J
set_option linter.unusedVariables false
set_option linter.unusedSimpArgs false

theorem pr_of_isP {q : Nat} (h : isP (q : Int) = true) : Fld.Pr q := by
  obtain ⟨h1, h2, h3⟩ := (isP_iff _).1 h
  refine Fld.pr_of_trial (by omega) fun d hd hdd h0 => h3 (d : Int) (by omega) (by exact_mod_cast hdd) (by exact_mod_cast h0)

section
variable {q : Nat} [NeZero q]
/-- What a division with rest answers. -/
def DivOf (f g Q R : List (Fin q)) : Prop := Fld.trim Q = Q ∧ Fld.trim R = R ∧ Fld.Eqv f (Fld.add (Fld.mul Q g) R) ∧ R.length < (Fld.trim g).length ∧ Q.length ≤ f.length
theorem DivOf.unique (hp : Fld.Pr q) {f g Q R Q' R' : List (Fin q)} (hg : Fld.trim g ≠ []) (h : DivOf f g Q R) (h' : DivOf f g Q' R') : Q = Q' ∧ R = R' := by
  obtain ⟨a1, a2, a3, a4, _⟩ := h
  obtain ⟨b1, b2, b3, b4, _⟩ := h'
  obtain ⟨c1, c2⟩ := Fld.div_unique hp hg (a3.symm.trans b3) (by rw [a2]; exact a4) (by rw [b2]; exact b4)
  exact ⟨by rw [← a1, ← b1, Fld.trim_congr c1], by rw [← a2, ← b2, Fld.trim_congr c2]⟩

/-! the program's -/
/-! the reference's -/
end

end Go.Proofs.Yteklabfdifjcdaa.L

/- Both ways to draw a sharing polynomial answer alike, and what they answer. -/
namespace Go.Proofs.Yteklabfdifjcdaa.L
open Go.RowKit Go.Proofs.YteklabfdifjcdaaW.PrintWords Go.Proofs.Yteklabfdifjcdaa.J
set_option linter.unusedVariables false
set_option linter.unusedSimpArgs false

section
variable {q : Nat} [NeZero q]
theorem drawn_length (tape : List Int) (n : Nat) : (drawn q tape n).length = n := Fld.mk_length _ _
theorem share_draw (hq : q ≤ 65537) (s : Fin q) (d : Nat) (hd : d ≤ 1000) (tape : List Int) (hs : tape.length ≤ 17592186044415) (hu : ∀ c ∈ tape, 0 ≤ c) : Ev (fun k => share_Draw.f k (q : Int) (nI s) (d : Int) tape) (oI (Fld.trim (s :: drawn q tape d)), tape.drop d) := by
  unfold share_Draw.f
  refine Ev.bind (take_fp hq tape hs hu d (by omega)) (Ev.bind (Ev.now _) ?_)
  refine Ev.congr (fun k => if_pos ?_) ?_
  · rw [oI_length, drawn_length]; show 1 + d < _; omega
  · exact Ev.bind (short_fp (s :: drawn q tape d) (by rw [List.length_cons, drawn_length]; omega)) (Ev.now _)
theorem share_make_ok (hq : q ≤ 65537) (n t : Int) (h0 : setupV (q : Int) n t = 0) (s : Fin q) (d : Nat) (hn : (d : Int) < n) (tape : List Int) (hs : tape.length ≤ 17592186044415) (hu : ∀ c ∈ tape, 0 ≤ c) : Ev (fun k => share_Make.f k (q : Int) n t (nI s) (d : Int) tape) (oI (Fld.trim (s :: drawn q tape d)), tape.drop d, 0) := by
  have hh := setupV_small h0
  have hr := nI_range s
  unfold share_Make.f
  refine Ev.bind (share_setup _ n t) ?_
  simp only [h0, if_true]
  simp only [show ¬ (nI s ≥ (q : Int)) by omega, show ¬ ((d : Int) < 0) by omega, show ¬ ((d : Int) ≥ n) by omega, if_false]
  exact Ev.bind (share_draw hq s d (by omega) tape hs hu) (Ev.now _)
end
end Go.Proofs.Yteklabfdifjcdaa.L

/- Both ways to move a polynomial to another secret answer alike, and what they answer. -/
namespace Go.Proofs.Yteklabfdifjcdaa.L
open Go.RowKit Go.Proofs.YteklabfdifjcdaaW.PrintWords Go.Proofs.Yteklabfdifjcdaa.J
set_option linter.unusedVariables false
set_option linter.unusedSimpArgs false

theorem rise_mem {n : Int} : ∀ {l : List Int} {prev : Int}, riseV n prev l = true → ∀ x ∈ l, prev < x ∧ x ≤ n
  | [], _, _, x, hx => by cases hx
  | a :: l, prev, h, x, hx => by
    unfold riseV at h
    split at h
    · cases h
    · split at h
      · cases h
      · rcases List.mem_cons.1 hx with rfl | h'
        · omega
        · have := rise_mem h x h'
          omega
section
variable {q : Nat}
theorem places_of {n : Int} {l : List Int} (hr : riseV n 0 l = true) (hn : n < (q : Int)) (hq : q ≤ 65537) : ∃ xs : List (Fin q), oI xs = l ∧ (l.map fun x => IntKind.u64.wrap x) = oI xs ∧ xs.length = l.length := by
  have hm := rise_mem hr
  have e : (l.map fun x => IntKind.u64.wrap x) = l := by
    conv => rhs; rw [← List.map_id l]
    apply List.map_congr_left
    intro x hx
    have := hm x hx
    exact u64_small (by omega) (by omega)
  obtain ⟨xs, hxs⟩ := oI_of (q := q) (l := l) (fun c hc => by have := hm c hc; omega)
  exact ⟨xs, hxs, by rw [e, hxs], by rw [← hxs, oI_length]⟩
end
end Go.Proofs.Yteklabfdifjcdaa.L

/- The statement ShareNothing as plain Lean: what it wants, and the law. -/
namespace Go.Proofs.Yteklabfdifjcdaa.L
open Go.RowKit Go.Proofs.YteklabfdifjcdaaW.PrintWords Go.Proofs.Yteklabfdifjcdaa.J
set_option linter.unusedVariables false
set_option linter.unusedSimpArgs false

section
variable {q : Nat} [NeZero q]
/-- The tape of a polynomial: what a sharing draws from it is the polynomial. -/
theorem resid_nI (a : Fin q) : resid q (nI a) = a := by
  apply nI_inj
  rw [nI_resid]
  have := nI_range a
  exact Int.emod_eq_of_lt this.1 this.2
theorem drawn_oI (f : List (Fin q)) : drawn q (oI f) f.length = f := by
  unfold drawn
  have e : Fld.mk f.length (fun i => resid q ((oI f).getD i 0)) = Fld.mk f.length (Fld.co f) := mk_congr fun i hi => by rw [oI_getD, resid_nI]
  rw [e]
  apply List.ext_getElem (by simp [Fld.mk])
  intro i h1 h2
  simp only [Fld.mk, List.getElem_map, List.getElem_range]
  exact Fld.co_lt h2
end
section
variable {q : Nat} [NeZero q]
/-- The places: 0 and the parties'; the values there: the secret and the shares. -/
def nX (xs : List (Fin q)) (i : Nat) : Fin q := if i = 0 then 0 else Fld.co xs (i - 1)
theorem nX_inj (xs : List (Fin q)) (hx : ∀ c ∈ oI xs, 0 < c) (hasc : (oI xs).Pairwise (· < ·)) : ∀ i j, i < xs.length + 1 → j < xs.length + 1 → nX xs i = nX xs j → i = j := by
  have pos : ∀ i, i < xs.length → 0 < nI (Fld.co xs i) := fun i hi => hx _ (List.mem_map.2 ⟨_, by rw [Fld.co_lt hi]; exact List.getElem_mem _, rfl⟩)
  have lt : ∀ i j, i < j → j < xs.length → nI (Fld.co xs i) < nI (Fld.co xs j) := fun i j hij hj => by
    have := List.pairwise_iff_getElem.1 hasc i j (by rw [oI_length]; omega) (by rw [oI_length]; omega) hij
    rw [Fld.co_lt (by omega), Fld.co_lt hj]
    simpa [oI] using this
  intro i j hi hj e
  unfold nX at e
  have e' := congrArg nI e
  clear e
  by_cases e1 : i = 0 <;> by_cases e2 : j = 0
  · omega
  · rw [if_pos e1, if_neg e2, nI_zero] at e'
    have := pos (j - 1) (by omega)
    omega
  · rw [if_neg e1, if_pos e2, nI_zero] at e'
    have := pos (i - 1) (by omega)
    omega
  · rw [if_neg e1, if_neg e2] at e'
    rcases Nat.lt_trichotomy (i - 1) (j - 1) with h | h | h
    · have := lt _ _ h (by omega)
      omega
    · omega
    · have := lt _ _ h (by omega)
      omega
end
theorem rise_asc {n : Int} : ∀ {l : List Int} {prev : Int}, riseV n prev l = true → l.Pairwise (· < ·)
  | [], _, _ => List.Pairwise.nil
  | x :: xs, prev, h => by
    unfold riseV at h
    split at h
    · cases h
    · split at h
      · cases h
      · exact List.pairwise_cons.2 ⟨fun y hy => (rise_mem h y hy).1, rise_asc h⟩
theorem ref_rising (n : Int) (l : List Int) (hs : l.length ≤ maxLen) : Ev (fun k => juntoref04_Rising.f k n l) (riseV n 0 l) := by
  unfold juntoref04_Rising.f
  exact ref_rise n l hs l.length 0 0 (by omega) (by omega) (fun _ => rfl) (fun h => by omega)
end Go.Proofs.Yteklabfdifjcdaa.L

/- The statement ShareOnly as plain Lean: what it wants, and the law. -/
namespace Go.Proofs.Yteklabfdifjcdaa.L
open Go.RowKit Go.Proofs.YteklabfdifjcdaaW.PrintWords Go.Proofs.Yteklabfdifjcdaa.J
set_option linter.unusedVariables false
set_option linter.unusedSimpArgs false

section
variable {q : Nat} [NeZero q]
/-- The values of a polynomial at the first of these places. -/
def gotF (L xs : List (Fin q)) (i : Nat) : List (Fin q) := Fld.mk i (fun j => Fld.ev L (Fld.co xs j))
theorem gotF_succ (L xs : List (Fin q)) (i : Nat) : oI (gotF L xs (i + 1)) = oI (gotF L xs i) ++ [nI (Fld.ev L (Fld.co xs i))] := by
  unfold gotF
  rw [mk_succ, oI_append]
  rfl
theorem gotF_length (L xs : List (Fin q)) (i : Nat) : (oI (gotF L xs i)).length = i := by rw [oI_length, gotF, Fld.mk_length]
end
section
variable {q : Nat} [NeZero q]
/-- What the share of one party is. -/
theorem only_read (hq : q ≤ 65537) (n : Nat) (hn : n < q) (L xs : List (Fin q)) (hx : ∀ c ∈ oI xs, 0 < c ∧ c ≤ (n : Int)) (i : Nat) (hi : i < xs.length) :
    ∃ a' : Nat, a' < n ∧ wrap64 (rd (oI xs) (i : Int) - 1) = (a' : Int) ∧ rd (oI (sharesF L n)) (a' : Int) = nI (Fld.ev L (Fld.co xs i)) := by
  have hm : Fld.co xs i ∈ xs := by rw [Fld.co_lt (by omega)]; exact List.getElem_mem _
  have hc := hx _ (List.mem_map.2 ⟨_, hm, rfl⟩)
  obtain ⟨a', ha⟩ : ∃ a : Nat, nI (Fld.co xs i) = ((a : Nat) : Int) + 1 := ⟨(nI (Fld.co xs i) - 1).toNat, by omega⟩
  have han : a' < n := by omega
  have hpt : pt q a' = Fld.co xs i := nI_inj (by rw [nI_pt (by omega), ha])
  exact ⟨a', han, by rw [rd_oI, ha, w64_small (by omega) (by omega)]; omega, by rw [rd_oI, sharesF, Fld.co_mk, if_pos han, hpt]⟩
theorem only_l0 (hq : q ≤ 65537) (n : Nat) (hn : n < q) (L xs : List (Fin q)) (hx : ∀ c ∈ oI xs, 0 < c ∧ c ≤ (n : Int)) (hs : xs.length ≤ 1000) (d p m t : Int) (P U A B : List Int) {r : Bool}
    (next : Ev (fun k => juntolaw04_ShareOnly.l0 k d (oI (sharesF L n)) (oI xs) (xs.length : Int) (xs.length : Int) p m t P U A B (oI (gotF L xs xs.length))) r) (z : Nat) : ∀ i : Nat, i + z = xs.length →
    Ev (fun k => juntolaw04_ShareOnly.l0 k d (oI (sharesF L n)) (oI xs) (xs.length : Int) (i : Int) p m t P U A B (oI (gotF L xs i))) r := by
  induction z with
  | zero =>
    intro i hi
    obtain rfl : i = xs.length := by omega
    exact next
  | succ z ih =>
    intro i hi
    have hw : wrap64 ((i : Int) + 1) = ((i + 1 : Nat) : Int) := by rw [w64_small (by omega) (by omega)]; omega
    obtain ⟨a', han, hr, hv⟩ := only_read hq n hn L xs hx i (by omega)
    have hl : (oI (sharesF L n)).length = n := by rw [oI_length, sharesF, Fld.mk_length]
    refine Ev.step (f := fun k => juntolaw04_ShareOnly.l0 k d (oI (sharesF L n)) (oI xs) (xs.length : Int) ((i + 1 : Nat) : Int) p m t P U A B (oI (gotF L xs (i + 1)))) (fun k => ?_) (ih (i + 1) (by omega))
    conv => lhs; simp only [juntolaw04_ShareOnly.l0]
    rw [if_pos (by omega), if_pos (by omega), if_pos (by rw [oI_length]; omega), hr, if_pos (by omega), if_pos (by rw [hl]; omega), if_pos (by rw [gotF_length]; omega), hv, hw, gotF_succ]
theorem only_l1 (hq : q ≤ 65537) (n : Nat) (hn : n < q) (L xs : List (Fin q)) (hx : ∀ c ∈ oI xs, 0 < c ∧ c ≤ (n : Int)) (hs : xs.length ≤ 1000) (A B G : List Int) {r : Bool}
    (next : Ev (fun k => juntolaw04_ShareOnly.l1 k (oI (sharesF L n)) (oI xs) (xs.length : Int) (xs.length : Int) A B G (oI (gotF L xs xs.length))) r) (z : Nat) : ∀ i : Nat, i + z = xs.length →
    Ev (fun k => juntolaw04_ShareOnly.l1 k (oI (sharesF L n)) (oI xs) (xs.length : Int) (i : Int) A B G (oI (gotF L xs i))) r := by
  induction z with
  | zero =>
    intro i hi
    obtain rfl : i = xs.length := by omega
    exact next
  | succ z ih =>
    intro i hi
    have hw : wrap64 ((i : Int) + 1) = ((i + 1 : Nat) : Int) := by rw [w64_small (by omega) (by omega)]; omega
    obtain ⟨a', han, hr, hv⟩ := only_read hq n hn L xs hx i (by omega)
    have hl : (oI (sharesF L n)).length = n := by rw [oI_length, sharesF, Fld.mk_length]
    refine Ev.step (f := fun k => juntolaw04_ShareOnly.l1 k (oI (sharesF L n)) (oI xs) (xs.length : Int) ((i + 1 : Nat) : Int) A B G (oI (gotF L xs (i + 1)))) (fun k => ?_) (ih (i + 1) (by omega))
    conv => lhs; simp only [juntolaw04_ShareOnly.l1]
    rw [if_pos (by omega), if_pos (by omega), if_pos (by rw [oI_length]; omega), hr, if_pos (by omega), if_pos (by rw [hl]; omega), if_pos (by rw [gotF_length]; omega), hv, hw, gotF_succ]
/-- Two tapes that give the same shares are the same. -/
theorem only_same (hp : Fld.Pr q) (xs av bv : List (Fin q)) (hxp : ∀ c ∈ oI xs, 0 < c) (hasc : (oI xs).Pairwise (· < ·)) (ha : av.length = xs.length) (hb : bv.length = xs.length) :
    (decide (oI (gotF (Fld.trim (1 :: av)) xs xs.length) = oI (gotF (Fld.trim (1 :: bv)) xs xs.length)) == decide (oI av = oI bv)) = true := by
  rw [beq_iff_eq]
  by_cases hab : av = bv
  · subst hab
    rw [decide_eq_true rfl, decide_eq_true rfl]
  · rw [decide_eq_false (fun e => hab (oI_inj e)), decide_eq_false]
    intro e
    apply hab
    have e := oI_inj e
    have inj := nX_inj xs hxp hasc
    have hat : ∀ j, j < xs.length → Fld.ev (1 :: av) (Fld.co xs j) = Fld.ev (1 :: bv) (Fld.co xs j) := fun j hj => by
      have h1 := congrArg (fun l => Fld.co l j) e
      simp only [gotF, Fld.co_mk, if_pos hj] at h1
      rw [(Fld.trim_co (1 :: av)).ev, (Fld.trim_co (1 :: bv)).ev] at h1
      exact h1
    have hlen : ((List.range (xs.length + 1)).map (nX xs)).length = xs.length + 1 := by simp
    have hn : ((List.range (xs.length + 1)).map (nX xs)).Nodup := by
      rw [List.nodup_iff_pairwise_ne, List.pairwise_map]
      refine List.Pairwise.imp_of_mem (fun {i j} hi hj hne hq => ?_) List.pairwise_lt_range
      exact absurd (inj i j (List.mem_range.1 hi) (List.mem_range.1 hj) hq) (Nat.ne_of_lt hne)
    have key := Fld.unique hp (f := 1 :: av) (g := 1 :: bv) hn (by rw [hlen]; exact Nat.le_trans (Fld.trim_length_le _) (by simp; omega)) (by rw [hlen]; exact Nat.le_trans (Fld.trim_length_le _) (by simp; omega)) (fun x hx => by
      obtain ⟨i, hi, rfl⟩ := List.mem_map.1 hx
      have hi := List.mem_range.1 hi
      unfold nX
      by_cases h0 : i = 0
      · rw [if_pos h0, Fld.ev_cons, Fld.ev_cons]; grind
      · rw [if_neg h0]; exact hat (i - 1) (by omega))
    apply List.ext_getElem (by omega)
    intro i h1 h2
    have := key (i + 1)
    rw [Fld.co_cons_succ, Fld.co_cons_succ, Fld.co_lt h1, Fld.co_lt h2] at this
    exact this
theorem only_draw (hq : q ≤ 65537) (h1 : 1 < q) (n t : Int) (h0 : setupV (q : Int) n t = 0) (av : List (Fin q)) (hd : (av.length : Int) < n) : Ev (fun k => share_Make.f k (q : Int) n t 1 (av.length : Int) (oI av)) (oI (Fld.trim (1 :: av)), [], 0) := by
  have hh := setupV_small h0
  have mk := share_make_ok hq n t h0 (1 : Fin q) av.length hd (oI av) (by rw [oI_length]; omega) (fun c hc => (oI_range _ c hc).1)
  rw [drawn_oI, List.drop_of_length_le (by rw [oI_length]; omega), show nI (1 : Fin q) = 1 from nI_one h1] at mk
  exact mk
end
theorem only_out (d p n t : Int) (l m A B : List Int) : Ev (fun k => juntolaw04_ShareOnly.j0 k d true p n t l m A B) true :=
  Ev.step (f := fun k => (juntolaw04_alive.f k).bind fun t => some t) (fun k => by simp only [juntolaw04_ShareOnly.j0, if_true]) (Ev.bind alive04 (Ev.now _))
theorem only_out1 (d p n t : Int) (x l m A B : List Int) : Ev (fun k => juntolaw04_ShareOnly.j1 k d x true p n t l m A B) true :=
  Ev.step (f := fun k => (juntolaw04_alive.f k).bind fun t => some t) (fun k => by simp only [juntolaw04_ShareOnly.j1, if_true]) (Ev.bind alive04 (Ev.now _))
theorem only_out4 (d p n t : Int) (x l m A B G : List Int) : Ev (fun k => juntolaw04_ShareOnly.j4 k d x true p n t l m A B G) true :=
  Ev.step (f := fun k => (juntolaw04_alive.f k).bind fun t => some t) (fun k => by simp only [juntolaw04_ShareOnly.j4, if_true]) (Ev.bind alive04 (Ev.now _))
section
variable {q : Nat} [NeZero q]
theorem only_second (hp : Fld.Pr q) (h2 : 2 < q) (hq : q ≤ 65537) (n : Nat) (t : Int) (h0 : setupV (q : Int) (n : Int) t = 0) (xs av bv : List (Fin q)) (hd : xs.length < n) (hx : ∀ c ∈ oI xs, 0 < c ∧ c ≤ (n : Int)) (hasc : (oI xs).Pairwise (· < ·)) (ha : av.length = xs.length) (hb : bv.length = xs.length) (U : List Int) :
    Ev (fun k => juntolaw04_ShareOnly.j4 k (xs.length : Int) (oI bv) false (q : Int) (n : Int) t (oI xs) U (oI av) (oI bv) (oI (gotF (Fld.trim (1 :: av)) xs xs.length))) true := by
  have hh := setupV_small h0
  have H0 := Aside0.mk h0
  clear h0
  have mk := only_draw hq (by omega) (n : Int) t H0.out bv (by omega)
  rw [hb] at mk
  have sh := share_shares_ok hq (Fld.trim (1 :: bv)) (Nat.le_trans (Fld.trim_length_le _) (by simp; omega)) n t H0.out
  refine Ev.step (f := fun k => (share_Make.f k (q : Int) (n : Int) t 1 (xs.length : Int) (oI bv)).bind fun bt307 => ((share_Shares.f k (q : Int) (n : Int) t bt307.1).bind fun bt314 => (if bt307.2.2 = 0 then (if bt314.2 = 0 then (juntolaw04_ShareOnly.j5 k bt314.1 ((bt314.1.length : Int) != (n : Int)) (oI xs) U (oI av) (oI bv) (oI (gotF (Fld.trim (1 :: av)) xs xs.length))) else (juntolaw04_ShareOnly.j5 k bt314.1 true (oI xs) U (oI av) (oI bv) (oI (gotF (Fld.trim (1 :: av)) xs xs.length)))) else (juntolaw04_ShareOnly.j5 k bt314.1 true (oI xs) U (oI av) (oI bv) (oI (gotF (Fld.trim (1 :: av)) xs xs.length)))))) (fun k => by simp only [juntolaw04_ShareOnly.j4, Bool.false_eq_true, if_false]) ?_
  refine Ev.bind mk ?_
  refine Ev.bind sh ?_
  simp only [if_true, oI_length, show (sharesF (Fld.trim (1 :: bv)) n).length = n from Fld.mk_length _ _, bne_self_eq_false]
  refine Ev.step (f := fun k => juntolaw04_ShareOnly.l1 k (oI (sharesF (Fld.trim (1 :: bv)) n)) (oI xs) (xs.length : Int) ((0 : Nat) : Int) (oI av) (oI bv) (oI (gotF (Fld.trim (1 :: av)) xs xs.length)) (oI (gotF (Fld.trim (1 :: bv)) xs 0))) (fun k => ?_) (only_l1 hq n (by omega) _ xs hx (by omega) _ _ _ ?_ xs.length 0 (by omega))
  · simp only [juntolaw04_ShareOnly.j5, Bool.false_eq_true, if_false, oI_length]
    rfl
  refine Ev.step (f := fun k => (juntoref01_Same.f k (oI (gotF (Fld.trim (1 :: av)) xs xs.length)) (oI (gotF (Fld.trim (1 :: bv)) xs xs.length))).bind fun t323 => ((juntoref01_Same.f k (oI av) (oI bv)).bind fun t324 => (if (t323 == t324) = true then ((juntolaw04_alive.f k).bind fun t325 => (some t325)) else (some false)))) (fun k => ?_) ?_
  · conv => lhs; simp only [juntolaw04_ShareOnly.l1]
    rw [if_neg (by omega)]
  refine Ev.bind (same_at _ _ (by rw [gotF_length]; simp only [maxLen]; omega)) (Ev.bind (same_at _ _ (by rw [oI_length]; simp only [maxLen]; omega)) ?_)
  rw [only_same hp xs av bv (fun c hc => (hx c hc).1) hasc ha hb]
  simp only [if_true]
  exact Ev.bind alive04 (Ev.now _)
theorem only_first (hp : Fld.Pr q) (h2 : 2 < q) (hq : q ≤ 65537) (n : Nat) (t : Int) (h0 : setupV (q : Int) (n : Int) t = 0) (xs av : List (Fin q)) (hd : xs.length < n) (hx : ∀ c ∈ oI xs, 0 < c ∧ c ≤ (n : Int)) (ha : av.length = xs.length) (U B : List Int) {r : Bool}
    (next : Ev (fun k => juntolaw04_ShareOnly.l0 k (xs.length : Int) (oI (sharesF (Fld.trim (1 :: av)) n)) (oI xs) (xs.length : Int) (xs.length : Int) (q : Int) (n : Int) t (oI xs) U (oI av) B (oI (gotF (Fld.trim (1 :: av)) xs xs.length))) r) :
    Ev (fun k => juntolaw04_ShareOnly.j1 k (xs.length : Int) (oI av) false (q : Int) (n : Int) t (oI xs) U (oI av) B) r := by
  have hh := setupV_small h0
  have H0 := Aside0.mk h0
  clear h0
  have mk := only_draw hq (by omega) (n : Int) t H0.out av (by omega)
  rw [ha] at mk
  have sh := share_shares_ok hq (Fld.trim (1 :: av)) (Nat.le_trans (Fld.trim_length_le _) (by simp; omega)) n t H0.out
  refine Ev.step (f := fun k => (share_Make.f k (q : Int) (n : Int) t 1 (xs.length : Int) (oI av)).bind fun bt289 => ((share_Shares.f k (q : Int) (n : Int) t bt289.1).bind fun bt296 => (if bt289.2.2 = 0 then (if bt296.2 = 0 then (juntolaw04_ShareOnly.j2 k (xs.length : Int) bt296.1 ((bt296.1.length : Int) != (n : Int)) (q : Int) (n : Int) t (oI xs) U (oI av) B) else (juntolaw04_ShareOnly.j2 k (xs.length : Int) bt296.1 true (q : Int) (n : Int) t (oI xs) U (oI av) B)) else (juntolaw04_ShareOnly.j2 k (xs.length : Int) bt296.1 true (q : Int) (n : Int) t (oI xs) U (oI av) B)))) (fun k => by simp only [juntolaw04_ShareOnly.j1, Bool.false_eq_true, if_false]) ?_
  refine Ev.bind mk ?_
  refine Ev.bind sh ?_
  simp only [if_true, oI_length, show (sharesF (Fld.trim (1 :: av)) n).length = n from Fld.mk_length _ _, bne_self_eq_false]
  refine Ev.step (f := fun k => juntolaw04_ShareOnly.l0 k (xs.length : Int) (oI (sharesF (Fld.trim (1 :: av)) n)) (oI xs) (xs.length : Int) ((0 : Nat) : Int) (q : Int) (n : Int) t (oI xs) U (oI av) B (oI (gotF (Fld.trim (1 :: av)) xs 0))) (fun k => ?_) (only_l0 hq n (by omega) _ xs hx (by omega) _ _ _ _ _ _ _ _ next xs.length 0 (by omega))
  simp only [juntolaw04_ShareOnly.j2, Bool.false_eq_true, if_false, oI_length]
  rfl
end
theorem shareOnly (x0_0 : Int) (x0_1 : Int) (x0_2 : Int) (x1_0 : List Int) (x1_1 : List Int) (x2_0 : List Int) (x2_1 : List Int) (w0_0 : (Lit.int .u64 x0_0).wf = true) (w0_1 : (Lit.int .i64 x0_1).wf = true) (w0_2 : (Lit.int .i64 x0_2).wf = true)
    (w1_0 : x1_0.length ≤ maxLen ∧ x1_0.length * 8 ≤ 140737488351232 ∧ ∀ x1_0' ∈ x1_0, (Lit.int .i64 x1_0').wf = true) (w1_1 : x1_1.length ≤ maxLen ∧ x1_1.length * 8 ≤ 140737488351232 ∧ ∀ x1_1' ∈ x1_1, (Lit.int .u64 x1_1').wf = true)
    (w2_0 : x2_0.length ≤ maxLen ∧ x2_0.length * 8 ≤ 140737488351232 ∧ ∀ x2_0' ∈ x2_0, (Lit.int .u64 x2_0').wf = true) (w2_1 : x2_1.length ≤ maxLen ∧ x2_1.length * 8 ≤ 140737488351232 ∧ ∀ x2_1' ∈ x2_1, (Lit.int .u64 x2_1').wf = true) : ∃ k, juntolaw04_ShareOnly.f k x0_0 x0_1 x0_2 x1_0 x1_1 x2_0 x2_1 = some true := by
  suffices h : Ev (fun k => juntolaw04_ShareOnly.f k x0_0 x0_1 x0_2 x1_0 x1_1 x2_0 x2_1) true from h.rounds
  have hu0 : ∀ c ∈ x2_0, 0 ≤ c := fun c hc => (u64_wf (w2_0.2.2 c hc)).1
  have hu1 : ∀ c ∈ x2_1, 0 ≤ c := fun c hc => (u64_wf (w2_1.2.2 c hc)).1
  unfold juntolaw04_ShareOnly.f
  refine Ev.bind (ref_setup _ _ _) ?_
  by_cases h0 : setupV x0_0 x0_1 x0_2 = 0
  rotate_left
  · simp only [h0, if_false]; exact only_out _ _ _ _ _ _ _ _
  have hh := setupV_small h0
  have hw : wrap64 (x0_1 - 1) = x0_1 - 1 := w64_small (by omega) (by omega)
  simp only [h0, if_true, hw]
  by_cases h1 : (x1_0.length : Int) > x0_1 - 1
  · simp only [h1, if_true]; exact only_out _ _ _ _ _ _ _ _
  simp only [h1, if_false]
  refine Ev.bind (ref_rising _ _ w1_0.1) ?_
  by_cases h2 : riseV x0_1 0 x1_0 = true
  rotate_left
  · rw [Bool.not_eq_true] at h2; rw [h2]; exact only_out _ _ _ _ _ _ _ _
  rw [h2]
  have hp1 := (setupV_ok h0).1
  obtain ⟨q, rfl⟩ : ∃ q : Nat, x0_0 = (q : Int) := ⟨x0_0.toNat, by omega⟩
  have hz : NeZero q := ⟨by omega⟩
  obtain ⟨n, rfl⟩ : ∃ n : Nat, x0_1 = (n : Int) := ⟨x0_1.toNat, by omega⟩
  obtain ⟨xs, hxs, _, hxl⟩ := places_of (q := q) h2 (by omega) (by omega)
  have hm := rise_mem h2
  have hasc := rise_asc h2
  have hxn : xs.length < n := by rw [hxl]; omega
  rw [← hxs] at hm hasc ⊢
  rw [oI_length]
  have hpr := pr_of_isP hp1
  have hq3 : 2 < q := by omega
  have hq6 : q ≤ 65537 := by omega
  by_cases h3 : (x2_0.length : Int) = (xs.length : Int)
  rotate_left
  · refine Ev.step (f := fun k => juntolaw04_ShareOnly.j1 k (xs.length : Int) x2_0 true (q : Int) (n : Int) x0_2 (oI xs) x1_1 x2_0 x2_1) (fun k => ?_) (only_out1 _ _ _ _ _ _ _ _ _)
    simp only [juntolaw04_ShareOnly.j0, Bool.not_true, Bool.false_eq_true, if_false, h3]
  refine Ev.step (f := fun k => (juntoref01_Within.f k (q : Int) x2_0).bind fun t287 => (juntolaw04_ShareOnly.j1 k (xs.length : Int) x2_0 (t287 != 0) (q : Int) (n : Int) x0_2 (oI xs) x1_1 x2_0 x2_1)) (fun k => ?_) ?_
  · simp only [juntolaw04_ShareOnly.j0, Bool.not_true, Bool.false_eq_true, if_false, h3, if_true]
  refine Ev.bind (ref_within _ _ w2_0.1) ?_
  by_cases h4 : belowV (q : Int) x2_0 = 0
  rotate_left
  · rw [bne_iff_ne.mpr h4]; exact only_out1 _ _ _ _ _ _ _ _ _
  rw [h4]
  obtain ⟨av, has⟩ := oI_of (q := q) (l := x2_0) (fun c hc => ⟨hu0 c hc, belowV_zero h4 c hc⟩)
  have hal : av.length = xs.length := by rw [← oI_length av, has]; omega
  rw [← has]
  refine only_first hpr hq3 hq6 n x0_2 h0 xs av hxn hm hal x1_1 x2_1 ?_
  by_cases h5 : (x2_1.length : Int) = (xs.length : Int)
  rotate_left
  · refine Ev.step (f := fun k => juntolaw04_ShareOnly.j4 k (xs.length : Int) x2_1 true (q : Int) (n : Int) x0_2 (oI xs) x1_1 (oI av) x2_1 (oI (gotF (Fld.trim (1 :: av)) xs xs.length))) (fun k => ?_) (only_out4 _ _ _ _ _ _ _ _ _ _)
    conv => lhs; simp only [juntolaw04_ShareOnly.l0]
    rw [if_neg (by omega), if_neg h5]
  refine Ev.step (f := fun k => (juntoref01_Within.f k (q : Int) x2_1).bind fun t305 => (juntolaw04_ShareOnly.j4 k (xs.length : Int) x2_1 (t305 != 0) (q : Int) (n : Int) x0_2 (oI xs) x1_1 (oI av) x2_1 (oI (gotF (Fld.trim (1 :: av)) xs xs.length)))) (fun k => ?_) ?_
  · conv => lhs; simp only [juntolaw04_ShareOnly.l0]
    rw [if_neg (by omega), if_pos h5]
  refine Ev.bind (ref_within _ _ w2_1.1) ?_
  by_cases h6 : belowV (q : Int) x2_1 = 0
  rotate_left
  · rw [bne_iff_ne.mpr h6]; exact only_out4 _ _ _ _ _ _ _ _ _ _
  rw [h6]
  obtain ⟨bv, hbs⟩ := oI_of (q := q) (l := x2_1) (fun c hc => ⟨hu1 c hc, belowV_zero h6 c hc⟩)
  have hbl : bv.length = xs.length := by rw [← oI_length bv, hbs]; omega
  rw [← hbs]
  exact only_second hpr hq3 hq6 n x0_2 h0 xs av bv hxn hm hasc hal hbl x1_1
end Go.Proofs.Yteklabfdifjcdaa.L

/- The row of ShareOnly: for every input the call returns true and changes nothing; no conditions. Out of the contract of the function and the plain law. -/
namespace Go.Proofs.Yteklabfdifjcdaa.shareOnly
open Go.ChangeShapes Go.WideShapes Go.ChangeAt Go.RowKit Go.Proofs.YteklabfdifjcdaaW.PrintWords Go.Proofs.Yteklabfdifjcdaa.J Go.Proofs.Yteklabfdifjcdaa.Op
set_option linter.unusedVariables false
theorem own : ownKnob Try.prog.godebug = none := by kernel_rfl
theorem laidOut : laidOutB Try.prog = true := by kernel_rfl
set_option maxRecDepth 100000 in
theorem op0 : Opens Try.prog (Kd.pair (Kd.int .u64) (Kd.pair (Kd.int .i64) (Kd.int .i64))) 24 (fun x => (fun n => (Lit.int .u64 n).wf = true) x.1 ∧ (fun x => (fun n => (Lit.int .i64 n).wf = true) x.1 ∧ (fun n => (Lit.int .i64 n).wf = true) x.2) x.2) := (op_agg Try.underlying24 (opL_cons (by kernel_rfl) (by kernel_rfl) (op_int Try.underlying22) (by kernel_rfl) (opL_cons (by kernel_rfl) (by kernel_rfl) (op_int Try.underlying3) (by kernel_rfl) (opL_one (by kernel_rfl) (by kernel_rfl) (op_int Try.underlying3)))))
set_option maxRecDepth 100000 in
theorem op1 : Opens Try.prog (Kd.pair (Kd.slice 3 (Kd.int .i64)) (Kd.slice 22 (Kd.int .u64))) 28 (fun x => (fun l => l.length ≤ maxLen ∧ l.length * 8 ≤ 140737488351232 ∧ ∀ a ∈ l, (fun n => (Lit.int .i64 n).wf = true) a) x.1 ∧ (fun l => l.length ≤ maxLen ∧ l.length * 8 ≤ 140737488351232 ∧ ∀ a ∈ l, (fun n => (Lit.int .u64 n).wf = true) a) x.2) := (op_agg Try.underlying28 (opL_cons (by kernel_rfl) (by kernel_rfl) (op_slice Try.underlying25 (by kernel_rfl) (by kernel_rfl) (op_int Try.underlying3)) (by kernel_rfl) (opL_one (by kernel_rfl) (by kernel_rfl) (op_slice Try.underlying26 (by kernel_rfl) (by kernel_rfl) (op_int Try.underlying22)))))
set_option maxRecDepth 100000 in
theorem op2 : Opens Try.prog (Kd.pair (Kd.slice 22 (Kd.int .u64)) (Kd.slice 22 (Kd.int .u64))) 29 (fun x => (fun l => l.length ≤ maxLen ∧ l.length * 8 ≤ 140737488351232 ∧ ∀ a ∈ l, (fun n => (Lit.int .u64 n).wf = true) a) x.1 ∧ (fun l => l.length ≤ maxLen ∧ l.length * 8 ≤ 140737488351232 ∧ ∀ a ∈ l, (fun n => (Lit.int .u64 n).wf = true) a) x.2) := (op_array2 Try.underlying29 (by kernel_rfl) (op_slice Try.underlying26 (by kernel_rfl) (by kernel_rfl) (op_int Try.underlying22)))
set_option maxRecDepth 100000 in
theorem lifted (os : Os) (started : os.Started) (H : Type) (enc : TypeId × Value → H) :
    ReturnsInHanded {} Try.checked os 3 .any (Rows.shareOnlySpec.pre6 enc Try.prog Try.f3 Rows.shareOnlyRow.domain false) (Rows.shareOnlySpec.post enc Try.prog Try.f3 false true false false) := by
  refine returnsInHanded_of_change_sized (C := Try.checked) own started (by kernel_rfl) Try.func3
    (ChangeSpec.witness6 (enc := enc) (C := Try.checked) false ⟨#[], #[.agg #[.int .u64 0, .int .i64 0, .int .i64 0], .agg #[.slice none 0 0, .slice none 0 0], .agg #[.slice none 0 0, .slice none 0 0]], []⟩ 8 (by kernel_rfl) (by kernel_rfl) (by kernel_rfl) (by kernel_rfl)) ?_
  intro W base args ds gs before hval0 hW hcnd hsz0 _
  have hsz : (DataW.weightsEach Try.prog (Try.f3.params.toList ++ Rows.shareOnlySpec.plain.varTypes Try.prog) (ds ++ gs)).all (· ≤ reachBytes) = true := hsz0
  have hval : ∀ (j : Nat) t v, Try.f3.params[j]? = some t → args[j]? = some v → Value.okWide Try.prog W .any base t v := hval0
  have hW' := hW
  obtain ⟨p, q, hA0, hV, rfl, hfz, hnd⟩ := hW
  have hA : DataW.TrodAll enc Try.prog W 0 (fun _ => true) true Try.f3.params.toList args.toList ds p := hA0
  rw [Try.params3] at hA hval hsz
  obtain ⟨v0, vs0, d0, ds0, p0, q0, hargs, rfl, rfl, h0, r0⟩ := trodAll_cons hA
  obtain ⟨v1, vs1, d1, ds1, p1, q1, rfl, rfl, rfl, h1, r1⟩ := trodAll_cons r0
  obtain ⟨v2, vs2, d2, ds2, p2, q2, rfl, rfl, rfl, h2, r2⟩ := trodAll_cons r1
  obtain ⟨rfl, rfl, rfl⟩ := trodAll_nil r2
  obtain rfl : args = #[v0, v1, v2] := by cases args; simp_all
  obtain ⟨rfl, rfl⟩ := trodVars_none hV
  have k0 := h0
  have lt0 : ∀ x ∈ p0, x.block < W.heap.size := by obtain ⟨m, hm⟩ := k0; exact DataW.trod_lt m _ _ _ hm
  obtain ⟨cs0, rfl, hn0⟩ := okWide_agg Try.underlying24 (hval 0 24 v0 rfl rfl)
  obtain ⟨⟨x0_0, x0_1, x0_2⟩, K0, ⟨w0_0, w0_1, w0_2⟩⟩ := arg op0 (by show cs0.toList.length = _; rw [Array.length_toList, hn0]; kernel_rfl) h0 hsz (j := 0) rfl rfl
  obtain ⟨g0_0, rg0_0, qg0_0, l0_0, M0_0⟩ := K0
  have l0_0' : g0_0 = [Value.int .u64 x0_0] := l0_0
  obtain ⟨g0_1, rg0_1, qg0_1, l0_1, M0_1⟩ := M0_0
  have l0_1' : g0_1 = [Value.int .i64 x0_1] := l0_1
  have M0_1' : rg0_1 = [Value.int .i64 x0_2] := M0_1
  obtain rfl : cs0 = #[.int .u64 x0_0, .int .i64 x0_1, .int .i64 x0_2] := by
    apply Array.toList_inj.1
    have z0 : cs0.toList = _ := qg0_0
    rw [z0, l0_0', qg0_1, l0_1', M0_1']
    rfl
  have k1 := h1
  have lt1 : ∀ x ∈ p1, x.block < W.heap.size := by obtain ⟨m, hm⟩ := k1; exact DataW.trod_lt m _ _ _ hm
  obtain ⟨cs1, rfl, hn1⟩ := okWide_agg Try.underlying28 (hval 1 28 v1 rfl rfl)
  obtain ⟨⟨x1_0, x1_1⟩, K1, ⟨w1_0, w1_1⟩⟩ := arg op1 (by show cs1.toList.length = _; rw [Array.length_toList, hn1]; kernel_rfl) h1 hsz (j := 1) rfl rfl
  obtain ⟨g1_0, rg1_0, qg1_0, l1_0, M1_0⟩ := K1
  obtain ⟨A1_0, c1_0, l1_0', hc1_0, hr1_0⟩ := l1_0
  obtain ⟨A1_1, c1_1, M1_0', hc1_1, hr1_1⟩ := M1_0
  obtain rfl : cs1 = #[.slice A1_0 x1_0.length c1_0, .slice A1_1 x1_1.length c1_1] := by
    apply Array.toList_inj.1
    have z1 : cs1.toList = _ := qg1_0
    rw [z1, l1_0', M1_0']
    rfl
  have k2 := h2
  have lt2 : ∀ x ∈ p2, x.block < W.heap.size := by obtain ⟨m, hm⟩ := k2; exact DataW.trod_lt m _ _ _ hm
  obtain ⟨cs2, rfl, hn2⟩ := okWide_arr Try.underlying29 (hval 2 29 v2 rfl rfl)
  obtain ⟨⟨x2_0, x2_1⟩, K2, ⟨w2_0, w2_1⟩⟩ := arg op2 (by show cs2.toList.length = _; rw [Array.length_toList, hn2]; kernel_rfl) h2 hsz (j := 2) rfl rfl
  obtain ⟨g2_0, rg2_0, qg2_0, l2_0, M2_0⟩ := K2
  obtain ⟨A2_0, c2_0, l2_0', hc2_0, hr2_0⟩ := l2_0
  obtain ⟨A2_1, c2_1, M2_0', hc2_1, hr2_1⟩ := M2_0
  obtain rfl : cs2 = #[.slice A2_0 x2_0.length c2_0, .slice A2_1 x2_1.length c2_1] := by
    apply Array.toList_inj.1
    have z2 : cs2.toList = _ := qg2_0
    rw [z2, l2_0', M2_0']
    rfl
  clear hA0 hval0 hsz0 hsz
  obtain ⟨k, h⟩ := L.shareOnly x0_0 x0_1 x0_2 x1_0 x1_1 x2_0 x2_1 w0_0 w0_1 w0_2 w1_0 w1_1 w2_0 w2_1
  refine (juntolaw04_ShareOnly.calls k x0_0 x0_1 x0_2 _ _ x1_0 _ _ x1_1 _ _ x2_0 _ _ x2_1 true W hr1_0 hc1_0 hr1_1 hc1_1 hr2_0 hc2_0 hr2_1 hc2_1 h).mono fun e W' ⟨he, bel⟩ => ?_
  subst he
  exact ⟨_, rfl, _, _, _, [], _, [], hW', trodAll_mk1 (shut_bool Try.underlying4 _), (trodAll_cons_mk (Below.trod laidOut (by kernel_rfl) (of_decide_eq_true (by kernel_rfl)) k0 bel lt0) (trodAll_cons_mk (Below.trod laidOut (by kernel_rfl) (of_decide_eq_true (by kernel_rfl)) k1 bel lt1) (trodAll_cons_mk (Below.trod laidOut (by kernel_rfl) (of_decide_eq_true (by kernel_rfl)) k2 bel lt2) trodAll_mk0))), rfl, bel.frame _, fun h => by cases h⟩
set_option maxRecDepth 100000 in
theorem closed : joinedFacts Try.pinned.checked.prog 3 Try.f3 Rows.shareOnlySpec Rows.shareOnlyRow = true := by
  unfold joinedFacts
  repeat' with_reducible refine Bool.and_eq_true_iff.2 ⟨?_, ?_⟩
  all_goals first
    | with_reducible exact Facts.enters
    | (rw [Facts.final]; kernel_rfl)
    | (rw [Facts.made]; kernel_rfl)
    | kernel_rfl
theorem over : Rows.shareOnlyRow.holds Try.pinned (OpenSpec.ofChange Rows.shareOnlySpec) :=
  OpenClaim.holds_of_wide 3 Try.f3 rfl rfl rfl rfl rfl rfl rfl ⟨rfl, rfl, rfl, rfl, rfl⟩ rfl rfl rfl rfl rfl (by kernel_rfl) Try.func3 closed
    (of_decide_eq_true (by kernel_rfl)) (by unfold Func.isWrapper; first | (rw [if_pos (by decide +kernel)]; kernel_rfl) | (rw [if_neg (by decide +kernel)]; exact ⟨rfl, rfl⟩))
    (fun os started H enc _ => lifted os started H enc)
theorem proved : Rows.ShareOnlySaid := over
#print axioms proved
end Go.Proofs.Yteklabfdifjcdaa.shareOnly
namespace Go.Proofs.Yteklabfdifjcdaa
/-- The row, under a short name, for the claim. -/
theorem shareOnly_holds : Rows.ShareOnlySaid := shareOnly.proved
end Go.Proofs.Yteklabfdifjcdaa
