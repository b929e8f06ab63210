/- Part 3 of the proof of ShareMakes: what the functions compute as plain Lean functions, that the machine comes to just these answers, and that the answer is true; no conditions. -/
import Derived.Test.YtjjnfobeeflnhaaShareMakesZ0
import Derived.Test.YtjjnfobeeflnhaaShareMakesZ1
import Derived.Test.YtjjnfobeeflnhaaShareMakesZ2
import Derived.WalkSmall
import Derived.Test.YtjjnfobeeflnhaaRows
import Derived.WalkKit
import Derived.ProofKit
import Derived.OpenShut
import Derived.ShutString
import Derived.ChangeOld
import Derived.Below
import Derived.SizedLaws
/- Polynomials over the residues modulo a prime, as lists of coefficients: sums, products, values, trailing zeros, division, interpolation. Plain Lean, no program in sight. -/
namespace Go.Proofs.Ytjjnfobeeflnhaa.Fld
set_option linter.unusedVariables false
set_option linter.unusedSimpArgs false

section
variable {p : Nat} [NeZero p]

/-! ### sums -/
def sm : Nat → (Nat → Fin p) → Fin p
  | 0, _ => 0
  | n + 1, g => sm n g + g n
theorem sm_succ (n : Nat) (g : Nat → Fin p) : sm (n + 1) g = sm n g + g n := rfl
theorem sm_congr {n : Nat} {g h : Nat → Fin p} (e : ∀ i, i < n → g i = h i) : sm n g = sm n h := by
  induction n with
  | zero => rfl
  | succ n ih => rw [sm_succ, sm_succ, ih (fun i hi => e i (by omega)), e n (by omega)]
theorem sm_zero {n : Nat} {g : Nat → Fin p} (e : ∀ i, i < n → g i = 0) : sm n g = 0 := by
  induction n with
  | zero => rfl
  | succ n ih => rw [sm_succ, ih (fun i hi => e i (by omega)), e n (by omega)]; grind
theorem sm_add (n : Nat) (g h : Nat → Fin p) : sm n (fun i => g i + h i) = sm n g + sm n h := by
  induction n with
  | zero => show (0 : Fin p) = 0 + 0; grind
  | succ n ih => rw [sm_succ, sm_succ, sm_succ, ih]; grind
theorem sm_mul (n : Nat) (c : Fin p) (g : Nat → Fin p) : sm n (fun i => c * g i) = c * sm n g := by
  induction n with
  | zero => show (0 : Fin p) = c * 0; grind
  | succ n ih => rw [sm_succ, sm_succ, ih]; grind
theorem sm_mul' (n : Nat) (c : Fin p) (g : Nat → Fin p) : sm n (fun i => g i * c) = sm n g * c := by
  induction n with
  | zero => show (0 : Fin p) = 0 * c; grind
  | succ n ih => rw [sm_succ, sm_succ, ih]; grind
theorem sm_front (n : Nat) (g : Nat → Fin p) : sm (n + 1) g = g 0 + sm n (fun i => g (i + 1)) := by
  induction n with
  | zero => show 0 + g 0 = g 0 + 0; grind
  | succ n ih => rw [sm_succ, ih, sm_succ]; grind
theorem sm_rev (n : Nat) (g : Nat → Fin p) : sm (n + 1) g = sm (n + 1) (fun i => g (n - i)) := by
  induction n generalizing g with
  | zero => rfl
  | succ n ih =>
    rw [sm_front, ih (fun i => g (i + 1)), sm_succ (n + 1) (fun i => g (n + 1 - i))]
    have : sm (n + 1) (fun i => g (n - i + 1)) = sm (n + 1) (fun i => g (n + 1 - i)) := sm_congr fun i hi => by congr 1; omega
    rw [this, show n + 1 - (n + 1) = 0 by omega]; grind
theorem sm_tri (F : Nat → Nat → Fin p) (n : Nat) : sm n (fun i => sm (i + 1) (fun j => F i j)) = sm n (fun j => sm (n - j) (fun k => F (j + k) j)) := by
  induction n with
  | zero => rfl
  | succ n ih =>
    rw [sm_succ, ih, sm_succ n (fun j => sm (n + 1 - j) (fun k => F (j + k) j))]
    have h1 : sm n (fun j => sm (n + 1 - j) (fun k => F (j + k) j)) = sm n (fun j => sm (n - j) (fun k => F (j + k) j) + F n j) := sm_congr fun j hj => by
      rw [show n + 1 - j = (n - j) + 1 by omega, sm_succ, show j + (n - j) = n by omega]
    rw [h1, sm_add, show n + 1 - n = 0 + 1 by omega, sm_succ 0, sm_succ n (fun j => F n j)]
    simp only [sm, Nat.add_zero]; grind
theorem sm_more {n m : Nat} {g : Nat → Fin p} (h : n ≤ m) (e : ∀ i, n ≤ i → i < m → g i = 0) : sm m g = sm n g := by
  induction m with
  | zero => rw [show n = 0 by omega]
  | succ m ih =>
    by_cases hn : n = m + 1
    · rw [hn]
    · rw [sm_succ, ih (by omega) (fun i h1 h2 => e i h1 (by omega)), e m (by omega) (by omega)]; grind
theorem sm_one {n k : Nat} {g : Nat → Fin p} (hk : k < n) (e : ∀ i, i < n → i ≠ k → g i = 0) : sm n g = g k := by
  induction n with
  | zero => omega
  | succ n ih =>
    rw [sm_succ]
    by_cases h : k = n
    · rw [h, sm_zero (fun i hi => e i (by omega) (by omega))]; grind
    · rw [ih (by omega) (fun i h1 h2 => e i (by omega) h2), e n (by omega) (by omega)]; grind

/-! ### coefficients, values -/
def co (f : List (Fin p)) (i : Nat) : Fin p := f.getD i 0
theorem co_nil (i : Nat) : co ([] : List (Fin p)) i = 0 := by simp [co]
theorem co_cons_zero (a : Fin p) (f : List (Fin p)) : co (a :: f) 0 = a := by simp [co]
theorem co_cons_succ (a : Fin p) (f : List (Fin p)) (i : Nat) : co (a :: f) (i + 1) = co f i := by simp [co]
theorem co_ge {f : List (Fin p)} {i : Nat} (h : f.length ≤ i) : co f i = 0 := by simp [co, List.getD_eq_getElem?_getD, List.getElem?_eq_none h]
theorem co_lt {f : List (Fin p)} {i : Nat} (h : i < f.length) : co f i = f[i] := by simp [co, List.getD_eq_getElem?_getD, h]
/-- The value at a place (Horner). -/
def ev (f : List (Fin p)) (x : Fin p) : Fin p := f.foldr (fun c v => v * x + c) 0
theorem ev_nil (x : Fin p) : ev [] x = 0 := rfl
theorem ev_cons (a : Fin p) (f : List (Fin p)) (x : Fin p) : ev (a :: f) x = ev f x * x + a := rfl
theorem ev_sm (f : List (Fin p)) (x : Fin p) : ∀ n, f.length ≤ n → ev f x = sm n (fun i => co f i * x ^ i) := by
  induction f with
  | nil => intro n _; rw [ev_nil, sm_zero]; intro i _; rw [co_nil]; grind
  | cons a f ih =>
    intro n hn
    obtain ⟨m, rfl⟩ : ∃ m, n = m + 1 := ⟨n - 1, by simp at hn; omega⟩
    rw [ev_cons, sm_front, ih m (by simp at hn; omega), co_cons_zero]
    have : sm m (fun i => co (a :: f) (i + 1) * x ^ (i + 1)) = sm m (fun i => co f i * x ^ i * x) := sm_congr fun i _ => by rw [co_cons_succ]; grind
    rw [this, sm_mul']; grind
/-- Equal as polynomials. -/
def Eqv (f g : List (Fin p)) : Prop := ∀ i, co f i = co g i
theorem Eqv.refl (f : List (Fin p)) : Eqv f f := fun _ => rfl
theorem Eqv.symm {f g : List (Fin p)} (h : Eqv f g) : Eqv g f := fun i => (h i).symm
theorem Eqv.trans {f g k : List (Fin p)} (h : Eqv f g) (h' : Eqv g k) : Eqv f k := fun i => (h i).trans (h' i)
theorem Eqv.ev {f g : List (Fin p)} (h : Eqv f g) (x : Fin p) : ev f x = ev g x := by
  rw [ev_sm f x (max f.length g.length) (by omega), ev_sm g x (max f.length g.length) (by omega)]
  exact sm_congr fun i _ => by rw [h i]

/-! ### trailing zeros -/
def trim (f : List (Fin p)) : List (Fin p) := f.foldr (fun c r => if r = [] ∧ c = 0 then [] else c :: r) []
theorem trim_nil : trim ([] : List (Fin p)) = [] := rfl
theorem trim_cons (a : Fin p) (f : List (Fin p)) : trim (a :: f) = if trim f = [] ∧ a = 0 then [] else a :: trim f := rfl
theorem trim_co (f : List (Fin p)) : Eqv (trim f) f := by
  induction f with
  | nil => exact Eqv.refl _
  | cons a f ih =>
    intro i
    rw [trim_cons]
    split
    · rename_i h
      obtain ⟨h1, rfl⟩ := h
      cases i with
      | zero => rw [co_nil, co_cons_zero]
      | succ i => rw [co_nil, co_cons_succ, ← ih i, h1, co_nil]
    · cases i with
      | zero => rw [co_cons_zero, co_cons_zero]
      | succ i => rw [co_cons_succ, co_cons_succ, ih i]
theorem trim_eq_nil {f : List (Fin p)} (h : ∀ i, co f i = 0) : trim f = [] := by
  induction f with
  | nil => rfl
  | cons a f ih =>
    rw [trim_cons, if_pos ⟨ih (fun i => by rw [← co_cons_succ a, h]), by rw [← co_cons_zero a f, h]⟩]
theorem trim_congr {f g : List (Fin p)} (h : Eqv f g) : trim f = trim g := by
  induction f generalizing g with
  | nil => rw [trim_nil, trim_eq_nil (fun i => by rw [← h i, co_nil])]
  | cons a f ih =>
    cases g with
    | nil => rw [trim_nil, trim_eq_nil (fun i => by rw [h i, co_nil])]
    | cons b g =>
      have h0 : a = b := by have := h 0; rwa [co_cons_zero, co_cons_zero] at this
      have h1 : Eqv f g := fun i => by have := h (i + 1); rwa [co_cons_succ, co_cons_succ] at this
      rw [trim_cons, trim_cons, ih h1, h0]
theorem trim_trim (f : List (Fin p)) : trim (trim f) = trim f := trim_congr (trim_co f)
theorem eqv_iff {f g : List (Fin p)} : Eqv f g ↔ trim f = trim g :=
  ⟨trim_congr, fun h => (trim_co f).symm.trans (h ▸ trim_co g)⟩
theorem trim_length_le (f : List (Fin p)) : (trim f).length ≤ f.length := by
  induction f with
  | nil => simp [trim_nil]
  | cons a f ih => rw [trim_cons]; split <;> simp <;> omega
theorem trim_length_of {f : List (Fin p)} {n : Nat} (h : ∀ i, n ≤ i → co f i = 0) : (trim f).length ≤ n := by
  induction f generalizing n with
  | nil => simp [trim_nil]
  | cons a f ih =>
    rw [trim_cons]
    split
    · simp
    · rename_i hne
      cases n with
      | zero =>
        exfalso; apply hne
        exact ⟨trim_eq_nil fun i => by rw [← co_cons_succ a, h _ (by omega)], by rw [← co_cons_zero a f, h 0 (by omega)]⟩
      | succ n =>
        have := ih (n := n) (fun i hi => by rw [← co_cons_succ a, h _ (by omega)])
        simp; omega
theorem trim_last {f : List (Fin p)} (h : trim f ≠ []) : co f ((trim f).length - 1) ≠ 0 := by
  intro h0
  have hl : 0 < (trim f).length := List.length_pos_iff.2 h
  have := trim_length_of (f := f) (n := (trim f).length - 1) (fun i hi => by
    by_cases e : i = (trim f).length - 1
    · rw [e]; exact h0
    · rw [← trim_co f i]; exact co_ge (by omega))
  omega
/-- Nothing to trim. -/
def Tr (f : List (Fin p)) : Prop := trim f = f
theorem Tr.trim (f : List (Fin p)) : Tr (trim f) := trim_trim f
theorem Tr.ext {f g : List (Fin p)} (hf : Tr f) (hg : Tr g) (h : Eqv f g) : f = g := by rw [← hf, ← hg, trim_congr h]
theorem Tr.last {f : List (Fin p)} (hf : Tr f) (h : f ≠ []) : co f (f.length - 1) ≠ 0 := by
  have := trim_last (f := f) (by rw [hf]; exact h)
  rwa [hf] at this
theorem tr_of_last {f : List (Fin p)} (h : f ≠ [] → co f (f.length - 1) ≠ 0) : Tr f := by
  by_cases hf : f = []
  · rw [hf]; rfl
  · have hl := List.length_pos_iff.2 hf
    have h1 : f.length ≤ (Fld.trim f).length := by
      apply Nat.le_of_not_lt
      intro hlt
      apply h hf
      rw [← trim_co f]; exact co_ge (by omega)
    have h2 := trim_length_le f
    apply List.ext_getElem (by omega)
    intro i h3 h4
    have := trim_co f i
    rwa [co_lt h3, co_lt h4] at this

/-! ### making a list out of its coefficients -/
def mk (n : Nat) (c : Nat → Fin p) : List (Fin p) := (List.range n).map c
end
section
variable {p : Nat}
theorem mk_length (n : Nat) (c : Nat → Fin p) : (mk n c).length = n := by simp [mk]
end
section
variable {p : Nat} [NeZero p]
theorem co_mk (n : Nat) (c : Nat → Fin p) (i : Nat) : co (mk n c) i = if i < n then c i else 0 := by
  by_cases h : i < n
  · rw [co_lt (by rw [mk_length]; exact h), if_pos h]; simp [mk]
  · rw [co_ge (by rw [mk_length]; omega), if_neg h]

/-! ### sums, products -/
def add (f g : List (Fin p)) : List (Fin p) := mk (max f.length g.length) (fun i => co f i + co g i)
def sub (f g : List (Fin p)) : List (Fin p) := mk (max f.length g.length) (fun i => co f i - co g i)
def smul (c : Fin p) (f : List (Fin p)) : List (Fin p) := f.map (c * ·)
theorem co_add (f g : List (Fin p)) (i : Nat) : co (add f g) i = co f i + co g i := by
  unfold add; rw [co_mk]; split
  · rfl
  · rw [co_ge (f := f) (by omega), co_ge (f := g) (by omega)]; grind
theorem co_sub (f g : List (Fin p)) (i : Nat) : co (sub f g) i = co f i - co g i := by
  unfold sub; rw [co_mk]; split
  · rfl
  · rw [co_ge (f := f) (by omega), co_ge (f := g) (by omega)]; grind
theorem co_smul (c : Fin p) (f : List (Fin p)) (i : Nat) : co (smul c f) i = c * co f i := by
  unfold smul
  by_cases h : i < f.length
  · rw [co_lt (by simpa using h), co_lt h]; simp
  · rw [co_ge (by simp; omega), co_ge (by omega)]; grind
end
section
variable {p : Nat}
theorem smul_length (c : Fin p) (f : List (Fin p)) : (smul c f).length = f.length := by simp [smul]
end
section
variable {p : Nat} [NeZero p]
theorem add_length (f g : List (Fin p)) : (add f g).length = max f.length g.length := mk_length _ _
theorem sub_length (f g : List (Fin p)) : (sub f g).length = max f.length g.length := mk_length _ _
theorem ev_add (f g : List (Fin p)) (x : Fin p) : ev (add f g) x = ev f x + ev g x := by
  rw [ev_sm (add f g) x (max f.length g.length) (by rw [add_length]; omega), ev_sm f x (max f.length g.length) (by omega), ev_sm g x (max f.length g.length) (by omega), ← sm_add]
  exact sm_congr fun i _ => by rw [co_add]; grind
theorem ev_sub (f g : List (Fin p)) (x : Fin p) : ev (sub f g) x = ev f x - ev g x := by
  have h : Eqv (add (sub f g) g) f := fun i => by rw [co_add, co_sub]; grind
  have := h.ev x
  rw [ev_add] at this
  grind
theorem ev_smul (c : Fin p) (f : List (Fin p)) (x : Fin p) : ev (smul c f) x = c * ev f x := by
  rw [ev_sm (smul c f) x f.length (by rw [smul_length]; omega), ev_sm f x f.length (by omega), ← sm_mul]
  exact sm_congr fun i _ => by rw [co_smul]; grind

/-- A product of coefficients. -/
def cv (c d : Nat → Fin p) (n : Nat) : Fin p := sm (n + 1) (fun i => c i * d (n - i))
theorem cv_congr {c c' d d' : Nat → Fin p} (h : ∀ i, c i = c' i) (h' : ∀ i, d i = d' i) (n : Nat) : cv c d n = cv c' d' n := sm_congr fun i _ => by rw [h, h']
theorem cv_comm (c d : Nat → Fin p) (n : Nat) : cv c d n = cv d c n := by
  unfold cv
  rw [sm_rev]
  exact sm_congr fun i hi => by rw [show n - (n - i) = i by omega]; grind
theorem cv_add (c d d' : Nat → Fin p) (n : Nat) : cv c (fun i => d i + d' i) n = cv c d n + cv c d' n := by
  unfold cv; rw [← sm_add]; exact sm_congr fun i _ => by grind
theorem cv_add' (c c' d : Nat → Fin p) (n : Nat) : cv (fun i => c i + c' i) d n = cv c d n + cv c' d n := by
  unfold cv; rw [← sm_add]; exact sm_congr fun i _ => by grind
theorem cv_mul (a : Fin p) (c d : Nat → Fin p) (n : Nat) : cv (fun i => a * c i) d n = a * cv c d n := by
  unfold cv; rw [← sm_mul]; exact sm_congr fun i _ => by grind
theorem cv_mul' (a : Fin p) (c d : Nat → Fin p) (n : Nat) : cv c (fun i => a * d i) n = a * cv c d n := by
  unfold cv; rw [← sm_mul]; exact sm_congr fun i _ => by grind
theorem cv_assoc (a b c : Nat → Fin p) (n : Nat) : cv (cv a b) c n = cv a (cv b c) n := by
  unfold cv
  have h1 : sm (n + 1) (fun i => sm (i + 1) (fun j => a j * b (i - j)) * c (n - i)) = sm (n + 1) (fun i => sm (i + 1) (fun j => a j * b (i - j) * c (n - i))) := sm_congr fun i _ => by rw [sm_mul']
  rw [h1, sm_tri (fun i j => a j * b (i - j) * c (n - i))]
  refine sm_congr fun j hj => ?_
  rw [← sm_mul, show n + 1 - j = n - j + 1 by omega]
  refine sm_congr fun k hk => ?_
  rw [show j + k - j = k by omega, show n - j - k = n - (j + k) by omega]; grind
/-- A product. -/
def mul : List (Fin p) → List (Fin p) → List (Fin p)
  | [], _ => []
  | a :: f, g => add (smul a g) (0 :: mul f g)
theorem co_mul (f g : List (Fin p)) (n : Nat) : co (mul f g) n = cv (co f) (co g) n := by
  induction f generalizing n with
  | nil => rw [mul, co_nil]; unfold cv; rw [sm_zero]; intro i _; rw [co_nil]; grind
  | cons a f ih =>
    rw [mul, co_add, co_smul]
    unfold cv
    rw [sm_front, co_cons_zero]
    cases n with
    | zero => rw [co_cons_zero]; show a * co g 0 + 0 = a * co g 0 + 0; rfl
    | succ n =>
      rw [co_cons_succ, ih n]
      unfold cv
      congr 1
      exact sm_congr fun i _ => by rw [co_cons_succ, show n + 1 - (i + 1) = n - i by omega]
theorem ev_mul (f g : List (Fin p)) (x : Fin p) : ev (mul f g) x = ev f x * ev g x := by
  induction f with
  | nil => rw [mul, ev_nil]; grind
  | cons a f ih => rw [mul, ev_add, ev_smul, ev_cons, ih, ev_cons]; grind
theorem co_mul_ge {f g : List (Fin p)} {n : Nat} (h : f.length + g.length ≤ n + 1) : co (mul f g) n = 0 := by
  rw [co_mul]; unfold cv
  refine sm_zero fun i hi => ?_
  by_cases h1 : f.length ≤ i
  · rw [co_ge h1]; grind
  · rw [co_ge (f := g) (by omega)]; grind
theorem co_mul_top {f g : List (Fin p)} (hf : f ≠ []) (hg : g ≠ []) : co (mul f g) (f.length + g.length - 2) = co f (f.length - 1) * co g (g.length - 1) := by
  have h1 := List.length_pos_iff.2 hf
  have h2 := List.length_pos_iff.2 hg
  rw [co_mul]; unfold cv
  rw [sm_one (k := f.length - 1) (by omega)]
  · rw [show f.length + g.length - 2 - (f.length - 1) = g.length - 1 by omega]
  · intro i hi hne
    by_cases h : f.length ≤ i
    · rw [co_ge h]; grind
    · rw [co_ge (f := g) (by omega)]; grind

/-! ### equations between polynomials -/
theorem Eqv.add {f f' g g' : List (Fin p)} (h : Eqv f f') (h' : Eqv g g') : Eqv (add f g) (add f' g') := fun i => by rw [co_add, co_add, h i, h' i]
theorem Eqv.sub {f f' g g' : List (Fin p)} (h : Eqv f f') (h' : Eqv g g') : Eqv (sub f g) (sub f' g') := fun i => by rw [co_sub, co_sub, h i, h' i]
theorem Eqv.mul {f f' g g' : List (Fin p)} (h : Eqv f f') (h' : Eqv g g') : Eqv (mul f g) (mul f' g') := fun i => by rw [co_mul, co_mul, cv_congr h h']
theorem Eqv.smul {f f' : List (Fin p)} (c : Fin p) (h : Eqv f f') : Eqv (smul c f) (smul c f') := fun i => by rw [co_smul, co_smul, h i]
theorem mul_comm (f g : List (Fin p)) : Eqv (mul f g) (mul g f) := fun i => by rw [co_mul, co_mul, cv_comm]
theorem mul_assoc (f g k : List (Fin p)) : Eqv (mul (mul f g) k) (mul f (mul g k)) := fun i => by
  rw [co_mul, co_mul, cv_congr (co_mul f g) (fun _ => rfl), cv_congr (fun _ => rfl) (co_mul g k), cv_assoc]
theorem mul_add (f g k : List (Fin p)) : Eqv (mul f (Fld.add g k)) (Fld.add (mul f g) (mul f k)) := fun i => by
  rw [co_mul, co_add, co_mul, co_mul, cv_congr (fun _ => rfl) (co_add g k), cv_add]
theorem add_mul (f g k : List (Fin p)) : Eqv (mul (Fld.add f g) k) (Fld.add (mul f k) (mul g k)) := fun i => by
  rw [co_mul, co_add, co_mul, co_mul, cv_congr (co_add f g) (fun _ => rfl), cv_add']
theorem mul_sub (f g k : List (Fin p)) : Eqv (mul f (Fld.sub g k)) (Fld.sub (mul f g) (mul f k)) := fun i => by
  have h : Eqv (Fld.add (Fld.sub g k) k) g := fun i => by rw [co_add, co_sub]; grind
  have h1 := (mul_add f (Fld.sub g k) k).symm.trans ((Eqv.refl f).mul h) i
  rw [co_add] at h1
  rw [co_sub, ← h1]; grind
theorem sub_mul (f g k : List (Fin p)) : Eqv (mul (Fld.sub f g) k) (Fld.sub (mul f k) (mul g k)) :=
  (mul_comm _ _).trans ((mul_sub k f g).trans ((mul_comm _ _).sub (mul_comm _ _)))
theorem smul_mul (c : Fin p) (f g : List (Fin p)) : Eqv (mul (Fld.smul c f) g) (Fld.smul c (mul f g)) := fun i => by
  rw [co_mul, co_smul, co_mul, cv_congr (co_smul c f) (fun _ => rfl), cv_mul]
theorem mul_smul (c : Fin p) (f g : List (Fin p)) : Eqv (mul f (Fld.smul c g)) (Fld.smul c (mul f g)) := fun i => by
  rw [co_mul, co_smul, co_mul, cv_congr (fun _ => rfl) (co_smul c g), cv_mul']
theorem mul_nil (f : List (Fin p)) : Eqv (mul f []) [] := fun i => by
  rw [co_mul, co_nil]; unfold cv; exact sm_zero fun j _ => by rw [co_nil]; grind
theorem mul_one (f : List (Fin p)) : Eqv (mul f [1]) f := fun i => by
  rw [co_mul, cv_comm]; unfold cv
  rw [sm_one (k := 0) (by omega)]
  · rw [co_cons_zero]; show 1 * co f i = co f i; grind
  · intro j _ hj
    obtain ⟨m, rfl⟩ : ∃ m, j = m + 1 := ⟨j - 1, by omega⟩
    rw [co_cons_succ, co_nil]; grind

/-! ### degrees of products, roots -/
theorem trim_mul_length (hp : Pr p) {f g : List (Fin p)} (hf : trim f ≠ []) (hg : trim g ≠ []) : (trim (mul f g)).length + 1 = (trim f).length + (trim g).length := by
  have e : Eqv (mul f g) (mul (trim f) (trim g)) := (trim_co f).symm.mul (trim_co g).symm
  rw [trim_congr e]
  have h1 := List.length_pos_iff.2 hf
  have h2 := List.length_pos_iff.2 hg
  have ht := co_mul_top hf hg
  have hn : co (mul (trim f) (trim g)) ((trim f).length + (trim g).length - 2) ≠ 0 := by
    rw [ht]
    intro h
    rcases mul_eq_zero hp h with h | h
    · exact (Tr.trim f).last hf h
    · exact (Tr.trim g).last hg h
  have hle := trim_length_of (f := mul (trim f) (trim g)) (n := (trim f).length + (trim g).length - 1) (fun i hi => co_mul_ge (by omega))
  have hge : (trim f).length + (trim g).length - 2 < (trim (mul (trim f) (trim g))).length := by
    apply Nat.lt_of_not_le
    intro h
    exact hn (by rw [← trim_co]; exact co_ge h)
  omega
theorem trim_mul_le (f g : List (Fin p)) : (trim (mul f g)).length ≤ f.length + g.length - 1 := trim_length_of fun i hi => co_mul_ge (by omega)
theorem mul_eq_nil (hp : Pr p) {f g : List (Fin p)} (h : Eqv (mul f g) []) : trim f = [] ∨ trim g = [] := by
  by_cases hf : trim f = []
  · exact .inl hf
  by_cases hg : trim g = []
  · exact .inr hg
  have := trim_mul_length hp hf hg
  rw [trim_congr h, trim_nil] at this
  have h1 := List.length_pos_iff.2 hf
  have h2 := List.length_pos_iff.2 hg
  simp at this; omega
/-- Synthetic division by x - a. -/
theorem root_factor (f : List (Fin p)) (a : Fin p) : ∃ q : List (Fin p), q.length = f.length - 1 ∧ Eqv f (add (mul [-a, 1] q) [ev f a]) := by
  induction f with
  | nil => exact ⟨[], rfl, fun i => by
      rw [co_add, co_mul, ev_nil]
      have : cv (co [-a, 1]) (co []) i = 0 := by unfold cv; exact sm_zero fun j _ => by rw [co_nil]; grind
      rw [this, co_nil]
      cases i with
      | zero => rw [co_cons_zero]; grind
      | succ i => rw [co_cons_succ, co_nil]; grind⟩
  | cons c f ih =>
    obtain ⟨q, hq, he⟩ := ih
    cases f with
    | nil =>
      refine ⟨[], rfl, fun i => ?_⟩
      rw [co_add, co_mul]
      have : cv (co [-a, 1]) (co []) i = 0 := by unfold cv; exact sm_zero fun j _ => by rw [co_nil]; grind
      rw [this, ev_cons, ev_nil]
      cases i with
      | zero => rw [co_cons_zero, co_cons_zero]; grind
      | succ i => rw [co_cons_succ, co_cons_succ]; grind
    | cons d f =>
      refine ⟨ev (d :: f) a :: q, by simp at hq ⊢; omega, fun i => ?_⟩
      have key : ∀ j, co (mul [-a, 1] q) j = co (d :: f) j - co [ev (d :: f) a] j := fun j => by have := he j; rw [co_add] at this; grind
      have hm : ∀ (r : List (Fin p)) j, co (mul [-a, 1] r) j = -a * co r j + (if j = 0 then 0 else co r (j - 1)) := by
        intro r j
        rw [mul, mul, mul, co_add, co_smul]
        cases j with
        | zero => rw [co_cons_zero]; simp
        | succ j =>
          rw [co_cons_succ, co_add, co_smul]
          have : co (0 :: ([] : List (Fin p))) j = 0 := by cases j with
            | zero => rfl
            | succ j => rw [co_cons_succ, co_nil]
          rw [this]; simp; grind
      have hE : ev (c :: d :: f) a = ev (d :: f) a * a + c := rfl
      rw [co_add, hm, hE]
      generalize ev (d :: f) a = z at *
      cases i with
      | zero => rw [co_cons_zero, co_cons_zero, co_cons_zero]; simp; grind
      | succ i =>
        rw [co_cons_succ, co_cons_succ, co_cons_succ, co_nil]
        have k := key i
        rw [hm] at k
        clear he key hm hE
        cases i with
        | zero =>
          simp only [co_cons_zero, co_cons_succ, if_true] at k ⊢
          simp only [Nat.succ_ne_zero, if_false, Nat.add_sub_cancel, Nat.zero_add, Nat.sub_self, co_cons_zero]
          grind
        | succ i =>
          simp only [co_cons_succ, co_nil, Nat.succ_ne_zero, if_false, Nat.add_sub_cancel] at k ⊢
          grind
/-- Not more roots than the degree. -/
theorem roots_le (hp : Pr p) : ∀ (n : Nat) (f : List (Fin p)) (xs : List (Fin p)), xs.Nodup → (∀ x, x ∈ xs → ev f x = 0) → f.length ≤ n → xs.length = n → ∀ i, co f i = 0
  | 0, f, _, _, _, h, _ => by
    intro i; rw [List.eq_nil_of_length_eq_zero (by omega : f.length = 0), co_nil]
  | n + 1, f, xs, hn, hr, h, hl => by
    cases xs with
    | nil => simp at hl
    | cons a xs =>
      obtain ⟨hna, hn⟩ := List.nodup_cons.1 hn
      obtain ⟨q, hq, he⟩ := root_factor f a
      have ha := hr a (by simp)
      have hz : ∀ i, co q i = 0 := by
        refine roots_le hp n q xs hn (fun x hx => ?_) (by omega) (by simpa using hl)
        have h1 := he.ev x
        rw [ev_add, ev_mul, hr x (by simp [hx]), ev_cons, ev_cons, ev_nil, ev_cons, ev_nil, ha] at h1
        have h2 : (x - a) * ev q x = 0 := by grind
        rcases mul_eq_zero hp h2 with h3 | h3
        · exact absurd (by grind : x = a) (by rintro rfl; exact hna hx)
        · exact h3
      intro i
      rw [he i, co_add, co_mul, ha]
      have : cv (co [-a, 1]) (co q) i = 0 := by unfold cv; exact sm_zero fun j _ => by rw [hz]; grind
      rw [this]
      cases i with
      | zero => rw [co_cons_zero]; grind
      | succ i => rw [co_cons_succ, co_nil]; grind
/-- Polynomials of degree less than n that have the same values at n places are the same. -/
theorem unique (hp : Pr p) {f g xs : List (Fin p)} (hn : xs.Nodup) (hf : (trim f).length ≤ xs.length) (hg : (trim g).length ≤ xs.length) (h : ∀ x, x ∈ xs → ev f x = ev g x) : Eqv f g := by
  have e : Eqv (sub (trim f) (trim g)) (sub f g) := (trim_co f).sub (trim_co g)
  have := roots_le hp xs.length (sub (trim f) (trim g)) xs hn (fun x hx => by rw [e.ev, ev_sub, h x hx]; grind) (by rw [sub_length]; omega) rfl
  intro i
  have h1 := (e i).symm.trans (this i)
  rw [co_sub] at h1
  grind
theorem roots_count (hp : Pr p) {f xs : List (Fin p)} (hf : trim f ≠ []) (hn : xs.Nodup) (h : ∀ x, x ∈ xs → ev f x = 0) : xs.length < (trim f).length := by
  apply Nat.lt_of_not_le
  intro hle
  apply hf
  have : Eqv f [] := by
    have hs : ((xs.take (trim f).length)).Nodup := List.Nodup.sublist (List.take_sublist _ _) hn
    exact unique hp hs (by simp; omega) (by simp [trim_nil]) (fun x hx => by rw [h x (List.mem_of_mem_take hx), ev_nil])
  rw [trim_congr this, trim_nil]
end
end Go.Proofs.Ytjjnfobeeflnhaa.Fld

/- The program's words over the residues modulo a number: numbers, rows of coefficients, sums, products, values. -/
namespace Go.Proofs.Ytjjnfobeeflnhaa.L
open Go.RowKit Go.Proofs.YtjjnfobeeflnhaaW.PrintWords Go.Proofs.Ytjjnfobeeflnhaa.J
set_option linter.unusedVariables false
set_option linter.unusedSimpArgs false

section
variable {q : Nat} [NeZero q]
/-- The number that a residue is. -/
def nI (a : Fin q) : Int := (a.val : Int)
/-- A row of residues as numbers. -/
def oI (f : List (Fin q)) : List Int := f.map nI

theorem q_pos : 0 < q := Nat.pos_of_ne_zero (NeZero.ne q)
end
section
variable {q : Nat}
theorem nI_range (a : Fin q) : 0 ≤ nI a ∧ nI a < (q : Int) := by
  have := a.isLt
  unfold nI; omega
theorem nI_inj {a b : Fin q} (h : nI a = nI b) : a = b := Fin.ext (by unfold nI at h; omega)
end
section
variable {q : Nat} [NeZero q]
theorem nI_zero : nI (0 : Fin q) = 0 := by simp [nI]
theorem nI_eq_zero {a : Fin q} : nI a = 0 ↔ a = 0 := ⟨fun h => nI_inj (h.trans nI_zero.symm), fun h => by rw [h, nI_zero]⟩
theorem nI_one (h : 1 < q) : nI (1 : Fin q) = 1 := by
  have : ((1 : Fin q) : Nat) = 1 % q := rfl
  unfold nI; rw [this, Nat.mod_eq_of_lt h]; rfl
end
section
variable {q : Nat}
theorem nI_of {x : Int} (h0 : 0 ≤ x) (h1 : x < (q : Int)) : ∃ a : Fin q, nI a = x := ⟨⟨x.toNat, by omega⟩, by show ((x.toNat : Nat) : Int) = x; omega⟩
theorem nI_mul (a b : Fin q) : nI (a * b) = nI a * nI b % (q : Int) := by
  unfold nI; rw [Fin.val_mul]; simp
theorem nI_add (a b : Fin q) : nI (a + b) = (nI a + nI b) % (q : Int) := by
  unfold nI; rw [Fin.val_add]; simp
theorem nI_sub (a b : Fin q) : nI (a - b) = (nI a + (q : Int) - nI b) % (q : Int) := by
  have hb := b.isLt
  have e : (a - b).val = (q - b.val + a.val) % q := by rw [Fin.sub_def]
  unfold nI; rw [e]
  have : (a.val : Int) + (q : Int) - (b.val : Int) = ((q - b.val + a.val : Nat) : Int) := by omega
  rw [this]; simp

theorem oI_nil : oI ([] : List (Fin q)) = [] := rfl
theorem oI_cons (a : Fin q) (f : List (Fin q)) : oI (a :: f) = nI a :: oI f := rfl
theorem oI_append (f g : List (Fin q)) : oI (f ++ g) = oI f ++ oI g := by simp [oI]
theorem oI_length (f : List (Fin q)) : (oI f).length = f.length := by simp [oI]
theorem oI_of : ∀ {l : List Int}, (∀ c ∈ l, 0 ≤ c ∧ c < (q : Int)) → ∃ f : List (Fin q), oI f = l
  | [], _ => ⟨[], rfl⟩
  | a :: l, h => by
    obtain ⟨x, hx⟩ := nI_of (h a (by simp)).1 (h a (by simp)).2
    obtain ⟨f, hf⟩ := oI_of (l := l) (fun c hc => h c (by simp [hc]))
    exact ⟨x :: f, by rw [oI_cons, hx, hf]⟩
theorem oI_inj : ∀ {f g : List (Fin q)}, oI f = oI g → f = g
  | [], [], _ => rfl
  | [], _ :: _, h => by cases h
  | _ :: _, [], h => by cases h
  | a :: f, b :: g, h => by
    rw [oI_cons, oI_cons] at h
    injection h with h1 h2
    rw [nI_inj h1, oI_inj h2]
theorem oI_range (f : List (Fin q)) : ∀ c ∈ oI f, 0 ≤ c ∧ c < (q : Int) := by
  intro c hc
  obtain ⟨a, _, rfl⟩ := List.mem_map.1 hc
  exact nI_range a
end
section
variable {q : Nat} [NeZero q]
theorem oI_getD (f : List (Fin q)) (i : Nat) : (oI f).getD i 0 = nI (Fld.co f i) := by
  by_cases h : i < f.length
  · rw [Fld.co_lt h]; simp [oI, List.getD_eq_getElem?_getD, h]
  · rw [Fld.co_ge (by omega), nI_zero]; simp [oI, List.getD_eq_getElem?_getD, List.getElem?_eq_none (show f.length ≤ i by omega)]
theorem rd_oI (f : List (Fin q)) (i : Nat) : rd (oI f) (i : Int) = nI (Fld.co f i) := by
  rw [← oI_getD]; simp [rd]
end
section
variable {q : Nat}
theorem oI_take (f : List (Fin q)) (i : Nat) : (oI f).take i = oI (f.take i) := by simp [oI, List.map_take]
theorem oI_drop (f : List (Fin q)) (i : Nat) : (oI f).drop i = oI (f.drop i) := by simp [oI, List.map_drop]
theorem oI_set (f : List (Fin q)) (i : Nat) (a : Fin q) : (oI f).set i (nI a) = oI (f.set i a) := by simp [oI, List.map_set]
end
section
variable {q : Nat} [NeZero q]
theorem oI_zeros (n : Nat) : List.replicate n (0 : Int) = oI (List.replicate n (0 : Fin q)) := by simp [oI, nI_zero]
theorem short_oI (f : List (Fin q)) : shortI (oI f) = oI (Fld.trim f) := by
  induction f with
  | nil => rfl
  | cons a f ih =>
    have e : shortI (oI (a :: f)) = if shortI (oI f) = [] ∧ nI a = 0 then [] else nI a :: shortI (oI f) := rfl
    rw [e, ih, Fld.trim_cons]
    by_cases h : Fld.trim f = [] ∧ a = 0
    · rw [if_pos h, if_pos (by rw [h.1, h.2]; exact ⟨rfl, nI_zero⟩)]; rfl
    · rw [if_neg h, if_neg (fun h' => h ⟨oI_inj (h'.1.trans oI_nil.symm), nI_eq_zero.1 h'.2⟩)]; rfl

theorem co_set (f : List (Fin q)) (i : Nat) (a : Fin q) (hi : i < f.length) (s : Nat) : Fld.co (f.set i a) s = if s = i then a else Fld.co f s := by
  unfold Fld.co
  rw [List.getD_eq_getElem?_getD, List.getD_eq_getElem?_getD]
  by_cases h : s = i
  · subst h; rw [if_pos rfl, List.getElem?_set_self hi]; rfl
  · rw [if_neg h, List.getElem?_set_ne (by omega)]
theorem co_zeros (n s : Nat) : Fld.co (List.replicate n (0 : Fin q)) s = 0 := by
  unfold Fld.co
  rw [List.getD_eq_getElem?_getD, List.getElem?_replicate]
  split <;> rfl
theorem co_append (f g : List (Fin q)) (s : Nat) : Fld.co (f ++ g) s = if s < f.length then Fld.co f s else Fld.co g (s - f.length) := by
  unfold Fld.co
  rw [List.getD_eq_getElem?_getD, List.getD_eq_getElem?_getD, List.getD_eq_getElem?_getD]
  by_cases h : s < f.length
  · rw [if_pos h, List.getElem?_append_left h]
  · rw [if_neg h, List.getElem?_append_right (by omega)]
theorem co_take (f : List (Fin q)) (n s : Nat) : Fld.co (f.take n) s = if s < n then Fld.co f s else 0 := by
  unfold Fld.co
  rw [List.getD_eq_getElem?_getD, List.getD_eq_getElem?_getD]
  by_cases h : s < n
  · rw [if_pos h, List.getElem?_take_of_lt h]
  · rw [if_neg h, List.getElem?_eq_none (by simp; omega)]; rfl

/-! what the field's words tell -/
section
variable (hq : q ≤ 65537)
include hq
theorem times_fp (a b : Fin q) : field_Times.f (q : Int) (nI a) (nI b) = some (nI (a * b)) := by
  have hp := q_pos (q := q)
  rw [times_at (by omega) (by omega) (nI_range a).1 (nI_range a).2 (nI_range b).1 (nI_range b).2, nI_mul]
theorem mul_fp (a b : Fin q) : juntoref01_Mul.f (q : Int) (nI a) (nI b) = some (nI (a * b)) := by
  have hp := q_pos (q := q)
  rw [ref_mul (by omega) (by omega) (nI_range a).1 (nI_range a).2 (nI_range b).1 (nI_range b).2, nI_mul]
theorem plus_fp (a b : Fin q) : field_Plus.f (q : Int) (nI a) (nI b) = some (nI (a + b)) := by
  have hp := q_pos (q := q)
  rw [plus_at (by omega) (by omega) (nI_range a).1 (nI_range a).2 (nI_range b).1 (nI_range b).2, nI_add]
theorem add_fp (a b : Fin q) : juntoref01_Add.f (q : Int) (nI a) (nI b) = some (nI (a + b)) := by
  have hp := q_pos (q := q)
  rw [ref_add (by omega) (by omega) (nI_range a).1 (nI_range a).2 (nI_range b).1 (nI_range b).2, nI_add]
theorem fmul_fp (a b : Fin q) : field_mul.f (q : Int) (nI a) (nI b) = some (nI (a * b)) := by
  have := times_fp hq a b
  unfold field_Times.f at this
  generalize field_mul.f (q : Int) (nI a) (nI b) = o at this
  cases o with
  | none => cases this
  | some v => exact this
theorem minus_fp (a b : Fin q) : field_Minus.f (q : Int) (nI a) (nI b) = some (nI (a - b)) := by
  have hp := q_pos (q := q)
  have ha := nI_range a
  have hb := nI_range b
  unfold field_Minus.f
  rw [if_neg (by omega), u64_small (by omega) (by omega), Int.tmod_eq_emod_of_nonneg (by omega)]
  have e : ((q : Int) - nI b) % (q : Int) = nI (0 - b) := by rw [nI_sub, nI_zero, Int.zero_add]
  rw [e, plus_fp hq, Option.bind_some]
  congr 2
  grind
end

/-! rows -/
theorem short_fp (f : List (Fin q)) (hl : f.length ≤ 1000000000) : Ev (fun k => poly_Short.f k (oI f)) (oI (Fld.trim f)) := by
  rw [← short_oI]
  exact ⟨f.length + 1, fun k hk => short_spec (oI f) (by rw [oI_length]; omega) k (by rw [oI_length]; omega)⟩
theorem zip_fp (D : Int → Int → Int) (O : Fin q → Fin q → Fin q) (h : ∀ a b : Fin q, D (nI a) (nI b) = nI (O a b)) (f g : List (Fin q)) : zipI D (oI f) (oI g) = oI (Fld.trim (Fld.mk (max f.length g.length) (fun i => O (Fld.co f i) (Fld.co g i)))) := by
  unfold zipI
  rw [← short_oI, oI_length, oI_length]
  unfold Fld.mk oI
  rw [List.map_map]
  congr 1
  apply List.map_congr_left
  intro i _
  show D ((oI f).getD i 0) ((oI g).getD i 0) = nI (O (Fld.co f i) (Fld.co g i))
  rw [oI_getD, oI_getD, h]
theorem plusI_fp (hq : q ≤ 65537) (f g : List (Fin q)) : plusI (q : Int) (oI f) (oI g) = oI (Fld.trim (Fld.add f g)) :=
  zip_fp _ (· + ·) (fun a b => by rw [plus_fp hq]; rfl) f g
theorem plus_rows (hq : q ≤ 65537) (f g : List (Fin q)) (hf : f.length ≤ 1000000000) (hg : g.length ≤ 1000000000) : Ev (fun k => poly_Plus.f k (q : Int) (oI f) (oI g)) (oI (Fld.trim (Fld.add f g))) := by
  rw [← plusI_fp hq]
  exact ⟨2 * max f.length g.length + 2, fun k hk => plusI_spec (q : Int) (oI f) (oI g) (by rw [oI_length, oI_length]; omega) k (by rw [oI_length, oI_length]; omega)⟩

theorem at_fp (hq : q ≤ 65537) (f : List (Fin q)) (x : Fin q) : valV (q : Int) (nI x) (oI f) = nI (Fld.ev f x) := by
  induction f with
  | nil => exact nI_zero.symm
  | cons a f ih =>
    rw [Fld.ev_cons, nI_add, nI_mul, ← ih]; rfl
theorem at_rows (hq : q ≤ 65537) (f : List (Fin q)) (x : Fin q) : poly_At.f (q : Int) (oI f) (nI x) = some (nI (Fld.ev f x)) := by
  have hp := q_pos (q := q)
  rw [poly_at (by omega) (by omega) (nI_range x).1 (nI_range x).2 (oI f) (oI_range f), at_fp hq]
theorem eval_rows (h1 : 1 < q) (hq : q ≤ 65537) (f : List (Fin q)) (x : Fin q) (hf : f.length ≤ 1000000000) : Ev (fun k => juntoref02_Eval.f k (q : Int) (oI f) (nI x)) (nI (Fld.ev f x)) := by
  have := ref_eval (p := (q : Int)) (x := nI x) (by omega) (by omega) (nI_range x).1 (nI_range x).2 (oI f) (by rw [oI_length]; simp only [maxLen]; omega) (oI_range f)
  rwa [at_fp hq] at this

/-- A row that is filled from the front on. -/
def fill (n j : Nat) (F : Nat → Fin q) : List (Fin q) := Fld.mk n (fun i => if i < j then F i else 0)
theorem fill_zero (n : Nat) (F : Nat → Fin q) : fill n 0 F = List.replicate n 0 := by
  apply List.ext_getElem (by simp [fill, Fld.mk])
  intro i h1 h2
  simp [fill, Fld.mk]
theorem fill_length (n j : Nat) (F : Nat → Fin q) : (fill n j F).length = n := Fld.mk_length _ _
theorem fill_set (n j : Nat) (F : Nat → Fin q) : (fill n j F).set j (F j) = fill n (j + 1) F := by
  apply List.ext_getElem (by simp [fill, Fld.mk])
  intro i h1 h2
  simp only [fill, Fld.mk, List.getElem_set, List.getElem_map, List.getElem_range]
  by_cases h : j = i
  · rw [if_pos h, if_pos (by omega), h]
  · rw [if_neg h]
    by_cases h' : i < j
    · rw [if_pos h', if_pos (by omega)]
    · rw [if_neg h', if_neg (by omega)]
theorem fill_all (n : Nat) (F : Nat → Fin q) : fill n n F = Fld.mk n F := by
  apply List.ext_getElem (by simp [fill, Fld.mk])
  intro i h1 h2
  have : i < n := by simpa [fill, Fld.mk] using h1
  simp [fill, Fld.mk, this]

theorem by_loop (hq : q ≤ 65537) (f : List (Fin q)) (c : Fin q) (hf : f.length ≤ 1000000000) : ∀ (m i : Nat), i + m = f.length →
    Ev (fun k => poly_By.l0 k (q : Int) (nI c) (oI (fill f.length i fun j => Fld.co f j * c)) (oI f) (f.length : Int) (i : Int)) (oI (Fld.trim (Fld.mk f.length fun j => Fld.co f j * c)))
  | 0, i, hi => by
    obtain rfl : i = f.length := by omega
    refine Ev.step (f := fun k => (poly_Short.f k (oI (Fld.mk f.length fun j => Fld.co f j * c))).bind fun t => some t) (fun k => ?_) (Ev.bind (short_fp _ (by rw [Fld.mk_length]; exact hf)) (Ev.now _))
    simp only [poly_By.l0]
    rw [if_neg (by omega), fill_all]
  | m + 1, i, hi => by
    refine Ev.step (f := fun k => poly_By.l0 k (q : Int) (nI c) (oI (fill f.length (i + 1) fun j => Fld.co f j * c)) (oI f) (f.length : Int) ((i + 1 : Nat) : Int)) (fun k => ?_) (by_loop hq f c hf m (i + 1) (by omega))
    conv => lhs; simp only [poly_By.l0]
    rw [if_pos (by omega), if_pos (by omega), if_pos (by rw [oI_length]; omega), rd_oI, times_fp hq, Option.bind_some, if_pos (by rw [oI_length, fill_length]; omega), Int.toNat_natCast, oI_set, fill_set f.length i (fun j => Fld.co f j * c), w64_small (by omega) (by omega)]
    rfl
theorem by_rows (hq : q ≤ 65537) (f : List (Fin q)) (c : Fin q) (hf : f.length ≤ 1000000000) : Ev (fun k => poly_By.f k (q : Int) (oI f) (nI c)) (oI (Fld.trim (Fld.smul c f))) := by
  have e : Fld.Eqv (Fld.mk f.length fun j => Fld.co f j * c) (Fld.smul c f) := fun i => by
    rw [Fld.co_mk, Fld.co_smul]
    split
    · grind
    · rw [Fld.co_ge (f := f) (by omega)]; grind
  rw [← Fld.trim_congr e]
  have h := by_loop hq f c hf f.length 0 (by omega)
  rw [fill_zero, ← oI_zeros] at h
  refine Ev.congr (fun k => ?_) h
  unfold poly_By.f
  rw [oI_length, if_pos (by omega), if_pos (by omega), Int.toNat_natCast]
  rfl

/-! products -/
/-- What the first i rows of a product come to. -/
def part (f g : List (Fin q)) (i s : Nat) : Fin q := Fld.sm i (fun j => if j ≤ s then Fld.co f j * Fld.co g (s - j) else 0)
theorem part_all (f g : List (Fin q)) (n s : Nat) (h : f.length ≤ n) : part f g n s = Fld.co (Fld.mul f g) s := by
  rw [Fld.co_mul]
  unfold part Fld.cv
  have e : Fld.sm (max n (s + 1)) (fun j => if j ≤ s then Fld.co f j * Fld.co g (s - j) else 0) = Fld.sm n (fun j => if j ≤ s then Fld.co f j * Fld.co g (s - j) else 0) := Fld.sm_more (by omega) fun i h1 h2 => by
    rw [Fld.co_ge (f := f) (by omega)]; split <;> grind
  have e' : Fld.sm (max n (s + 1)) (fun j => if j ≤ s then Fld.co f j * Fld.co g (s - j) else 0) = Fld.sm (s + 1) (fun j => if j ≤ s then Fld.co f j * Fld.co g (s - j) else 0) := Fld.sm_more (by omega) fun i h1 h2 => by
    rw [if_neg (by omega)]
  rw [← e, e']
  exact Fld.sm_congr fun i hi => by rw [if_pos (by omega)]

/-- The row h stands at factor i, k of a product. -/
def At2 (f g h : List (Fin q)) (i k : Nat) : Prop := ∀ s, Fld.co h s = part f g i s + (if i ≤ s ∧ s < i + k then Fld.co f i * Fld.co g (s - i) else 0)
theorem At2.start (f g : List (Fin q)) (n : Nat) : At2 f g (List.replicate n 0) 0 0 := fun s => by
  rw [co_zeros, if_neg (by omega)]; show (0 : Fin q) = 0 + 0; grind
theorem At2.next {f g h : List (Fin q)} {i k : Nat} (H : At2 f g h i k) (hk : i + k < h.length) : At2 f g (h.set (i + k) (Fld.co h (i + k) + Fld.co f i * Fld.co g k)) i (k + 1) := fun s => by
  rw [co_set _ _ _ hk]
  by_cases e : s = i + k
  · subst e
    rw [if_pos rfl, H (i + k), if_neg (by omega), if_pos (by omega), show i + k - i = k by omega]; grind
  · rw [if_neg e, H s]
    by_cases e' : i ≤ s ∧ s < i + k
    · rw [if_pos e', if_pos (by omega)]
    · rw [if_neg e', if_neg (by omega)]
theorem At2.round {f g h : List (Fin q)} {i k : Nat} (H : At2 f g h i k) (hk : g.length ≤ k) : At2 f g h (i + 1) 0 := fun s => by
  rw [H s, if_neg (by omega : ¬ (i + 1 ≤ s ∧ s < i + 1 + 0))]
  have e : part f g (i + 1) s = part f g i s + (if i ≤ s then Fld.co f i * Fld.co g (s - i) else 0) := rfl
  rw [e]
  by_cases h1 : i ≤ s
  · by_cases h2 : s < i + k
    · rw [if_pos ⟨h1, h2⟩, if_pos h1]; grind
    · rw [if_neg (by omega), if_pos h1, Fld.co_ge (f := g) (by omega)]; grind
  · rw [if_neg (by omega), if_neg h1]; grind
theorem At2.last {f g h : List (Fin q)} {i : Nat} (H : At2 f g h i 0) (hi : f.length ≤ i) : Fld.trim h = Fld.trim (Fld.mul f g) := Fld.trim_congr fun s => by
  rw [H s, if_neg (by omega), part_all f g i s hi]; grind

theorem times_inner (hq : q ≤ 65537) (f g : List (Fin q)) (i : Nat) (hi : i < f.length) (hf : f.length ≤ 1000000) (hg : g.length ≤ 1000000) {r : List Int} (next : ∀ h : List (Fin q), h.length = f.length + g.length - 1 → At2 f g h (i + 1) 0 → Ev (fun k => poly_Times.l0 k (q : Int) (oI g) (oI h) (oI f) (f.length : Int) ((i + 1 : Nat) : Int)) r) : ∀ (m j : Nat) (h : List (Fin q)), j + m = g.length → h.length = f.length + g.length - 1 → At2 f g h i j →
    Ev (fun k => poly_Times.l1 k (q : Int) (oI g) (oI h) (i : Int) (nI (Fld.co f i)) (oI f) (f.length : Int) (i : Int) (oI g) (g.length : Int) (j : Int)) r
  | 0, j, h, hj, hh, H => by
    refine Ev.step (f := fun k => poly_Times.l0 k (q : Int) (oI g) (oI h) (oI f) (f.length : Int) ((i + 1 : Nat) : Int)) (fun k => ?_) (next h hh (H.round (by omega)))
    conv => lhs; simp only [poly_Times.l1]
    rw [if_neg (by omega), w64_small (by omega) (by omega)]
    rfl
  | m + 1, j, h, hj, hh, H => by
    refine Ev.step (f := fun k => poly_Times.l1 k (q : Int) (oI g) (oI (h.set (i + j) (Fld.co h (i + j) + Fld.co f i * Fld.co g j))) (i : Int) (nI (Fld.co f i)) (oI f) (f.length : Int) (i : Int) (oI g) (g.length : Int) ((j + 1 : Nat) : Int)) (fun k => ?_) (times_inner hq f g i hi hf hg next m (j + 1) _ (by omega) (by rw [List.length_set]; exact hh) (H.next (by omega)))
    conv => lhs; simp only [poly_Times.l1]
    have hw : wrap64 ((i : Int) + (j : Int)) = ((i + j : Nat) : Int) := by rw [w64_small (by omega) (by omega)]; omega
    rw [if_pos (by omega), if_pos (by omega), if_pos (by rw [oI_length]; omega), hw, if_pos (by omega), if_pos (by rw [oI_length]; omega), rd_oI, rd_oI, times_fp hq, Option.bind_some, plus_fp hq, Option.bind_some, Int.toNat_natCast, oI_set, w64_small (by omega) (by omega)]
    rfl
theorem times_outer (hq : q ≤ 65537) (f g : List (Fin q)) (hf : f.length ≤ 1000000) (hg : g.length ≤ 1000000) : ∀ (m i : Nat) (h : List (Fin q)), i + m = f.length → h.length = f.length + g.length - 1 → At2 f g h i 0 →
    Ev (fun k => poly_Times.l0 k (q : Int) (oI g) (oI h) (oI f) (f.length : Int) (i : Int)) (oI (Fld.trim (Fld.mul f g)))
  | 0, i, h, hi, hh, H => by
    rw [← H.last (by omega)]
    refine Ev.step (f := fun k => (poly_Short.f k (oI h)).bind fun t => some t) (fun k => ?_) (Ev.bind (short_fp _ (by omega)) (Ev.now _))
    simp only [poly_Times.l0]
    rw [if_neg (by omega)]
  | m + 1, i, h, hi, hh, H => by
    refine Ev.step (f := fun k => poly_Times.l1 k (q : Int) (oI g) (oI h) (i : Int) (nI (Fld.co f i)) (oI f) (f.length : Int) (i : Int) (oI g) (g.length : Int) 0) (fun k => ?_) (times_inner hq f g i (by omega) hf hg (fun h' hh' H' => times_outer hq f g hf hg m (i + 1) h' (by omega) hh' H') g.length 0 h (by omega) hh H)
    conv => lhs; simp only [poly_Times.l0]
    rw [if_pos (by omega), if_pos (by omega), if_pos (by rw [oI_length]; omega), rd_oI, oI_length]
theorem mul_nil_left (g : List (Fin q)) : Fld.mul [] g = [] := rfl
theorem times_rows (hq : q ≤ 65537) (f g : List (Fin q)) (hf : f.length ≤ 1000000) (hg : g.length ≤ 1000000) : Ev (fun k => poly_Times.f k (q : Int) (oI f) (oI g)) (oI (Fld.trim (Fld.mul f g))) := by
  by_cases h0 : f = [] ∨ g = []
  · have e : Fld.trim (Fld.mul f g) = [] := by
      rcases h0 with rfl | rfl
      · rfl
      · rw [Fld.trim_congr (Fld.mul_nil f)]; rfl
    rw [e]
    refine Ev.step (f := fun k => some []) (fun k => ?_) (Ev.now _)
    unfold poly_Times.f
    rcases h0 with rfl | rfl
    · rw [if_pos (by rfl)]
      simp only [poly_Times.j0, if_true]
    · by_cases hf0 : ((oI f).length : Int) = 0
      · rw [if_pos hf0]
        simp only [poly_Times.j0, if_true]
      · rw [if_neg hf0]
        simp [poly_Times.j0, oI_nil]
  · have hf0 : 0 < f.length := List.length_pos_iff.2 (fun e => h0 (.inl e))
    have hg0 : 0 < g.length := List.length_pos_iff.2 (fun e => h0 (.inr e))
    refine Ev.step (f := fun k => poly_Times.l0 k (q : Int) (oI g) (oI (List.replicate (f.length + g.length - 1) 0)) (oI f) (f.length : Int) ((0 : Nat) : Int)) (fun k => ?_) (times_outer hq f g hf hg f.length 0 _ (by omega) (by simp) (At2.start f g _))
    unfold poly_Times.f
    have hb : (((oI g).length : Int) == 0) = false := by rw [oI_length, beq_eq_false_iff_ne]; omega
    have hw : wrap64 (wrap64 (((oI f).length : Int) + ((oI g).length : Int)) - 1) = ((f.length + g.length - 1 : Nat) : Int) := by
      rw [oI_length, oI_length, w64_small (n := (f.length : Int) + (g.length : Int)) (by omega) (by omega), w64_small (by omega) (by omega)]; omega
    rw [if_neg (by rw [oI_length]; omega), hb]
    simp only [poly_Times.j0, Bool.false_eq_true, if_false]
    rw [hw, if_pos (by omega), Int.toNat_natCast, if_pos (by omega), ← oI_zeros, oI_length]
    rfl

/-! inverses -/
theorem pow_loop (hq : q ≤ 65537) : ∀ (n : Nat) (e : Nat) (a y : Fin q), e ≤ n → e ≤ 65537 → Ev (fun k => field_pow.l0 k (q : Int) (nI a) (e : Int) (nI y)) (nI (y * a ^ e))
  | 0, e, a, y, h, he => by
    obtain rfl : e = 0 := by omega
    rw [show y * a ^ 0 = y by grind]
    refine Ev.step (f := fun k => some (nI y)) (fun k => ?_) (Ev.now _)
    simp only [field_pow.l0]
    rw [if_neg (by omega)]
  | n + 1, e, a, y, h, he => by
    by_cases h0 : e = 0
    · subst h0
      rw [show y * a ^ 0 = y by grind]
      refine Ev.step (f := fun k => some (nI y)) (fun k => ?_) (Ev.now _)
      simp only [field_pow.l0]
      rw [if_neg (by omega)]
    · have hd : ((e : Int) / 2) = ((e / 2 : Nat) : Int) := by omega
      have hb : Go.bits .and .u64 (e : Int) 1 = ((e % 2 : Nat) : Int) := by rw [and_one_u64 (e : Int) (by omega) (by omega)]; omega
      by_cases h1 : e % 2 = 1
      · have ee : y * a ^ e = y * a * (a * a) ^ (e / 2) := by
          have : e = 2 * (e / 2) + 1 := by omega
          rw [Fld.pow_double]
          generalize e / 2 = z at *
          subst this
          grind
        rw [ee]
        refine Ev.step (f := fun k => field_pow.l0 k (q : Int) (nI (a * a)) ((e / 2 : Nat) : Int) (nI (y * a))) (fun k => ?_) (pow_loop hq n (e / 2) (a * a) (y * a) (by omega) (by omega))
        conv => lhs; simp only [field_pow.l0]
        rw [if_pos (by omega), hb, h1, if_pos (by rfl), fmul_fp hq, Option.bind_some, fmul_fp hq, Option.bind_some, hd]
      · have ee : y * a ^ e = y * (a * a) ^ (e / 2) := by
          have : e = 2 * (e / 2) := by omega
          rw [Fld.pow_double]
          generalize e / 2 = z at *
          subst this
          rfl
        rw [ee]
        refine Ev.step (f := fun k => field_pow.l0 k (q : Int) (nI (a * a)) ((e / 2 : Nat) : Int) (nI y)) (fun k => ?_) (pow_loop hq n (e / 2) (a * a) y (by omega) (by omega))
        conv => lhs; simp only [field_pow.l0]
        rw [if_pos (by omega), hb, if_neg (by omega), fmul_fp hq, Option.bind_some, hd]
theorem over_fp (h1 : 2 < q) (hq : q ≤ 65537) (a : Fin q) : Ev (fun k => field_Over.f k (q : Int) (nI a)) (nI (Fld.inv a)) := by
  unfold field_Over.f field_pow.f
  rw [u64_small (by omega) (by omega)]
  have e : ((q : Int) - 2) = ((q - 2 : Nat) : Int) := by omega
  have e1 : (1 : Int) % (q : Int) = nI (1 : Fin q) := by rw [nI_one (by omega), Int.emod_eq_of_lt (by omega) (by omega)]
  have e2 : Fld.inv a = 1 * a ^ (q - 2) := by unfold Fld.inv; grind
  rw [e, e1, e2]
  refine Ev.bind (f := fun k t => some t) (a := nI (1 * a ^ (q - 2))) ?_ (Ev.now _)
  refine Ev.congr (fun k => if_neg (by omega)) (pow_loop hq (q - 2) (q - 2) a 1 (Nat.le_refl _) (by omega))
end

end Go.Proofs.Ytjjnfobeeflnhaa.L

/- Rows drawn from a tape, rows without noughts at the end, rows compared: what the words tell. -/
namespace Go.Proofs.Ytjjnfobeeflnhaa.L
open Go.RowKit Go.Proofs.YtjjnfobeeflnhaaW.PrintWords Go.Proofs.Ytjjnfobeeflnhaa.J
set_option linter.unusedVariables false
set_option linter.unusedSimpArgs false

/-! rows compared -/
theorem rd_getD (l : List Int) (i : Nat) : rd l (i : Int) = l.getD i 0 := by simp [rd]
theorem same_loop (a b : List Int) (hl : a.length = b.length) (hs : a.length ≤ maxLen) : ∀ (m i : Nat), i + m = a.length → Ev (fun k => juntoref01_Same.l0 k a b (a.length : Int) (i : Int)) (decide (a.drop i = b.drop i))
  | 0, i, hi => by
    have e : a.drop i = b.drop i := by rw [List.drop_of_length_le (by omega), List.drop_of_length_le (by omega)]
    rw [decide_eq_true e]
    refine Ev.step (f := fun k => some true) (fun k => ?_) (Ev.now _)
    simp only [juntoref01_Same.l0]
    rw [if_neg (by omega)]
  | m + 1, i, hi => by
    have hm : (a.length : Int) ≤ 9223372036854775807 := by simp only [maxLen] at hs; omega
    have h1 : i < a.length := by omega
    have h2 : i < b.length := by omega
    have ra : rd a (i : Int) = a[i] := by simp [rd, List.getD_eq_getElem?_getD, h1]
    have rb : rd b (i : Int) = b[i] := by simp [rd, List.getD_eq_getElem?_getD, h2]
    by_cases e : a[i] = b[i]
    · have e2 : decide (a.drop i = b.drop i) = decide (a.drop (i + 1) = b.drop (i + 1)) := by
        rw [List.drop_eq_getElem_cons h1, List.drop_eq_getElem_cons h2, e]
        exact decide_eq_decide.2 ⟨fun h => (List.cons.inj h).2, fun h => by rw [h]⟩
      rw [e2]
      refine Ev.step (f := fun k => juntoref01_Same.l0 k a b (a.length : Int) ((i + 1 : Nat) : Int)) (fun k => ?_) (same_loop a b hl hs m (i + 1) (by omega))
      conv => lhs; simp only [juntoref01_Same.l0]
      rw [if_pos (by omega), if_pos (by omega), if_pos (by omega), if_pos (by omega), ra, rb, if_pos e, w64_small (by omega) (by omega)]
      rfl
    · have e2 : decide (a.drop i = b.drop i) = false := by
        rw [List.drop_eq_getElem_cons h1, List.drop_eq_getElem_cons h2]
        exact decide_eq_false fun h => e (List.cons.inj h).1
      rw [e2]
      refine Ev.step (f := fun k => some false) (fun k => ?_) (Ev.now _)
      simp only [juntoref01_Same.l0]
      rw [if_pos (by omega), if_pos (by omega), if_pos (by omega), if_pos (by omega), ra, rb, if_neg e]
theorem same_at (a b : List Int) (hs : a.length ≤ maxLen) : Ev (fun k => juntoref01_Same.f k a b) (decide (a = b)) := by
  unfold juntoref01_Same.f
  by_cases h : a.length = b.length
  · have := same_loop a b h hs a.length 0 (by omega)
    rw [List.drop_zero, List.drop_zero] at this
    exact Ev.congr (fun k => if_pos (by omega)) this
  · rw [decide_eq_false (fun e => h (by rw [e]))]
    exact Ev.congr (fun k => if_neg (by omega)) (Ev.now _)
theorem same_self (a : List Int) (hs : a.length ≤ maxLen) : Ev (fun k => juntoref01_Same.f k a a) true := by
  have := same_at a a hs
  rwa [decide_eq_true rfl] at this

/-! rows without noughts at the end -/
theorem trim_loop (l : List Int) (hl : l.length < 17592186044416) : ∀ (n : Nat), n ≤ l.length → Ev (fun k => juntoref02_Trim.l0 k l (n : Int)) (shortI (l.take n))
  | 0, _ => by
    refine Ev.step (f := fun k => some []) (fun k => ?_) (Ev.now _)
    simp only [juntoref02_Trim.l0]
    rw [if_neg (by omega)]
    simp
  | n + 1, hn => by
    have hw : wrap64 (((n + 1 : Nat) : Int) - 1) = (n : Int) := by unfold wrap64; omega
    have hr : rd l (n : Int) = l[n] := by simp [rd, List.getD_eq_getElem?_getD, show n < l.length by omega]
    rw [List.take_succ_eq_append_getElem (by omega), shortI_snoc]
    by_cases hz : l[n] = 0
    · rw [if_pos hz]
      refine Ev.step (f := fun k => juntoref02_Trim.l0 k l (n : Int)) (fun k => ?_) (trim_loop l hl n (by omega))
      conv => lhs; simp only [juntoref02_Trim.l0]
      rw [hw, if_pos (by omega), if_pos (by omega), if_pos (by omega), hr, if_pos hz]
    · rw [if_neg hz]
      refine Ev.step (f := fun k => some (l.take n ++ [l[n]])) (fun k => ?_) (Ev.now _)
      conv => lhs; simp only [juntoref02_Trim.l0]
      rw [hw, if_pos (by omega), if_pos (by omega), if_pos (by omega), hr, if_neg hz, Option.bind_some, if_pos (by omega), if_pos (by omega)]
      rw [show (((n + 1 : Nat) : Int)).toNat = n + 1 by omega, List.take_succ_eq_append_getElem (by omega)]
      rw [if_pos (by simp; omega)]; rfl
theorem trim_at (l : List Int) (hl : l.length < 17592186044416) : Ev (fun k => juntoref02_Trim.f k l) (shortI l) := by
  have := trim_loop l hl l.length (Nat.le_refl _)
  rw [List.take_length] at this
  exact this
section
variable {q : Nat} [NeZero q]
theorem trim_fp (f : List (Fin q)) (hl : f.length ≤ 1000000000) : Ev (fun k => juntoref02_Trim.f k (oI f)) (oI (Fld.trim f)) := by
  rw [← short_oI]
  exact trim_at _ (by rw [oI_length]; omega)

/-! rows drawn from a tape -/
/-- The residue of a number. -/
def resid (q : Nat) [NeZero q] (x : Int) : Fin q := Fin.ofNat q (x % (q : Int)).toNat
theorem nI_resid (x : Int) : nI (resid q x) = x % (q : Int) := by
  have hp := q_pos (q := q)
  have h0 : 0 ≤ x % (q : Int) := Int.emod_nonneg _ (by omega)
  have h1 : x % (q : Int) < (q : Int) := Int.emod_lt_of_pos _ (by omega)
  unfold nI resid
  simp only [Fin.ofNat]
  rw [Nat.mod_eq_of_lt (by omega)]
  omega
theorem resid_zero : resid q 0 = 0 := nI_inj (by rw [nI_resid, nI_zero]; simp)
/-- The first n numbers of a tape. -/
def drawn (q : Nat) [NeZero q] (tape : List Int) (n : Nat) : List (Fin q) := Fld.mk n (fun i => resid q (tape.getD i 0))
theorem fill_skip {n j : Nat} {F : Nat → Fin q} (h : F j = 0) : fill n j F = fill n (j + 1) F := by
  unfold fill Fld.mk
  apply List.map_congr_left
  intro i _
  by_cases e : i = j
  · subst e; rw [if_neg (by omega), if_pos (by omega), h]
  · by_cases e' : i < j
    · rw [if_pos e', if_pos (by omega)]
    · rw [if_neg e', if_neg (by omega)]
theorem take_loop (hq : q ≤ 65537) (tape : List Int) (hs : tape.length ≤ 17592186044415) (hu : ∀ c ∈ tape, 0 ≤ c) (n : Nat) (hn : n ≤ 1000000000) : ∀ (m i : Nat), i + m = n →
    Ev (fun k => field_Take.l0 k (q : Int) tape (n : Int) (oI (fill n i fun j => resid q (tape.getD j 0))) (n : Int) (i : Int)) (oI (drawn q tape n), tape.drop n)
  | 0, i, hi => by
    obtain rfl : i = n := by omega
    have hp := q_pos (q := q)
    have e : fill i i (fun j => resid q (tape.getD j 0)) = drawn q tape i := fill_all _ _
    rw [e]
    refine Ev.step (f := fun k => some (oI (drawn q tape i), tape.drop i)) (fun k => ?_) (Ev.now _)
    have hd : tape.drop (mn (i : Int) (tape.length : Int)).toNat = tape.drop i := by
      by_cases h : i ≤ tape.length
      · have : (mn (i : Int) (tape.length : Int)).toNat = i := by unfold mn; split <;> omega
        rw [this]
      · have : (mn (i : Int) (tape.length : Int)).toNat = tape.length := by unfold mn; split <;> omega
        rw [this, List.drop_of_length_le (Nat.le_refl _), List.drop_of_length_le (by omega)]
    have h0 : 0 ≤ mn (i : Int) (tape.length : Int) := by unfold mn; split <;> omega
    have h1 : mn (i : Int) (tape.length : Int) ≤ (tape.length : Int) := by unfold mn; split <;> omega
    simp only [field_Take.l0]
    rw [if_neg (by omega), Option.bind_some, if_pos h0, if_pos h1, hd, if_pos (by simp; omega)]
    rfl
  | m + 1, i, hi => by
    have hp := q_pos (q := q)
    refine Ev.step (f := fun k => field_Take.l0 k (q : Int) tape (n : Int) (oI (fill n (i + 1) fun j => resid q (tape.getD j 0))) (n : Int) ((i + 1 : Nat) : Int)) (fun k => ?_) (take_loop hq tape hs hu n hn m (i + 1) (by omega))
    conv => lhs; simp only [field_Take.l0]
    rw [if_pos (by omega), w64_small (n := (i : Int) + 1) (by omega) (by omega)]
    by_cases h : i < tape.length
    · have h0 : 0 ≤ tape.getD i 0 := by
        rw [List.getD_eq_getElem?_getD, List.getElem?_eq_getElem h]; exact hu _ (List.getElem_mem h)
      rw [if_pos (by omega), if_pos (by omega), if_neg (by omega), if_pos (by rw [oI_length, fill_length]; omega), rd_getD, Int.tmod_eq_emod_of_nonneg h0, ← nI_resid, Int.toNat_natCast, oI_set, fill_set n i (fun j => resid q (tape.getD j 0))]
      rfl
    · have e : resid q (tape.getD i 0) = 0 := by
        rw [List.getD_eq_getElem?_getD, List.getElem?_eq_none (by omega)]; exact resid_zero
      rw [if_neg (by omega), fill_skip (F := fun j => resid q (tape.getD j 0)) e]
      rfl
theorem take_fp (hq : q ≤ 65537) (tape : List Int) (hs : tape.length ≤ 17592186044415) (hu : ∀ c ∈ tape, 0 ≤ c) (n : Nat) (hn : n ≤ 1000000000) : Ev (fun k => field_Take.f k (q : Int) tape (n : Int)) (oI (drawn q tape n), tape.drop n) := by
  have h := take_loop hq tape hs hu n hn n 0 (by omega)
  rw [fill_zero, ← oI_zeros] at h
  refine Ev.congr (fun k => ?_) h
  unfold field_Take.f
  rw [if_pos (by omega), Int.toNat_natCast, if_pos (by omega), Option.bind_some]
  simp
theorem draw_end (tape : List Int) (hs : tape.length ≤ 17592186044415) (x : List Int) (n : Nat) : ((some (([] : List Int) : List Int)).bind fun y243 => (if 0 ≤ (mn (n : Int) (tape.length : Int)) then (if (mn (n : Int) (tape.length : Int)) ≤ (tape.length : Int) then (if y243.length + (tape.drop ((mn (n : Int) (tape.length : Int)) : Int).toNat).length < 17592186044416 then (some (x, (y243 ++ (tape.drop ((mn (n : Int) (tape.length : Int)) : Int).toNat)))) else (none)) else (none)) else (none))) = some (x, tape.drop n) := by
  have hd : tape.drop (mn (n : Int) (tape.length : Int)).toNat = tape.drop n := by
    by_cases h : n ≤ tape.length
    · have : (mn (n : Int) (tape.length : Int)).toNat = n := by unfold mn; split <;> omega
      rw [this]
    · have : (mn (n : Int) (tape.length : Int)).toNat = tape.length := by unfold mn; split <;> omega
      rw [this, List.drop_of_length_le (Nat.le_refl _), List.drop_of_length_le (by omega)]
  have h0 : 0 ≤ mn (n : Int) (tape.length : Int) := by unfold mn; split <;> omega
  have h1 : mn (n : Int) (tape.length : Int) ≤ (tape.length : Int) := by unfold mn; split <;> omega
  rw [Option.bind_some, if_pos h0, if_pos h1, hd, if_pos (by simp; omega)]
  rfl
theorem fill_past {n i : Nat} {F : Nat → Fin q} (h : ∀ j, i ≤ j → F j = 0) : fill n i F = Fld.mk n F := by
  unfold fill Fld.mk
  apply List.map_congr_left
  intro j _
  by_cases e : j < i
  · rw [if_pos e]
  · rw [if_neg e, h j (by omega)]
theorem draw_loop (hq : q ≤ 65537) (tape : List Int) (hs : tape.length ≤ 17592186044415) (hu : ∀ c ∈ tape, 0 ≤ c) (n : Nat) (hn : n ≤ 1000000000) : ∀ (m i : Nat), i + m = n →
    Ev (fun k => juntoref01_Draw.l0 k (q : Int) tape (n : Int) (oI (fill n i fun j => resid q (tape.getD j 0))) (i : Int)) (oI (drawn q tape n), tape.drop n)
  | 0, i, hi => by
    obtain rfl : i = n := by omega
    have hp := q_pos (q := q)
    have e : fill i i (fun j => resid q (tape.getD j 0)) = drawn q tape i := fill_all _ _
    rw [e]
    refine Ev.step (f := fun k => some (oI (drawn q tape i), tape.drop i)) (fun k => ?_) (Ev.now _)
    simp only [juntoref01_Draw.l0]
    rw [if_neg (by omega)]
    exact draw_end tape hs _ i
  | m + 1, i, hi => by
    have hp := q_pos (q := q)
    by_cases h : i < tape.length
    · refine Ev.step (f := fun k => juntoref01_Draw.l0 k (q : Int) tape (n : Int) (oI (fill n (i + 1) fun j => resid q (tape.getD j 0))) ((i + 1 : Nat) : Int)) (fun k => ?_) (draw_loop hq tape hs hu n hn m (i + 1) (by omega))
      conv => lhs; simp only [juntoref01_Draw.l0]
      have h0 : 0 ≤ tape.getD i 0 := by
        rw [List.getD_eq_getElem?_getD, List.getElem?_eq_getElem h]; exact hu _ (List.getElem_mem h)
      rw [if_pos (by omega), w64_small (n := (i : Int) + 1) (by omega) (by omega), if_pos (by omega), if_pos (by omega), if_neg (by omega), if_pos (by rw [oI_length, fill_length]; omega), rd_getD, Int.tmod_eq_emod_of_nonneg h0, ← nI_resid, Int.toNat_natCast, oI_set, fill_set n i (fun j => resid q (tape.getD j 0))]
      rfl
    · have e : fill n i (fun j => resid q (tape.getD j 0)) = drawn q tape n := fill_past fun j hj => by
        rw [List.getD_eq_getElem?_getD, List.getElem?_eq_none (by omega)]; exact resid_zero
      rw [e]
      refine Ev.step (f := fun k => some (oI (drawn q tape n), tape.drop n)) (fun k => ?_) (Ev.now _)
      simp only [juntoref01_Draw.l0]
      rw [if_pos (by omega), if_neg (by omega)]
      exact draw_end tape hs _ n
theorem draw_fp (hq : q ≤ 65537) (tape : List Int) (hs : tape.length ≤ 17592186044415) (hu : ∀ c ∈ tape, 0 ≤ c) (n : Nat) (hn : n ≤ 1000000000) : Ev (fun k => juntoref01_Draw.f k (q : Int) tape (n : Int)) (oI (drawn q tape n), tape.drop n) := by
  have h := draw_loop hq tape hs hu n hn n 0 (by omega)
  rw [fill_zero, ← oI_zeros] at h
  refine Ev.congr (fun k => ?_) h
  unfold juntoref01_Draw.f
  rw [if_pos (by omega), Int.toNat_natCast, if_pos (by omega)]
  rfl
end

end Go.Proofs.Ytjjnfobeeflnhaa.L

/- Small facts about numbers that came in, setups and rows. -/
namespace Go.Proofs.Ytjjnfobeeflnhaa.L
open Go.RowKit Go.Proofs.YtjjnfobeeflnhaaW.PrintWords Go.Proofs.Ytjjnfobeeflnhaa.J

theorem u64_wf {n : Int} (h : (Lit.int .u64 n).wf = true) : 0 ≤ n ∧ n < 18446744073709551616 := by
  simp [Lit.wf, IntKind.min, IntKind.max, IntKind.signed, IntKind.bits] at h
  omega

theorem setupV_two {p n t : Int} (h : setupV p n t ≠ 0) : setupV p n t = 2 := by
  unfold setupV at h ⊢
  split
  · rename_i h'
    rw [if_pos h'] at h
    exact absurd rfl h
  · rfl

theorem belowV_zero {p : Int} {l : List Int} (h : belowV p l = 0) : ∀ x ∈ l, x < p := by
  unfold belowV at h
  split at h
  · assumption
  · cases h

theorem i64_wf {n : Int} (h : (Lit.int .i64 n).wf = true) : -9223372036854775808 ≤ n ∧ n < 9223372036854775808 := by
  simp [Lit.wf, IntKind.min, IntKind.max, IntKind.signed, IntKind.bits] at h
  omega
/-- A setup that is one: its numbers. -/
theorem setupV_small {p n t : Int} (h : setupV p n t = 0) : 3 ≤ p ∧ p ≤ 65537 ∧ 1 ≤ n ∧ n ≤ 13 ∧ 0 ≤ t ∧ t ≤ 3 ∧ 4 * t + 1 ≤ n ∧ n < p := by
  obtain ⟨hp, h1, h2, h4, h5, h6⟩ := setupV_ok h
  have hp2 := (isP_iff p).1 hp
  omega

end Go.Proofs.Ytjjnfobeeflnhaa.L

/- Both ways to draw a sharing polynomial answer alike, and what they answer. -/
namespace Go.Proofs.Ytjjnfobeeflnhaa.L
open Go.RowKit Go.Proofs.YtjjnfobeeflnhaaW.PrintWords Go.Proofs.Ytjjnfobeeflnhaa.J
set_option linter.unusedVariables false
set_option linter.unusedSimpArgs false

section
variable {q : Nat} [NeZero q]
theorem drawn_length (tape : List Int) (n : Nat) : (drawn q tape n).length = n := Fld.mk_length _ _
theorem share_draw (hq : q ≤ 65537) (s : Fin q) (d : Nat) (hd : d ≤ 1000) (tape : List Int) (hs : tape.length ≤ 17592186044415) (hu : ∀ c ∈ tape, 0 ≤ c) : Ev (fun k => share_Draw.f k (q : Int) (nI s) (d : Int) tape) (oI (Fld.trim (s :: drawn q tape d)), tape.drop d) := by
  unfold share_Draw.f
  refine Ev.bind (take_fp hq tape hs hu d (by omega)) (Ev.bind (Ev.now _) ?_)
  refine Ev.congr (fun k => if_pos ?_) ?_
  · rw [oI_length, drawn_length]; show 1 + d < _; omega
  · exact Ev.bind (short_fp (s :: drawn q tape d) (by rw [List.length_cons, drawn_length]; omega)) (Ev.now _)
theorem ref_make (hq : q ≤ 65537) (n t : Int) (s : Fin q) (d : Nat) (hd : d ≤ 1000) (tape : List Int) (hs : tape.length ≤ 17592186044415) (hu : ∀ c ∈ tape, 0 ≤ c) : Ev (fun k => juntoref04_Make.f k (q : Int) n t (nI s) (d : Int) tape) (oI (Fld.trim (s :: drawn q tape d)), tape.drop d) := by
  unfold juntoref04_Make.f
  refine Ev.bind (draw_fp hq tape hs hu d (by omega)) (Ev.bind (Ev.now _) ?_)
  refine Ev.congr (fun k => if_pos ?_) ?_
  · rw [oI_length, drawn_length]; show 1 + d < _; omega
  · exact Ev.bind (trim_fp (s :: drawn q tape d) (by rw [List.length_cons, drawn_length]; omega)) (Ev.now _)
theorem share_make_ok (hq : q ≤ 65537) (n t : Int) (h0 : setupV (q : Int) n t = 0) (s : Fin q) (d : Nat) (hn : (d : Int) < n) (tape : List Int) (hs : tape.length ≤ 17592186044415) (hu : ∀ c ∈ tape, 0 ≤ c) : Ev (fun k => share_Make.f k (q : Int) n t (nI s) (d : Int) tape) (oI (Fld.trim (s :: drawn q tape d)), tape.drop d, 0) := by
  have hh := setupV_small h0
  have hr := nI_range s
  unfold share_Make.f
  refine Ev.bind (share_setup _ n t) ?_
  simp only [h0, if_true]
  simp only [show ¬ (nI s ≥ (q : Int)) by omega, show ¬ ((d : Int) < 0) by omega, show ¬ ((d : Int) ≥ n) by omega, if_false]
  exact Ev.bind (share_draw hq s d (by omega) tape hs hu) (Ev.now _)
end
theorem share_make_bad (p n t v d : Int) (tape : List Int) (h : setupV p n t ≠ 0 ∨ v ≥ p ∨ d < 0 ∨ d ≥ n) : Ev (fun k => share_Make.f k p n t v d tape) ([], [], 2) := by
  unfold share_Make.f
  refine Ev.bind (share_setup p n t) ?_
  by_cases h0 : setupV p n t = 0
  · simp only [h0, if_true]
    by_cases h1 : v ≥ p
    · simp only [h1, if_true]; exact Ev.now _
    by_cases h2 : d < 0
    · simp only [h1, h2, if_true, if_false]; exact Ev.now _
    have h3 : d ≥ n := by rcases h with h | h | h | h <;> first | exact absurd h0 h | omega
    simp only [h1, h2, h3, if_true, if_false]
    exact Ev.now _
  · simp only [h0, if_false]
    rw [setupV_two h0]
    exact Ev.now _

end Go.Proofs.Ytjjnfobeeflnhaa.L

/- The statement ShareSetups as plain Lean: both tests of a setup and both tests of a list of corrupted parties answer alike. -/
namespace Go.Proofs.Ytjjnfobeeflnhaa.L
open Go.RowKit Go.Proofs.YtjjnfobeeflnhaaW.PrintWords Go.Proofs.Ytjjnfobeeflnhaa.J
set_option linter.unusedVariables false
set_option linter.unusedSimpArgs false

def riseV (n : Int) : Int → List Int → Bool
  | _, [] => true
  | prev, x :: xs => if x ≤ prev then false else if x > n then false else riseV n x xs

def corrV (p n t : Int) (l : List Int) : Int :=
  if setupV2 p n t = 0 then (if (l.length : Int) > t then 2 else if riseV n 0 l = true then 0 else 2) else setupV2 p n t
where setupV2 (p n t : Int) : Int := setupV p n t

theorem rd_at (l : List Int) (i : Nat) (h : i < l.length) : rd l (i : Int) = l[i] := by
  simp [rd, List.getD_eq_getElem?_getD, h]

theorem share_rise (p n t : Int) (l : List Int) (hs : l.length ≤ maxLen) : ∀ (m i : Nat) (prev : Int), i + m = l.length → Ev (fun k => share_Corrupted.l0 k prev l (l.length : Int) (i : Int) p n t) (if riseV n prev (l.drop i) = true then 0 else 2)
  | 0, i, prev, hi => by
    rw [List.drop_of_length_le (by omega)]
    refine Ev.step (f := fun k => some 0) (fun k => ?_) (Ev.now _)
    simp only [share_Corrupted.l0]
    rw [if_neg (by omega)]
  | m + 1, i, prev, hi => by
    have hm : (l.length : Int) ≤ 9223372036854775807 := by simp only [maxLen] at hs; omega
    have hlt : i < l.length := by omega
    rw [List.drop_eq_getElem_cons hlt]
    unfold riseV
    by_cases h1 : l[i] ≤ prev
    · simp only [h1, if_true, Bool.false_eq_true, if_false]
      refine Ev.step (f := fun k => some 2) (fun k => ?_) (Ev.now _)
      simp only [share_Corrupted.l0]
      rw [if_pos (by omega), if_pos (by omega), if_pos (by omega), rd_at l i hlt, if_pos h1]
    · by_cases h2 : l[i] > n
      · simp only [h1, h2, if_true, Bool.false_eq_true, if_false]
        refine Ev.step (f := fun k => some 2) (fun k => ?_) (Ev.now _)
        simp only [share_Corrupted.l0]
        rw [if_pos (by omega), if_pos (by omega), if_pos (by omega), rd_at l i hlt, if_neg h1, if_pos h2]
      · simp only [h1, h2, if_false]
        refine Ev.step (f := fun k => share_Corrupted.l0 k l[i] l (l.length : Int) ((i + 1 : Nat) : Int) p n t) (fun k => ?_) (share_rise p n t l hs m (i + 1) l[i] (by omega))
        conv => lhs; simp only [share_Corrupted.l0]
        rw [if_pos (by omega), if_pos (by omega), if_pos (by omega), rd_at l i hlt, if_neg h1, if_neg h2, w64_small (by omega) (by omega)]
        rfl

theorem ref_rise (n : Int) (l : List Int) (hs : l.length ≤ maxLen) : ∀ (m i : Nat) (prev : Int), i + m = l.length → 0 ≤ prev → (i = 0 → prev = 0) → (∀ h : 0 < i ∧ i - 1 < l.length, prev = l[i - 1]'h.2 ∧ 1 ≤ prev) →
    Ev (fun k => juntoref04_Rising.l0 k n l l (l.length : Int) (i : Int)) (riseV n prev (l.drop i))
  | 0, i, prev, hi, hp, hz, hq => by
    rw [List.drop_of_length_le (by omega)]
    refine Ev.step (f := fun k => some true) (fun k => ?_) (Ev.now _)
    simp only [juntoref04_Rising.l0]
    rw [if_neg (by omega)]
  | m + 1, i, prev, hi, hp, hz, hq => by
    have hm : (l.length : Int) ≤ 9223372036854775807 := by simp only [maxLen] at hs; omega
    have hlt : i < l.length := by omega
    rw [List.drop_eq_getElem_cons hlt]
    unfold riseV
    by_cases h0 : l[i] < 1
    · have h1 : l[i] ≤ prev := by omega
      simp only [h1, if_true]
      refine Ev.step (f := fun k => some false) (fun k => ?_) (Ev.now _)
      simp only [juntoref04_Rising.l0]
      rw [if_pos (by omega), if_pos (by omega), if_pos (by omega), rd_at l i hlt, if_pos h0]
    · by_cases h2 : l[i] > n
      · have e : (if l[i] ≤ prev then false else if l[i] > n then false else riseV n l[i] (l.drop (i + 1))) = false := by
          split
          · rfl
          · first | rfl | rw [if_pos h2]
        rw [e]
        refine Ev.step (f := fun k => some false) (fun k => ?_) (Ev.now _)
        simp only [juntoref04_Rising.l0]
        rw [if_pos (by omega), if_pos (by omega), if_pos (by omega), rd_at l i hlt, if_neg h0, if_pos h2]
      · have next : ¬ l[i] ≤ prev → Ev (fun k => juntoref04_Rising.l0 k n l l (l.length : Int) ((i + 1 : Nat) : Int)) (if l[i] ≤ prev then false else if l[i] > n then false else riseV n l[i] (l.drop (i + 1))) := by
          intro h1
          rw [if_neg h1, if_neg h2]
          exact ref_rise n l hs m (i + 1) l[i] (by omega) (by omega) (by omega) (fun h => ⟨rfl, by omega⟩)
        by_cases hi0 : i = 0
        · have hpz := hz hi0
          refine Ev.step (f := fun k => juntoref04_Rising.l0 k n l l (l.length : Int) ((i + 1 : Nat) : Int)) (fun k => ?_) (next (by omega))
          conv => lhs; simp only [juntoref04_Rising.l0]
          rw [if_pos (by omega), if_pos (by omega), if_pos (by omega), rd_at l i hlt, if_neg h0, if_neg h2, if_neg (by omega), w64_small (by omega) (by omega)]
          rfl
        · obtain ⟨hp1, hp2⟩ := hq ⟨by omega, by omega⟩
          have hr : rd l (((i - 1 : Nat)) : Int) = prev := by rw [rd_at l (i - 1) (by omega)]; exact hp1.symm
          have hw : wrap64 ((i : Int) - 1) = ((i - 1 : Nat) : Int) := by rw [w64_small (by omega) (by omega)]; omega
          by_cases h1 : l[i] ≤ prev
          · rw [if_pos h1]
            refine Ev.step (f := fun k => some false) (fun k => ?_) (Ev.now _)
            simp only [juntoref04_Rising.l0]
            rw [if_pos (by omega), if_pos (by omega), if_pos (by omega), rd_at l i hlt, if_neg h0, if_neg h2, if_pos (by omega), hw, if_pos (by omega), if_pos (by omega), hr, if_pos (by omega)]
          · refine Ev.step (f := fun k => juntoref04_Rising.l0 k n l l (l.length : Int) ((i + 1 : Nat) : Int)) (fun k => ?_) (next h1)
            conv => lhs; simp only [juntoref04_Rising.l0]
            rw [if_pos (by omega), if_pos (by omega), if_pos (by omega), rd_at l i hlt, if_neg h0, if_neg h2, if_pos (by omega), hw, if_pos (by omega), if_pos (by omega), hr, if_neg (by omega), w64_small (by omega) (by omega)]
            rfl

theorem share_corr (p n t : Int) (l : List Int) (hs : l.length ≤ maxLen) : Ev (fun k => share_Corrupted.f k p n t l) (corrV p n t l) := by
  unfold share_Corrupted.f corrV corrV.setupV2
  refine Ev.bind (share_setup p n t) ?_
  by_cases h0 : setupV p n t = 0
  · simp only [h0, if_true]
    by_cases h1 : (l.length : Int) > t
    · simp only [h1, if_true]
      exact Ev.now _
    · simp only [h1, if_false]
      exact share_rise p n t l hs l.length 0 0 (by omega)
  · simp only [h0, if_false]
    exact Ev.now _

theorem ref_corr (p n t : Int) (l : List Int) (hs : l.length ≤ maxLen) : Ev (fun k => juntoref04_Corrupted.f k p n t l) (corrV p n t l) := by
  unfold juntoref04_Corrupted.f corrV corrV.setupV2
  refine Ev.bind (ref_setup p n t) ?_
  by_cases h0 : setupV p n t = 0
  · simp only [h0, if_true]
    by_cases h1 : (l.length : Int) > t
    · simp only [h1, if_true]
      exact Ev.now _
    · simp only [h1, if_false]
      have h := ref_rise n l hs l.length 0 0 (by omega) (by omega) (fun _ => rfl) (fun h => by omega)
      refine Ev.bind (a := riseV n 0 l) h ?_
      by_cases h2 : riseV n 0 l = true
      · simp only [h2, if_true]
        exact Ev.now _
      · simp only [h2, if_false]
        exact Ev.now _
  · simp only [h0, if_false]
    exact Ev.now _

theorem alive04 : Ev (fun k => juntolaw04_alive.f k) true := Ev.of juntolaw04_alive.mono (k := 60) (by decide +kernel)

theorem shareSetups (x0_0 : Int) (x0_1 : Int) (x0_2 : Int) (x1 : List Int) (w0_0 : (Lit.int .u64 x0_0).wf = true) (w0_1 : (Lit.int .i64 x0_1).wf = true) (w0_2 : (Lit.int .i64 x0_2).wf = true)
    (w1 : x1.length ≤ maxLen ∧ x1.length * 8 ≤ 140737488351232 ∧ ∀ x1' ∈ x1, (Lit.int .i64 x1').wf = true) : ∃ k, juntolaw04_ShareSetups.f k x0_0 x0_1 x0_2 x1 = some true := by
  suffices h : Ev (fun k => juntolaw04_ShareSetups.f k x0_0 x0_1 x0_2 x1) true from h.rounds
  unfold juntolaw04_ShareSetups.f
  refine Ev.bind (share_setup x0_0 x0_1 x0_2) (Ev.bind (ref_setup x0_0 x0_1 x0_2) ?_)
  simp only [if_true]
  refine Ev.bind (share_corr x0_0 x0_1 x0_2 x1 w1.1) (Ev.bind (ref_corr x0_0 x0_1 x0_2 x1 w1.1) ?_)
  simp only [if_true]
  exact Ev.bind alive04 (Ev.now _)

end Go.Proofs.Ytjjnfobeeflnhaa.L

/- What the law's own words ask of an answer. -/
namespace Go.Proofs.Ytjjnfobeeflnhaa.L
open Go.RowKit Go.Proofs.YtjjnfobeeflnhaaW.PrintWords Go.Proofs.Ytjjnfobeeflnhaa.J

theorem is04_same (l : List Int) (hl : l.length ≤ maxLen) : Ev (fun k => juntolaw04_is.f k l 0 l 0) true := by
  unfold juntolaw04_is.f
  simp only [if_true]
  exact Ev.bind (same_self l hl) (Ev.now _)
theorem is04_bad (e : Int) (h : e ≠ 0) : Ev (fun k => juntolaw04_is.f k [] e [] e) true := by
  unfold juntolaw04_is.f
  simp only [h, if_true, if_false]
  exact Ev.now _

end Go.Proofs.Ytjjnfobeeflnhaa.L

/- The statement ShareMakes as plain Lean. -/
namespace Go.Proofs.Ytjjnfobeeflnhaa.L
open Go.RowKit Go.Proofs.YtjjnfobeeflnhaaW.PrintWords Go.Proofs.Ytjjnfobeeflnhaa.J
set_option linter.unusedVariables false
set_option linter.unusedSimpArgs false

theorem makes_bad (p n t v d : Int) (tape : List Int) : Ev (fun k => juntolaw04_ShareMakes.j1 k [] [] 2 2 p n t v d tape) true := by
  refine Ev.step (f := fun k => (juntolaw04_is.f k [] 2 [] 2).bind fun t676 => (if t676 = true then ((juntolaw04_alive.f k).bind fun t677 => (some t677)) else (some false))) (fun k => ?_) (Ev.bind (is04_bad 2 (by decide)) ?_)
  · simp [juntolaw04_ShareMakes.j1]
  · simp only [if_true]
    exact Ev.bind alive04 (Ev.now _)

theorem shareMakes (x0_0 : Int) (x0_1 : Int) (x0_2 : Int) (x1_0 : Int) (x1_1 : Int) (x1_2 : List Int) (w0_0 : (Lit.int .u64 x0_0).wf = true) (w0_1 : (Lit.int .i64 x0_1).wf = true) (w0_2 : (Lit.int .i64 x0_2).wf = true) (w1_0 : (Lit.int .u64 x1_0).wf = true) (w1_1 : (Lit.int .i64 x1_1).wf = true)
    (w1_2 : x1_2.length ≤ maxLen ∧ x1_2.length * 8 ≤ 140737488351232 ∧ ∀ x1_2' ∈ x1_2, (Lit.int .u64 x1_2').wf = true) : ∃ k, juntolaw04_ShareMakes.f k x0_0 x0_1 x0_2 x1_0 x1_1 x1_2 = some true := by
  suffices h : Ev (fun k => juntolaw04_ShareMakes.f k x0_0 x0_1 x0_2 x1_0 x1_1 x1_2) true from h.rounds
  have hv := (u64_wf w1_0).1
  have hu : ∀ c ∈ x1_2, 0 ≤ c := fun c hc => (u64_wf (w1_2.2.2 c hc)).1
  have hs : x1_2.length ≤ 17592186044415 := by have := w1_2.2.1; omega
  have hd := i64_wf w1_1
  unfold juntolaw04_ShareMakes.f
  by_cases h0 : setupV x0_0 x0_1 x0_2 = 0
  · have hh := setupV_small h0
    by_cases hbad : x1_0 ≥ x0_0 ∨ x1_1 < 0 ∨ x1_1 ≥ x0_1
    · refine Ev.bind (share_make_bad _ _ _ _ _ _ (.inr hbad)) (Ev.bind (ref_setup _ _ _) ?_)
      simp only [h0, if_true]
      have fin : Ev (fun k => juntolaw04_ShareMakes.j0 k [] [] 2 0 true x0_0 x0_1 x0_2 x1_0 x1_1 x1_2) true :=
        Ev.step (f := fun k => juntolaw04_ShareMakes.j1 k [] [] 2 2 x0_0 x0_1 x0_2 x1_0 x1_1 x1_2) (fun k => by simp [juntolaw04_ShareMakes.j0]) (makes_bad _ _ _ _ _ _)
      by_cases h1 : x1_0 ≥ x0_0
      · simp only [h1, if_true]; exact fin
      by_cases h2 : x1_1 < 0
      · simp only [h1, h2, if_true, if_false]; exact fin
      have hw : wrap64 (x0_1 - 1) = x0_1 - 1 := w64_small (by omega) (by omega)
      simp only [h1, h2, if_false, hw, decide_eq_true (show x1_1 > x0_1 - 1 by omega)]
      exact fin
    · obtain ⟨q, rfl⟩ : ∃ q : Nat, x0_0 = (q : Int) := ⟨x0_0.toNat, by omega⟩
      have hz : NeZero q := ⟨by omega⟩
      obtain ⟨s, rfl⟩ := nI_of (q := q) hv (by omega)
      obtain ⟨d, rfl⟩ : ∃ d : Nat, x1_1 = (d : Int) := ⟨x1_1.toNat, by omega⟩
      have hq : q ≤ 65537 := by omega
      refine Ev.bind (share_make_ok hq _ _ h0 s d (by omega) x1_2 hs hu) (Ev.bind (ref_setup _ _ _) ?_)
      simp only [h0, if_true]
      have hw : wrap64 (x0_1 - 1) = x0_1 - 1 := w64_small (by omega) (by omega)
      have hr := nI_range s
      simp only [show ¬ (nI s ≥ (q : Int)) by omega, show ¬ ((d : Int) < 0) by omega, if_false, hw, decide_eq_false (show ¬ ((d : Int) > x0_1 - 1) by omega)]
      refine Ev.step (f := fun k => juntolaw04_ShareMakes.j1 k (oI (Fld.trim (s :: drawn q x1_2 d))) (x1_2.drop d) 0 0 (q : Int) x0_1 x0_2 (nI s) (d : Int) x1_2) (fun k => by simp [juntolaw04_ShareMakes.j0]) ?_
      refine Ev.step (f := fun k => (juntoref04_Make.f k (q : Int) x0_1 x0_2 (nI s) (d : Int) x1_2).bind fun bt668 => ((juntolaw04_is.f k (oI (Fld.trim (s :: drawn q x1_2 d))) 0 bt668.1 0).bind fun t674 => (if t674 = true then ((juntoref01_Same.f k (x1_2.drop d) bt668.2).bind fun t675 => (some t675)) else (some false)))) (fun k => by simp [juntolaw04_ShareMakes.j1]) ?_
      refine Ev.bind (ref_make hq x0_1 x0_2 s d (by omega) x1_2 hs hu) ?_
      have hl := Fld.trim_length_le (s :: drawn q x1_2 d)
      rw [List.length_cons, drawn_length] at hl
      refine Ev.bind (is04_same _ (by rw [oI_length]; simp only [maxLen]; omega)) ?_
      simp only [if_true]
      exact Ev.bind (same_self _ (by simp only [List.length_drop, maxLen]; omega)) (Ev.now _)
  · refine Ev.bind (share_make_bad _ _ _ _ _ _ (.inl h0)) (Ev.bind (ref_setup _ _ _) ?_)
    simp only [h0, if_false]
    rw [setupV_two h0]
    exact Ev.step (f := fun k => juntolaw04_ShareMakes.j1 k [] [] 2 2 x0_0 x0_1 x0_2 x1_0 x1_1 x1_2) (fun k => by simp [juntolaw04_ShareMakes.j0]) (makes_bad _ _ _ _ _ _)

end Go.Proofs.Ytjjnfobeeflnhaa.L

/- The row of ShareMakes: for every input the call returns true and changes nothing; no conditions. Out of the contract of the function and the plain law. -/
namespace Go.Proofs.Ytjjnfobeeflnhaa.shareMakes
open Go.ChangeShapes Go.WideShapes Go.ChangeAt Go.RowKit Go.Proofs.YtjjnfobeeflnhaaW.PrintWords Go.Proofs.Ytjjnfobeeflnhaa.J Go.Proofs.Ytjjnfobeeflnhaa.Op
set_option linter.unusedVariables false
theorem own : ownKnob Try.prog.godebug = none := by kernel_rfl
theorem laidOut : laidOutB Try.prog = true := by kernel_rfl
set_option maxRecDepth 100000 in
theorem op0 : Opens Try.prog (Kd.pair (Kd.int .u64) (Kd.pair (Kd.int .i64) (Kd.int .i64))) 24 (fun x => (fun n => (Lit.int .u64 n).wf = true) x.1 ∧ (fun x => (fun n => (Lit.int .i64 n).wf = true) x.1 ∧ (fun n => (Lit.int .i64 n).wf = true) x.2) x.2) := (op_agg Try.underlying24 (opL_cons (by kernel_rfl) (by kernel_rfl) (op_int Try.underlying22) (by kernel_rfl) (opL_cons (by kernel_rfl) (by kernel_rfl) (op_int Try.underlying3) (by kernel_rfl) (opL_one (by kernel_rfl) (by kernel_rfl) (op_int Try.underlying3)))))
set_option maxRecDepth 100000 in
theorem op1 : Opens Try.prog (Kd.pair (Kd.int .u64) (Kd.pair (Kd.int .i64) (Kd.slice 22 (Kd.int .u64)))) 67 (fun x => (fun n => (Lit.int .u64 n).wf = true) x.1 ∧ (fun x => (fun n => (Lit.int .i64 n).wf = true) x.1 ∧ (fun l => l.length ≤ maxLen ∧ l.length * 8 ≤ 140737488351232 ∧ ∀ a ∈ l, (fun n => (Lit.int .u64 n).wf = true) a) x.2) x.2) := (op_agg Try.underlying67 (opL_cons (by kernel_rfl) (by kernel_rfl) (op_int Try.underlying22) (by kernel_rfl) (opL_cons (by kernel_rfl) (by kernel_rfl) (op_int Try.underlying3) (by kernel_rfl) (opL_one (by kernel_rfl) (by kernel_rfl) (op_slice Try.underlying31 (by kernel_rfl) (by kernel_rfl) (op_int Try.underlying22))))))
set_option maxRecDepth 100000 in
theorem lifted (os : Os) (started : os.Started) (H : Type) (enc : TypeId × Value → H) :
    ReturnsInHanded {} Try.checked os 11 .any (Rows.shareMakesSpec.pre6 enc Try.prog Try.f11 Rows.shareMakesRow.domain false) (Rows.shareMakesSpec.post enc Try.prog Try.f11 false true false false) := by
  refine returnsInHanded_of_change_sized (C := Try.checked) own started (by kernel_rfl) Try.func11
    (ChangeSpec.witness6 (enc := enc) (C := Try.checked) false ⟨#[], #[.agg #[.int .u64 0, .int .i64 0, .int .i64 0], .agg #[.int .u64 0, .int .i64 0, .slice none 0 0]], []⟩ 8 (by kernel_rfl) (by kernel_rfl) (by kernel_rfl) (by kernel_rfl)) ?_
  intro W base args ds gs before hval0 hW hcnd hsz0 _
  have hsz : (DataW.weightsEach Try.prog (Try.f11.params.toList ++ Rows.shareMakesSpec.plain.varTypes Try.prog) (ds ++ gs)).all (· ≤ reachBytes) = true := hsz0
  have hval : ∀ (j : Nat) t v, Try.f11.params[j]? = some t → args[j]? = some v → Value.okWide Try.prog W .any base t v := hval0
  have hW' := hW
  obtain ⟨p, q, hA0, hV, rfl, hfz, hnd⟩ := hW
  have hA : DataW.TrodAll enc Try.prog W 0 (fun _ => true) true Try.f11.params.toList args.toList ds p := hA0
  rw [Try.params11] at hA hval hsz
  obtain ⟨v0, vs0, d0, ds0, p0, q0, hargs, rfl, rfl, h0, r0⟩ := trodAll_cons hA
  obtain ⟨v1, vs1, d1, ds1, p1, q1, rfl, rfl, rfl, h1, r1⟩ := trodAll_cons r0
  obtain ⟨rfl, rfl, rfl⟩ := trodAll_nil r1
  obtain rfl : args = #[v0, v1] := by cases args; simp_all
  obtain ⟨rfl, rfl⟩ := trodVars_none hV
  have k0 := h0
  have lt0 : ∀ x ∈ p0, x.block < W.heap.size := by obtain ⟨m, hm⟩ := k0; exact DataW.trod_lt m _ _ _ hm
  obtain ⟨cs0, rfl, hn0⟩ := okWide_agg Try.underlying24 (hval 0 24 v0 rfl rfl)
  obtain ⟨⟨x0_0, x0_1, x0_2⟩, K0, ⟨w0_0, w0_1, w0_2⟩⟩ := arg op0 (by show cs0.toList.length = _; rw [Array.length_toList, hn0]; kernel_rfl) h0 hsz (j := 0) rfl rfl
  obtain ⟨g0_0, rg0_0, qg0_0, l0_0, M0_0⟩ := K0
  have l0_0' : g0_0 = [Value.int .u64 x0_0] := l0_0
  obtain ⟨g0_1, rg0_1, qg0_1, l0_1, M0_1⟩ := M0_0
  have l0_1' : g0_1 = [Value.int .i64 x0_1] := l0_1
  have M0_1' : rg0_1 = [Value.int .i64 x0_2] := M0_1
  obtain rfl : cs0 = #[.int .u64 x0_0, .int .i64 x0_1, .int .i64 x0_2] := by
    apply Array.toList_inj.1
    have z0 : cs0.toList = _ := qg0_0
    rw [z0, l0_0', qg0_1, l0_1', M0_1']
    rfl
  have k1 := h1
  have lt1 : ∀ x ∈ p1, x.block < W.heap.size := by obtain ⟨m, hm⟩ := k1; exact DataW.trod_lt m _ _ _ hm
  obtain ⟨cs1, rfl, hn1⟩ := okWide_agg Try.underlying67 (hval 1 67 v1 rfl rfl)
  obtain ⟨⟨x1_0, x1_1, x1_2⟩, K1, ⟨w1_0, w1_1, w1_2⟩⟩ := arg op1 (by show cs1.toList.length = _; rw [Array.length_toList, hn1]; kernel_rfl) h1 hsz (j := 1) rfl rfl
  obtain ⟨g1_0, rg1_0, qg1_0, l1_0, M1_0⟩ := K1
  have l1_0' : g1_0 = [Value.int .u64 x1_0] := l1_0
  obtain ⟨g1_1, rg1_1, qg1_1, l1_1, M1_1⟩ := M1_0
  have l1_1' : g1_1 = [Value.int .i64 x1_1] := l1_1
  obtain ⟨A1_2, c1_2, M1_1', hc1_2, hr1_2⟩ := M1_1
  obtain rfl : cs1 = #[.int .u64 x1_0, .int .i64 x1_1, .slice A1_2 x1_2.length c1_2] := by
    apply Array.toList_inj.1
    have z1 : cs1.toList = _ := qg1_0
    rw [z1, l1_0', qg1_1, l1_1', M1_1']
    rfl
  clear hA0 hval0 hsz0 hsz
  obtain ⟨k, h⟩ := L.shareMakes x0_0 x0_1 x0_2 x1_0 x1_1 x1_2 w0_0 w0_1 w0_2 w1_0 w1_1 w1_2
  refine (juntolaw04_ShareMakes.calls k x0_0 x0_1 x0_2 x1_0 x1_1 _ _ x1_2 true W hr1_2 hc1_2 h).mono fun e W' ⟨he, bel⟩ => ?_
  subst he
  exact ⟨_, rfl, _, _, _, [], _, [], hW', trodAll_mk1 (shut_bool Try.underlying4 _), (trodAll_cons_mk (Below.trod laidOut (by kernel_rfl) (of_decide_eq_true (by kernel_rfl)) k0 bel lt0) (trodAll_cons_mk (Below.trod laidOut (by kernel_rfl) (of_decide_eq_true (by kernel_rfl)) k1 bel lt1) trodAll_mk0)), rfl, bel.frame _, fun h => by cases h⟩
set_option maxRecDepth 100000 in
theorem closed : joinedFacts Try.pinned.checked.prog 11 Try.f11 Rows.shareMakesSpec Rows.shareMakesRow = true := by
  unfold joinedFacts
  repeat' with_reducible refine Bool.and_eq_true_iff.2 ⟨?_, ?_⟩
  all_goals first
    | with_reducible exact Facts.enters
    | (rw [Facts.final]; kernel_rfl)
    | (rw [Facts.made]; kernel_rfl)
    | kernel_rfl
theorem over : Rows.shareMakesRow.holds Try.pinned (OpenSpec.ofChange Rows.shareMakesSpec) :=
  OpenClaim.holds_of_wide 11 Try.f11 rfl rfl rfl rfl rfl rfl rfl ⟨rfl, rfl, rfl, rfl, rfl⟩ rfl rfl rfl rfl rfl (by kernel_rfl) Try.func11 closed
    (of_decide_eq_true (by kernel_rfl)) (by unfold Func.isWrapper; first | (rw [if_pos (by decide +kernel)]; kernel_rfl) | (rw [if_neg (by decide +kernel)]; exact ⟨rfl, rfl⟩))
    (fun os started H enc _ => lifted os started H enc)
theorem proved : Rows.ShareMakesSaid := over
#print axioms proved
end Go.Proofs.Ytjjnfobeeflnhaa.shareMakes
namespace Go.Proofs.Ytjjnfobeeflnhaa
/-- The row, under a short name, for the claim. -/
theorem shareMakes_holds : Rows.ShareMakesSaid := shareMakes.proved
end Go.Proofs.Ytjjnfobeeflnhaa
