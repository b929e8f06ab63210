/- Part 5 of the proof of ShareFits: what the functions compute as plain Lean functions, that the machine comes to just these answers, and that the answer is true; no conditions. -/
import Derived.Test.YtjjnfobeeflnhaaShareFitsZ0
import Derived.Test.YtjjnfobeeflnhaaShareFitsZ1
import Derived.Test.YtjjnfobeeflnhaaShareFitsZ2
import Derived.Test.YtjjnfobeeflnhaaShareFitsZ3
import Derived.Test.YtjjnfobeeflnhaaShareFitsZ4
import Derived.WalkSmall
import Derived.Test.YtjjnfobeeflnhaaRows
import Derived.WalkKit
import Derived.ProofKit
import Derived.OpenShut
import Derived.ShutString
import Derived.ChangeOld
import Derived.Below
import Derived.SizedLaws
/- The program's words over the residues modulo a number: numbers, rows of coefficients, sums, products, values. -/
namespace Go.Proofs.Ytjjnfobeeflnhaa.L
open Go.RowKit Go.Proofs.YtjjnfobeeflnhaaW.PrintWords Go.Proofs.Ytjjnfobeeflnhaa.J
set_option linter.unusedVariables false
set_option linter.unusedSimpArgs false

section
variable {q : Nat} [NeZero q]
/-- The number that a residue is. -/
def nI (a : Fin q) : Int := (a.val : Int)
/-- A row of residues as numbers. -/
def oI (f : List (Fin q)) : List Int := f.map nI

theorem q_pos : 0 < q := Nat.pos_of_ne_zero (NeZero.ne q)
end
section
variable {q : Nat}
theorem nI_range (a : Fin q) : 0 ≤ nI a ∧ nI a < (q : Int) := by
  have := a.isLt
  unfold nI; omega
theorem nI_inj {a b : Fin q} (h : nI a = nI b) : a = b := Fin.ext (by unfold nI at h; omega)
end
section
variable {q : Nat} [NeZero q]
theorem nI_zero : nI (0 : Fin q) = 0 := by simp [nI]
theorem nI_eq_zero {a : Fin q} : nI a = 0 ↔ a = 0 := ⟨fun h => nI_inj (h.trans nI_zero.symm), fun h => by rw [h, nI_zero]⟩
theorem nI_one (h : 1 < q) : nI (1 : Fin q) = 1 := by
  have : ((1 : Fin q) : Nat) = 1 % q := rfl
  unfold nI; rw [this, Nat.mod_eq_of_lt h]; rfl
end
section
variable {q : Nat}
theorem nI_of {x : Int} (h0 : 0 ≤ x) (h1 : x < (q : Int)) : ∃ a : Fin q, nI a = x := ⟨⟨x.toNat, by omega⟩, by show ((x.toNat : Nat) : Int) = x; omega⟩
theorem nI_mul (a b : Fin q) : nI (a * b) = nI a * nI b % (q : Int) := by
  unfold nI; rw [Fin.val_mul]; simp
theorem nI_add (a b : Fin q) : nI (a + b) = (nI a + nI b) % (q : Int) := by
  unfold nI; rw [Fin.val_add]; simp
theorem nI_sub (a b : Fin q) : nI (a - b) = (nI a + (q : Int) - nI b) % (q : Int) := by
  have hb := b.isLt
  have e : (a - b).val = (q - b.val + a.val) % q := by rw [Fin.sub_def]
  unfold nI; rw [e]
  have : (a.val : Int) + (q : Int) - (b.val : Int) = ((q - b.val + a.val : Nat) : Int) := by omega
  rw [this]; simp

theorem oI_nil : oI ([] : List (Fin q)) = [] := rfl
theorem oI_cons (a : Fin q) (f : List (Fin q)) : oI (a :: f) = nI a :: oI f := rfl
theorem oI_append (f g : List (Fin q)) : oI (f ++ g) = oI f ++ oI g := by simp [oI]
theorem oI_length (f : List (Fin q)) : (oI f).length = f.length := by simp [oI]
theorem oI_of : ∀ {l : List Int}, (∀ c ∈ l, 0 ≤ c ∧ c < (q : Int)) → ∃ f : List (Fin q), oI f = l
  | [], _ => ⟨[], rfl⟩
  | a :: l, h => by
    obtain ⟨x, hx⟩ := nI_of (h a (by simp)).1 (h a (by simp)).2
    obtain ⟨f, hf⟩ := oI_of (l := l) (fun c hc => h c (by simp [hc]))
    exact ⟨x :: f, by rw [oI_cons, hx, hf]⟩
theorem oI_inj : ∀ {f g : List (Fin q)}, oI f = oI g → f = g
  | [], [], _ => rfl
  | [], _ :: _, h => by cases h
  | _ :: _, [], h => by cases h
  | a :: f, b :: g, h => by
    rw [oI_cons, oI_cons] at h
    injection h with h1 h2
    rw [nI_inj h1, oI_inj h2]
end
section
variable {q : Nat} [NeZero q]
theorem oI_getD (f : List (Fin q)) (i : Nat) : (oI f).getD i 0 = nI (Fld.co f i) := by
  by_cases h : i < f.length
  · rw [Fld.co_lt h]; simp [oI, List.getD_eq_getElem?_getD, h]
  · rw [Fld.co_ge (by omega), nI_zero]; simp [oI, List.getD_eq_getElem?_getD, List.getElem?_eq_none (show f.length ≤ i by omega)]
theorem rd_oI (f : List (Fin q)) (i : Nat) : rd (oI f) (i : Int) = nI (Fld.co f i) := by
  rw [← oI_getD]; simp [rd]
end
section
variable {q : Nat}
theorem oI_set (f : List (Fin q)) (i : Nat) (a : Fin q) : (oI f).set i (nI a) = oI (f.set i a) := by simp [oI, List.map_set]
end
section
variable {q : Nat} [NeZero q]
theorem oI_zeros (n : Nat) : List.replicate n (0 : Int) = oI (List.replicate n (0 : Fin q)) := by simp [oI, nI_zero]
theorem short_oI (f : List (Fin q)) : shortI (oI f) = oI (Fld.trim f) := by
  induction f with
  | nil => rfl
  | cons a f ih =>
    have e : shortI (oI (a :: f)) = if shortI (oI f) = [] ∧ nI a = 0 then [] else nI a :: shortI (oI f) := rfl
    rw [e, ih, Fld.trim_cons]
    by_cases h : Fld.trim f = [] ∧ a = 0
    · rw [if_pos h, if_pos (by rw [h.1, h.2]; exact ⟨rfl, nI_zero⟩)]; rfl
    · rw [if_neg h, if_neg (fun h' => h ⟨oI_inj (h'.1.trans oI_nil.symm), nI_eq_zero.1 h'.2⟩)]; rfl

theorem co_set (f : List (Fin q)) (i : Nat) (a : Fin q) (hi : i < f.length) (s : Nat) : Fld.co (f.set i a) s = if s = i then a else Fld.co f s := by
  unfold Fld.co
  rw [List.getD_eq_getElem?_getD, List.getD_eq_getElem?_getD]
  by_cases h : s = i
  · subst h; rw [if_pos rfl, List.getElem?_set_self hi]; rfl
  · rw [if_neg h, List.getElem?_set_ne (by omega)]
theorem co_zeros (n s : Nat) : Fld.co (List.replicate n (0 : Fin q)) s = 0 := by
  unfold Fld.co
  rw [List.getD_eq_getElem?_getD, List.getElem?_replicate]
  split <;> rfl
/-! what the field's words tell -/
section
variable (hq : q ≤ 65537)
include hq
theorem times_fp (a b : Fin q) : field_Times.f (q : Int) (nI a) (nI b) = some (nI (a * b)) := by
  have hp := q_pos (q := q)
  rw [times_at (by omega) (by omega) (nI_range a).1 (nI_range a).2 (nI_range b).1 (nI_range b).2, nI_mul]
theorem mul_fp (a b : Fin q) : juntoref01_Mul.f (q : Int) (nI a) (nI b) = some (nI (a * b)) := by
  have hp := q_pos (q := q)
  rw [ref_mul (by omega) (by omega) (nI_range a).1 (nI_range a).2 (nI_range b).1 (nI_range b).2, nI_mul]
theorem plus_fp (a b : Fin q) : field_Plus.f (q : Int) (nI a) (nI b) = some (nI (a + b)) := by
  have hp := q_pos (q := q)
  rw [plus_at (by omega) (by omega) (nI_range a).1 (nI_range a).2 (nI_range b).1 (nI_range b).2, nI_add]
theorem add_fp (a b : Fin q) : juntoref01_Add.f (q : Int) (nI a) (nI b) = some (nI (a + b)) := by
  have hp := q_pos (q := q)
  rw [ref_add (by omega) (by omega) (nI_range a).1 (nI_range a).2 (nI_range b).1 (nI_range b).2, nI_add]
theorem fmul_fp (a b : Fin q) : field_mul.f (q : Int) (nI a) (nI b) = some (nI (a * b)) := by
  have := times_fp hq a b
  unfold field_Times.f at this
  generalize field_mul.f (q : Int) (nI a) (nI b) = o at this
  cases o with
  | none => cases this
  | some v => exact this
theorem minus_fp (a b : Fin q) : field_Minus.f (q : Int) (nI a) (nI b) = some (nI (a - b)) := by
  have hp := q_pos (q := q)
  have ha := nI_range a
  have hb := nI_range b
  unfold field_Minus.f
  rw [if_neg (by omega), u64_small (by omega) (by omega), Int.tmod_eq_emod_of_nonneg (by omega)]
  have e : ((q : Int) - nI b) % (q : Int) = nI (0 - b) := by rw [nI_sub, nI_zero, Int.zero_add]
  rw [e, plus_fp hq, Option.bind_some]
  congr 2
  grind
end

/-! rows -/
theorem short_fp (f : List (Fin q)) (hl : f.length ≤ 1000000000) : Ev (fun k => poly_Short.f k (oI f)) (oI (Fld.trim f)) := by
  rw [← short_oI]
  exact ⟨f.length + 1, fun k hk => short_spec (oI f) (by rw [oI_length]; omega) k (by rw [oI_length]; omega)⟩
theorem zip_fp (D : Int → Int → Int) (O : Fin q → Fin q → Fin q) (h : ∀ a b : Fin q, D (nI a) (nI b) = nI (O a b)) (f g : List (Fin q)) : zipI D (oI f) (oI g) = oI (Fld.trim (Fld.mk (max f.length g.length) (fun i => O (Fld.co f i) (Fld.co g i)))) := by
  unfold zipI
  rw [← short_oI, oI_length, oI_length]
  unfold Fld.mk oI
  rw [List.map_map]
  congr 1
  apply List.map_congr_left
  intro i _
  show D ((oI f).getD i 0) ((oI g).getD i 0) = nI (O (Fld.co f i) (Fld.co g i))
  rw [oI_getD, oI_getD, h]
theorem plusI_fp (hq : q ≤ 65537) (f g : List (Fin q)) : plusI (q : Int) (oI f) (oI g) = oI (Fld.trim (Fld.add f g)) :=
  zip_fp _ (· + ·) (fun a b => by rw [plus_fp hq]; rfl) f g
theorem plus_rows (hq : q ≤ 65537) (f g : List (Fin q)) (hf : f.length ≤ 1000000000) (hg : g.length ≤ 1000000000) : Ev (fun k => poly_Plus.f k (q : Int) (oI f) (oI g)) (oI (Fld.trim (Fld.add f g))) := by
  rw [← plusI_fp hq]
  exact ⟨2 * max f.length g.length + 2, fun k hk => plusI_spec (q : Int) (oI f) (oI g) (by rw [oI_length, oI_length]; omega) k (by rw [oI_length, oI_length]; omega)⟩

/-- A row that is filled from the front on. -/
def fill (n j : Nat) (F : Nat → Fin q) : List (Fin q) := Fld.mk n (fun i => if i < j then F i else 0)
theorem fill_zero (n : Nat) (F : Nat → Fin q) : fill n 0 F = List.replicate n 0 := by
  apply List.ext_getElem (by simp [fill, Fld.mk])
  intro i h1 h2
  simp [fill, Fld.mk]
theorem fill_length (n j : Nat) (F : Nat → Fin q) : (fill n j F).length = n := Fld.mk_length _ _
theorem fill_set (n j : Nat) (F : Nat → Fin q) : (fill n j F).set j (F j) = fill n (j + 1) F := by
  apply List.ext_getElem (by simp [fill, Fld.mk])
  intro i h1 h2
  simp only [fill, Fld.mk, List.getElem_set, List.getElem_map, List.getElem_range]
  by_cases h : j = i
  · rw [if_pos h, if_pos (by omega), h]
  · rw [if_neg h]
    by_cases h' : i < j
    · rw [if_pos h', if_pos (by omega)]
    · rw [if_neg h', if_neg (by omega)]
theorem fill_all (n : Nat) (F : Nat → Fin q) : fill n n F = Fld.mk n F := by
  apply List.ext_getElem (by simp [fill, Fld.mk])
  intro i h1 h2
  have : i < n := by simpa [fill, Fld.mk] using h1
  simp [fill, Fld.mk, this]

/-! products -/
/-- What the first i rows of a product come to. -/
def part (f g : List (Fin q)) (i s : Nat) : Fin q := Fld.sm i (fun j => if j ≤ s then Fld.co f j * Fld.co g (s - j) else 0)
theorem part_all (f g : List (Fin q)) (n s : Nat) (h : f.length ≤ n) : part f g n s = Fld.co (Fld.mul f g) s := by
  rw [Fld.co_mul]
  unfold part Fld.cv
  have e : Fld.sm (max n (s + 1)) (fun j => if j ≤ s then Fld.co f j * Fld.co g (s - j) else 0) = Fld.sm n (fun j => if j ≤ s then Fld.co f j * Fld.co g (s - j) else 0) := Fld.sm_more (by omega) fun i h1 h2 => by
    rw [Fld.co_ge (f := f) (by omega)]; split <;> grind
  have e' : Fld.sm (max n (s + 1)) (fun j => if j ≤ s then Fld.co f j * Fld.co g (s - j) else 0) = Fld.sm (s + 1) (fun j => if j ≤ s then Fld.co f j * Fld.co g (s - j) else 0) := Fld.sm_more (by omega) fun i h1 h2 => by
    rw [if_neg (by omega)]
  rw [← e, e']
  exact Fld.sm_congr fun i hi => by rw [if_pos (by omega)]

/-- The row h stands at factor i, k of a product. -/
def At2 (f g h : List (Fin q)) (i k : Nat) : Prop := ∀ s, Fld.co h s = part f g i s + (if i ≤ s ∧ s < i + k then Fld.co f i * Fld.co g (s - i) else 0)
theorem At2.start (f g : List (Fin q)) (n : Nat) : At2 f g (List.replicate n 0) 0 0 := fun s => by
  rw [co_zeros, if_neg (by omega)]; show (0 : Fin q) = 0 + 0; grind
theorem At2.next {f g h : List (Fin q)} {i k : Nat} (H : At2 f g h i k) (hk : i + k < h.length) : At2 f g (h.set (i + k) (Fld.co h (i + k) + Fld.co f i * Fld.co g k)) i (k + 1) := fun s => by
  rw [co_set _ _ _ hk]
  by_cases e : s = i + k
  · subst e
    rw [if_pos rfl, H (i + k), if_neg (by omega), if_pos (by omega), show i + k - i = k by omega]; grind
  · rw [if_neg e, H s]
    by_cases e' : i ≤ s ∧ s < i + k
    · rw [if_pos e', if_pos (by omega)]
    · rw [if_neg e', if_neg (by omega)]
theorem At2.round {f g h : List (Fin q)} {i k : Nat} (H : At2 f g h i k) (hk : g.length ≤ k) : At2 f g h (i + 1) 0 := fun s => by
  rw [H s, if_neg (by omega : ¬ (i + 1 ≤ s ∧ s < i + 1 + 0))]
  have e : part f g (i + 1) s = part f g i s + (if i ≤ s then Fld.co f i * Fld.co g (s - i) else 0) := rfl
  rw [e]
  by_cases h1 : i ≤ s
  · by_cases h2 : s < i + k
    · rw [if_pos ⟨h1, h2⟩, if_pos h1]; grind
    · rw [if_neg (by omega), if_pos h1, Fld.co_ge (f := g) (by omega)]; grind
  · rw [if_neg (by omega), if_neg h1]; grind
theorem At2.last {f g h : List (Fin q)} {i : Nat} (H : At2 f g h i 0) (hi : f.length ≤ i) : Fld.trim h = Fld.trim (Fld.mul f g) := Fld.trim_congr fun s => by
  rw [H s, if_neg (by omega), part_all f g i s hi]; grind

theorem times_inner (hq : q ≤ 65537) (f g : List (Fin q)) (i : Nat) (hi : i < f.length) (hf : f.length ≤ 1000000) (hg : g.length ≤ 1000000) {r : List Int} (next : ∀ h : List (Fin q), h.length = f.length + g.length - 1 → At2 f g h (i + 1) 0 → Ev (fun k => poly_Times.l0 k (q : Int) (oI g) (oI h) (oI f) (f.length : Int) ((i + 1 : Nat) : Int)) r) : ∀ (m j : Nat) (h : List (Fin q)), j + m = g.length → h.length = f.length + g.length - 1 → At2 f g h i j →
    Ev (fun k => poly_Times.l1 k (q : Int) (oI g) (oI h) (i : Int) (nI (Fld.co f i)) (oI f) (f.length : Int) (i : Int) (oI g) (g.length : Int) (j : Int)) r
  | 0, j, h, hj, hh, H => by
    refine Ev.step (f := fun k => poly_Times.l0 k (q : Int) (oI g) (oI h) (oI f) (f.length : Int) ((i + 1 : Nat) : Int)) (fun k => ?_) (next h hh (H.round (by omega)))
    conv => lhs; simp only [poly_Times.l1]
    rw [if_neg (by omega), w64_small (by omega) (by omega)]
    rfl
  | m + 1, j, h, hj, hh, H => by
    refine Ev.step (f := fun k => poly_Times.l1 k (q : Int) (oI g) (oI (h.set (i + j) (Fld.co h (i + j) + Fld.co f i * Fld.co g j))) (i : Int) (nI (Fld.co f i)) (oI f) (f.length : Int) (i : Int) (oI g) (g.length : Int) ((j + 1 : Nat) : Int)) (fun k => ?_) (times_inner hq f g i hi hf hg next m (j + 1) _ (by omega) (by rw [List.length_set]; exact hh) (H.next (by omega)))
    conv => lhs; simp only [poly_Times.l1]
    have hw : wrap64 ((i : Int) + (j : Int)) = ((i + j : Nat) : Int) := by rw [w64_small (by omega) (by omega)]; omega
    rw [if_pos (by omega), if_pos (by omega), if_pos (by rw [oI_length]; omega), hw, if_pos (by omega), if_pos (by rw [oI_length]; omega), rd_oI, rd_oI, times_fp hq, Option.bind_some, plus_fp hq, Option.bind_some, Int.toNat_natCast, oI_set, w64_small (by omega) (by omega)]
    rfl
theorem times_outer (hq : q ≤ 65537) (f g : List (Fin q)) (hf : f.length ≤ 1000000) (hg : g.length ≤ 1000000) : ∀ (m i : Nat) (h : List (Fin q)), i + m = f.length → h.length = f.length + g.length - 1 → At2 f g h i 0 →
    Ev (fun k => poly_Times.l0 k (q : Int) (oI g) (oI h) (oI f) (f.length : Int) (i : Int)) (oI (Fld.trim (Fld.mul f g)))
  | 0, i, h, hi, hh, H => by
    rw [← H.last (by omega)]
    refine Ev.step (f := fun k => (poly_Short.f k (oI h)).bind fun t => some t) (fun k => ?_) (Ev.bind (short_fp _ (by omega)) (Ev.now _))
    simp only [poly_Times.l0]
    rw [if_neg (by omega)]
  | m + 1, i, h, hi, hh, H => by
    refine Ev.step (f := fun k => poly_Times.l1 k (q : Int) (oI g) (oI h) (i : Int) (nI (Fld.co f i)) (oI f) (f.length : Int) (i : Int) (oI g) (g.length : Int) 0) (fun k => ?_) (times_inner hq f g i (by omega) hf hg (fun h' hh' H' => times_outer hq f g hf hg m (i + 1) h' (by omega) hh' H') g.length 0 h (by omega) hh H)
    conv => lhs; simp only [poly_Times.l0]
    rw [if_pos (by omega), if_pos (by omega), if_pos (by rw [oI_length]; omega), rd_oI, oI_length]
theorem times_rows (hq : q ≤ 65537) (f g : List (Fin q)) (hf : f.length ≤ 1000000) (hg : g.length ≤ 1000000) : Ev (fun k => poly_Times.f k (q : Int) (oI f) (oI g)) (oI (Fld.trim (Fld.mul f g))) := by
  by_cases h0 : f = [] ∨ g = []
  · have e : Fld.trim (Fld.mul f g) = [] := by
      rcases h0 with rfl | rfl
      · rfl
      · rw [Fld.trim_congr (Fld.mul_nil f)]; rfl
    rw [e]
    refine Ev.step (f := fun k => some []) (fun k => ?_) (Ev.now _)
    unfold poly_Times.f
    rcases h0 with rfl | rfl
    · rw [if_pos (by rfl)]
      simp only [poly_Times.j0, if_true]
    · by_cases hf0 : ((oI f).length : Int) = 0
      · rw [if_pos hf0]
        simp only [poly_Times.j0, if_true]
      · rw [if_neg hf0]
        simp [poly_Times.j0, oI_nil]
  · have hf0 : 0 < f.length := List.length_pos_iff.2 (fun e => h0 (.inl e))
    have hg0 : 0 < g.length := List.length_pos_iff.2 (fun e => h0 (.inr e))
    refine Ev.step (f := fun k => poly_Times.l0 k (q : Int) (oI g) (oI (List.replicate (f.length + g.length - 1) 0)) (oI f) (f.length : Int) ((0 : Nat) : Int)) (fun k => ?_) (times_outer hq f g hf hg f.length 0 _ (by omega) (by simp) (At2.start f g _))
    unfold poly_Times.f
    have hb : (((oI g).length : Int) == 0) = false := by rw [oI_length, beq_eq_false_iff_ne]; omega
    have hw : wrap64 (wrap64 (((oI f).length : Int) + ((oI g).length : Int)) - 1) = ((f.length + g.length - 1 : Nat) : Int) := by
      rw [oI_length, oI_length, w64_small (n := (f.length : Int) + (g.length : Int)) (by omega) (by omega), w64_small (by omega) (by omega)]; omega
    rw [if_neg (by rw [oI_length]; omega), hb]
    simp only [poly_Times.j0, Bool.false_eq_true, if_false]
    rw [hw, if_pos (by omega), Int.toNat_natCast, if_pos (by omega), ← oI_zeros, oI_length]
    rfl

/-! inverses -/
theorem pow_loop (hq : q ≤ 65537) : ∀ (n : Nat) (e : Nat) (a y : Fin q), e ≤ n → e ≤ 65537 → Ev (fun k => field_pow.l0 k (q : Int) (nI a) (e : Int) (nI y)) (nI (y * a ^ e))
  | 0, e, a, y, h, he => by
    obtain rfl : e = 0 := by omega
    rw [show y * a ^ 0 = y by grind]
    refine Ev.step (f := fun k => some (nI y)) (fun k => ?_) (Ev.now _)
    simp only [field_pow.l0]
    rw [if_neg (by omega)]
  | n + 1, e, a, y, h, he => by
    by_cases h0 : e = 0
    · subst h0
      rw [show y * a ^ 0 = y by grind]
      refine Ev.step (f := fun k => some (nI y)) (fun k => ?_) (Ev.now _)
      simp only [field_pow.l0]
      rw [if_neg (by omega)]
    · have hd : ((e : Int) / 2) = ((e / 2 : Nat) : Int) := by omega
      have hb : Go.bits .and .u64 (e : Int) 1 = ((e % 2 : Nat) : Int) := by rw [and_one_u64 (e : Int) (by omega) (by omega)]; omega
      by_cases h1 : e % 2 = 1
      · have ee : y * a ^ e = y * a * (a * a) ^ (e / 2) := by
          have : e = 2 * (e / 2) + 1 := by omega
          rw [Fld.pow_double]
          generalize e / 2 = z at *
          subst this
          grind
        rw [ee]
        refine Ev.step (f := fun k => field_pow.l0 k (q : Int) (nI (a * a)) ((e / 2 : Nat) : Int) (nI (y * a))) (fun k => ?_) (pow_loop hq n (e / 2) (a * a) (y * a) (by omega) (by omega))
        conv => lhs; simp only [field_pow.l0]
        rw [if_pos (by omega), hb, h1, if_pos (by rfl), fmul_fp hq, Option.bind_some, fmul_fp hq, Option.bind_some, hd]
      · have ee : y * a ^ e = y * (a * a) ^ (e / 2) := by
          have : e = 2 * (e / 2) := by omega
          rw [Fld.pow_double]
          generalize e / 2 = z at *
          subst this
          rfl
        rw [ee]
        refine Ev.step (f := fun k => field_pow.l0 k (q : Int) (nI (a * a)) ((e / 2 : Nat) : Int) (nI y)) (fun k => ?_) (pow_loop hq n (e / 2) (a * a) y (by omega) (by omega))
        conv => lhs; simp only [field_pow.l0]
        rw [if_pos (by omega), hb, if_neg (by omega), fmul_fp hq, Option.bind_some, hd]
theorem over_fp (h1 : 2 < q) (hq : q ≤ 65537) (a : Fin q) : Ev (fun k => field_Over.f k (q : Int) (nI a)) (nI (Fld.inv a)) := by
  unfold field_Over.f field_pow.f
  rw [u64_small (by omega) (by omega)]
  have e : ((q : Int) - 2) = ((q - 2 : Nat) : Int) := by omega
  have e1 : (1 : Int) % (q : Int) = nI (1 : Fin q) := by rw [nI_one (by omega), Int.emod_eq_of_lt (by omega) (by omega)]
  have e2 : Fld.inv a = 1 * a ^ (q - 2) := by unfold Fld.inv; grind
  rw [e, e1, e2]
  refine Ev.bind (f := fun k t => some t) (a := nI (1 * a ^ (q - 2))) ?_ (Ev.now _)
  refine Ev.congr (fun k => if_neg (by omega)) (pow_loop hq (q - 2) (q - 2) a 1 (Nat.le_refl _) (by omega))
end

end Go.Proofs.Ytjjnfobeeflnhaa.L

/- Rows drawn from a tape, rows without noughts at the end, rows compared: what the words tell. -/
namespace Go.Proofs.Ytjjnfobeeflnhaa.L
open Go.RowKit Go.Proofs.YtjjnfobeeflnhaaW.PrintWords Go.Proofs.Ytjjnfobeeflnhaa.J
set_option linter.unusedVariables false
set_option linter.unusedSimpArgs false

/-! rows compared -/
/-! rows without noughts at the end -/
theorem trim_loop (l : List Int) (hl : l.length < 17592186044416) : ∀ (n : Nat), n ≤ l.length → Ev (fun k => juntoref02_Trim.l0 k l (n : Int)) (shortI (l.take n))
  | 0, _ => by
    refine Ev.step (f := fun k => some []) (fun k => ?_) (Ev.now _)
    simp only [juntoref02_Trim.l0]
    rw [if_neg (by omega)]
    simp
  | n + 1, hn => by
    have hw : wrap64 (((n + 1 : Nat) : Int) - 1) = (n : Int) := by unfold wrap64; omega
    have hr : rd l (n : Int) = l[n] := by simp [rd, List.getD_eq_getElem?_getD, show n < l.length by omega]
    rw [List.take_succ_eq_append_getElem (by omega), shortI_snoc]
    by_cases hz : l[n] = 0
    · rw [if_pos hz]
      refine Ev.step (f := fun k => juntoref02_Trim.l0 k l (n : Int)) (fun k => ?_) (trim_loop l hl n (by omega))
      conv => lhs; simp only [juntoref02_Trim.l0]
      rw [hw, if_pos (by omega), if_pos (by omega), if_pos (by omega), hr, if_pos hz]
    · rw [if_neg hz]
      refine Ev.step (f := fun k => some (l.take n ++ [l[n]])) (fun k => ?_) (Ev.now _)
      conv => lhs; simp only [juntoref02_Trim.l0]
      rw [hw, if_pos (by omega), if_pos (by omega), if_pos (by omega), hr, if_neg hz, Option.bind_some, if_pos (by omega), if_pos (by omega)]
      rw [show (((n + 1 : Nat) : Int)).toNat = n + 1 by omega, List.take_succ_eq_append_getElem (by omega)]
      rw [if_pos (by simp; omega)]; rfl
theorem trim_at (l : List Int) (hl : l.length < 17592186044416) : Ev (fun k => juntoref02_Trim.f k l) (shortI l) := by
  have := trim_loop l hl l.length (Nat.le_refl _)
  rw [List.take_length] at this
  exact this
section
variable {q : Nat} [NeZero q]
theorem trim_fp (f : List (Fin q)) (hl : f.length ≤ 1000000000) : Ev (fun k => juntoref02_Trim.f k (oI f)) (oI (Fld.trim f)) := by
  rw [← short_oI]
  exact trim_at _ (by rw [oI_length]; omega)

/-! rows drawn from a tape -/
/-- The residue of a number. -/
def resid (q : Nat) [NeZero q] (x : Int) : Fin q := Fin.ofNat q (x % (q : Int)).toNat
theorem nI_resid (x : Int) : nI (resid q x) = x % (q : Int) := by
  have hp := q_pos (q := q)
  have h0 : 0 ≤ x % (q : Int) := Int.emod_nonneg _ (by omega)
  have h1 : x % (q : Int) < (q : Int) := Int.emod_lt_of_pos _ (by omega)
  unfold nI resid
  simp only [Fin.ofNat]
  rw [Nat.mod_eq_of_lt (by omega)]
  omega
/-- The first n numbers of a tape. -/
def drawn (q : Nat) [NeZero q] (tape : List Int) (n : Nat) : List (Fin q) := Fld.mk n (fun i => resid q (tape.getD i 0))
end

end Go.Proofs.Ytjjnfobeeflnhaa.L

/- The reference's words over the residues modulo a prime: sums, differences, products, inverses. -/
namespace Go.Proofs.Ytjjnfobeeflnhaa.L
open Go.RowKit Go.Proofs.YtjjnfobeeflnhaaW.PrintWords Go.Proofs.Ytjjnfobeeflnhaa.J
set_option linter.unusedVariables false
set_option linter.unusedSimpArgs false

section
variable {q : Nat} [NeZero q]
theorem cof_fp (f : List (Fin q)) (i : Nat) : juntoref02_at.f (oI f) (i : Int) = some (nI (Fld.co f i)) := by
  unfold juntoref02_at.f
  rw [oI_length]
  by_cases h : i < f.length
  · rw [if_pos (by omega), if_pos (by omega), rd_oI]
  · rw [if_neg (by omega), Fld.co_ge (by omega), nI_zero]
theorem add_loop (hq : q ≤ 65537) (f g : List (Fin q)) (n : Nat) (hn : n ≤ 1000000000) : ∀ (m i : Nat), i + m = n →
    Ev (fun k => juntoref02_Add.l0 k (q : Int) (oI f) (oI g) (oI (fill n i fun j => Fld.co f j + Fld.co g j)) (n : Int) (i : Int)) (oI (Fld.trim (Fld.mk n fun j => Fld.co f j + Fld.co g j)))
  | 0, i, hi => by
    obtain rfl : i = n := by omega
    refine Ev.step (f := fun k => (juntoref02_Trim.f k (oI (Fld.mk i fun j => Fld.co f j + Fld.co g j))).bind fun t => some t) (fun k => ?_) (Ev.bind (trim_fp _ (by rw [Fld.mk_length]; exact hn)) (Ev.now _))
    simp only [juntoref02_Add.l0]
    rw [if_neg (by omega), fill_all]
  | m + 1, i, hi => by
    refine Ev.step (f := fun k => juntoref02_Add.l0 k (q : Int) (oI f) (oI g) (oI (fill n (i + 1) fun j => Fld.co f j + Fld.co g j)) (n : Int) ((i + 1 : Nat) : Int)) (fun k => ?_) (add_loop hq f g n hn m (i + 1) (by omega))
    conv => lhs; simp only [juntoref02_Add.l0]
    rw [if_pos (by omega), cof_fp, Option.bind_some, cof_fp, Option.bind_some, add_fp hq, Option.bind_some, if_pos (by omega), if_pos (by rw [oI_length, fill_length]; omega), Int.toNat_natCast, oI_set, fill_set n i (fun j => Fld.co f j + Fld.co g j), w64_small (by omega) (by omega)]
    rfl
theorem add_rows (hq : q ≤ 65537) (f g : List (Fin q)) (hf : f.length ≤ 1000000000) (hg : g.length ≤ 1000000000) : Ev (fun k => juntoref02_Add.f k (q : Int) (oI f) (oI g)) (oI (Fld.trim (Fld.add f g))) := by
  have h := add_loop hq f g (max f.length g.length) (by omega) (max f.length g.length) 0 (by omega)
  rw [fill_zero, ← oI_zeros] at h
  refine Ev.congr (fun k => ?_) h
  have e : mx ((oI f).length : Int) ((oI g).length : Int) = ((max f.length g.length : Nat) : Int) := by
    rw [oI_length, oI_length]; unfold mx; split <;> omega
  unfold juntoref02_Add.f
  rw [e, if_pos (by omega), Int.toNat_natCast, if_pos (by omega), Option.bind_some]
  simp
theorem scale_loop (hq : q ≤ 65537) (f : List (Fin q)) (c : Fin q) (hf : f.length ≤ 1000000000) : ∀ (m i : Nat), i + m = f.length →
    Ev (fun k => juntoref02_Scale.l0 k (q : Int) (oI f) (nI c) (oI (fill f.length i fun j => Fld.co f j * c)) (f.length : Int) (i : Int)) (oI (Fld.trim (Fld.mk f.length fun j => Fld.co f j * c)))
  | 0, i, hi => by
    obtain rfl : i = f.length := by omega
    refine Ev.step (f := fun k => (juntoref02_Trim.f k (oI (Fld.mk f.length fun j => Fld.co f j * c))).bind fun t => some t) (fun k => ?_) (Ev.bind (trim_fp _ (by rw [Fld.mk_length]; exact hf)) (Ev.now _))
    simp only [juntoref02_Scale.l0]
    rw [if_neg (by omega), fill_all]
  | m + 1, i, hi => by
    refine Ev.step (f := fun k => juntoref02_Scale.l0 k (q : Int) (oI f) (nI c) (oI (fill f.length (i + 1) fun j => Fld.co f j * c)) (f.length : Int) ((i + 1 : Nat) : Int)) (fun k => ?_) (scale_loop hq f c hf m (i + 1) (by omega))
    conv => lhs; simp only [juntoref02_Scale.l0]
    rw [if_pos (by omega), if_pos (by omega), if_pos (by rw [oI_length]; omega), rd_oI, mul_fp hq, Option.bind_some, if_pos (by rw [oI_length, fill_length]; omega), Int.toNat_natCast, oI_set, fill_set f.length i (fun j => Fld.co f j * c), w64_small (by omega) (by omega)]
    rfl
theorem scale_rows (hq : q ≤ 65537) (f : List (Fin q)) (c : Fin q) (hf : f.length ≤ 1000000000) : Ev (fun k => juntoref02_Scale.f k (q : Int) (oI f) (nI c)) (oI (Fld.trim (Fld.smul c f))) := by
  have e : Fld.Eqv (Fld.mk f.length fun j => Fld.co f j * c) (Fld.smul c f) := fun i => by
    rw [Fld.co_mk, Fld.co_smul]
    split
    · grind
    · rw [Fld.co_ge (f := f) (by omega)]; grind
  rw [← Fld.trim_congr e]
  have h := scale_loop hq f c hf f.length 0 (by omega)
  rw [fill_zero, ← oI_zeros] at h
  refine Ev.congr (fun k => ?_) h
  unfold juntoref02_Scale.f
  rw [oI_length, if_pos (by omega), if_pos (by omega), Int.toNat_natCast]
  rfl
theorem rmul_inner (hq : q ≤ 65537) (f g : List (Fin q)) (i : Nat) (hi : i < f.length) (hf : f.length ≤ 1000000) (hg : g.length ≤ 1000000) {r : List Int} (next : ∀ h : List (Fin q), h.length = f.length + g.length → At2 f g h (i + 1) 0 → Ev (fun k => juntoref02_Mul.l0 k (q : Int) (oI f) (oI g) (oI h) (f.length : Int) ((i + 1 : Nat) : Int)) r) : ∀ (m j : Nat) (h : List (Fin q)), j + m = g.length → h.length = f.length + g.length → At2 f g h i j →
    Ev (fun k => juntoref02_Mul.l1 k (q : Int) (oI f) (oI g) (oI h) (i : Int) (f.length : Int) (i : Int) (g.length : Int) (j : Int)) r
  | 0, j, h, hj, hh, H => by
    refine Ev.step (f := fun k => juntoref02_Mul.l0 k (q : Int) (oI f) (oI g) (oI h) (f.length : Int) ((i + 1 : Nat) : Int)) (fun k => ?_) (next h hh (H.round (by omega)))
    conv => lhs; simp only [juntoref02_Mul.l1]
    rw [if_neg (by omega), w64_small (by omega) (by omega)]
    rfl
  | m + 1, j, h, hj, hh, H => by
    refine Ev.step (f := fun k => juntoref02_Mul.l1 k (q : Int) (oI f) (oI g) (oI (h.set (i + j) (Fld.co h (i + j) + Fld.co f i * Fld.co g j))) (i : Int) (f.length : Int) (i : Int) (g.length : Int) ((j + 1 : Nat) : Int)) (fun k => ?_) (rmul_inner hq f g i hi hf hg next m (j + 1) _ (by omega) (by rw [List.length_set]; exact hh) (H.next (by omega)))
    conv => lhs; simp only [juntoref02_Mul.l1]
    have hw : wrap64 ((i : Int) + (j : Int)) = ((i + j : Nat) : Int) := by rw [w64_small (by omega) (by omega)]; omega
    rw [if_pos (by omega), hw, if_pos (by omega), if_pos (by rw [oI_length]; omega), if_pos (by omega), if_pos (by rw [oI_length]; omega), if_pos (by omega), if_pos (by rw [oI_length]; omega), rd_oI, rd_oI, rd_oI, mul_fp hq, Option.bind_some, add_fp hq, Option.bind_some, Int.toNat_natCast, oI_set, w64_small (by omega) (by omega)]
    rfl
theorem rmul_outer (hq : q ≤ 65537) (f g : List (Fin q)) (hf : f.length ≤ 1000000) (hg : g.length ≤ 1000000) : ∀ (m i : Nat) (h : List (Fin q)), i + m = f.length → h.length = f.length + g.length → At2 f g h i 0 →
    Ev (fun k => juntoref02_Mul.l0 k (q : Int) (oI f) (oI g) (oI h) (f.length : Int) (i : Int)) (oI (Fld.trim (Fld.mul f g)))
  | 0, i, h, hi, hh, H => by
    rw [← H.last (by omega)]
    refine Ev.step (f := fun k => (juntoref02_Trim.f k (oI h)).bind fun t => some t) (fun k => ?_) (Ev.bind (trim_fp _ (by omega)) (Ev.now _))
    simp only [juntoref02_Mul.l0]
    rw [if_neg (by omega)]
  | m + 1, i, h, hi, hh, H => by
    refine Ev.step (f := fun k => juntoref02_Mul.l1 k (q : Int) (oI f) (oI g) (oI h) (i : Int) (f.length : Int) (i : Int) (g.length : Int) ((0 : Nat) : Int)) (fun k => ?_) (rmul_inner hq f g i (by omega) hf hg (fun h' hh' H' => rmul_outer hq f g hf hg m (i + 1) h' (by omega) hh' H') g.length 0 h (by omega) hh H)
    conv => lhs; simp only [juntoref02_Mul.l0]
    rw [if_pos (by omega), oI_length]
    rfl
theorem rmul_rows (hq : q ≤ 65537) (f g : List (Fin q)) (hf : f.length ≤ 1000000) (hg : g.length ≤ 1000000) : Ev (fun k => juntoref02_Mul.f k (q : Int) (oI f) (oI g)) (oI (Fld.trim (Fld.mul f g))) := by
  refine Ev.congr (fun k => ?_) (rmul_outer hq f g hf hg f.length 0 (List.replicate (f.length + g.length) 0) (by omega) (by simp) (At2.start f g _))
  have hw : wrap64 (((oI f).length : Int) + ((oI g).length : Int)) = ((f.length + g.length : Nat) : Int) := by
    rw [oI_length, oI_length, w64_small (by omega) (by omega)]; omega
  unfold juntoref02_Mul.f
  rw [hw, if_pos (by omega), Int.toNat_natCast, if_pos (by omega), ← oI_zeros, oI_length]
  rfl
theorem rsub_fp (hq : q ≤ 65537) (a b : Fin q) : juntoref01_Sub.f (q : Int) (nI a) (nI b) = some (nI (a - b)) := by
  have hp := q_pos (q := q)
  have ha := nI_range a
  have hb := nI_range b
  unfold juntoref01_Sub.f
  rw [if_neg (by omega), u64_small (n := nI a + (q : Int)) (by omega) (by omega), u64_small (by omega) (by omega), Int.tmod_eq_emod_of_nonneg (by omega), nI_sub]
theorem pow_plus (a : Fin q) (m n : Nat) : a ^ (m + n) = a ^ m * a ^ n := by
  induction n with
  | zero => rw [Nat.add_zero]; grind
  | succ n ih =>
    have e : a ^ (m + (n + 1)) = a ^ (m + n) * a := by rw [show m + (n + 1) = (m + n) + 1 by omega]; grind
    have e' : a ^ (n + 1) = a ^ n * a := by grind
    rw [e, e', ih]; grind
theorem rpow_at (h1 : 1 < q) (hq : q ≤ 65537) (a : Fin q) : ∀ (n e : Nat), e ≤ n → e ≤ 65537 → Ev (fun k => juntoref01_Pow.f k (q : Int) (nI a) (e : Int)) (nI (a ^ e))
  | n, e, h, he => by
    by_cases h0 : e = 0
    · subst h0
      rw [show a ^ 0 = (1 : Fin q) by grind, nI_one h1]
      refine Ev.step (f := fun k => some 1) (fun k => ?_) (Ev.now _)
      simp only [juntoref01_Pow.f]
      rw [if_pos (by omega)]
    · cases n with
      | zero => omega
      | succ n =>
        have hd : IntKind.u64.wrap (Int.tdiv (e : Int) 2) = ((e / 2 : Nat) : Int) := by
          rw [Int.tdiv_eq_ediv_of_nonneg (by omega), u64_small (by omega) (by omega)]; omega
        have hm : Int.tmod (e : Int) 2 = ((e % 2 : Nat) : Int) := by
          rw [Int.tmod_eq_emod_of_nonneg (by omega)]; omega
        have ih := rpow_at h1 hq a n (e / 2) (by omega) (by omega)
        by_cases h2 : e % 2 = 1
        · have ee : a ^ e = a ^ (e / 2) * a ^ (e / 2) * a := by
            have h3 : e = e / 2 + e / 2 + 1 := by omega
            have h4 : a ^ e = a ^ (e / 2 + e / 2 + 1) := by rw [← h3]
            rw [h4, pow_plus, pow_plus, show a ^ 1 = a by grind]
          rw [ee]
          refine Ev.step (f := fun k => (juntoref01_Pow.f k (q : Int) (nI a) ((e / 2 : Nat) : Int)).bind fun t => (juntoref01_Mul.f (q : Int) t t).bind fun u => (juntoref01_Mul.f (q : Int) u (nI a)).bind fun v => some v) (fun k => ?_) (Ev.bind ih ?_)
          · simp only [juntoref01_Pow.f]
            rw [if_neg (by omega), hd, hm, h2]
            rfl
          · rw [mul_fp hq, Option.bind_some, mul_fp hq, Option.bind_some]
            exact Ev.now _
        · have ee : a ^ e = a ^ (e / 2) * a ^ (e / 2) := by
            have h3 : e = e / 2 + e / 2 := by omega
            have h4 : a ^ e = a ^ (e / 2 + e / 2) := by rw [← h3]
            rw [h4, pow_plus]
          rw [ee]
          refine Ev.step (f := fun k => (juntoref01_Pow.f k (q : Int) (nI a) ((e / 2 : Nat) : Int)).bind fun t => (juntoref01_Mul.f (q : Int) t t).bind fun u => some u) (fun k => ?_) (Ev.bind ih ?_)
          · simp only [juntoref01_Pow.f]
            rw [if_neg (by omega), hd, hm]
            simp only [show ¬ (((e % 2 : Nat) : Int) = 1) by omega, if_false]
          · rw [mul_fp hq, Option.bind_some]
            exact Ev.now _
theorem rinv_fp (h1 : 2 < q) (hq : q ≤ 65537) (a : Fin q) : Ev (fun k => juntoref01_Inv.f k (q : Int) (nI a)) (nI (Fld.inv a)) := by
  unfold juntoref01_Inv.f
  have e : IntKind.u64.wrap ((q : Int) - 2) = ((q - 2 : Nat) : Int) := by rw [u64_small (by omega) (by omega)]; omega
  rw [e]
  exact Ev.bind (rpow_at (by omega) hq a (q - 2) (q - 2) (Nat.le_refl _) (by omega)) (Ev.now _)

end

/-! parties as numbers -/
/-! tests of rows of coefficients -/
end Go.Proofs.Ytjjnfobeeflnhaa.L

/- Small facts about numbers that came in, setups and rows. -/
namespace Go.Proofs.Ytjjnfobeeflnhaa.L
open Go.RowKit Go.Proofs.YtjjnfobeeflnhaaW.PrintWords Go.Proofs.Ytjjnfobeeflnhaa.J

theorem u64_wf {n : Int} (h : (Lit.int .u64 n).wf = true) : 0 ≤ n ∧ n < 18446744073709551616 := by
  simp [Lit.wf, IntKind.min, IntKind.max, IntKind.signed, IntKind.bits] at h
  omega

theorem setupV_two {p n t : Int} (h : setupV p n t ≠ 0) : setupV p n t = 2 := by
  unfold setupV at h ⊢
  split
  · rename_i h'
    rw [if_pos h'] at h
    exact absurd rfl h
  · rfl

theorem belowV_zero {p : Int} {l : List Int} (h : belowV p l = 0) : ∀ x ∈ l, x < p := by
  unfold belowV at h
  split at h
  · assumption
  · cases h

theorem i64_wf {n : Int} (h : (Lit.int .i64 n).wf = true) : -9223372036854775808 ≤ n ∧ n < 9223372036854775808 := by
  simp [Lit.wf, IntKind.min, IntKind.max, IntKind.signed, IntKind.bits] at h
  omega
/-- A setup that is one: its numbers. -/
theorem setupV_small {p n t : Int} (h : setupV p n t = 0) : 3 ≤ p ∧ p ≤ 65537 ∧ 1 ≤ n ∧ n ≤ 13 ∧ 0 ≤ t ∧ t ≤ 3 ∧ 4 * t + 1 ≤ n ∧ n < p := by
  obtain ⟨hp, h1, h2, h4, h5, h6⟩ := setupV_ok h
  have hp2 := (isP_iff p).1 hp
  omega

end Go.Proofs.Ytjjnfobeeflnhaa.L

/- Both ways to share a polynomial answer alike, and what they answer. -/
namespace Go.Proofs.Ytjjnfobeeflnhaa.L
open Go.RowKit Go.Proofs.YtjjnfobeeflnhaaW.PrintWords Go.Proofs.Ytjjnfobeeflnhaa.J
set_option linter.unusedVariables false
set_option linter.unusedSimpArgs false

section
variable {q : Nat} [NeZero q]
/-- The point of party i + 1. -/
def pt (q : Nat) [NeZero q] (i : Nat) : Fin q := resid q ((i : Int) + 1)
theorem nI_pt {i : Nat} (h : i + 1 < q) : nI (pt q i) = (i : Int) + 1 := by
  unfold pt
  rw [nI_resid, Int.emod_eq_of_lt (by omega) (by omega)]
end
section
variable {q : Nat}
theorem mk_succ (n : Nat) (F : Nat → Fin q) : Fld.mk (n + 1) F = Fld.mk n F ++ [F n] := by
  unfold Fld.mk; rw [List.range_succ]; simp
end
end Go.Proofs.Ytjjnfobeeflnhaa.L

/- Interpolation over the residues modulo a prime: by differences (Newton) and by basis polynomials (Lagrange). Plain Lean, no program in sight. -/
namespace Go.Proofs.Ytjjnfobeeflnhaa.Fld
set_option linter.unusedVariables false
set_option linter.unusedSimpArgs false

section
variable {p : Nat} [NeZero p]

theorem co_lin (b : Fin p) (r : List (Fin p)) (j : Nat) : co (mul [b, 1] r) j = b * co r j + (if j = 0 then 0 else co r (j - 1)) := by
  rw [mul, mul, mul, co_add, co_smul]
  cases j with
  | zero => rw [co_cons_zero]; simp
  | succ j =>
    rw [co_cons_succ, co_add, co_smul]
    have : co (0 :: ([] : List (Fin p))) j = 0 := by cases j with
      | zero => rfl
      | succ j => rw [co_cons_succ, co_nil]
    rw [this]; simp; grind
theorem ev_lin (b : Fin p) (z : Fin p) : ev [b, 1] z = z + b := by
  rw [ev_cons, ev_cons, ev_nil]; grind
theorem ev_one (c z : Fin p) : ev [c] z = c := by rw [ev_cons, ev_nil]; grind

/-- The product of x minus the places from a on, m of them. -/
def wp (x : Nat → Fin p) (a : Nat) : Nat → List (Fin p)
  | 0 => [1]
  | m + 1 => mul [-(x (a + m)), 1] (wp x a m)
theorem ev_wp (x : Nat → Fin p) (a m : Nat) (z : Fin p) : ev (wp x a (m + 1)) z = (z - x (a + m)) * ev (wp x a m) z := by
  rw [wp, ev_mul, ev_lin]; grind
theorem wp_root (x : Nat → Fin p) (a m k : Nat) (h : k < m) : ev (wp x a m) (x (a + k)) = 0 := by
  induction m with
  | zero => omega
  | succ m ih =>
    rw [ev_wp]
    by_cases e : k = m
    · subst e; grind
    · rw [ih (by omega)]; grind
theorem wp_hi (x : Nat → Fin p) (a m i : Nat) (h : m < i) : co (wp x a m) i = 0 := by
  induction m generalizing i with
  | zero => rw [wp, co_ge (by simp; omega)]
  | succ m ih =>
    rw [wp, co_lin, ih i (by omega), if_neg (by omega), ih (i - 1) (by omega)]; grind
theorem wp_top (x : Nat → Fin p) (a m : Nat) : co (wp x a m) m = 1 := by
  induction m with
  | zero => rfl
  | succ m ih =>
    rw [wp, co_lin, wp_hi x a m (m + 1) (by omega), if_neg (by omega), Nat.add_sub_cancel, ih]; grind

/-- The differences: of step s, at i. -/
def dd (x y : Nat → Fin p) : Nat → Nat → Fin p
  | 0, i => y i
  | s + 1, i => (dd x y s i - dd x y s (i - 1)) * inv (x i - x (i - (s + 1)))
/-- The polynomial by differences, m terms from a on. -/
def nw (x y : Nat → Fin p) (a : Nat) : Nat → List (Fin p)
  | 0 => []
  | m + 1 => add (nw x y a m) (smul (dd x y m (a + m)) (wp x a m))
theorem ev_nw (x y : Nat → Fin p) (a m : Nat) (z : Fin p) : ev (nw x y a (m + 1)) z = ev (nw x y a m) z + dd x y m (a + m) * ev (wp x a m) z := by
  rw [nw, ev_add, ev_smul]
theorem nw_hi (x y : Nat → Fin p) (a m i : Nat) (h : m ≤ i) : co (nw x y a m) i = 0 := by
  induction m with
  | zero => rw [nw, co_nil]
  | succ m ih => rw [nw, co_add, co_smul, ih (by omega), wp_hi x a m i (by omega)]; grind
theorem nw_top (x y : Nat → Fin p) (a m : Nat) : co (nw x y a (m + 1)) m = dd x y m (a + m) := by
  rw [nw, co_add, co_smul, nw_hi x y a m m (Nat.le_refl _), wp_top]; grind

/-- The polynomial by differences has the wanted values. -/
theorem nw_at (hp : Pr p) (x y : Nat → Fin p) (n : Nat) (hx : ∀ i j, i < n → j < n → x i = x j → i = j) : ∀ m a, a + m ≤ n → ∀ k, k < m → ev (nw x y a m) (x (a + k)) = y (a + k)
  | 0, _, _, k, h => by omega
  | 1, a, _, k, h => by
    obtain rfl : k = 0 := by omega
    rw [ev_nw, nw, ev_nil, wp, ev_one, dd]; grind
  | m + 2, a, hn, k, h => by
    have old : ∀ j, j < m + 1 → ev (nw x y a (m + 2)) (x (a + j)) = y (a + j) := fun j hj => by
      rw [ev_nw, wp_root x a (m + 1) j hj, nw_at hp x y n hx (m + 1) a (by omega) j hj]; grind
    by_cases hk : k < m + 1
    · exact old k hk
    obtain rfl : k = m + 1 := by omega
    have ne : x (a + (m + 1)) - x a ≠ 0 := by
      intro e
      have := hx (a + (m + 1)) a (by omega) (by omega) (by grind)
      omega
    let P := sub (sub (mul [-(x a), 1] (nw x y (a + 1) (m + 1))) (mul [-(x (a + (m + 1))), 1] (nw x y a (m + 1)))) (smul (x (a + (m + 1)) - x a) (nw x y a (m + 2)))
    have hP : ∀ i, m + 1 ≤ i → co P i = 0 := fun i hi => by
      show co (sub (sub _ _) _) i = 0
      rw [co_sub, co_sub, co_lin, co_lin, co_smul, nw_hi x y (a + 1) (m + 1) i hi, nw_hi x y a (m + 1) i hi, if_neg (by omega), if_neg (by omega)]
      by_cases e : i = m + 1
      · subst e
        rw [Nat.add_sub_cancel, nw_top, nw_top, nw_top]
        have e1 : dd x y (m + 1) (a + (m + 1)) = (dd x y m (a + (m + 1)) - dd x y m (a + m)) * inv (x (a + (m + 1)) - x a) := by
          rw [dd, show a + (m + 1) - 1 = a + m by omega, show a + (m + 1) - (m + 1) = a by omega]
        have e2 : a + 1 + m = a + (m + 1) := by omega
        have e3 := mul_inv hp ne
        rw [e1, e2]
        generalize inv (x (a + (m + 1)) - x a) = v at *
        grind
      · rw [nw_hi x y (a + 1) (m + 1) (i - 1) (by omega), nw_hi x y a (m + 1) (i - 1) (by omega), nw_hi x y a (m + 2) i (by omega)]; grind
    have evP : ∀ z, ev P z = (z - x a) * ev (nw x y (a + 1) (m + 1)) z - (z - x (a + (m + 1))) * ev (nw x y a (m + 1)) z - (x (a + (m + 1)) - x a) * ev (nw x y a (m + 2)) z := fun z => by
      show ev (sub (sub _ _) _) z = _
      rw [ev_sub, ev_sub, ev_mul, ev_mul, ev_smul, ev_lin, ev_lin]; grind
    have hz : ∀ i, co (trim P) i = 0 := by
      refine roots_le hp (m + 1) (trim P) ((List.range (m + 1)).map fun j => x (a + j)) ?_ ?_ (trim_length_of hP) (by simp)
      · unfold List.Nodup
        rw [List.pairwise_map]
        refine List.Pairwise.imp_of_mem ?_ List.nodup_range
        intro i j hi hj hne e
        have hi := List.mem_range.1 hi
        have hj := List.mem_range.1 hj
        have := hx (a + i) (a + j) (by omega) (by omega) e
        omega
      · intro z hz
        obtain ⟨j, hj, rfl⟩ := List.mem_map.1 hz
        have hj := List.mem_range.1 hj
        rw [(trim_co P).ev, evP, nw_at hp x y n hx (m + 1) a (by omega) j hj, old j hj]
        by_cases j0 : j = 0
        · subst j0; rw [Nat.add_zero]; grind
        · have h1 := nw_at hp x y n hx (m + 1) (a + 1) (by omega) (j - 1) (by omega)
          rw [show a + 1 + (j - 1) = a + j by omega] at h1
          rw [h1]; grind
    have h0 : ev P (x (a + (m + 1))) = 0 := by
      rw [← (trim_co P).ev, ev_sm (trim P) _ (trim P).length (Nat.le_refl _)]
      exact sm_zero fun i _ => by rw [hz]; grind
    rw [evP] at h0
    have h1 := nw_at hp x y n hx (m + 1) (a + 1) (by omega) m (by omega)
    rw [show a + 1 + m = a + (m + 1) by omega] at h1
    rw [h1] at h0
    have h2 : (x (a + (m + 1)) - x a) * ev (nw x y a (m + 2)) (x (a + (m + 1))) = (x (a + (m + 1)) - x a) * y (a + (m + 1)) := by grind
    exact mul_cancel hp ne h2

/-- The polynomial by differences, from its end on. -/
def hn (x d : Nat → Fin p) (n : Nat) : Nat → List (Fin p)
  | 0 => []
  | m + 1 => trim (add (trim (mul (hn x d n m) [-(x (n - (m + 1))), 1])) [d (n - (m + 1))])
theorem ev_hn (x d : Nat → Fin p) (n m : Nat) (z : Fin p) : ev (hn x d n (m + 1)) z = ev (hn x d n m) z * (z - x (n - (m + 1))) + d (n - (m + 1)) := by
  rw [hn, (trim_co _).ev, ev_add, (trim_co _).ev, ev_mul, ev_lin, ev_one]; grind
theorem hn_length (x d : Nat → Fin p) (n m : Nat) : (hn x d n m).length ≤ m := by
  induction m with
  | zero => simp [hn]
  | succ m ih =>
    rw [hn]
    refine trim_length_of fun i hi => ?_
    rw [co_add, trim_co _ i, co_ge (f := [d (n - (m + 1))]) (by simp; omega)]
    rw [co_mul_ge (by simp; omega)]; grind
theorem hn_tr (x d : Nat → Fin p) (n m : Nat) : trim (hn x d n m) = hn x d n m := by
  cases m with
  | zero => rfl
  | succ m => rw [hn, trim_trim]
theorem hn_nw (x y : Nat → Fin p) (n : Nat) (z : Fin p) : ∀ m, m ≤ n → ev (nw x y 0 n) z = ev (nw x y 0 (n - m)) z + ev (wp x 0 (n - m)) z * ev (hn x (fun i => dd x y i i) n m) z
  | 0, _ => by rw [hn, ev_nil, Nat.sub_zero]; grind
  | m + 1, h => by
    rw [hn_nw x y n z m (by omega), ev_hn]
    obtain ⟨c, hc⟩ : ∃ c, c = n - (m + 1) := ⟨_, rfl⟩
    rw [show n - m = c + 1 by omega, ← hc, ev_nw, ev_wp, Nat.zero_add]; grind
theorem hn_at (hp : Pr p) (x y : Nat → Fin p) (n : Nat) (hx : ∀ i j, i < n → j < n → x i = x j → i = j) (k : Nat) (hk : k < n) : ev (hn x (fun i => dd x y i i) n n) (x k) = y k := by
  have h1 := hn_nw x y n (x k) n (Nat.le_refl _)
  have h2 := nw_at hp x y n hx n 0 (by omega) k hk
  rw [Nat.zero_add] at h2
  rw [h2, Nat.sub_self, nw, ev_nil, wp, ev_one] at h1
  rw [h1]; grind

/-! by basis polynomials -/
/-- One basis polynomial: the factors of the first m places but i. -/
def un (x : Nat → Fin p) (i : Nat) : Nat → List (Fin p)
  | 0 => [1]
  | m + 1 => if m = i then un x i m else trim (smul (inv (x i - x m)) (trim (mul (un x i m) [-(x m), 1])))
theorem ev_un (x : Nat → Fin p) (i m : Nat) (z : Fin p) : ev (un x i (m + 1)) z = if m = i then ev (un x i m) z else ev (un x i m) z * ((z - x m) * inv (x i - x m)) := by
  rw [un]
  split
  · rfl
  · rw [(trim_co _).ev, ev_smul, (trim_co _).ev, ev_mul, ev_lin]; grind
theorem un_self (hp : Pr p) (x : Nat → Fin p) (n i : Nat) (hi : i < n) (hx : ∀ i j, i < n → j < n → x i = x j → i = j) : ∀ m, m ≤ n → ev (un x i m) (x i) = 1
  | 0, _ => by rw [un, ev_one]
  | m + 1, h => by
    rw [ev_un, un_self hp x n i hi hx m (by omega)]
    split
    · rfl
    · rename_i hne
      rw [mul_inv hp (fun e => hne (hx m i (by omega) hi (by grind)))]; grind
theorem un_other (x : Nat → Fin p) (i j m : Nat) (hj : j < m) (hne : j ≠ i) : ev (un x i m) (x j) = 0 := by
  induction m with
  | zero => omega
  | succ m ih =>
    rw [ev_un]
    by_cases e : j = m
    · subst e; rw [if_neg hne]; grind
    · rw [ih (by omega)]; split <;> grind
theorem un_length (x : Nat → Fin p) (i : Nat) : ∀ m, (un x i m).length ≤ (if i < m then m else m + 1)
  | 0 => by simp [un]
  | m + 1 => by
    have ih := un_length x i m
    rw [un]
    by_cases e : m = i
    · subst e
      rw [if_pos rfl, if_pos (by omega)]
      rw [if_neg (by omega)] at ih; exact ih
    · rw [if_neg e]
      have h1 := trim_length_le (smul (inv (x i - x m)) (trim (mul (un x i m) [-(x m), 1])))
      rw [smul_length] at h1
      have h2 := trim_mul_le (un x i m) [-(x m), 1]
      simp only [List.length_cons, List.length_nil] at h2
      split at ih <;> split <;> omega
/-- The sum of the first m basis polynomials times the values. -/
def lg (x y : Nat → Fin p) (n : Nat) : Nat → List (Fin p)
  | 0 => []
  | m + 1 => trim (add (lg x y n m) (trim (smul (y m) (un x m n))))
theorem ev_lg (x y : Nat → Fin p) (n m : Nat) (z : Fin p) : ev (lg x y n (m + 1)) z = ev (lg x y n m) z + y m * ev (un x m n) z := by
  rw [lg, (trim_co _).ev, ev_add, (trim_co _).ev, ev_smul]
theorem lg_tr (x y : Nat → Fin p) (n m : Nat) : trim (lg x y n m) = lg x y n m := by
  cases m with
  | zero => rfl
  | succ m => rw [lg, trim_trim]
theorem lg_length (x y : Nat → Fin p) (n m : Nat) (hm : m ≤ n) : (lg x y n m).length ≤ n := by
  induction m with
  | zero => simp [lg]
  | succ m ih =>
    have h1 := trim_length_le (add (lg x y n m) (trim (smul (y m) (un x m n))))
    rw [add_length] at h1
    have h2 := trim_length_le (smul (y m) (un x m n))
    rw [smul_length] at h2
    have h3 := un_length x m n
    rw [if_pos (by omega)] at h3
    have := ih (by omega)
    rw [lg]; omega
theorem lg_at (hp : Pr p) (x y : Nat → Fin p) (n : Nat) (hx : ∀ i j, i < n → j < n → x i = x j → i = j) (k : Nat) (hk : k < n) : ∀ m, m ≤ n → ev (lg x y n m) (x k) = if k < m then y k else 0
  | 0, _ => by rw [lg, ev_nil, if_neg (by omega)]
  | m + 1, h => by
    rw [ev_lg, lg_at hp x y n hx k hk m (by omega)]
    by_cases e : k = m
    · subst e; rw [un_self hp x n k hk hx n (Nat.le_refl _), if_neg (by omega), if_pos (by omega)]; grind
    · rw [un_other x m k n hk e]
      by_cases h' : k < m
      · rw [if_pos h', if_pos (by omega)]; grind
      · rw [if_neg h', if_neg (by omega)]; grind
/-- Both ways give the same polynomial. -/
theorem hn_lg (hp : Pr p) (x y : Nat → Fin p) (n : Nat) (hx : ∀ i j, i < n → j < n → x i = x j → i = j) : hn x (fun i => dd x y i i) n n = lg x y n n := by
  have hd : ((List.range n).map x).Nodup := by
    unfold List.Nodup
    rw [List.pairwise_map]
    refine List.Pairwise.imp_of_mem ?_ List.nodup_range
    intro i j hi hj hne e
    exact hne (hx i j (List.mem_range.1 hi) (List.mem_range.1 hj) e)
  have h := unique hp hd (f := hn x (fun i => dd x y i i) n n) (g := lg x y n n) (by rw [hn_tr]; simpa using hn_length x _ n n) (by rw [lg_tr]; simpa using lg_length x y n n (Nat.le_refl _)) (fun z hz => by
    obtain ⟨k, hk, rfl⟩ := List.mem_map.1 hz
    have hk := List.mem_range.1 hk
    rw [hn_at hp x y n hx k hk, lg_at hp x y n hx k hk n (Nat.le_refl _), if_pos hk])
  rw [← hn_tr, ← lg_tr, trim_congr h]
end
end Go.Proofs.Ytjjnfobeeflnhaa.Fld

/- Both ways to lay a polynomial through points tell the same one: what the words tell. -/
namespace Go.Proofs.Ytjjnfobeeflnhaa.L
open Go.RowKit Go.Proofs.YtjjnfobeeflnhaaW.PrintWords Go.Proofs.Ytjjnfobeeflnhaa.J
set_option linter.unusedVariables false
set_option linter.unusedSimpArgs false

section
variable {q : Nat} [NeZero q]
/-- Points of residues. -/
def ptsF (n : Nat) (X Y : Nat → Fin q) : List S86 := (List.range n).map fun i => (⟨nI (X i), nI (Y i)⟩ : S86)
end
section
variable {q : Nat}
theorem ptsF_length (n : Nat) (X Y : Nat → Fin q) : (ptsF n X Y).length = n := by simp [ptsF]
theorem rd_ptsF (n : Nat) (X Y : Nat → Fin q) (i : Nat) (h : i < n) : rd_T86 (ptsF n X Y) (i : Int) = (⟨nI (X i), nI (Y i)⟩ : S86) := by
  simp [rd_T86, ptsF, List.getD_eq_getElem?_getD, h]
end
section
variable {q : Nat} [NeZero q]
theorem mk_co (n : Nat) (F : Nat → Fin q) (i : Nat) (h : i < n) : Fld.co (Fld.mk n F) i = F i := by rw [Fld.co_mk, if_pos h]
end
section
variable {q : Nat}
theorem mk_congr {n : Nat} {F G : Nat → Fin q} (h : ∀ i, i < n → F i = G i) : Fld.mk n F = Fld.mk n G := by
  unfold Fld.mk
  exact List.map_congr_left fun i hi => h i (List.mem_range.1 hi)
theorem mk_set (n : Nat) (F : Nat → Fin q) (i : Nat) (a : Fin q) (hi : i < n) : (Fld.mk n F).set i a = Fld.mk n (fun j => if j = i then a else F j) := by
  apply List.ext_getElem (by simp [Fld.mk])
  intro j h1 h2
  simp only [Fld.mk, List.getElem_set, List.getElem_map, List.getElem_range]
  by_cases h : i = j
  · rw [if_pos h, if_pos h.symm]
  · rw [if_neg h, if_neg (fun e => h e.symm)]

end
section
variable {q : Nat} [NeZero q]
/-! the program's -/
theorem fit_l3 (h1 : 2 < q) (hq : q ≤ 65537) (n : Nat) (hn : n ≤ 1000) (X Y D : Nat → Fin q) (m : Nat) : ∀ i : Nat, i = m → i ≤ n →
    Ev (fun k => poly_Fit.l3 k (q : Int) (ptsF n X Y) (oI (Fld.mk n D)) (oI (Fld.hn X D n (n - i))) ((i : Int) - 1)) (oI (Fld.hn X D n n)) := by
  induction m with
  | zero =>
    intro i hi hle
    subst hi
    rw [Nat.sub_zero]
    have hs := short_fp (Fld.hn X D n n) (by have := Fld.hn_length X D n n; omega)
    rw [Fld.hn_tr] at hs
    refine Ev.step (f := fun k => (poly_Short.f k (oI (Fld.hn X D n n))).bind fun t903 => some t903) (fun k => ?_) (Ev.bind hs (Ev.now _))
    simp only [poly_Fit.l3]
    rw [if_neg (by omega)]
  | succ m ih =>
    intro i hi hle
    subst hi
    have hw : wrap64 ((m : Int) - 1) = (m : Int) - 1 := w64_small (by omega) (by omega)
    have hi1 : ((m + 1 : Nat) : Int) - 1 = (m : Int) := by omega
    have e0 : (0 : Int) = nI (0 : Fin q) := nI_zero.symm
    have hm : field_Minus.f (q : Int) 0 (nI (X m)) = some (nI (-(X m))) := by
      have := minus_fp hq 0 (X m)
      rw [nI_zero] at this
      rw [this, show (0 : Fin q) - X m = -(X m) by grind]
    have e1 : [nI (-(X m)), (1 : Int)] = oI [-(X m), 1] := by rw [oI_cons, oI_cons, nI_one (by omega)]; rfl
    have e2 : [nI (D m)] = oI [D m] := rfl
    have hl := Fld.hn_length X D n (n - (m + 1))
    have hl2 := Fld.trim_mul_le (Fld.hn X D n (n - (m + 1))) [-(X m), 1]
    simp only [List.length_cons, List.length_nil] at hl2
    have hnext : Fld.hn X D n (n - m) = Fld.trim (Fld.add (Fld.trim (Fld.mul (Fld.hn X D n (n - (m + 1))) [-(X m), 1])) [D m]) := by
      have : n - m = n - (m + 1) + 1 := by omega
      rw [this, Fld.hn, show n - (n - (m + 1) + 1) = m by omega]
    have h := ih m rfl (by omega)
    rw [hnext] at h
    refine Ev.step (f := fun k => (poly_Times.f k (q : Int) (oI (Fld.hn X D n (n - (m + 1)))) (oI [-(X m), 1])).bind fun t893 => (poly_Plus.f k (q : Int) t893 (oI [D m])).bind fun t900 => poly_Fit.l3 k (q : Int) (ptsF n X Y) (oI (Fld.mk n D)) t900 ((m : Int) - 1)) (fun k => ?_) (Ev.bind (times_rows hq _ _ (by omega) (by simp)) (Ev.bind (plus_rows hq _ _ (by omega) (by simp)) h))
    conv => lhs; simp only [poly_Fit.l3]
    rw [hi1, if_pos (by omega), if_pos (by omega), if_pos (by rw [ptsF_length]; omega), rd_ptsF n X Y m (by omega)]
    show ((field_Minus.f (q : Int) 0 (nI (X m))).bind _) = _
    rw [hm, Option.bind_some, e1, oI_length, Fld.mk_length]
    simp only [show ((m : Int) < (n : Int)) by omega, if_true, rd_oI, mk_co n D m (by omega), e2, hw]
theorem fit_l2 (h1 : 2 < q) (hq : q ≤ 65537) (n : Nat) (hn : n ≤ 1000) (X Y : Nat → Fin q) (s : Nat) (hs : s + 1 < n) {r : List Int}
    (next : Ev (fun k => poly_Fit.l1 k (q : Int) (ptsF n X Y) (oI (Fld.mk n fun j => Fld.dd X Y (min (s + 1) j) j)) ((s + 2 : Nat) : Int)) r) (m : Nat) : ∀ i : Nat, i = s + m → i < n →
    Ev (fun k => poly_Fit.l2 k (q : Int) (ptsF n X Y) (oI (Fld.mk n fun j => if i < j then Fld.dd X Y (min (s + 1) j) j else Fld.dd X Y (min s j) j)) ((s + 1 : Nat) : Int) (i : Int)) r := by
  induction m with
  | zero =>
    intro i hi hlt
    obtain rfl : i = s := by omega
    have e : (Fld.mk n fun j => if i < j then Fld.dd X Y (min (i + 1) j) j else Fld.dd X Y (min i j) j) = Fld.mk n fun j => Fld.dd X Y (min (i + 1) j) j := mk_congr fun j hj => by
      by_cases h : i < j
      · rw [if_pos h]
      · rw [if_neg h, show min i j = min (i + 1) j by omega]
    rw [e]
    have hw : wrap64 (((i + 1 : Nat) : Int) + 1) = ((i + 2 : Nat) : Int) := by rw [w64_small (by omega) (by omega)]; omega
    refine Ev.step (f := fun k => poly_Fit.l1 k (q : Int) (ptsF n X Y) (oI (Fld.mk n fun j => Fld.dd X Y (min (i + 1) j) j)) ((i + 2 : Nat) : Int)) (fun k => ?_) next
    conv => lhs; simp only [poly_Fit.l2]
    rw [if_neg (by omega), hw]
  | succ m ih =>
    intro i hi hlt
    have hw1 : wrap64 ((i : Int) - ((s + 1 : Nat) : Int)) = ((i - (s + 1) : Nat) : Int) := by rw [w64_small (by omega) (by omega)]; omega
    have hw2 : wrap64 ((i : Int) - 1) = ((i - 1 : Nat) : Int) := by rw [w64_small (by omega) (by omega)]; omega
    have h := ih (i - 1) (by omega) (by omega)
    have e : ((Fld.mk n fun j => if i < j then Fld.dd X Y (min (s + 1) j) j else Fld.dd X Y (min s j) j).set i ((Fld.dd X Y s i - Fld.dd X Y s (i - 1)) * Fld.inv (X i - X (i - (s + 1))))) = Fld.mk n fun j => if i - 1 < j then Fld.dd X Y (min (s + 1) j) j else Fld.dd X Y (min s j) j := by
      rw [mk_set n _ i _ hlt]
      refine mk_congr fun j hj => ?_
      by_cases h' : j = i
      · subst h'
        rw [if_pos rfl, if_pos (by omega), show min (s + 1) j = s + 1 by omega, Fld.dd]
      · rw [if_neg h']
        by_cases h2 : i < j
        · rw [if_pos h2, if_pos (by omega)]
        · rw [if_neg h2, if_neg (by omega)]
    have c1 : Fld.co (Fld.mk n fun j => if i < j then Fld.dd X Y (min (s + 1) j) j else Fld.dd X Y (min s j) j) i = Fld.dd X Y s i := by
      rw [mk_co n _ i hlt, if_neg (by omega), show min s i = s by omega]
    have c2 : Fld.co (Fld.mk n fun j => if i < j then Fld.dd X Y (min (s + 1) j) j else Fld.dd X Y (min s j) j) (i - 1) = Fld.dd X Y s (i - 1) := by
      rw [mk_co n _ (i - 1) (by omega), if_neg (by omega), show min s (i - 1) = s by omega]
    rw [← e] at h
    generalize Fld.mk n (fun j => if i < j then Fld.dd X Y (min (s + 1) j) j else Fld.dd X Y (min s j) j) = d at *
    have hd : d.length = n := by
      have := congrArg List.length e
      rwa [List.length_set, Fld.mk_length] at this
    refine Ev.step (f := fun k => (field_Over.f k (q : Int) (nI (X i - X (i - (s + 1))))).bind fun t885 => (field_Times.f (q : Int) (nI (Fld.dd X Y s i - Fld.dd X Y s (i - 1))) t885).bind fun t886 => poly_Fit.l2 k (q : Int) (ptsF n X Y) ((oI d).set i t886) ((s + 1 : Nat) : Int) ((i - 1 : Nat) : Int)) (fun k => ?_) (Ev.bind (over_fp h1 hq _) ?_)
    · conv => lhs; simp only [poly_Fit.l2]
      rw [if_pos (by omega), if_pos (by omega), if_pos (by rw [ptsF_length]; omega), hw1, if_pos (by omega), if_pos (by rw [ptsF_length]; omega), rd_ptsF n X Y i hlt, rd_ptsF n X Y (i - (s + 1)) (by omega), minus_fp hq, Option.bind_some, oI_length, hd, if_pos (by omega), hw2, if_pos (by omega), if_pos (by omega), rd_oI, rd_oI, c1, c2, minus_fp hq, Option.bind_some, Int.toNat_natCast]
    · rw [times_fp hq]
      refine Ev.bind (Ev.now _) ?_
      rw [oI_set]
      exact h
theorem fit_l1 (h1 : 2 < q) (hq : q ≤ 65537) (n : Nat) (hn : n ≤ 1000) (X Y : Nat → Fin q) (m : Nat) : ∀ s : Nat, s + 1 + m = max n 1 →
    Ev (fun k => poly_Fit.l1 k (q : Int) (ptsF n X Y) (oI (Fld.mk n fun j => Fld.dd X Y (min s j) j)) ((s + 1 : Nat) : Int)) (oI (Fld.hn X (fun i => Fld.dd X Y i i) n n)) := by
  induction m with
  | zero =>
    intro s hs
    have e : (Fld.mk n fun j => Fld.dd X Y (min s j) j) = Fld.mk n fun j => Fld.dd X Y j j := mk_congr fun j hj => by rw [show min s j = j by omega]
    rw [e]
    have hw : wrap64 ((n : Int) - 1) = (n : Int) - 1 := w64_small (by omega) (by omega)
    have h := fit_l3 h1 hq n hn X Y (fun j => Fld.dd X Y j j) n n rfl (Nat.le_refl _)
    rw [Nat.sub_self] at h
    refine Ev.step (f := fun k => poly_Fit.l3 k (q : Int) (ptsF n X Y) (oI (Fld.mk n fun j => Fld.dd X Y j j)) [] ((n : Int) - 1)) (fun k => ?_) h
    conv => lhs; simp only [poly_Fit.l1]
    rw [ptsF_length, if_neg (by omega), hw]
  | succ m ih =>
    intro s hs
    have hw : wrap64 ((n : Int) - 1) = ((n - 1 : Nat) : Int) := by rw [w64_small (by omega) (by omega)]; omega
    have h := fit_l2 h1 hq n hn X Y s (by omega) (ih (s + 1) (by omega)) (n - 1 - s) (n - 1) (by omega) (by omega)
    have e : (Fld.mk n fun j => if n - 1 < j then Fld.dd X Y (min (s + 1) j) j else Fld.dd X Y (min s j) j) = Fld.mk n fun j => Fld.dd X Y (min s j) j := mk_congr fun j hj => by rw [if_neg (by omega)]
    rw [e] at h
    refine Ev.step (f := fun k => poly_Fit.l2 k (q : Int) (ptsF n X Y) (oI (Fld.mk n fun j => Fld.dd X Y (min s j) j)) ((s + 1 : Nat) : Int) ((n - 1 : Nat) : Int)) (fun k => ?_) h
    conv => lhs; simp only [poly_Fit.l1]
    rw [ptsF_length, if_pos (by omega), hw]
theorem fit_l0 (h1 : 2 < q) (hq : q ≤ 65537) (n : Nat) (hn : n ≤ 1000) (X Y : Nat → Fin q) (m : Nat) : ∀ i : Nat, i + m = n →
    Ev (fun k => poly_Fit.l0 k (q : Int) (ptsF n X Y) (oI (fill n i Y)) (ptsF n X Y) (n : Int) (i : Int)) (oI (Fld.hn X (fun i => Fld.dd X Y i i) n n)) := by
  induction m with
  | zero =>
    intro i hi
    obtain rfl : i = n := by omega
    have h := fit_l1 h1 hq i hn X Y (max i 1 - 1) 0 (by omega)
    have e : (Fld.mk i fun j => Fld.dd X Y (min 0 j) j) = Fld.mk i Y := mk_congr fun j hj => by rw [Nat.zero_min, Fld.dd]
    rw [e] at h
    refine Ev.step (f := fun k => poly_Fit.l1 k (q : Int) (ptsF i X Y) (oI (Fld.mk i Y)) ((0 + 1 : Nat) : Int)) (fun k => ?_) h
    conv => lhs; simp only [poly_Fit.l0]
    rw [if_neg (by omega), fill_all]
    rfl
  | succ m ih =>
    intro i hi
    have hw : wrap64 ((i : Int) + 1) = ((i + 1 : Nat) : Int) := by rw [w64_small (by omega) (by omega)]; omega
    refine Ev.step (f := fun k => poly_Fit.l0 k (q : Int) (ptsF n X Y) (oI (fill n (i + 1) Y)) (ptsF n X Y) (n : Int) ((i + 1 : Nat) : Int)) (fun k => ?_) (ih (i + 1) (by omega))
    conv => lhs; simp only [poly_Fit.l0]
    rw [if_pos (by omega), if_pos (by omega), if_pos (by rw [ptsF_length]; omega), if_pos (by rw [oI_length, fill_length]; omega), rd_ptsF n X Y i (by omega), Int.toNat_natCast, oI_set, fill_set, hw]
theorem fit_rows (h1 : 2 < q) (hq : q ≤ 65537) (n : Nat) (hn : n ≤ 1000) (X Y : Nat → Fin q) : Ev (fun k => poly_Fit.f k (q : Int) (ptsF n X Y)) (oI (Fld.hn X (fun i => Fld.dd X Y i i) n n)) := by
  have h := fit_l0 h1 hq n hn X Y n 0 (by omega)
  rw [fill_zero, ← oI_zeros] at h
  refine Ev.congr (fun k => ?_) h
  unfold poly_Fit.f
  rw [ptsF_length, if_pos (by omega), Int.toNat_natCast, if_pos (by omega)]
  rfl

/-! the reference's -/
end
section
variable {q : Nat}
theorem places_loop (n : Nat) (hn : n ≤ 1000) (X Y : Nat → Fin q) (m : Nat) : ∀ i : Nat, i + m = n → Ev (fun k => juntoref02_Places.l0 k (oI (Fld.mk i X)) (ptsF n X Y) (n : Int) (i : Int)) (oI (Fld.mk n X)) := by
  induction m with
  | zero =>
    intro i hi
    obtain rfl : i = n := by omega
    refine Ev.step (f := fun k => some (oI (Fld.mk i X))) (fun k => ?_) (Ev.now _)
    simp only [juntoref02_Places.l0]
    rw [if_neg (by omega)]
  | succ m ih =>
    intro i hi
    have hw : wrap64 ((i : Int) + 1) = ((i + 1 : Nat) : Int) := by rw [w64_small (by omega) (by omega)]; omega
    have h := ih (i + 1) (by omega)
    rw [mk_succ, oI_append] at h
    refine Ev.step (f := fun k => juntoref02_Places.l0 k (oI (Fld.mk i X) ++ oI [X i]) (ptsF n X Y) (n : Int) ((i + 1 : Nat) : Int)) (fun k => ?_) h
    conv => lhs; simp only [juntoref02_Places.l0]
    rw [if_pos (by omega), if_pos (by omega), if_pos (by rw [ptsF_length]; omega), if_pos (by rw [oI_length, Fld.mk_length]; omega), rd_ptsF n X Y i (by omega), hw]
    rfl
theorem places_rows (n : Nat) (hn : n ≤ 1000) (X Y : Nat → Fin q) : Ev (fun k => juntoref02_Places.f k (ptsF n X Y)) (oI (Fld.mk n X)) := by
  refine Ev.congr (fun k => ?_) (places_loop n hn X Y n 0 (by omega))
  unfold juntoref02_Places.f
  rw [ptsF_length]
  rfl
end
section
variable {q : Nat} [NeZero q]
theorem un_short (X : Nat → Fin q) (i m : Nat) : (Fld.un X i m).length ≤ m + 1 := by
  have := Fld.un_length X i m
  split at this <;> omega
theorem unit_loop (h1 : 2 < q) (hq : q ≤ 65537) (n : Nat) (hn : n ≤ 1000) (X : Nat → Fin q) (i : Nat) (hi : i < n) (m : Nat) : ∀ j : Nat, j + m = n →
    Ev (fun k => juntoref02_unit.l0 k (q : Int) (oI (Fld.mk n X)) (i : Int) (oI (Fld.un X i j)) (oI (Fld.mk n X)) (n : Int) (j : Int)) (oI (Fld.un X i n)) := by
  induction m with
  | zero =>
    intro j hj
    obtain rfl : j = n := by omega
    refine Ev.step (f := fun k => some (oI (Fld.un X i j))) (fun k => ?_) (Ev.now _)
    simp only [juntoref02_unit.l0]
    rw [if_neg (by omega)]
  | succ m ih =>
    intro j hj
    have hw : wrap64 ((j : Int) + 1) = ((j + 1 : Nat) : Int) := by rw [w64_small (by omega) (by omega)]; omega
    have h := ih (j + 1) (by omega)
    have hl := un_short X i j
    rw [Fld.un] at h
    by_cases e : j = i
    · rw [if_pos e] at h
      refine Ev.step (f := fun k => juntoref02_unit.l0 k (q : Int) (oI (Fld.mk n X)) (i : Int) (oI (Fld.un X i j)) (oI (Fld.mk n X)) (n : Int) ((j + 1 : Nat) : Int)) (fun k => ?_) h
      conv => lhs; simp only [juntoref02_unit.l0]
      rw [if_pos (by omega), if_pos (by omega), if_pos (by rw [oI_length, Fld.mk_length]; omega), if_pos (by omega), hw]
    · rw [if_neg e] at h
      have hm : juntoref01_Sub.f (q : Int) 0 (nI (X j)) = some (nI (-(X j))) := by
        have := rsub_fp hq 0 (X j)
        rw [nI_zero] at this
        rw [this, show (0 : Fin q) - X j = -(X j) by grind]
      have e1 : [nI (-(X j)), (1 : Int)] = oI [-(X j), 1] := by rw [oI_cons, oI_cons, nI_one (by omega)]; rfl
      have hl2 := Fld.trim_mul_le (Fld.un X i j) [-(X j), 1]
      simp only [List.length_cons, List.length_nil] at hl2
      refine Ev.step (f := fun k => (juntoref02_Mul.f k (q : Int) (oI (Fld.un X i j)) (oI [-(X j), 1])).bind fun t754 => (juntoref01_Inv.f k (q : Int) (nI (X i - X j))).bind fun t759 => (juntoref02_Scale.f k (q : Int) t754 t759).bind fun t760 => juntoref02_unit.l0 k (q : Int) (oI (Fld.mk n X)) (i : Int) t760 (oI (Fld.mk n X)) (n : Int) ((j + 1 : Nat) : Int)) (fun k => ?_) (Ev.bind (rmul_rows hq _ _ (by omega) (by simp)) (Ev.bind (rinv_fp h1 hq _) (Ev.bind (scale_rows hq _ _ (by omega)) h)))
      conv => lhs; simp only [juntoref02_unit.l0]
      rw [if_pos (by omega), if_pos (by omega), if_pos (by rw [oI_length, Fld.mk_length]; omega), if_neg (by omega), rd_oI, rd_oI, mk_co n X j (by omega), mk_co n X i hi, hm, Option.bind_some, e1, hw]
      simp only [show (0 : Int) ≤ (i : Int) by omega, show ((i : Int) < ((oI (Fld.mk n X)).length : Int)) by rw [oI_length, Fld.mk_length]; omega, if_true, rsub_fp hq, Option.bind_some]
theorem unit_rows (h1 : 2 < q) (hq : q ≤ 65537) (n : Nat) (hn : n ≤ 1000) (X : Nat → Fin q) (i : Nat) (hi : i < n) : Ev (fun k => juntoref02_unit.f k (q : Int) (oI (Fld.mk n X)) (i : Int)) (oI (Fld.un X i n)) := by
  refine Ev.congr (fun k => ?_) (unit_loop h1 hq n hn X i hi n 0 (by omega))
  unfold juntoref02_unit.f
  rw [oI_length, Fld.mk_length, Fld.un, oI_cons, nI_one (by omega)]
  rfl
theorem through_loop (h1 : 2 < q) (hq : q ≤ 65537) (n : Nat) (hn : n ≤ 1000) (X Y : Nat → Fin q) (m : Nat) : ∀ i : Nat, i + m = n →
    Ev (fun k => juntoref02_Through.l0 k (q : Int) (ptsF n X Y) (oI (Fld.lg X Y n i)) (ptsF n X Y) (n : Int) (i : Int)) (oI (Fld.lg X Y n n)) := by
  induction m with
  | zero =>
    intro i hi
    obtain rfl : i = n := by omega
    refine Ev.step (f := fun k => some (oI (Fld.lg X Y i i))) (fun k => ?_) (Ev.now _)
    simp only [juntoref02_Through.l0]
    rw [if_neg (by omega)]
  | succ m ih =>
    intro i hi
    have hw : wrap64 ((i : Int) + 1) = ((i + 1 : Nat) : Int) := by rw [w64_small (by omega) (by omega)]; omega
    have h := ih (i + 1) (by omega)
    rw [Fld.lg] at h
    have hl := un_short X i n
    have hl2 := Fld.trim_length_le (Fld.smul (Y i) (Fld.un X i n))
    rw [Fld.smul_length] at hl2
    have hl3 := Fld.lg_length X Y n i (by omega)
    refine Ev.step (f := fun k => (juntoref02_Places.f k (ptsF n X Y)).bind fun t770 => (juntoref02_unit.f k (q : Int) t770 (i : Int)).bind fun t773 => (juntoref02_Scale.f k (q : Int) t773 (nI (Y i))).bind fun t776 => (juntoref02_Add.f k (q : Int) (oI (Fld.lg X Y n i)) t776).bind fun t779 => juntoref02_Through.l0 k (q : Int) (ptsF n X Y) t779 (ptsF n X Y) (n : Int) ((i + 1 : Nat) : Int)) (fun k => ?_) (Ev.bind (places_rows n hn X Y) (Ev.bind (unit_rows h1 hq n hn X i (by omega)) (Ev.bind (scale_rows hq _ _ (by omega)) (Ev.bind (add_rows hq _ _ (by omega) (by omega)) h))))
    conv => lhs; simp only [juntoref02_Through.l0]
    rw [if_pos (by omega), if_pos (by omega), if_pos (by rw [ptsF_length]; omega), rd_ptsF n X Y i (by omega), hw]
theorem through_rows (h1 : 2 < q) (hq : q ≤ 65537) (n : Nat) (hn : n ≤ 1000) (X Y : Nat → Fin q) : Ev (fun k => juntoref02_Through.f k (q : Int) (ptsF n X Y)) (oI (Fld.lg X Y n n)) := by
  refine Ev.congr (fun k => ?_) (through_loop h1 hq n hn X Y n 0 (by omega))
  unfold juntoref02_Through.f
  rw [ptsF_length]
  rfl

/-! shares as points -/
theorem points_loop (y : List (Fin q)) (hn : y.length ≤ 1000) (hq : y.length < q) (m : Nat) : ∀ i : Nat, i + m = y.length → Ev (fun k => juntoref04_Points.l0 k (ptsF i (pt q) (Fld.co y)) (oI y) (y.length : Int) (i : Int)) (ptsF y.length (pt q) (Fld.co y)) := by
  induction m with
  | zero =>
    intro i hi
    obtain rfl : i = y.length := by omega
    refine Ev.step (f := fun k => some (ptsF y.length (pt q) (Fld.co y))) (fun k => ?_) (Ev.now _)
    simp only [juntoref04_Points.l0]
    rw [if_neg (by omega)]
  | succ m ih =>
    intro i hi
    have hw : wrap64 ((i : Int) + 1) = ((i + 1 : Nat) : Int) := by rw [w64_small (by omega) (by omega)]; omega
    have hp : IntKind.u64.wrap ((i + 1 : Nat) : Int) = nI (pt q i) := by rw [u64_small (by omega) (by omega), nI_pt (by omega)]; omega
    have e : ptsF (i + 1) (pt q) (Fld.co y) = ptsF i (pt q) (Fld.co y) ++ [(⟨nI (pt q i), nI (Fld.co y i)⟩ : S86)] := by
      unfold ptsF; rw [List.range_succ]; simp
    have h := ih (i + 1) (by omega)
    rw [e] at h
    refine Ev.step (f := fun k => juntoref04_Points.l0 k (ptsF i (pt q) (Fld.co y) ++ [(⟨nI (pt q i), nI (Fld.co y i)⟩ : S86)]) (oI y) (y.length : Int) ((i + 1 : Nat) : Int)) (fun k => ?_) h
    conv => lhs; simp only [juntoref04_Points.l0]
    rw [if_pos (by omega), if_pos (by omega), if_pos (by rw [oI_length]; omega), if_pos (by rw [ptsF_length]; omega), hw, hp, rd_oI]
theorem ref_points (y : List (Fin q)) (hn : y.length ≤ 1000) (hq : y.length < q) : Ev (fun k => juntoref04_Points.f k (oI y)) (ptsF y.length (pt q) (Fld.co y)) := by
  refine Ev.congr (fun k => ?_) (points_loop y hn hq y.length 0 (by omega))
  unfold juntoref04_Points.f
  rw [oI_length]
  rfl
end
theorem points_eq : ∀ k a b c d, share_Points.l0 k a b c d = juntoref04_Points.l0 k a b c d
  | 0, _, _, _, _ => rfl
  | k + 1, a, b, c, d => by simp only [share_Points.l0, juntoref04_Points.l0, points_eq k]
section
variable {q : Nat} [NeZero q]
theorem share_points (y : List (Fin q)) (hn : y.length ≤ 1000) (hq : y.length < q) : Ev (fun k => share_Points.f k (oI y)) (ptsF y.length (pt q) (Fld.co y)) :=
  Ev.congr (fun k => points_eq _ _ _ _ _) (ref_points y hn hq)
theorem pt_inj {i j : Nat} (hi : i + 1 < q) (hj : j + 1 < q) (h : pt q i = pt q j) : i = j := by
  have h1 := nI_pt hi
  have h2 := nI_pt hj
  rw [h] at h1
  omega
end

end Go.Proofs.Ytjjnfobeeflnhaa.L

/- Division with rest of polynomials over the residues modulo a prime: one step, and that there is but one answer. Plain Lean, no program in sight. -/
namespace Go.Proofs.Ytjjnfobeeflnhaa.Fld
set_option linter.unusedVariables false
set_option linter.unusedSimpArgs false

section
variable {p : Nat} [NeZero p]

theorem div_unique (hp : Pr p) {g Q Q' R R' : List (Fin p)} (hg : trim g ≠ []) (h : Eqv (add (mul Q g) R) (add (mul Q' g) R')) (hR : (trim R).length < (trim g).length) (hR' : (trim R').length < (trim g).length) : Eqv Q Q' ∧ Eqv R R' := by
  have hD : Eqv (mul (sub Q Q') g) (sub R' R) := fun i => by
    have h1 := h i
    rw [co_add, co_add] at h1
    rw [sub_mul Q Q' g i, co_sub, co_sub]
    grind
  by_cases hd : trim (sub Q Q') = []
  · have hQ : Eqv Q Q' := fun i => by
      have : co (sub Q Q') i = 0 := by rw [← trim_co (sub Q Q') i, hd, co_nil]
      rw [co_sub] at this
      grind
    refine ⟨hQ, fun i => ?_⟩
    have h1 := h i
    have h2 := hQ.mul (Eqv.refl g) i
    rw [co_add, co_add, h2] at h1
    grind
  · exfalso
    have h1 := trim_mul_length hp hd hg
    rw [trim_congr hD] at h1
    have h2 := trim_length_of (f := sub R' R) (n := (trim g).length - 1) (fun i hi => by
      rw [co_sub, ← trim_co R' i, ← trim_co R i, co_ge (f := trim R') (by omega), co_ge (f := trim R) (by omega)]; grind)
    have h3 := List.length_pos_iff.2 hd
    have h4 := List.length_pos_iff.2 hg
    omega
end
end Go.Proofs.Ytjjnfobeeflnhaa.Fld

/- Both ways to divide with rest answer alike, and what they answer. -/
namespace Go.Proofs.Ytjjnfobeeflnhaa.L
open Go.RowKit Go.Proofs.YtjjnfobeeflnhaaW.PrintWords Go.Proofs.Ytjjnfobeeflnhaa.J
set_option linter.unusedVariables false
set_option linter.unusedSimpArgs false

theorem pr_of_isP {q : Nat} (h : isP (q : Int) = true) : Fld.Pr q := by
  obtain ⟨h1, h2, h3⟩ := (isP_iff _).1 h
  refine Fld.pr_of_trial (by omega) fun d hd hdd h0 => h3 (d : Int) (by omega) (by exact_mod_cast hdd) (by exact_mod_cast h0)

section
variable {q : Nat} [NeZero q]
/-- What a division with rest answers. -/
def DivOf (f g Q R : List (Fin q)) : Prop := Fld.trim Q = Q ∧ Fld.trim R = R ∧ Fld.Eqv f (Fld.add (Fld.mul Q g) R) ∧ R.length < (Fld.trim g).length ∧ Q.length ≤ f.length
theorem DivOf.unique (hp : Fld.Pr q) {f g Q R Q' R' : List (Fin q)} (hg : Fld.trim g ≠ []) (h : DivOf f g Q R) (h' : DivOf f g Q' R') : Q = Q' ∧ R = R' := by
  obtain ⟨a1, a2, a3, a4, _⟩ := h
  obtain ⟨b1, b2, b3, b4, _⟩ := h'
  obtain ⟨c1, c2⟩ := Fld.div_unique hp hg (a3.symm.trans b3) (by rw [a2]; exact a4) (by rw [b2]; exact b4)
  exact ⟨by rw [← a1, ← b1, Fld.trim_congr c1], by rw [← a2, ← b2, Fld.trim_congr c2]⟩

/-! the program's -/
/-! the reference's -/
end

end Go.Proofs.Ytjjnfobeeflnhaa.L

/- The statement ShareSetups as plain Lean: both tests of a setup and both tests of a list of corrupted parties answer alike. -/
namespace Go.Proofs.Ytjjnfobeeflnhaa.L
open Go.RowKit Go.Proofs.YtjjnfobeeflnhaaW.PrintWords Go.Proofs.Ytjjnfobeeflnhaa.J
set_option linter.unusedVariables false
set_option linter.unusedSimpArgs false

theorem alive04 : Ev (fun k => juntolaw04_alive.f k) true := Ev.of juntolaw04_alive.mono (k := 60) (by decide +kernel)

end Go.Proofs.Ytjjnfobeeflnhaa.L

/- The statement ShareFits as plain Lean. -/
namespace Go.Proofs.Ytjjnfobeeflnhaa.L
open Go.RowKit Go.Proofs.YtjjnfobeeflnhaaW.PrintWords Go.Proofs.Ytjjnfobeeflnhaa.J
set_option linter.unusedVariables false
set_option linter.unusedSimpArgs false

/-- What both tests of a row of shares answer: 0 or 2. -/
def areV (p n : Int) (l : List Int) : Int := if (l.length : Int) = n then belowV p l else 2
theorem belowV_two {p : Int} {l : List Int} (h : belowV p l ≠ 0) : belowV p l = 2 := by
  unfold belowV at h ⊢
  split
  · rename_i h'
    rw [if_pos h'] at h
    exact absurd rfl h
  · rfl
theorem areV_two {p n : Int} {l : List Int} (h : areV p n l ≠ 0) : areV p n l = 2 := by
  unfold areV at h ⊢
  split
  · rename_i h'
    rw [if_pos h'] at h
    exact belowV_two h
  · rfl
theorem share_are_one (p n t : Int) (l : List Int) (hl : l.length ≤ maxLen) : Ev (fun k => share_are.f k p n t [l]) (areV p n l) := by
  have hr : rd_L3 [l] 0 = l := rfl
  have hw : wrap64 (0 + 1) = 1 := w64_small (by omega) (by omega)
  unfold areV
  by_cases hn : (l.length : Int) = n
  · rw [if_pos hn]
    refine Ev.step (f := fun k => (field_Below.f k p l).bind fun t818 => (if t818 = 0 then (share_are.l0 k [l] 1 1 p n t) else (some 2))) (fun k => ?_) (Ev.bind (field_below p l hl) ?_)
    · unfold share_are.f
      show share_are.l0 (k + 1) [l] 1 0 p n t = _
      simp only [share_are.l0]
      rw [if_pos (by omega), if_pos (by omega), if_pos (by simp), hr, if_pos hn, hw]
    · by_cases hb : belowV p l = 0
      · simp only [hb, if_true]
        refine Ev.step (f := fun k => some 0) (fun k => ?_) (Ev.now _)
        simp only [share_are.l0]
        rw [if_neg (by decide)]
      · simp only [hb, if_false]
        rw [belowV_two hb]
        exact Ev.now _
  · rw [if_neg hn]
    refine Ev.step (f := fun k => some 2) (fun k => ?_) (Ev.now _)
    unfold share_are.f
    show share_are.l0 (k + 1) [l] 1 0 p n t = _
    simp only [share_are.l0]
    rw [if_pos (by omega), if_pos (by omega), if_pos (by simp), hr, if_neg hn]
theorem ref_all (p n t : Int) (l : List Int) (hl : l.length ≤ maxLen) : Ev (fun k => juntoref04_All.f k p n t l) (areV p n l) := by
  unfold juntoref04_All.f areV
  by_cases hn : (l.length : Int) = n
  · simp only [hn, if_true]
    exact Ev.bind (ref_within p l hl) (Ev.now _)
  · simp only [hn, if_false]
    exact Ev.now _

theorem fits_bad (p n t d : Int) (l : List Int) (hl : l.length ≤ maxLen) (h : setupV p n t ≠ 0 ∨ d < 0 ∨ areV p n l ≠ 0) : Ev (fun k => share_Fits.f k p n t d l) (false, 2) := by
  have stop : Ev (fun k => share_Fits.j0 k d l true p n t) (false, 2) := Ev.step (f := fun k => some (false, 2)) (fun k => by simp [share_Fits.j0]) (Ev.now _)
  unfold share_Fits.f
  refine Ev.bind (share_setup p n t) ?_
  by_cases h0 : setupV p n t = 0
  · simp only [h0, if_true]
    by_cases hd : d < 0
    · simp only [hd, if_true]
      exact stop
    · simp only [hd, if_false]
      have ha : areV p n l ≠ 0 := by
        rcases h with h | h | h
        · exact absurd h0 h
        · exact absurd h hd
        · exact h
      refine Ev.bind (share_are_one p n t l hl) ?_
      rw [areV_two ha]
      exact stop
  · simp only [h0, if_false]
    rw [setupV_two h0]
    exact Ev.now _
theorem lawfits_bad (p n t d e : Int) (l : List Int) (h : e ≠ 0) : Ev (fun k => juntolaw04_ShareFits.j1 k d l false e e p n t) true := by
  refine Ev.step (f := fun k => (juntolaw04_alive.f k).bind fun t942 => (some t942)) (fun k => ?_) (Ev.bind alive04 (Ev.now _))
  simp only [juntolaw04_ShareFits.j1]
  simp only [h, Bool.false_eq_true, if_false, if_true]

theorem shareFits (x0_0 : Int) (x0_1 : Int) (x0_2 : Int) (x1 : Int) (x2 : List Int) (w0_0 : (Lit.int .u64 x0_0).wf = true) (w0_1 : (Lit.int .i64 x0_1).wf = true) (w0_2 : (Lit.int .i64 x0_2).wf = true) (w1 : (Lit.int .i64 x1).wf = true)
    (w2 : x2.length ≤ maxLen ∧ x2.length * 8 ≤ 140737488351232 ∧ ∀ x2' ∈ x2, (Lit.int .u64 x2').wf = true) : ∃ k, juntolaw04_ShareFits.f k x0_0 x0_1 x0_2 x1 x2 = some true := by
  suffices h : Ev (fun k => juntolaw04_ShareFits.f k x0_0 x0_1 x0_2 x1 x2) true from h.rounds
  have hu : ∀ c ∈ x2, 0 ≤ c := fun c hc => (u64_wf (w2.2.2 c hc)).1
  have hd64 := i64_wf w1
  unfold juntolaw04_ShareFits.f
  by_cases h0 : setupV x0_0 x0_1 x0_2 = 0
  · have hh := setupV_small h0
    by_cases hd : x1 < 0
    · refine Ev.bind (fits_bad _ _ _ _ _ w2.1 (.inr (.inl hd))) (Ev.bind (ref_setup _ _ _) ?_)
      simp only [h0, hd, if_true]
      exact Ev.step (f := fun k => juntolaw04_ShareFits.j1 k x1 x2 false 2 2 x0_0 x0_1 x0_2) (fun k => by simp [juntolaw04_ShareFits.j0]) (lawfits_bad _ _ _ _ _ _ (by decide))
    · by_cases ha : areV x0_0 x0_1 x2 = 0
      · have hp1 := (setupV_ok h0).1
        obtain ⟨q, rfl⟩ : ∃ q : Nat, x0_0 = (q : Int) := ⟨x0_0.toNat, by omega⟩
        have hz : NeZero q := ⟨by omega⟩
        have hq : q ≤ 65537 := by omega
        have h2 : 2 < q := by omega
        have hp := pr_of_isP hp1
        have hlen : (x2.length : Int) = x0_1 := by
          unfold areV at ha
          split at ha
          · assumption
          · cases ha
        have hbel : belowV (q : Int) x2 = 0 := by
          unfold areV at ha
          rwa [if_pos hlen] at ha
        obtain ⟨y, rfl⟩ := oI_of (q := q) (l := x2) (fun c hc => ⟨hu c hc, belowV_zero hbel c hc⟩)
        rw [oI_length] at hlen
        subst hlen
        have heq : Fld.hn (pt q) (fun i => Fld.dd (pt q) (Fld.co y) i i) y.length y.length = Fld.lg (pt q) (Fld.co y) y.length y.length := Fld.hn_lg hp _ _ _ (fun i j hi hj h => pt_inj (by omega) (by omega) h)
        have hll := Fld.lg_length (pt q) (Fld.co y) y.length y.length (Nat.le_refl _)
        obtain ⟨L, hL⟩ : ∃ L, Aside0 (L = Fld.lg (pt q) (Fld.co y) y.length y.length) := ⟨_, ⟨rfl⟩⟩
        rw [← hL.out] at heq hll
        have fit := fit_rows h2 hq y.length (by omega) (pt q) (Fld.co y)
        rw [heq] at fit
        have thr := through_rows h2 hq y.length (by omega) (pt q) (Fld.co y)
        rw [← hL.out] at thr
        clear heq
        have fits : Ev (fun k => share_Fits.f k (q : Int) (y.length : Int) x0_2 x1 (oI y)) (if x1 ≥ (y.length : Int) then true else decide ((L.length : Int) ≤ wrap64 (x1 + 1)), 0) := by
          unfold share_Fits.f
          refine Ev.bind (share_setup _ _ _) ?_
          simp only [h0, hd, if_true, if_false]
          refine Ev.bind (share_are_one _ _ _ _ w2.1) ?_
          rw [ha]
          by_cases hg : x1 ≥ (y.length : Int)
          · rw [if_pos hg]
            refine Ev.step (f := fun k => some (true, 0)) (fun k => ?_) (Ev.now _)
            simp [share_Fits.j0, hg]
          · rw [if_neg hg]
            refine Ev.step (f := fun k => (share_Points.f k (oI y)).bind fun t916 => ((poly_Fit.f k (q : Int) t916).bind fun t919 => (some (decide ((t919.length : Int) ≤ (wrap64 (x1 + 1))), 0)))) (fun k => ?_) (Ev.bind (share_points y (by omega) (by omega)) (Ev.bind fit ?_))
            · simp only [share_Fits.j0]
              rw [if_neg (by decide), if_neg hg]
            · rw [oI_length]
              exact Ev.now _
        refine Ev.bind fits (Ev.bind (ref_setup _ _ _) ?_)
        simp only [h0, hd, if_true, if_false]
        refine Ev.bind (ref_all _ _ _ _ w2.1) ?_
        rw [ha]
        obtain ⟨b, hb⟩ : ∃ b, Aside0 (b = (if x1 ≥ (y.length : Int) then true else decide ((L.length : Int) ≤ wrap64 (x1 + 1)))) := ⟨_, ⟨rfl⟩⟩
        have hsame : decide ((L.length : Int) ≤ wrap64 (mn x1 (y.length : Int) + 1)) = b := by
          rw [hb.out]
          by_cases hg : x1 ≥ (y.length : Int)
          · have e : mn x1 (y.length : Int) = (y.length : Int) := by unfold mn; split <;> omega
            rw [if_pos hg, e, w64_small (by omega) (by omega), decide_eq_true (by omega)]
          · have e : mn x1 (y.length : Int) = x1 := by unfold mn; split <;> omega
            rw [if_neg hg, e]
        rw [← hb.out]
        refine Ev.step (f := fun k => juntolaw04_ShareFits.j1 k x1 (oI y) b 0 0 (q : Int) (y.length : Int) x0_2) (fun k => by simp [juntolaw04_ShareFits.j0]) ?_
        refine Ev.step (f := fun k => (juntoref04_Points.f k (oI y)).bind fun t934 => ((juntoref04_Line.f k (q : Int) (mn x1 (y.length : Int)) t934).bind fun bt937 => (if (b == bt937.2) = true then ((juntolaw04_alive.f k).bind fun t941 => (some t941)) else (some false)))) (fun k => by simp only [juntolaw04_ShareFits.j1, if_true]) ?_
        refine Ev.bind (ref_points y (by omega) (by omega)) ?_
        have line : Ev (fun k => juntoref04_Line.f k (q : Int) (mn x1 (y.length : Int)) (ptsF y.length (pt q) (Fld.co y))) (oI L, b) := by
          unfold juntoref04_Line.f
          refine Ev.bind thr ?_
          rw [oI_length, hsame]
          exact Ev.now _
        refine Ev.bind line ?_
        simp only [beq_self_eq_true, if_true]
        exact Ev.bind alive04 (Ev.now _)
      · refine Ev.bind (fits_bad _ _ _ _ _ w2.1 (.inr (.inr ha))) (Ev.bind (ref_setup _ _ _) ?_)
        simp only [h0, hd, if_true, if_false]
        refine Ev.bind (ref_all _ _ _ _ w2.1) ?_
        rw [areV_two ha]
        exact Ev.step (f := fun k => juntolaw04_ShareFits.j1 k x1 x2 false 2 2 x0_0 x0_1 x0_2) (fun k => by simp [juntolaw04_ShareFits.j0]) (lawfits_bad _ _ _ _ _ _ (by decide))
  · refine Ev.bind (fits_bad _ _ _ _ _ w2.1 (.inl h0)) (Ev.bind (ref_setup _ _ _) ?_)
    simp only [h0, if_false]
    rw [setupV_two h0]
    exact Ev.step (f := fun k => juntolaw04_ShareFits.j1 k x1 x2 false 2 2 x0_0 x0_1 x0_2) (fun k => by simp [juntolaw04_ShareFits.j0]) (lawfits_bad _ _ _ _ _ _ (by decide))

end Go.Proofs.Ytjjnfobeeflnhaa.L

/- The row of ShareFits: for every input the call returns true and changes nothing; no conditions. Out of the contract of the function and the plain law. -/
namespace Go.Proofs.Ytjjnfobeeflnhaa.shareFits
open Go.ChangeShapes Go.WideShapes Go.ChangeAt Go.RowKit Go.Proofs.YtjjnfobeeflnhaaW.PrintWords Go.Proofs.Ytjjnfobeeflnhaa.J Go.Proofs.Ytjjnfobeeflnhaa.Op
set_option linter.unusedVariables false
theorem own : ownKnob Try.prog.godebug = none := by kernel_rfl
theorem laidOut : laidOutB Try.prog = true := by kernel_rfl
set_option maxRecDepth 100000 in
theorem op0 : Opens Try.prog (Kd.pair (Kd.int .u64) (Kd.pair (Kd.int .i64) (Kd.int .i64))) 24 (fun x => (fun n => (Lit.int .u64 n).wf = true) x.1 ∧ (fun x => (fun n => (Lit.int .i64 n).wf = true) x.1 ∧ (fun n => (Lit.int .i64 n).wf = true) x.2) x.2) := (op_agg Try.underlying24 (opL_cons (by kernel_rfl) (by kernel_rfl) (op_int Try.underlying22) (by kernel_rfl) (opL_cons (by kernel_rfl) (by kernel_rfl) (op_int Try.underlying3) (by kernel_rfl) (opL_one (by kernel_rfl) (by kernel_rfl) (op_int Try.underlying3)))))
set_option maxRecDepth 100000 in
theorem op1 : Opens Try.prog (Kd.int .i64) 3 (fun n => (Lit.int .i64 n).wf = true) := (op_int Try.underlying3)
set_option maxRecDepth 100000 in
theorem op2 : Opens Try.prog (Kd.slice 22 (Kd.int .u64)) 31 (fun l => l.length ≤ maxLen ∧ l.length * 8 ≤ 140737488351232 ∧ ∀ a ∈ l, (fun n => (Lit.int .u64 n).wf = true) a) := (op_slice Try.underlying31 (by kernel_rfl) (by kernel_rfl) (op_int Try.underlying22))
set_option maxRecDepth 100000 in
theorem lifted (os : Os) (started : os.Started) (H : Type) (enc : TypeId × Value → H) :
    ReturnsInHanded {} Try.checked os 18 .any (Rows.shareFitsSpec.pre6 enc Try.prog Try.f18 Rows.shareFitsRow.domain false) (Rows.shareFitsSpec.post enc Try.prog Try.f18 false true false false) := by
  refine returnsInHanded_of_change_sized (C := Try.checked) own started (by kernel_rfl) Try.func18
    (ChangeSpec.witness6 (enc := enc) (C := Try.checked) false ⟨#[], #[.agg #[.int .u64 0, .int .i64 0, .int .i64 0], .int .i64 0, .slice none 0 0], []⟩ 8 (by kernel_rfl) (by kernel_rfl) (by kernel_rfl) (by kernel_rfl)) ?_
  intro W base args ds gs before hval0 hW hcnd hsz0 _
  have hsz : (DataW.weightsEach Try.prog (Try.f18.params.toList ++ Rows.shareFitsSpec.plain.varTypes Try.prog) (ds ++ gs)).all (· ≤ reachBytes) = true := hsz0
  have hval : ∀ (j : Nat) t v, Try.f18.params[j]? = some t → args[j]? = some v → Value.okWide Try.prog W .any base t v := hval0
  have hW' := hW
  obtain ⟨p, q, hA0, hV, rfl, hfz, hnd⟩ := hW
  have hA : DataW.TrodAll enc Try.prog W 0 (fun _ => true) true Try.f18.params.toList args.toList ds p := hA0
  rw [Try.params18] at hA hval hsz
  obtain ⟨v0, vs0, d0, ds0, p0, q0, hargs, rfl, rfl, h0, r0⟩ := trodAll_cons hA
  obtain ⟨v1, vs1, d1, ds1, p1, q1, rfl, rfl, rfl, h1, r1⟩ := trodAll_cons r0
  obtain ⟨v2, vs2, d2, ds2, p2, q2, rfl, rfl, rfl, h2, r2⟩ := trodAll_cons r1
  obtain ⟨rfl, rfl, rfl⟩ := trodAll_nil r2
  obtain rfl : args = #[v0, v1, v2] := by cases args; simp_all
  obtain ⟨rfl, rfl⟩ := trodVars_none hV
  have k0 := h0
  have lt0 : ∀ x ∈ p0, x.block < W.heap.size := by obtain ⟨m, hm⟩ := k0; exact DataW.trod_lt m _ _ _ hm
  obtain ⟨cs0, rfl, hn0⟩ := okWide_agg Try.underlying24 (hval 0 24 v0 rfl rfl)
  obtain ⟨⟨x0_0, x0_1, x0_2⟩, K0, ⟨w0_0, w0_1, w0_2⟩⟩ := arg op0 (by show cs0.toList.length = _; rw [Array.length_toList, hn0]; kernel_rfl) h0 hsz (j := 0) rfl rfl
  obtain ⟨g0_0, rg0_0, qg0_0, l0_0, M0_0⟩ := K0
  have l0_0' : g0_0 = [Value.int .u64 x0_0] := l0_0
  obtain ⟨g0_1, rg0_1, qg0_1, l0_1, M0_1⟩ := M0_0
  have l0_1' : g0_1 = [Value.int .i64 x0_1] := l0_1
  have M0_1' : rg0_1 = [Value.int .i64 x0_2] := M0_1
  obtain rfl : cs0 = #[.int .u64 x0_0, .int .i64 x0_1, .int .i64 x0_2] := by
    apply Array.toList_inj.1
    have z0 : cs0.toList = _ := qg0_0
    rw [z0, l0_0', qg0_1, l0_1', M0_1']
    rfl
  have k1 := h1
  have lt1 : ∀ x ∈ p1, x.block < W.heap.size := by obtain ⟨m, hm⟩ := k1; exact DataW.trod_lt m _ _ _ hm
  obtain ⟨x1, rfl⟩ := okWide_int Try.underlying3 (hval 1 3 v1 rfl rfl)
  obtain ⟨y1, e1, w1⟩ := arg op1 rfl h1 hsz (j := 1) rfl rfl
  have e1' : [Value.int .i64 x1] = [Value.int .i64 y1] := e1
  obtain rfl : x1 = y1 := by simpa using e1'
  have k2 := h2
  have lt2 : ∀ x ∈ p2, x.block < W.heap.size := by obtain ⟨m, hm⟩ := k2; exact DataW.trod_lt m _ _ _ hm
  obtain ⟨a2, len2, cap2, rfl⟩ := okWide_slice Try.underlying31 (hval 2 31 v2 rfl rfl)
  obtain ⟨x2, ⟨A2, c2, e2, hc2, hr2⟩, w2⟩ := arg op2 rfl h2 hsz (j := 2) rfl rfl
  have e2' : [Value.slice a2 len2 cap2] = [Value.slice A2 x2.length c2] := e2
  obtain ⟨rfl, rfl, rfl⟩ : a2 = A2 ∧ len2 = x2.length ∧ cap2 = c2 := by simpa using e2'
  clear hA0 hval0 hsz0 hsz
  obtain ⟨k, h⟩ := L.shareFits x0_0 x0_1 x0_2 x1 x2 w0_0 w0_1 w0_2 w1 w2
  refine (juntolaw04_ShareFits.calls k x0_0 x0_1 x0_2 x1 _ _ x2 true W hr2 hc2 h).mono fun e W' ⟨he, bel⟩ => ?_
  subst he
  exact ⟨_, rfl, _, _, _, [], _, [], hW', trodAll_mk1 (shut_bool Try.underlying4 _), (trodAll_cons_mk (Below.trod laidOut (by kernel_rfl) (of_decide_eq_true (by kernel_rfl)) k0 bel lt0) (trodAll_cons_mk (Below.trod laidOut (by kernel_rfl) (of_decide_eq_true (by kernel_rfl)) k1 bel lt1) (trodAll_cons_mk (Below.trod laidOut (by kernel_rfl) (of_decide_eq_true (by kernel_rfl)) k2 bel lt2) trodAll_mk0))), rfl, bel.frame _, fun h => by cases h⟩
set_option maxRecDepth 100000 in
theorem closed : joinedFacts Try.pinned.checked.prog 18 Try.f18 Rows.shareFitsSpec Rows.shareFitsRow = true := by
  unfold joinedFacts
  repeat' with_reducible refine Bool.and_eq_true_iff.2 ⟨?_, ?_⟩
  all_goals first
    | with_reducible exact Facts.enters
    | (rw [Facts.final]; kernel_rfl)
    | (rw [Facts.made]; kernel_rfl)
    | kernel_rfl
theorem over : Rows.shareFitsRow.holds Try.pinned (OpenSpec.ofChange Rows.shareFitsSpec) :=
  OpenClaim.holds_of_wide 18 Try.f18 rfl rfl rfl rfl rfl rfl rfl ⟨rfl, rfl, rfl, rfl, rfl⟩ rfl rfl rfl rfl rfl (by kernel_rfl) Try.func18 closed
    (of_decide_eq_true (by kernel_rfl)) (by unfold Func.isWrapper; first | (rw [if_pos (by decide +kernel)]; kernel_rfl) | (rw [if_neg (by decide +kernel)]; exact ⟨rfl, rfl⟩))
    (fun os started H enc _ => lifted os started H enc)
theorem proved : Rows.ShareFitsSaid := over
#print axioms proved
end Go.Proofs.Ytjjnfobeeflnhaa.shareFits
namespace Go.Proofs.Ytjjnfobeeflnhaa
/-- The row, under a short name, for the claim. -/
theorem shareFits_holds : Rows.ShareFitsSaid := shareFits.proved
end Go.Proofs.Ytjjnfobeeflnhaa
