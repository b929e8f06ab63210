/- Part 6 of the proof of TuneSame: what the functions compute as plain Lean functions, that the machine comes to just these answers, and that the answer is true; no conditions. -/
import Derived.Test.YtmlbliggbkfjnaaTuneSameZ0
import Derived.Test.YtmlbliggbkfjnaaTuneSameZ1
import Derived.Test.YtmlbliggbkfjnaaTuneSameZ2
import Derived.Test.YtmlbliggbkfjnaaTuneSameZ3
import Derived.Test.YtmlbliggbkfjnaaTuneSameZ4
import Derived.Test.YtmlbliggbkfjnaaTuneSameZ5
import Derived.Test.YtmlbliggbkfjnaaRows
import Derived.WalkKit
import Derived.ProofKit
import Derived.OpenShut
import Derived.ShutString
import Derived.ChangeOld
import Derived.Below
import Derived.SizedLaws
set_option linter.unusedSimpArgs false
set_option linter.unusedVariables false
set_option maxRecDepth 100000
/- Gates that nobody asks for; levels. -/
namespace Go.Proofs.Ytmlbliggbkfjnaa.L
open Go.RowKit Go.Proofs.YtmlbliggbkfjnaaW.PrintWords Go.Proofs.Ytmlbliggbkfjnaa.J
def atB (l : List Bool) (i : Int) : Bool := l.getD i.toNat false
theorem atB_set {l : List Bool} {x : Int} (x0 : 0 ≤ x) (x1 : x < l.length) {i : Int} (i0 : 0 ≤ i) : atB (l.set x.toNat true) i = true ↔ atB l i = true ∨ i = x := by
  unfold atB;rw [List.getD_eq_getElem?_getD, List.getD_eq_getElem?_getD, List.getElem?_set]
  by_cases e : i = x
  · subst e
    rw [if_pos rfl, if_pos (by omega)];simp
  · rw [if_neg (by omega)]
    simp [e]
def mkStep (gs : List S61) (a : List Bool) (i : Nat) : List Bool :=
  if atB a i = true ∧ (atG gs i).f0 ≠ 1 ∧ (atG gs i).f0 ≠ 2 then
    (if (atG gs i).f0 = 6 then a.set (atG gs i).f1.toNat true else (a.set (atG gs i).f1.toNat true).set (atG gs i).f2.toNat true)
  else a
def mkM (gs : List S61) : Nat → List Bool → List Bool
  | 0, a => a
  | m + 1, a => mkM gs m (mkStep gs a m)
theorem mkStep_len (gs : List S61) (a : List Bool) (i : Nat) : (mkStep gs a i).length = a.length := by
  unfold mkStep
  split
  · split <;> simp
  · rfl
theorem mkM_len (gs : List S61) : ∀ (m : Nat) (a : List Bool), (mkM gs m a).length = a.length
  | 0, a => rfl
  | m + 1, a => by unfold mkM; rw [mkM_len gs m, mkStep_len]
inductive Live (gs : List S61) (N0 : Int → Prop) : Int → Prop
  | base (x : Int) : N0 x → Live gs N0 x
  | use (i x : Int) : Live gs N0 i → 0 ≤ i → i < gs.length → uses (atG gs i) x → Live gs N0 x
theorem mkStep_iff {p s : Int} {gs : List S61} (hok : okL p s gs) {a : List Bool} (ha : a.length = gs.length) {m : Nat} (hm : m < gs.length) {x : Int} (x0 : 0 ≤ x) :
    atB (mkStep gs a m) x = true ↔ atB a x = true ∨ (atB a m = true ∧ uses (atG gs m) x) := by
  have hg := okL_at hok (i := m) (by omega) (by omega);unfold mkStep
  split
  · rename_i c
    obtain ⟨c1, c2, c3⟩ := c;obtain ⟨o1, o2, o3⟩ := okG_ops hg c2 c3
    split
    · rename_i c6
      rw [atB_set o1 (by omega) x0]
      constructor
      · rintro (h | rfl)
        · exact .inl h
        · exact .inr ⟨c1, c2, c3, .inl rfl⟩
      · rintro (h | ⟨_, _, _, h | ⟨h6, _⟩⟩)
        · exact .inl h
        · exact .inr h
        · exact absurd c6 h6
    · rename_i c6
      obtain ⟨o3, o4⟩ := o3 c6;rw [atB_set o3 (by simp; omega) x0, atB_set o1 (by omega) x0]
      constructor
      · rintro ((h | rfl) | rfl)
        · exact .inl h
        · exact .inr ⟨c1, c2, c3, .inl rfl⟩
        · exact .inr ⟨c1, c2, c3, .inr ⟨c6, rfl⟩⟩
      · rintro (h | ⟨_, _, _, h | ⟨_, h⟩⟩)
        · exact .inl (.inl h)
        · exact .inl (.inr h)
        · exact .inr h
  · rename_i c
    constructor
    · exact .inl
    · rintro (h | ⟨h1, h2, h3, _⟩)
      · exact h
      · exact absurd ⟨h1, h2, h3⟩ c
theorem mkM_live {p s : Int} {gs : List S61} (hok : okL p s gs) {N0 : Int → Prop} (h0 : ∀ x, N0 x → 0 ≤ x ∧ x < gs.length) : ∀ (m : Nat) (a : List Bool), m ≤ gs.length → a.length = gs.length →
    (∀ x, 0 ≤ x → atB a x = true → Live gs N0 x) → (∀ x, N0 x → atB a x = true) → (∀ i : Int, m ≤ i → i < gs.length → atB a i = true → ∀ x, uses (atG gs i) x → atB a x = true) →
    ∀ x, 0 ≤ x → (atB (mkM gs m a) x = true ↔ Live gs N0 x)
  | 0, a, _, ha, h1, h2, h3 => by
    intro x x0
    constructor
    · exact h1 x x0
    · intro hl
      clear x0
      have : 0 ≤ x ∧ atB a x = true := by
        induction hl with
        | base x hx => exact ⟨(h0 x hx).1, h2 x hx⟩
        | use i x _ i0 i1 hu ih => exact ⟨(uses_lt (okL_at hok i0 i1) hu).1, h3 i (by omega) i1 ih.2 x hu⟩
      exact this.2
  | m + 1, a, hm, ha, h1, h2, h3 => by
    unfold mkM
    have hs := fun {x : Int} x0 => mkStep_iff hok ha (m := m) (by omega) (x := x) x0
    refine mkM_live hok h0 m _ (by omega) (by rw [mkStep_len]; exact ha) ?_ ?_ ?_
    · intro x x0 hx
      rcases (hs x0).1 hx with h | ⟨h, hu⟩
      · exact h1 x x0 h
      · exact .use m x (h1 m (by omega) h) (by omega) (by omega) hu
    · intro x hx
      exact (hs (h0 x hx).1).2 (.inl (h2 x hx))
    · intro i i0 i1 hi x hu
      have hux := uses_lt (okL_at hok (by omega) i1) hu
      by_cases e : i = m
      · subst e
        have : atB a m = true := by
          rcases (hs (by omega)).1 hi with h | ⟨h, _⟩
          · exact h
          · exact h
        exact (hs hux.1).2 (.inr ⟨this, hu⟩)
      · have : atB a i = true := by
          rcases (hs (by omega)).1 hi with h | ⟨h, hu'⟩
          · exact h
          · have := uses_lt (okL_at hok (by omega) (by omega)) hu'
            omega
        exact (hs hux.1).2 (.inl (h3 i (by omega) i1 this x hu))
def prStep (a : List Bool) (st : List S61 × List Int) (g : S61) : List S61 × List Int :=
  if atB a st.2.length = true then (st.1 ++ [rnf (atI st.2) g], st.2 ++ [(st.1.length : Int)]) else (st.1, st.2 ++ [0])
def prL (a : List Bool) (gs : List S61) : List S61 × List Int := gs.foldl (prStep a) ([], [])
theorem prL_snoc (a : List Bool) (gs : List S61) (g : S61) : prL a (gs ++ [g]) = prStep a (prL a gs) g := by simp [prL, List.foldl_append]
theorem prL_len (a : List Bool) (gs : List S61) : (prL a gs).2.length = gs.length := by
  refine snoc_ind (P := fun gs => (prL a gs).2.length = gs.length) rfl (fun gs g ih => ?_) gs;rw [prL_snoc]; unfold prStep; split <;> simp [ih]
theorem prL_shr {p s : Int} {a : List Bool} (gs : List S61) : okL p s gs → (∀ i : Int, 0 ≤ i → i < gs.length → atB a i = true → ∀ x, uses (atG gs i) x → atB a x = true) →
    Shr p s gs (prL a gs).1 (atI (prL a gs).2) (fun i => atB a i = true) := by
  refine snoc_ind (P := fun gs => okL p s gs → (∀ i : Int, 0 ≤ i → i < gs.length → atB a i = true → ∀ x, uses (atG gs i) x → atB a x = true) → Shr p s gs (prL a gs).1 (atI (prL a gs).2) (fun i => atB a i = true)) (fun _ _ => Shr.nil p s _ _) (fun gs g ih h hc => ?_) gs;obtain ⟨h1, h2⟩ := okL_cut h;have hlen := prL_len a gs
  have ht : ∀ (k x : Int), 0 ≤ x → x < gs.length → atI ((prL a gs).2 ++ [k]) x = atI (prL a gs).2 x := fun k x x0 x1 => atI_left (by omega) x0
  have hk : ∀ k : Int, atI ((prL a gs).2 ++ [k]) gs.length = k := fun k => by rw [← hlen]; exact atI_last _ _
  have hc1 : ∀ i : Int, 0 ≤ i → i < gs.length → atB a i = true → ∀ x, uses (atG gs i) x → atB a x = true := fun i i0 i1 hi x hu => hc i i0 (by simp; omega) hi x (by rw [atG_left i1 i0]; exact hu)
  rw [prL_snoc];unfold prStep;rw [hlen]
  split
  · rename_i e
    refine (ih h1 hc1).stay h2 (ht _) (hk _) (fun x hu => hc gs.length (by omega) (by simp; omega) e x ?_) e;rw [atG_last]; exact hu
  · rename_i e
    exact (ih h1 hc1).other h2 (ht _) fun he => absurd he e
end Go.Proofs.Ytmlbliggbkfjnaa.L
/- The program's way to leave out gates that are alike comes to the reference's. -/
namespace Go.Proofs.Ytmlbliggbkfjnaa.L
open Go.RowKit Go.Proofs.YtmlbliggbkfjnaaW.PrintWords Go.Proofs.Ytmlbliggbkfjnaa.J
def canon (g : S61) : S61 := if (g.f0 = 3 ∨ g.f0 = 5) ∧ g.f1 > g.f2 then ⟨g.f0, g.f2, g.f1, g.f3⟩ else g
def findM (g : S61) : List (S61 × Int) → Option Int
  | [] => none
  | x :: M => if g = x.1 then some x.2 else findM g M
def atM (M : List (S61 × Int)) (i : Int) : S61 × Int := M.getD i.toNat (⟨0, 0, 0, 0⟩, 0)
def spStep (st : List Int × List (S61 × Int)) (g : S61) : List Int × List (S61 × Int) :=
  match findM (canon (rnf (atI st.1) g)) st.2 with
  | some k => (st.1 ++ [k], st.2)
  | none => (st.1 ++ [(st.1.length : Int)], st.2 ++ [(canon (rnf (atI st.1) g), (st.1.length : Int))])
def spL (gs : List S61) : List Int × List (S61 × Int) := gs.foldl spStep ([], [])
theorem spL_snoc (gs : List S61) (g : S61) : spL (gs ++ [g]) = spStep (spL gs) g := by simp [spL, List.foldl_append]
theorem spL_len (gs : List S61) : (spL gs).1.length = gs.length := by
  refine snoc_ind (P := fun gs => (spL gs).1.length = gs.length) rfl (fun gs g ih => ?_) gs;rw [spL_snoc]; unfold spStep; split <;> simp [ih]
def mvStep (st : Int → Bool) (t : Int → Int) (z : List S61 × List Int) (g : S61) : List S61 × List Int :=
  if st z.2.length = true then (z.1 ++ [rnf (fun x => atI z.2 (t x)) g], z.2 ++ [(z.1.length : Int)]) else (z.1, z.2 ++ [0])
def mvL (st : Int → Bool) (t : Int → Int) (gs : List S61) : List S61 × List Int := gs.foldl (mvStep st t) ([], [])
theorem mvL_snoc (st : Int → Bool) (t : Int → Int) (gs : List S61) (g : S61) : mvL st t (gs ++ [g]) = mvStep st t (mvL st t gs) g := by simp [mvL, List.foldl_append]
theorem mvL_len (st : Int → Bool) (t : Int → Int) (gs : List S61) : (mvL st t gs).2.length = gs.length := by
  refine snoc_ind (P := fun gs => (mvL st t gs).2.length = gs.length) rfl (fun gs g ih => ?_) gs;rw [mvL_snoc]; unfold mvStep; split <;> simp [ih]
theorem mvL_congr {p s : Int} {st st' : Int → Bool} {t t' : Int → Int} (gs : List S61) : okL p s gs → (∀ x : Int, 0 ≤ x → x < gs.length → st x = st' x ∧ t x = t' x) → mvL st t gs = mvL st' t' gs := by
  refine snoc_ind (P := fun gs => okL p s gs → (∀ x : Int, 0 ≤ x → x < gs.length → st x = st' x ∧ t x = t' x) → mvL st t gs = mvL st' t' gs) (fun _ _ => rfl) (fun gs g ih h e => ?_) gs;obtain ⟨h1, h2⟩ := okL_cut h;rw [mvL_snoc, mvL_snoc, ih h1 fun x x0 x1 => e x x0 (by simp; omega)];unfold mvStep;rw [mvL_len, (e gs.length (by omega) (by simp; omega)).1];rw [rnf_congr (t := fun x => atI (mvL st' t' gs).2 (t x)) (t' := fun x => atI (mvL st' t' gs).2 (t' x)) h2 fun x x0 x1 => by rw [(e x x0 (by simp; omega)).2]]
theorem rnf_rnf (f t : Int → Int) (g : S61) : rnf f (rnf t g) = rnf (fun x => f (t x)) g := by
  by_cases h : g.f0 = 1 ∨ g.f0 = 2
  · unfold rnf; simp only [if_pos h]
  · by_cases h6 : g.f0 = 6
    · unfold rnf; simp [h6]
    · unfold rnf; simp only [if_neg h, if_neg h6]
theorem canon_kind (g : S61) : (canon g).f0 = g.f0 := by unfold canon; split <;> rfl
theorem canon_same {p s i j L : Int} {f : Int → Int} (hf : ∀ x y, 0 ≤ x → x < L → 0 ≤ y → y < L → f x = f y → x = y) {x y : S61} (hx : okG p s i x) (hy : okG p s j y) (hi : i ≤ L) (hj : j ≤ L) :
    canon (rnf f y) = canon (rnf f x) ↔ sameG x y := by
  by_cases hk : x.f0 = y.f0
  · have fe : ∀ a b, 0 ≤ a → a < L → 0 ≤ b → b < L → (f a = f b ↔ a = b) := fun a b a0 a1 b0 b1 => ⟨hf a b a0 a1 b0 b1, fun e => by rw [e]⟩
    have sm : sameG x y ↔ (x.f1 = y.f1 ∧ x.f2 = y.f2 ∧ x.f3 = y.f3) ∨ ((x.f0 = 3 ∨ x.f0 = 5) ∧ x.f2 = y.f1 ∧ x.f1 = y.f2 ∧ x.f3 = y.f3) := by
      unfold sameG;rw [S61.ext_iff', S61.ext_iff'];simp only [hk, true_and]
      constructor
      · rintro (h | ⟨h, h'⟩)
        · exact .inl h
        · exact .inr ⟨h', h⟩
      · rintro (h | ⟨h', h⟩)
        · exact .inl h
        · exact .inr ⟨h, h'⟩
    rw [sm];clear sm
    rcases hx with hx | hx | hx | hx
    · have e1 : rnf f x = x := by unfold rnf; rw [if_pos (.inl hx.1)]
      have e2 : rnf f y = y := by unfold rnf; rw [if_pos (.inl (by omega))]
      have c1 : canon x = x := by unfold canon; rw [if_neg (by omega)]
      have c2 : canon y = y := by unfold canon; rw [if_neg (by omega)]
      rw [e1, e2, c1, c2, S61.ext_iff']
      omega
    · have e1 : rnf f x = x := by unfold rnf; rw [if_pos (.inr hx.1)]
      have e2 : rnf f y = y := by unfold rnf; rw [if_pos (.inr (by omega))]
      have c1 : canon x = x := by unfold canon; rw [if_neg (by omega)]
      have c2 : canon y = y := by unfold canon; rw [if_neg (by omega)]
      rw [e1, e2, c1, c2, S61.ext_iff']
      omega
    · have n12 : ¬ (x.f0 = 1 ∨ x.f0 = 2) := by omega
      have n6 : ¬ x.f0 = 6 := by omega
      obtain ⟨y1, y2, y3⟩ := okG_ops hy (by omega) (by omega);obtain ⟨y3, y4⟩ := y3 (by omega);have f11 := fe x.f1 y.f1 (by omega) (by omega) (by omega) (by omega);have f12 := fe x.f1 y.f2 (by omega) (by omega) (by omega) (by omega);have f21 := fe x.f2 y.f1 (by omega) (by omega) (by omega) (by omega);have f22 := fe x.f2 y.f2 (by omega) (by omega) (by omega) (by omega)
      have e1 : rnf f x = ⟨x.f0, f x.f1, f x.f2, x.f3⟩ := by unfold rnf; rw [if_neg n12, if_neg n6]
      have e2 : rnf f y = ⟨y.f0, f y.f1, f y.f2, y.f3⟩ := by unfold rnf; rw [if_neg (by omega), if_neg (by omega)]
      rw [e1, e2, ← hk];rw [← f11, ← f12, ← f21, ← f22];generalize f x.f1 = A;generalize f x.f2 = B;generalize f y.f1 = C;generalize f y.f2 = D;generalize x.f3 = X;generalize y.f3 = Y;have h0 := hx.1;generalize x.f0 = K at *;clear hx hy f11 f12 f21 f22 e1 e2 fe hf hk n12 n6;unfold canon;simp only
      by_cases c : K = 3 ∨ K = 5
      · by_cases c1 : A > B <;> by_cases c2 : C > D <;> simp [c, c1, c2] <;> omega
      · simp [c, eq_comm]
    · have n12 : ¬ (x.f0 = 1 ∨ x.f0 = 2) := by omega
      obtain ⟨y1, y2, y3⟩ := okG_ops hy (by omega) (by omega);have f11 := fe x.f1 y.f1 (by omega) (by omega) (by omega) (by omega)
      have e1 : rnf f x = ⟨x.f0, f x.f1, x.f2, x.f3⟩ := by unfold rnf; rw [if_neg n12, if_pos hx.1]
      have e2 : rnf f y = ⟨y.f0, f y.f1, y.f2, y.f3⟩ := by unfold rnf; rw [if_neg (by omega), if_pos (by omega)]
      have c1 : canon ⟨x.f0, f x.f1, x.f2, x.f3⟩ = ⟨x.f0, f x.f1, x.f2, x.f3⟩ := by unfold canon; rw [if_neg (by show ¬ ((x.f0 = 3 ∨ x.f0 = 5) ∧ _); omega)]
      have c2 : canon ⟨y.f0, f y.f1, y.f2, y.f3⟩ = ⟨y.f0, f y.f1, y.f2, y.f3⟩ := by unfold canon; rw [if_neg (by show ¬ ((y.f0 = 3 ∨ y.f0 = 5) ∧ _); omega)]
      rw [e1, e2, c1, c2, S61.ext_iff'];simp only
      omega
  · constructor
    · intro h
      have := congrArg S61.f0 h;rw [canon_kind, canon_kind, rnf_kind, rnf_kind] at this;exact absurd this.symm hk
    · intro h
      exfalso
      rcases h with rfl | ⟨rfl, _⟩
      · exact hk rfl
      · exact hk rfl
theorem find_par (key g : S61) : ∀ (M : List (S61 × Int)) (l : List S61), M.length = l.length → (∀ j : Int, 0 ≤ j → j < l.length → (key = (atM M j).1 ↔ sameG (atG l j) g)) →
    findM key M = if findS l g < l.length then some (atM M (findS l g)).2 else none
  | [], [], _, _ => by simp [findM]
  | [], _ :: _, h, _ => by simp at h
  | _ :: _, [], h, _ => by simp at h
  | m :: M, x :: l, h, hj => by
    have h0 := hj 0 (by omega) (by simp);have e0 : (key = m.1 ↔ sameG x g) := h0;unfold findM findS;rw [List.findIdx_cons]
    by_cases e : sameG x g
    · rw [if_pos (e0.2 e)]
      simp [e, atM]
    · rw [if_neg (fun h' => e (e0.1 h'))]
      have ih := find_par key g M l (by simpa using h) fun j j0 j1 => by
        have := hj (j + 1) (by omega) (by simp; omega)
        have t1 : atM (m :: M) (j + 1) = atM M j := by
          unfold atM; rw [show (j + 1).toNat = j.toNat + 1 by omega]; rfl
        have t2 : atG (x :: l) (j + 1) = atG l j := by
          unfold atG; rw [show (j + 1).toNat = j.toNat + 1 by omega]; rfl
        rw [t1, t2] at this;exact this
      rw [ih];simp only [e, decide_false, Bool.cond_false, List.length_cons, Nat.add_lt_add_iff_right];unfold findS
      split
      · congr 1
      · rfl
structure SInv (gs : List S61) (pl : List Int) : Prop where
  len : (spL gs).2.length = (shL gs).1.length
  pls : pl.length = gs.length
  a : ∀ i : Int, 0 ≤ i → i < gs.length → 0 ≤ atI (shL gs).2 i ∧ atI (shL gs).2 i < (shL gs).1.length ∧ atI (spL gs).1 i = (atM (spL gs).2 (atI (shL gs).2 i)).2
  b : ∀ j : Int, 0 ≤ j → j < (shL gs).1.length → 0 ≤ (atM (spL gs).2 j).2 ∧ (atM (spL gs).2 j).2 < gs.length ∧ atI (shL gs).2 (atM (spL gs).2 j).2 = j ∧ atI (spL gs).1 (atM (spL gs).2 j).2 = (atM (spL gs).2 j).2
  c : ∀ j : Int, 0 ≤ j → j < (shL gs).1.length → (atM (spL gs).2 j).1 = canon (rnf (fun x => (atM (spL gs).2 x).2) (atG (shL gs).1 j))
  d : mvL (fun i => atI (spL gs).1 i == i) (atI (spL gs).1) gs = ((shL gs).1, pl)
  e : ∀ j : Int, 0 ≤ j → j < (shL gs).1.length → atI pl (atM (spL gs).2 j).2 = j
theorem atM_left {l m : List (S61 × Int)} {i : Int} (h1 : i < l.length) (h0 : 0 ≤ i) : atM (l ++ m) i = atM l i := by
  unfold atM;rw [List.getD_eq_getElem?_getD, List.getD_eq_getElem?_getD, List.getElem?_append_left (by omega)]
theorem atM_last (l : List (S61 × Int)) (x : S61 × Int) : atM (l ++ [x]) l.length = x := by
  simp [atM, List.getD_eq_getElem?_getD]
theorem share_inv {p s : Int} (gs : List S61) : okL p s gs → ∃ pl, SInv gs pl := by
  refine snoc_ind (P := fun gs => okL p s gs → ∃ pl, SInv gs pl) (fun _ => ⟨[], ⟨rfl, rfl, fun i i0 i1 => ?_, fun i i0 i1 => ?_, fun i i0 i1 => ?_, rfl, fun i i0 i1 => ?_⟩⟩) (fun gs g ih h => ?_) gs
  · exact absurd i1 (by simp; omega)
  · exact absurd i1 (by simp [shL]; omega)
  · exact absurd i1 (by simp [shL]; omega)
  · exact absurd i1 (by simp [shL]; omega)
  obtain ⟨h1, h2⟩ := okL_cut h;obtain ⟨pl, I⟩ := ih h1;have lt := shL_len gs;have ls := spL_len gs;have hsh := shL_shr gs h1
  have hg' : okG p s (shL gs).1.length (rnf (atI (shL gs).2) g) := hsh.new_ok h2 fun _ _ => trivial
  have key : canon (rnf (atI (spL gs).1) g) = canon (rnf (fun x => (atM (spL gs).2 x).2) (rnf (atI (shL gs).2) g)) := by
    rw [rnf_rnf]
    congr 1
    exact rnf_congr h2 fun x x0 x1 => (I.a x x0 x1).2.2
  have inj : ∀ x y, 0 ≤ x → x < ((shL gs).1.length : Int) → 0 ≤ y → y < ((shL gs).1.length : Int) → (atM (spL gs).2 x).2 = (atM (spL gs).2 y).2 → x = y := fun x y x0 x1 y0 y1 e => by
    have e1 := (I.b x x0 x1).2.2.1;have e2 := (I.b y y0 y1).2.2.1;rw [e, e2] at e1;exact e1.symm
  have fnd := find_par (canon (rnf (atI (spL gs).1) g)) (rnf (atI (shL gs).2) g) (spL gs).2 (shL gs).1 I.len fun j j0 j1 => by
    rw [I.c j j0 j1, key];exact canon_same inj (okL_at hsh.ok j0 j1) hg' (by omega) (Int.le_refl _)
  have hle := findS_le (shL gs).1 (rnf (atI (shL gs).2) g)
  have mono : ∀ k : Int, mvL (fun i => atI ((spL gs).1 ++ [k]) i == i) (atI ((spL gs).1 ++ [k])) gs = ((shL gs).1, pl) := fun k => by
    rw [← I.d]
    refine mvL_congr gs h1 fun x x0 x1 => ?_
    rw [atI_left (by omega) x0];exact ⟨rfl, rfl⟩
  by_cases hk : findS (shL gs).1 (rnf (atI (shL gs).2) g) < (shL gs).1.length
  · rw [if_pos hk] at fnd
    generalize hkk : findS (shL gs).1 (rnf (atI (shL gs).2) g) = k at *
    have es : spL (gs ++ [g]) = ((spL gs).1 ++ [(atM (spL gs).2 (k : Int)).2], (spL gs).2) := by
      rw [spL_snoc]; unfold spStep; rw [fnd]
    have et : shL (gs ++ [g]) = ((shL gs).1, (shL gs).2 ++ [(k : Int)]) := by
      rw [shL_snoc]; unfold shStep; simp only; rw [hkk, if_neg (by omega)]
    obtain ⟨bk0, bk1, bk2, bk3⟩ := I.b k (by omega) (by omega);refine ⟨pl ++ [0], ?_, ?_, ?_, ?_, ?_, ?_, ?_⟩
    · rw [es, et]; exact I.len
    · simp [I.pls]
    · rw [es, et]
      intro i i0 i1;simp only [List.length_append, List.length_cons, List.length_nil] at i1
      by_cases e : i < gs.length
      · rw [atI_left (by omega) i0, atI_left (by omega) i0]; exact I.a i i0 e
      · have hi : i = gs.length := by omega
        have p1 : atI ((spL gs).1 ++ [(atM (spL gs).2 (k : Int)).2]) i = (atM (spL gs).2 (k : Int)).2 := by rw [hi, ← ls, atI_last]
        have p2 : atI ((shL gs).2 ++ [(k : Int)]) i = k := by rw [hi, ← lt, atI_last]
        simp only;rw [p1, p2];exact ⟨by omega, by omega, rfl⟩
    · rw [es, et]
      intro j j0 j1;obtain ⟨b0, b1, b2, b3⟩ := I.b j j0 j1;simp only;refine ⟨b0, by simp; omega, ?_, ?_⟩
      · rw [atI_left (by omega) b0]; exact b2
      · rw [atI_left (by omega) b0]; exact b3
    · rw [es, et]
      exact I.c
    · rw [es, et]
      simp only;rw [mvL_snoc, mono];unfold mvStep;simp only [I.pls];rw [← ls, atI_last, if_neg];simp only [beq_iff_eq]
      omega
    · rw [es, et]
      intro j j0 j1;obtain ⟨b0, b1, b2, b3⟩ := I.b j j0 j1;simp only;rw [atI_left (by rw [I.pls]; exact b1) b0];exact I.e j j0 j1
  · rw [if_neg hk] at fnd
    have hk' : findS (shL gs).1 (rnf (atI (shL gs).2) g) = (shL gs).1.length := by omega
    have es : spL (gs ++ [g]) = ((spL gs).1 ++ [(gs.length : Int)], (spL gs).2 ++ [(canon (rnf (atI (spL gs).1) g), (gs.length : Int))]) := by
      rw [spL_snoc]; unfold spStep; rw [fnd]; simp only [ls]
    have et : shL (gs ++ [g]) = ((shL gs).1 ++ [rnf (atI (shL gs).2) g], (shL gs).2 ++ [((shL gs).1.length : Int)]) := by
      rw [shL_snoc]; unfold shStep; simp only; rw [hk', if_pos rfl]
    have mle : ∀ j : Int, 0 ≤ j → j < (shL gs).1.length → atM ((spL gs).2 ++ [(canon (rnf (atI (spL gs).1) g), (gs.length : Int))]) j = atM (spL gs).2 j := fun j j0 j1 => atM_left (by rw [I.len]; exact j1) j0
    have mla : atM ((spL gs).2 ++ [(canon (rnf (atI (spL gs).1) g), (gs.length : Int))]) (shL gs).1.length = (canon (rnf (atI (spL gs).1) g), (gs.length : Int)) := by
      rw [← I.len]; exact atM_last _ _
    refine ⟨pl ++ [((shL gs).1.length : Int)], ?_, ?_, ?_, ?_, ?_, ?_, ?_⟩
    · rw [es, et]; simp [I.len]
    · simp [I.pls]
    · rw [es, et]
      intro i i0 i1;simp only [List.length_append, List.length_cons, List.length_nil] at i1 ⊢
      by_cases e : i < gs.length
      · obtain ⟨a0, a1, a2⟩ := I.a i i0 e
        rw [atI_left (by omega) i0, atI_left (by omega) i0, mle _ a0 a1];exact ⟨a0, by omega, a2⟩
      · have hi : i = gs.length := by omega
        have p1 : atI ((spL gs).1 ++ [(gs.length : Int)]) i = gs.length := by rw [hi, ← ls, atI_last]
        have p2 : atI ((shL gs).2 ++ [((shL gs).1.length : Int)]) i = (shL gs).1.length := by rw [hi, ← lt, atI_last]
        rw [p1, p2, mla];exact ⟨by omega, by omega, rfl⟩
    · rw [es, et]
      intro j j0 j1;simp only [List.length_append, List.length_cons, List.length_nil] at j1 ⊢
      by_cases e : j < (shL gs).1.length
      · obtain ⟨b0, b1, b2, b3⟩ := I.b j j0 e
        rw [mle j j0 e, atI_left (by omega) b0, atI_left (by omega) b0];exact ⟨b0, by omega, b2, b3⟩
      · have hj : j = (shL gs).1.length := by omega
        have p1 : atI ((spL gs).1 ++ [(gs.length : Int)]) (gs.length : Int) = gs.length := by
          have := atI_last (spL gs).1 (gs.length : Int); rw [ls] at this; exact this
        have p2 : atI ((shL gs).2 ++ [((shL gs).1.length : Int)]) (gs.length : Int) = (shL gs).1.length := by
          have := atI_last (shL gs).2 ((shL gs).1.length : Int); rw [lt] at this; exact this
        rw [hj, mla];exact ⟨by show (0 : Int) ≤ (gs.length : Int); omega, by show (gs.length : Int) < _; omega, p2, p1⟩
    · rw [es, et]
      intro j j0 j1;simp only [List.length_append, List.length_cons, List.length_nil] at j1 ⊢
      by_cases e : j < (shL gs).1.length
      · rw [mle j j0 e, atG_left e j0, I.c j j0 e]
        congr 1
        exact rnf_congr (okL_at hsh.ok j0 e) fun x x0 x1 => by rw [mle x x0 (by omega)]
      · have hj : j = (shL gs).1.length := by omega
        rw [hj, mla, atG_last]
        show canon (rnf (atI (spL gs).1) g) = _
        refine key.trans ?_
        congr 1
        exact rnf_congr hg' fun x x0 x1 => by rw [mle x x0 x1]
    · rw [es, et]
      simp only;rw [mvL_snoc, mono];unfold mvStep;simp only [I.pls]
      have p1 : atI ((spL gs).1 ++ [(gs.length : Int)]) (gs.length : Int) = gs.length := by
        have := atI_last (spL gs).1 (gs.length : Int); rw [ls] at this; exact this
      rw [p1, if_pos (by simp)]
      congr 3
      refine rnf_congr h2 fun x x0 x1 => ?_
      obtain ⟨a0, a1, a2⟩ := I.a x x0 x1;rw [atI_left (by omega) x0, a2];exact I.e _ a0 a1
    · rw [es, et]
      intro j j0 j1;simp only [List.length_append, List.length_cons, List.length_nil] at j1
      by_cases e : j < (shL gs).1.length
      · obtain ⟨b0, b1, b2, b3⟩ := I.b j j0 e
        simp only;rw [mle j j0 e, atI_left (by rw [I.pls]; exact b1) b0];exact I.e j j0 e
      · have hj : j = (shL gs).1.length := by omega
        simp only;rw [hj, mla];have := atI_last pl ((shL gs).1.length : Int); rw [I.pls] at this; exact this
theorem share_moved {p s : Int} {gs : List S61} (h : okL p s gs) : ∃ pl, mvL (fun i => atI (spL gs).1 i == i) (atI (spL gs).1) gs = ((shL gs).1, pl) ∧ pl.length = gs.length ∧ ∀ i : Int, 0 ≤ i → i < gs.length → 0 ≤ atI (spL gs).1 i ∧ atI (spL gs).1 i < gs.length ∧ atI pl (atI (spL gs).1 i) = atI (shL gs).2 i := by
  obtain ⟨pl, I⟩ := share_inv gs h;refine ⟨pl, I.d, I.pls, fun i i0 i1 => ?_⟩;obtain ⟨a0, a1, a2⟩ := I.a i i0 i1;obtain ⟨b0, b1, _⟩ := I.b _ a0 a1;rw [a2];exact ⟨b0, b1, I.e _ a0 a1⟩
end Go.Proofs.Ytmlbliggbkfjnaa.L
/- Both tests of a prime answer alike, and what they answer; loops. -/
namespace Go.Proofs.Ytmlbliggbkfjnaa.L
open Go.RowKit Go.Proofs.YtmlbliggbkfjnaaW.PrintWords Go.Proofs.Ytmlbliggbkfjnaa.J
theorem u64_small {n : Int} (h0 : 0 ≤ n) (h1 : n < 18446744073709551616) : IntKind.u64.wrap n = n := by
  simp [IntKind.wrap, IntKind.signed, IntKind.bits]
  omega
theorem w64_small {n : Int} (h0 : -9223372036854775808 ≤ n) (h1 : n < 9223372036854775808) : wrap64 n = n := by
  unfold wrap64
  omega
def free (a : Int) : Prop := ∀ y : Fin 257, 2 ≤ y.val → ((y.val : Int) * (y.val : Int)) ≤ a → a % (y.val : Int) ≠ 0
def isP (a : Int) : Bool := decide (3 ≤ a ∧ a ≤ 65537 ∧ ∀ y : Fin 257, 2 ≤ y.val → ((y.val : Int) * (y.val : Int)) ≤ a → a % (y.val : Int) ≠ 0)
theorem free_of {a : Int} (h : a ≤ 65537) (hf : ∀ y : Fin 257, 2 ≤ y.val → ((y.val : Int) * (y.val : Int)) ≤ a → a % (y.val : Int) ≠ 0) (y : Int) (h2 : 2 ≤ y) (hy : y * y ≤ a) : a % y ≠ 0 := by
  have hb : y < 257 := by
    rcases Int.lt_or_le y 257 with h' | h'
    · exact h'
    · have : 257 * 257 ≤ y * y := Int.mul_le_mul h' h' (by omega) (by omega)
      omega
  have := hf ⟨y.toNat, by omega⟩ (show 2 ≤ y.toNat by omega);simp only at this;rw [show ((y.toNat : Nat) : Int) = y by omega] at this;exact this hy
theorem isP_iff (a : Int) : isP a = true ↔ 3 ≤ a ∧ a ≤ 65537 ∧ ∀ y : Int, 2 ≤ y → y * y ≤ a → a % y ≠ 0 := by
  unfold isP;rw [decide_eq_true_iff]
  constructor
  · rintro ⟨h1, h2, h3⟩
    exact ⟨h1, h2, fun y hy => free_of h2 h3 y hy⟩
  · rintro ⟨h1, h2, h3⟩
    exact ⟨h1, h2, fun y hy hq => h3 y.val (by omega) hq⟩
theorem sq_small {x : Int} (h0 : 0 ≤ x) (h1 : x ≤ 300) : 0 ≤ x * x ∧ x * x ≤ 90000 :=
  ⟨Int.mul_nonneg h0 h0, Int.mul_le_mul h1 h1 h0 (by omega)⟩
theorem ref_loop (a : Int) (h3 : 3 ≤ a) (ha : a ≤ 65537) : ∀ (m : Nat) (x : Int), 2 ≤ x → x + m = 258 → (∀ y : Int, 2 ≤ y → y < x → y * y ≤ a → a % y ≠ 0) → Ev (fun k => qja.l0 k a x) (isP a)
  | 0, x, h2, hx, hy => by
    have hb : isP a = true := (isP_iff a).2 ⟨h3, ha, fun y y2 yq => hy y y2 (by
      rcases Int.lt_or_le y x with h' | h'
      · exact h'
      · have : 257 * 257 ≤ y * y := Int.mul_le_mul (by omega) (by omega) (by omega) (by omega)
        omega) yq⟩
    rw [hb];refine Ev.step (f := fun k => some true) (fun k => ?_) (Ev.now _);have hq := sq_small (x := x) (by omega) (by omega)
    have : ¬ (x * x ≤ a) := by
      have : 257 * 257 ≤ x * x := Int.mul_le_mul (by omega) (by omega) (by omega) (by omega)
      omega
    simp only [qja.l0];rw [u64_small hq.1 (by omega), if_neg this]
  | m + 1, x, h2, hx, hy => by
    have hq := sq_small (x := x) (by omega) (by omega)
    by_cases hle : x * x ≤ a
    · by_cases hd : a % x = 0
      · have hb : isP a = false := by
          rw [Bool.eq_false_iff];intro h';exact ((isP_iff a).1 h').2.2 x h2 hle hd
        rw [hb];refine Ev.step (f := fun k => some false) (fun k => ?_) (Ev.now _);simp only [qja.l0];rw [u64_small hq.1 (by omega), if_pos hle, if_neg (show ¬ x = 0 by omega), if_pos (by rw [Int.tmod_eq_emod_of_nonneg (by omega)]; exact hd)]
      · refine Ev.step (f := fun k => qja.l0 k a (x + 1)) (fun k => ?_) (ref_loop a h3 ha m (x + 1) (by omega) (by omega) fun y y2 yx yq => ?_)
        · conv => lhs; simp only [qja.l0]
          rw [u64_small hq.1 (by omega), if_pos hle, if_neg (show ¬ x = 0 by omega), if_neg (by rw [Int.tmod_eq_emod_of_nonneg (by omega)]; exact hd), u64_small (show 0 ≤ x + 1 by omega) (by omega)]
        · rcases Int.lt_or_le y x with h' | h'
          · exact hy y y2 h' yq
          · obtain rfl : y = x := by omega
            exact hd
    · have hb : isP a = true := (isP_iff a).2 ⟨h3, ha, fun y y2 yq => hy y y2 (by
        rcases Int.lt_or_le y x with h' | h'
        · exact h'
        · have : x * x ≤ y * y := Int.mul_le_mul h' h' (by omega) (by omega)
          omega) yq⟩
      rw [hb];refine Ev.step (f := fun k => some true) (fun k => ?_) (Ev.now _);simp only [qja.l0];rw [u64_small hq.1 (by omega), if_neg hle]
theorem odd_loop (a : Int) (h3 : 3 ≤ a) (ha : a ≤ 65537) (hodd : a % 2 = 1) : ∀ (m : Nat) (x : Int), 3 ≤ x → x % 2 = 1 → x + 2 * m = 259 → (∀ y : Int, 2 ≤ y → y < x → y * y ≤ a → a % y ≠ 0) → Ev (fun k => qta.l0 k a x) (isP a)
  | 0, x, h2, hxo, hx, hy => by
    have hb : isP a = true := (isP_iff a).2 ⟨h3, ha, fun y y2 yq => hy y y2 (by
      rcases Int.lt_or_le y x with h' | h'
      · exact h'
      · have : 257 * 257 ≤ y * y := Int.mul_le_mul (by omega) (by omega) (by omega) (by omega)
        omega) yq⟩
    rw [hb];refine Ev.step (f := fun k => some true) (fun k => ?_) (Ev.now _);have hq := sq_small (x := x) (by omega) (by omega)
    have : ¬ (x * x ≤ a) := by
      have : 257 * 257 ≤ x * x := Int.mul_le_mul (by omega) (by omega) (by omega) (by omega)
      omega
    simp only [qta.l0];rw [u64_small hq.1 (by omega), if_neg this]
  | m + 1, x, h2, hxo, hx, hy => by
    have hq := sq_small (x := x) (by omega) (by omega)
    by_cases hle : x * x ≤ a
    · by_cases hd : a % x = 0
      · have hb : isP a = false := by
          rw [Bool.eq_false_iff];intro h';exact ((isP_iff a).1 h').2.2 x (by omega) hle hd
        rw [hb];refine Ev.step (f := fun k => some false) (fun k => ?_) (Ev.now _);simp only [qta.l0];rw [u64_small hq.1 (by omega), if_pos hle, if_neg (show ¬ x = 0 by omega), if_pos (by rw [Int.tmod_eq_emod_of_nonneg (by omega)]; exact hd)]
      · refine Ev.step (f := fun k => qta.l0 k a (x + 2)) (fun k => ?_) (odd_loop a h3 ha hodd m (x + 2) (by omega) (by omega) (by omega) fun y y2 yx yq => ?_)
        · conv => lhs; simp only [qta.l0]
          rw [u64_small hq.1 (by omega), if_pos hle, if_neg (show ¬ x = 0 by omega), if_neg (by rw [Int.tmod_eq_emod_of_nonneg (by omega)]; exact hd), u64_small (show 0 ≤ x + 2 by omega) (by omega)]
        · rcases Int.lt_or_le y x with h' | h'
          · exact hy y y2 h' yq
          · rcases Int.lt_or_le x y with h'' | h''
            · obtain rfl : y = x + 1 := by omega
              intro h0;have h1 : (2 : Int) ∣ a := Int.dvd_trans (Int.dvd_of_emod_eq_zero (by omega)) (Int.dvd_of_emod_eq_zero h0);have := Int.emod_eq_zero_of_dvd h1
              omega
            · obtain rfl : y = x := by omega
              exact hd
    · have hb : isP a = true := (isP_iff a).2 ⟨h3, ha, fun y y2 yq => hy y y2 (by
        rcases Int.lt_or_le y x with h' | h'
        · exact h'
        · have : x * x ≤ y * y := Int.mul_le_mul h' h' (by omega) (by omega)
          omega) yq⟩
      rw [hb];refine Ev.step (f := fun k => some true) (fun k => ?_) (Ev.now _);simp only [qta.l0];rw [u64_small hq.1 (by omega), if_neg hle]
theorem not_isP {a : Int} (h : ¬ (3 ≤ a ∧ a ≤ 65537)) : isP a = false := by
  rw [Bool.eq_false_iff];intro h';have := (isP_iff a).1 h';exact h ⟨this.1, this.2.1⟩
theorem ref_is (a : Int) : Ev (fun k => qja.f k a) (isP a) := by
  by_cases h3 : a < 3
  · rw [not_isP (by omega)]
    refine Ev.step (f := fun k => some false) (fun k => ?_) (Ev.now _);simp [qja.f, qja.j0, h3]
  · by_cases hb : a > 65537
    · rw [not_isP (by omega)]
      refine Ev.step (f := fun k => some false) (fun k => ?_) (Ev.now _);simp [qja.f, qja.j0, h3, hb]
    · refine Ev.step (f := fun k => qja.l0 k a 2) (fun k => ?_) (ref_loop a (by omega) (by omega) 256 2 (by omega) (by omega) fun y y2 yx => by omega)
      simp [qja.f, qja.j0, h3, hb]
theorem field_is (a : Int) : Ev (fun k => qta.f k a) (isP a) := by
  by_cases h3 : a < 3
  · rw [not_isP (by omega)]
    refine Ev.step (f := fun k => some false) (fun k => ?_) (Ev.now _);simp [qta.f, qta.j0, h3]
  · by_cases hb : a > 65537
    · rw [not_isP (by omega)]
      refine Ev.step (f := fun k => some false) (fun k => ?_) (Ev.now _);simp [qta.f, qta.j0, h3, hb]
    · by_cases ho : a % 2 = 0
      · have hp : isP a = false := by
          rw [Bool.eq_false_iff];intro h';exact ((isP_iff a).1 h').2.2 2 (by omega) (by omega) ho
        rw [hp];refine Ev.step (f := fun k => some false) (fun k => ?_) (Ev.now _)
        have ht : Int.tmod a 2 = 0 := by rw [Int.tmod_eq_emod_of_nonneg (by omega)]; exact ho
        simp [qta.f, qta.j0, h3, hb, ht]
      · refine Ev.step (f := fun k => qta.l0 k a 3) (fun k => ?_) (odd_loop a (by omega) (by omega) (by omega) 128 3 (by omega) (by omega) (by omega) fun y y2 yx yq => ?_)
        · have ht : ¬ Int.tmod a 2 = 0 := by rw [Int.tmod_eq_emod_of_nonneg (by omega)]; exact ho
          simp [qta.f, qta.j0, h3, hb, ht]
        · obtain rfl : y = 2 := by omega
          exact ho
theorem Ev.fuel {α : Type} {g : Nat → Option α} {r : α} (n : Nat) (h : ∀ k, g (k + n) = some r) : Ev g r :=
  ⟨n, fun k hk => by obtain ⟨m, rfl⟩ := Nat.exists_eq_add_of_le hk; rw [Nat.add_comm]; exact h m⟩
theorem Ev.steps {α : Type} {g f : Nat → Option α} {r : α} (n : Nat) (h : ∀ k, g (k + n) = f k) (hf : Ev f r) : Ev g r := by
  obtain ⟨K, hK⟩ := hf;exact ⟨K + n, fun k hk => by obtain ⟨m, rfl⟩ := Nat.exists_eq_add_of_le hk; rw [show K + n + m = (K + m) + n by omega, h]; exact hK _ (by omega)⟩
theorem up {α : Type} {g : Nat → Nat → Option α} {R : Nat → α} {n : Nat} (last : Ev (fun k => g k n) (R n)) (step : ∀ i, i < n → Ev (fun k => g k (i + 1)) (R (i + 1)) → Ev (fun k => g k i) (R i)) : ∀ m i : Nat, i + m = n → Ev (fun k => g k i) (R i)
  | 0, i, h => by obtain rfl : i = n := by omega
                  exact last
  | m + 1, i, h => step i (by omega) (up last step m (i + 1) (by omega))
theorem up0 {α : Type} {g : Nat → Nat → Option α} {R : Nat → α} {n : Nat} (last : Ev (fun k => g k n) (R n)) (step : ∀ i, i < n → Ev (fun k => g k (i + 1)) (R (i + 1)) → Ev (fun k => g k i) (R i)) : Ev (fun k => g k 0) (R 0) := up last step n 0 (by omega)
theorem wadd {i : Nat} (h : i < 9223372036854775807) : wrap64 ((i : Int) + 1) = ((i + 1 : Nat) : Int) := by rw [w64_small (by omega) (by omega)]; omega
theorem rd_at (l : List Int) (i : Int) : rd l i = atI l i := rfl
theorem u64_wf {n : Int} (h : (Lit.int .u64 n).wf = true) : 0 ≤ n ∧ n < 18446744073709551616 := by
  simp [Lit.wf, IntKind.min, IntKind.max, IntKind.signed, IntKind.bits] at h
  omega
end Go.Proofs.Ytmlbliggbkfjnaa.L
/- Both checks of a circuit answer alike, and what they answer. -/
namespace Go.Proofs.Ytmlbliggbkfjnaa.L
open Go.RowKit Go.Proofs.YtmlbliggbkfjnaaW.PrintWords Go.Proofs.Ytmlbliggbkfjnaa.J
def gateV (p s i : Int) (g : S61) : Int :=
  if g.f0 = 1 then (if g.f2 ≠ 0 ∨ g.f3 ≠ 0 then 4 else if g.f1 < 0 ∨ g.f1 ≥ s then 13 else 0)
  else if g.f0 = 2 then (if g.f1 ≠ 0 ∨ g.f2 ≠ 0 then 4 else if g.f3 ≥ p then 2 else 0)
  else if g.f0 = 3 ∨ g.f0 = 4 ∨ g.f0 = 5 then (if g.f3 ≠ 0 then 4 else if g.f1 < 0 ∨ g.f1 ≥ i ∨ g.f2 < 0 ∨ g.f2 ≥ i then 13 else 0)
  else if g.f0 = 6 then (if g.f2 ≠ 0 then 4 else if g.f1 < 0 ∨ g.f1 ≥ i then 13 else if g.f3 ≥ p then 2 else 0)
  else 4
theorem gateV_ok {p s i : Int} {g : S61} (h3 : 0 ≤ g.f3) : gateV p s i g = 0 ↔ okG p s i g := by
  unfold gateV okG
  split
  · split
    · simp; omega
    · split
      · simp; omega
      · simp; omega
  split
  · split
    · simp; omega
    · split
      · simp; omega
      · simp; omega
  split
  · split
    · simp; omega
    · split
      · simp; omega
      · simp; omega
  split
  · split
    · simp; omega
    · split
      · simp; omega
      · split
        · simp; omega
        · simp; omega
  · simp; omega
theorem within_is (b s : Int) : circ_Gate_1.f b s = some (!decide (b < 0 ∨ b ≥ s)) := by
  unfold circ_Gate_1.f
  by_cases h : b < 0
  · rw [if_neg (by omega)]; simp [h]
  · rw [if_pos (by omega)]
    by_cases h' : b < s
    · have : ¬ (b < 0 ∨ b ≥ s) := by omega
      simp [this, h']
    · have : (b < 0 ∨ b ≥ s) := by omega
      simp [this, h']
theorem circ_gate (p s i : Int) (g : S61) (hp : 0 < p) : Ev (fun k => circ_Gate.f k p s i g.f0 g.f1 g.f2 g.f3) (gateV p s i g) := by
  refine Ev.fuel 10 fun k => ?_
  unfold gateV;obtain ⟨a, b, c, d⟩ := g;simp only
  have hp' : ¬ p ≤ 0 := by omega
  by_cases h1 : a = 1
  · subst h1
    have e := within_is b s
    by_cases hb : b < 0 ∨ b ≥ s
    · rw [qqT hb] at e
      by_cases hc : c = 0 <;> by_cases hd : d = 0 <;> simp only [circ_Gate.f, circ_named.f, circ_Gate.j0, circ_Gate.j1, e, if_pos hb] <;> simp [hc, hd, hp']
    · rw [qqF hb] at e
      by_cases hc : c = 0 <;> by_cases hd : d = 0 <;> simp only [circ_Gate.f, circ_named.f, circ_Gate.j0, circ_Gate.j1, e, if_neg hb] <;> simp [hc, hd, hp']
  by_cases h2 : a = 2
  · subst h2
    by_cases hb : b = 0 <;> by_cases hc : c = 0 <;> by_cases hd : d ≥ p <;> simp [circ_Gate.f, circ_named.f, circ_Gate.j0, circ_Gate.j1, hb, hc, hd]
  by_cases h3 : a = 3 ∨ a = 4 ∨ a = 5
  · have e : circ_named.f (k + 10) a = some (false, true, true, false, true) := by
      rcases h3 with rfl | rfl | rfl <;> simp [circ_named.f, circ_named.j0]
    rw [if_neg h1, if_neg h2, if_pos h3];unfold circ_Gate.f;rw [e];have e1 := within_is b i;have e2 := within_is c i
    by_cases hb : b < 0 ∨ b ≥ i
    · rw [qqT hb] at e1
      have hh : b < 0 ∨ b ≥ i ∨ c < 0 ∨ c ≥ i := by omega
      by_cases hd : d = 0 <;> simp only [circ_Gate.j0, circ_Gate.j1, e1, e2, if_pos hh] <;> simp [hd, hp']
    · rw [qqF hb] at e1
      by_cases hc : c < 0 ∨ c ≥ i
      · rw [qqT hc] at e2
        have hh : b < 0 ∨ b ≥ i ∨ c < 0 ∨ c ≥ i := by omega
        by_cases hd : d = 0 <;> simp only [circ_Gate.j0, circ_Gate.j1, e1, e2, if_pos hh] <;> simp [hd, hp']
      · rw [qqF hc] at e2
        have hh : ¬ (b < 0 ∨ b ≥ i ∨ c < 0 ∨ c ≥ i) := by omega
        by_cases hd : d = 0 <;> simp only [circ_Gate.j0, circ_Gate.j1, e1, e2, if_neg hh] <;> simp [hd, hp']
  by_cases h6 : a = 6
  · subst h6
    have e := within_is b i
    by_cases hb : b < 0 ∨ b ≥ i
    · rw [qqT hb] at e
      by_cases hc : c = 0 <;> by_cases hd : d ≥ p <;> simp only [circ_Gate.f, circ_named.f, circ_named.j0, circ_Gate.j0, circ_Gate.j1, e, if_pos hb] <;> simp [hc, hd]
    · rw [qqF hb] at e
      by_cases hc : c = 0 <;> by_cases hd : d ≥ p <;> simp only [circ_Gate.f, circ_named.f, circ_named.j0, circ_Gate.j0, circ_Gate.j1, e, if_neg hb] <;> simp [hc, hd]
  · have e : circ_named.f (k + 10) a = some (false, false, false, false, false) := by
      have h5 : a ≠ 3 ∧ a ≠ 4 ∧ a ≠ 5 := by omega
      simp [circ_named.f, circ_named.j0, h1, h2, h5, h6]
    rw [if_neg h1, if_neg h2, if_neg h3, if_neg h6];unfold circ_Gate.f;rw [e]
    rfl
theorem ref_gate (p s i : Int) (g : S61) : Ev (fun k => qca.f k p s i g.f0 g.f1 g.f2 g.f3) (gateV p s i g) := by
  refine Ev.fuel 10 fun k => ?_
  unfold gateV;obtain ⟨a, b, c, d⟩ := g;simp only
  by_cases h1 : a = 1
  · subst h1
    by_cases hc : c = 0 <;> by_cases hd : d = 0 <;> by_cases hb : b < 0 <;> by_cases hb' : b ≥ s <;> simp [qca.f, qca.j0, qca.j1, qca.j2, qca.j3, qca.j4, hb, hb', hc, hd]
  by_cases h2 : a = 2
  · subst h2
    by_cases hb : b = 0 <;> by_cases hc : c = 0 <;> by_cases hd : d ≥ p <;> simp [qca.f, qca.j0, qca.j1, qca.j2, qca.j3, qca.j4, hb, hc, hd]
  by_cases h3 : a = 3 ∨ a = 4 ∨ a = 5
  · have e : qca.f (k + 10) p s i a b c d = qca.j1 (k + 9) p s i true true false a b c d := by
      rcases h3 with rfl | rfl | rfl <;> simp [qca.f, qca.j0]
    have h1' : ¬ a = 1 := h1;rw [if_neg h1, if_neg h2, if_pos h3, e]
    by_cases hd : d = 0 <;> by_cases hb : b < 0 <;> by_cases hb' : b ≥ i <;> by_cases hc : c < 0 <;> by_cases hc' : c ≥ i <;> simp [qca.j1, qca.j2, qca.j3, qca.j4, h1', hd, hb, hb', hc, hc']
  by_cases h6 : a = 6
  · subst h6
    by_cases hc : c = 0 <;> by_cases hb : b < 0 <;> by_cases hb' : b ≥ i <;> by_cases hd : d ≥ p <;> simp [qca.f, qca.j0, qca.j1, qca.j2, qca.j3, qca.j4, hd, hb, hb', hc]
  · have h5 : a ≠ 3 ∧ a ≠ 4 ∧ a ≠ 5 := by omega
    rw [if_neg h1, if_neg h2, if_neg h3, if_neg h6];simp [qca.f, qca.j0, h1, h2, h5, h6]
def firstE {β : Type} (f : Int → β → Int) : Nat → List β → Int
  | _, [] => 0
  | i, b :: bs => if f i b = 0 then firstE f (i + 1) bs else f i b
theorem firstE_step {β : Type} (f : Int → β → Int) (l : List β) (i : Nat) (h : i < l.length) : firstE f i (l.drop i) = if f i l[i] = 0 then firstE f (i + 1) (l.drop (i + 1)) else f i l[i] := by
  rw [List.drop_eq_getElem_cons h]; rfl
theorem firstE_end {β : Type} (f : Int → β → Int) (l : List β) : firstE f l.length (l.drop l.length) = 0 := by
  rw [List.drop_of_length_le (Nat.le_refl _)]; rfl
theorem firstE_zero {β : Type} (f : Int → β → Int) : ∀ (l : List β) (i : Nat), firstE f i l = 0 ↔ ∀ (j : Nat) b, l[j]? = some b → f ((i + j : Nat) : Int) b = 0
  | [], i => by simp [firstE]
  | b :: l, i => by
    unfold firstE
    constructor
    · intro h j c hc
      split at h
      · rename_i h0
        match j, hc with
        | 0, hc => obtain rfl : b = c := by simpa using hc
                   exact h0
        | j + 1, hc =>
          have := (firstE_zero f l (i + 1)).1 h j c (by simpa using hc);rw [show i + (j + 1) = i + 1 + j by omega]; exact this
      · rename_i h0; exact absurd h h0
    · intro h
      rw [if_pos (show f (i : Int) b = 0 from h 0 b rfl)]
      refine (firstE_zero f l (i + 1)).2 fun j c hc => ?_
      have := h (j + 1) c (by simpa using hc);rw [show i + (j + 1) = i + 1 + j by omega] at this; exact this
def rise (m : Int) : List Int → Bool
  | [] => true
  | x :: xs => decide (m < x ∧ x ≤ 13) && rise x xs
theorem rise_len : ∀ (l : List Int) (m : Int), m ≤ 13 → rise m l = true → (l.length : Int) ≤ 13 - m
  | [], m, h, _ => by simp only [List.length_nil]; omega
  | x :: xs, m, _, h => by
    simp only [rise, Bool.and_eq_true, decide_eq_true_eq] at h;have := rise_len xs x h.1.2 h.2;simp only [List.length_cons]; omega
def badX (n : Int) (l : List Int) : Bool := l.any fun x => decide (x < 0) || decide (x ≥ n)
def exitV (n : Int) (x : S66) : Int := if rise 0 x.f0 = true then (if (x.f1.length : Int) > 1024 then 3 else if badX n x.f1 = true then 13 else 0) else 2
theorem circ_exit (n : Int) (x : S66) (hl : x.f0.length ≤ maxLen) : Ev (fun k => circ_Exit.f k n x.f0 x.f1) (exitV n x) := by
  have hm : x.f0.length ≤ 9223372036854775807 := by simp only [maxLen] at hl; omega
  unfold circ_Exit.f
  have key : ∀ (m i : Nat) (last : Int), i + m = x.f0.length → Ev (fun k => circ_Exit.l0 k last x.f0 (x.f0.length : Int) (i : Int) n x.f0 x.f1) (if rise last (x.f0.drop i) = true then (if (x.f1.length : Int) > 1024 then 3 else if badX n x.f1 = true then 13 else 0) else 2) := by
    intro m
    induction m with
    | zero =>
      intro i last hi;rw [List.drop_of_length_le (by omega)]
      refine Ev.fuel 1 fun k => ?_
      simp only [circ_Exit.l0, rise, if_true];rw [if_neg (by omega)];unfold badX qsa.f
      split
      · rfl
      · simp only [Option.bind_some]
        split <;> rfl
    | succ m ih =>
      intro i last hi
      have hlt : i < x.f0.length := by omega
      have hr : rd x.f0 (i : Int) = x.f0[i] := by simp [rd, List.getD_eq_getElem?_getD, hlt]
      rw [List.drop_eq_getElem_cons hlt]
      by_cases h1 : x.f0[i] ≤ last
      · refine Ev.step (f := fun k => some 2) (fun k => ?_) ?_
        · simp only [circ_Exit.l0]
          rw [if_pos (by omega), if_pos (by omega), if_pos (by omega), hr, if_pos h1]
        · have hf : rise last (x.f0[i] :: x.f0.drop (i + 1)) = false := by
            simp only [rise];rw [show decide (last < x.f0[i] ∧ x.f0[i] ≤ 13) = false by rw [decide_eq_false_iff_not]; omega, Bool.false_and]
          rw [if_neg (by rw [hf]; decide)]; exact Ev.now _
      by_cases h2 : x.f0[i] > 13
      · refine Ev.step (f := fun k => some 2) (fun k => ?_) ?_
        · simp only [circ_Exit.l0]
          rw [if_pos (by omega), if_pos (by omega), if_pos (by omega), hr, if_neg h1, if_pos h2]
        · have hf : rise last (x.f0[i] :: x.f0.drop (i + 1)) = false := by
            simp only [rise];rw [show decide (last < x.f0[i] ∧ x.f0[i] ≤ 13) = false by rw [decide_eq_false_iff_not]; omega, Bool.false_and]
          rw [if_neg (by rw [hf]; decide)]; exact Ev.now _
      · have hd : decide (last < x.f0[i] ∧ x.f0[i] ≤ 13) = true := by simp; omega
        have he : rise last (x.f0[i] :: x.f0.drop (i + 1)) = rise x.f0[i] (x.f0.drop (i + 1)) := by
          simp only [rise];rw [hd, Bool.true_and]
        rw [he];refine Ev.step (f := fun k => circ_Exit.l0 k x.f0[i] x.f0 (x.f0.length : Int) ((i + 1 : Nat) : Int) n x.f0 x.f1) (fun k => ?_) (ih (i + 1) x.f0[i] (by omega));simp only [circ_Exit.l0];rw [if_pos (by omega), if_pos (by omega), if_pos (by omega), hr, if_neg h1, if_neg h2, wadd (by omega)]
  exact key x.f0.length 0 0 (by omega)
theorem ref_rising (l : List Int) (hl : l.length ≤ maxLen) : Ev (fun k => qia.f k 13 l) (rise 0 l) := by
  have hm : l.length ≤ 9223372036854775807 := by simp only [maxLen] at hl; omega
  unfold qia.f
  have key : ∀ (m i : Nat), i + m = l.length → (0 < i → 1 ≤ atI l ((i : Int) - 1)) → Ev (fun k => qia.l0 k 13 l l (l.length : Int) (i : Int)) (rise (if i = 0 then 0 else atI l ((i : Int) - 1)) (l.drop i)) := by
    intro m
    induction m with
    | zero =>
      intro i hi _;rw [List.drop_of_length_le (by omega)]
      refine Ev.fuel 1 fun k => ?_
      simp only [qia.l0, rise];rw [if_neg (by omega)]
    | succ m ih =>
      intro i hi h0
      have hlt : i < l.length := by omega
      have hr : rd l (i : Int) = l[i] := by simp [rd, List.getD_eq_getElem?_getD, hlt]
      have ha : atI l ((i + 1 : Nat) - 1 : Int) = l[i] := by rw [show ((i + 1 : Nat) - 1 : Int) = (i : Int) by omega]; exact hr
      rw [List.drop_eq_getElem_cons hlt];simp only [rise]
      have stop : (l[i] < 1 ∨ l[i] > 13 ∨ (0 < i ∧ atI l ((i : Int) - 1) ≥ l[i])) → Ev (fun k => qia.l0 k 13 l l (l.length : Int) (i : Int)) false := by
        intro hs
        refine Ev.fuel 1 fun k => ?_
        simp only [qia.l0];rw [if_pos (by omega), if_pos (by omega), if_pos (by omega), hr]
        by_cases a1 : l[i] < 1
        · rw [if_pos a1]
        rw [if_neg a1]
        by_cases a2 : l[i] > 13
        · rw [if_pos a2]
        rw [if_neg a2]
        have a3 : 0 < i ∧ atI l ((i : Int) - 1) ≥ l[i] := by omega
        rw [if_pos (by omega), w64_small (by omega) (by omega), if_pos (by omega), if_pos (by omega), if_pos (by exact a3.2)]
      by_cases c : l[i] < 1 ∨ l[i] > 13 ∨ (0 < i ∧ atI l ((i : Int) - 1) ≥ l[i])
      · have e : decide ((if i = 0 then 0 else atI l ((i : Int) - 1)) < l[i] ∧ l[i] ≤ 13) = false := by
          rw [decide_eq_false_iff_not]
          split
          · omega
          · rename_i hne
            have := h0 (by omega)
            omega
        rw [e, Bool.false_and];exact stop c
      · have e : decide ((if i = 0 then 0 else atI l ((i : Int) - 1)) < l[i] ∧ l[i] ≤ 13) = true := by
          rw [decide_eq_true_iff]
          split <;> omega
        rw [e, Bool.true_and];have := ih (i + 1) (by omega) (fun _ => by rw [ha]; omega);rw [if_neg (by omega), ha] at this;refine Ev.step (f := fun k => qia.l0 k 13 l l (l.length : Int) ((i + 1 : Nat) : Int)) (fun k => ?_) this;simp only [qia.l0];rw [if_pos (by omega), if_pos (by omega), if_pos (by omega), hr, if_neg (by omega), if_neg (by omega), wadd (by omega)]
        by_cases hi0 : (i : Int) > 0
        · rw [if_pos hi0, w64_small (by omega) (by omega), if_pos (by omega), if_pos (by omega), if_neg (by show ¬ (atI l ((i : Int) - 1) ≥ l[i]); omega)]
        · rw [if_neg hi0]
  have := key l.length 0 (by omega) (by omega)
  simpa using this
theorem ref_exit (n : Int) (x : S66) (hl : x.f0.length ≤ maxLen) : Ev (fun k => qqa.f k n x.f0 x.f1) (exitV n x) := by
  unfold qqa.f exitV;refine Ev.bind (ref_rising x.f0 hl) ?_
  by_cases hr : rise 0 x.f0 = true
  · simp only [if_pos hr]
    by_cases h1 : (x.f1.length : Int) > 1024
    · simp only [if_pos h1]; exact Ev.now _
    simp only [if_neg h1]
    refine up0 (g := fun k i => qqa.l0 k n x.f1 (x.f1.length : Int) (i : Int)) (R := fun i => if badX n (x.f1.drop i) = true then 13 else 0) (n := x.f1.length) ?_ fun i hi h => ?_
    · rw [List.drop_of_length_le (Nat.le_refl _)]
      refine Ev.fuel 1 fun k => ?_
      simp only [qqa.l0];rw [if_neg (by omega)]
      rfl
    · have hr : rd x.f1 (i : Int) = x.f1[i] := by simp [rd, List.getD_eq_getElem?_getD, hi]
      rw [List.drop_eq_getElem_cons hi];unfold badX at h ⊢;rw [List.any_cons]
      by_cases a1 : x.f1[i] < 0
      · refine Ev.fuel 1 fun k => ?_
        simp only [qqa.l0];rw [if_pos (by omega), if_pos (by omega), if_pos (by omega), hr, if_pos a1];simp [a1]
      by_cases a2 : x.f1[i] ≥ n
      · refine Ev.fuel 1 fun k => ?_
        simp only [qqa.l0];rw [if_pos (by omega), if_pos (by omega), if_pos (by omega), hr, if_neg a1, if_pos a2];simp [a2]
      · rw [show (decide (x.f1[i] < 0) || decide (x.f1[i] ≥ n)) = false by simp; omega, Bool.false_or]
        refine Ev.step (f := fun k => qqa.l0 k n x.f1 (x.f1.length : Int) ((i + 1 : Nat) : Int)) (fun k => ?_) h;simp only [qqa.l0];rw [if_pos (by omega), if_pos (by omega), if_pos (by omega), hr, if_neg a1, if_neg a2, wadd (by omega)]
  · simp only [if_neg hr]; exact Ev.now _
def badS (s : List S64) : Bool := s.any fun x => decide (x.f0 < 1) || decide (x.f0 > 13)
def checkV (p : Int) (s : List S64) (g : List S61) (x : List S66) : Int :=
  if isP p = true then (if (s.length : Int) > 256 ∨ (g.length : Int) > 65536 ∨ (x.length : Int) > 4096 then 3 else if badS s = true then 2 else
    if firstE (gateV p s.length) 0 g = 0 then firstE (fun _ => exitV g.length) 0 x else firstE (gateV p s.length) 0 g) else 2
theorem rdX_at {x : List S66} {i : Nat} (h : i < x.length) : rd_T66 x (i : Int) = x[i] := by simp [rd_T66, List.getD_eq_getElem?_getD, h]
theorem rdG_get {x : List S61} {i : Nat} (h : i < x.length) : rd_T61 x (i : Int) = x[i] := by simp [rd_T61, List.getD_eq_getElem?_getD, h]
theorem rdS_at {x : List S64} {i : Nat} (h : i < x.length) : rd_T64 x (i : Int) = x[i] := by simp [rd_T64, List.getD_eq_getElem?_getD, h]
theorem circ_check_exits (s : List S64) (g : List S61) (x : List S66) (hx : (x.length : Int) ≤ 4096) (hl : ∀ e ∈ x, e.f0.length ≤ maxLen) : Ev (fun k => circ_Check.l1 k x (x.length : Int) 0 s g x) (firstE (fun _ => exitV g.length) 0 x) := by
  refine up0 (g := fun k i => circ_Check.l1 k x (x.length : Int) (i : Int) s g x) (R := fun i => firstE (fun _ => exitV g.length) i (x.drop i)) (n := x.length) ?_ fun i hi h => ?_
  · rw [firstE_end]
    refine Ev.fuel 1 fun k => ?_
    simp only [circ_Check.l1];rw [if_neg (by omega)]
  · rw [firstE_step _ _ _ hi]
    refine Ev.step (f := fun k => (circ_Exit.f k (g.length : Int) x[i].f0 x[i].f1).bind fun aa => (if aa = 0 then (circ_Check.l1 k x (x.length : Int) ((i + 1 : Nat) : Int) s g x) else (some aa))) (fun k => ?_) (Ev.bind (circ_exit _ x[i] (hl _ (List.getElem_mem hi))) ?_)
    · simp only [circ_Check.l1]
      rw [if_pos (by omega), if_pos (by omega), if_pos (by omega), rdX_at hi, wadd (by omega)]
    · by_cases e : exitV g.length x[i] = 0
      · simp only [if_pos e]; exact h
      · simp only [if_neg e]; exact Ev.now _
theorem circ_check (p : Int) (s : List S64) (g : List S61) (x : List S66) (hl : ∀ e ∈ x, e.f0.length ≤ maxLen) : Ev (fun k => circ_Check.f k p s g x) (checkV p s g x) := by
  unfold circ_Check.f checkV;refine Ev.bind (field_is p) ?_
  by_cases hp : isP p = true
  · simp only [if_pos hp]
    have hp3 := ((isP_iff p).1 hp).1
    have j0t : Ev (fun k => circ_Check.j0 k p true s g x) 3 := Ev.fuel 1 fun k => by simp [circ_Check.j0]
    by_cases h1 : (s.length : Int) > 256
    · simp only [if_pos h1, if_pos (show (s.length : Int) > 256 ∨ (g.length : Int) > 65536 ∨ (x.length : Int) > 4096 from .inl h1)]; exact j0t
    by_cases h2 : (g.length : Int) > 65536
    · simp only [if_neg h1, if_pos h2, if_pos (show (s.length : Int) > 256 ∨ (g.length : Int) > 65536 ∨ (x.length : Int) > 4096 from .inr (.inl h2))]; exact j0t
    by_cases h3 : (x.length : Int) > 4096
    · simp only [if_neg h1, if_neg h2, qqT h3, if_pos (show (s.length : Int) > 256 ∨ (g.length : Int) > 65536 ∨ (x.length : Int) > 4096 from .inr (.inr h3))]; exact j0t
    simp only [if_neg h1, if_neg h2, qqF h3, if_neg (show ¬ ((s.length : Int) > 256 ∨ (g.length : Int) > 65536 ∨ (x.length : Int) > 4096) by omega)]
    have hs : api_Slot_60.f s = some (badS s) := by
      unfold api_Slot_60.f badS
      congr 2
      funext y
      unfold circ_Check_1.f
      by_cases hy : y.f0 < 1
      · simp [hy]
      · simp [hy]
    refine Ev.step (f := fun k => (api_Slot_60.f s).bind fun ab => (if ab = true then (some 2) else (circ_Check.l0 k p g (g.length : Int) 0 s g x))) (fun k => by simp [circ_Check.j0]) ?_;rw [hs]
    by_cases hb : badS s = true
    · simp only [Option.bind_some, if_pos hb]; exact Ev.now _
    simp only [Option.bind_some, if_neg hb];have hx := circ_check_exits s g x (by omega) hl
    refine up0 (g := fun k i => circ_Check.l0 k p g (g.length : Int) (i : Int) s g x) (R := fun i => if firstE (gateV p s.length) i (g.drop i) = 0 then firstE (fun _ => exitV g.length) 0 x else firstE (gateV p s.length) i (g.drop i)) (n := g.length) ?_ fun i hi h => ?_
    · rw [firstE_end, if_pos rfl]
      refine Ev.step (f := fun k => circ_Check.l1 k x (x.length : Int) 0 s g x) (fun k => ?_) hx;simp only [circ_Check.l0];rw [if_neg (by omega)]
    · rw [firstE_step _ _ _ hi]
      refine Ev.step (f := fun k => (circ_Gate.f k p (s.length : Int) (i : Int) g[i].f0 g[i].f1 g[i].f2 g[i].f3).bind fun aa => (if aa = 0 then (circ_Check.l0 k p g (g.length : Int) ((i + 1 : Nat) : Int) s g x) else (some aa))) (fun k => ?_) (Ev.bind (circ_gate p _ _ g[i] (by omega)) ?_)
      · simp only [circ_Check.l0]
        rw [if_pos (by omega), if_pos (by omega), if_pos (by omega), rdG_get hi, wadd (by omega)]
      · by_cases e : gateV p s.length i g[i] = 0
        · simp only [if_pos e]; exact h
        · simp only [if_neg e]; exact Ev.now _
  · simp only [if_neg hp]; exact Ev.now _
theorem ref_check_exits (s : List S64) (g : List S61) (x : List S66) (hx : (x.length : Int) ≤ 4096) (hl : ∀ e ∈ x, e.f0.length ≤ maxLen) : Ev (fun k => qda.l2 k x (x.length : Int) 0 s g x) (firstE (fun _ => exitV g.length) 0 x) := by
  refine up0 (g := fun k i => qda.l2 k x (x.length : Int) (i : Int) s g x) (R := fun i => firstE (fun _ => exitV g.length) i (x.drop i)) (n := x.length) ?_ fun i hi h => ?_
  · rw [firstE_end]
    refine Ev.fuel 1 fun k => ?_
    simp only [qda.l2];rw [if_neg (by omega)]
  · rw [firstE_step _ _ _ hi]
    refine Ev.step (f := fun k => (qqa.f k (g.length : Int) x[i].f0 x[i].f1).bind fun aa => (if aa = 0 then (qda.l2 k x (x.length : Int) ((i + 1 : Nat) : Int) s g x) else (some aa))) (fun k => ?_) (Ev.bind (ref_exit _ x[i] (hl _ (List.getElem_mem hi))) ?_)
    · simp only [qda.l2]
      rw [if_pos (by omega), if_pos (by omega), if_pos (by omega), rdX_at hi, wadd (by omega)]
    · by_cases e : exitV g.length x[i] = 0
      · simp only [if_pos e]; exact h
      · simp only [if_neg e]; exact Ev.now _
theorem ref_check (p : Int) (s : List S64) (g : List S61) (x : List S66) (hl : ∀ e ∈ x, e.f0.length ≤ maxLen) : Ev (fun k => qda.f k p s g x) (checkV p s g x) := by
  unfold qda.f checkV;refine Ev.bind (ref_is p) ?_
  by_cases hp : isP p = true
  · simp only [if_pos hp]
    have hp3 := ((isP_iff p).1 hp).1
    have j0t : Ev (fun k => qda.j0 k p true s g x) 3 := Ev.fuel 1 fun k => by simp [qda.j0]
    by_cases h1 : (s.length : Int) > 256
    · simp only [if_pos h1, if_pos (show (s.length : Int) > 256 ∨ (g.length : Int) > 65536 ∨ (x.length : Int) > 4096 from .inl h1)]; exact j0t
    by_cases h2 : (g.length : Int) > 65536
    · simp only [if_neg h1, if_pos h2, if_pos (show (s.length : Int) > 256 ∨ (g.length : Int) > 65536 ∨ (x.length : Int) > 4096 from .inr (.inl h2))]; exact j0t
    by_cases h3 : (x.length : Int) > 4096
    · simp only [if_neg h1, if_neg h2, qqT h3, if_pos (show (s.length : Int) > 256 ∨ (g.length : Int) > 65536 ∨ (x.length : Int) > 4096 from .inr (.inr h3))]; exact j0t
    simp only [if_neg h1, if_neg h2, qqF h3, if_neg (show ¬ ((s.length : Int) > 256 ∨ (g.length : Int) > 65536 ∨ (x.length : Int) > 4096) by omega)];refine Ev.step (f := fun k => qda.l0 k p s (s.length : Int) 0 s g x) (fun k => by simp [qda.j0]) ?_;have hx := ref_check_exits s g x (by omega) hl
    have hg : Ev (fun k => qda.l1 k p g (g.length : Int) 0 s g x) (if firstE (gateV p s.length) 0 g = 0 then firstE (fun _ => exitV g.length) 0 x else firstE (gateV p s.length) 0 g) := by
      refine up0 (g := fun k i => qda.l1 k p g (g.length : Int) (i : Int) s g x) (R := fun i => if firstE (gateV p s.length) i (g.drop i) = 0 then firstE (fun _ => exitV g.length) 0 x else firstE (gateV p s.length) i (g.drop i)) (n := g.length) ?_ fun i hi h => ?_
      · rw [firstE_end, if_pos rfl]
        refine Ev.step (f := fun k => qda.l2 k x (x.length : Int) 0 s g x) (fun k => ?_) hx;simp only [qda.l1];rw [if_neg (by omega)]
      · rw [firstE_step _ _ _ hi]
        refine Ev.step (f := fun k => (qca.f k p (s.length : Int) (i : Int) g[i].f0 g[i].f1 g[i].f2 g[i].f3).bind fun aa => (if aa = 0 then (qda.l1 k p g (g.length : Int) ((i + 1 : Nat) : Int) s g x) else (some aa))) (fun k => ?_) (Ev.bind (ref_gate p _ _ g[i]) ?_)
        · simp only [qda.l1]
          rw [if_pos (by omega), if_pos (by omega), if_pos (by omega), rdG_get hi, wadd (by omega)]
        · by_cases e : gateV p s.length i g[i] = 0
          · simp only [if_pos e]; exact h
          · simp only [if_neg e]; exact Ev.now _
    refine up0 (g := fun k i => qda.l0 k p s (s.length : Int) (i : Int) s g x) (R := fun i => if badS (s.drop i) = true then 2 else (if firstE (gateV p s.length) 0 g = 0 then firstE (fun _ => exitV g.length) 0 x else firstE (gateV p s.length) 0 g)) (n := s.length) ?_ fun i hi h => ?_
    · rw [List.drop_of_length_le (Nat.le_refl _)]
      refine Ev.step (f := fun k => qda.l1 k p g (g.length : Int) 0 s g x) (fun k => ?_) hg;simp only [qda.l0];rw [if_neg (by omega)]
    · rw [List.drop_eq_getElem_cons hi]
      unfold badS at h ⊢;rw [List.any_cons]
      by_cases a1 : s[i].f0 < 1
      · refine Ev.fuel 1 fun k => ?_
        simp only [qda.l0];rw [if_pos (by omega), if_pos (by omega), if_pos (by omega), rdS_at hi, if_pos a1];simp [a1]
      by_cases a2 : s[i].f0 > 13
      · refine Ev.fuel 1 fun k => ?_
        simp only [qda.l0];rw [if_pos (by omega), if_pos (by omega), if_pos (by omega), rdS_at hi, if_neg a1, if_pos a2];simp [a2]
      · rw [show (decide (s[i].f0 < 1) || decide (s[i].f0 > 13)) = false by simp; omega, Bool.false_or]
        refine Ev.step (f := fun k => qda.l0 k p s (s.length : Int) ((i + 1 : Nat) : Int) s g x) (fun k => ?_) h;simp only [qda.l0];rw [if_pos (by omega), if_pos (by omega), if_pos (by omega), rdS_at hi, if_neg a1, if_neg a2, wadd (by omega)]
  · simp only [if_neg hp]; exact Ev.now _
structure Good (p : Int) (s : List S64) (g : List S61) (x : List S66) : Prop where
  prime : isP p = true
  ls : s.length ≤ 256
  lg : g.length ≤ 65536
  lx : x.length ≤ 4096
  slots : badS s = false
  gates : okL p s.length g
  exits : ∀ e ∈ x, exitV g.length e = 0
theorem good_of {p : Int} {s : List S64} {g : List S61} {x : List S66} (h : checkV p s g x = 0) (h3 : ∀ e ∈ g, 0 ≤ e.f3) : Good p s g x := by
  unfold checkV at h
  split at h
  · rename_i hp
    split at h
    · cases h
    rename_i hl
    split at h
    · cases h
    rename_i hb
    split at h
    · rename_i hg
      refine ⟨hp, by omega, by omega, by omega, by simpa using hb, ?_, ?_⟩
      · intro i y hy
        have := (firstE_zero _ g 0).1 hg i y hy;rw [Nat.zero_add] at this;exact (gateV_ok (h3 y (List.mem_of_getElem? hy))).1 this
      · intro e he
        obtain ⟨j, hj⟩ := List.getElem?_of_mem he;exact (firstE_zero _ x 0).1 h j e hj
    · rename_i hg; exact absurd h hg
  · cases h
theorem Good.check {p : Int} {s : List S64} {g : List S61} {x : List S66} (h : Good p s g x) : checkV p s g x = 0 := by
  have hg : firstE (gateV p s.length) 0 g = 0 := (firstE_zero _ g 0).2 fun j b hb => by
    have := h.gates j b hb;rw [Nat.zero_add];exact (gateV_ok (by unfold okG at this; omega)).2 this
  have hx : firstE (fun _ => exitV g.length) 0 x = 0 := (firstE_zero _ x 0).2 fun j b hb => h.exits b (List.mem_of_getElem? hb)
  unfold checkV;have := h.ls;have := h.lg;have := h.lx;rw [if_pos h.prime, if_neg (by omega), h.slots, hg, hx]
  rfl
theorem Good.pos {p : Int} {s : List S64} {g : List S61} {x : List S66} (h : Good p s g x) : 0 < p := by
  have := (isP_iff p).1 h.prime; omega
theorem Good.small {p : Int} {s : List S64} {g : List S61} {x : List S66} (h : Good p s g x) : p ≤ 65537 := by
  have := (isP_iff p).1 h.prime; omega
theorem exitV_zero {n : Int} {e : S66} (h : exitV n e = 0) : e.f0.length ≤ 13 ∧ e.f1.length ≤ 1024 ∧ ∀ x ∈ e.f1, 0 ≤ x ∧ x < n := by
  unfold exitV at h
  split at h
  · rename_i hr
    split at h
    · cases h
    rename_i hl
    split at h
    · cases h
    rename_i hb;have := rise_len _ _ (by omega) hr;refine ⟨by omega, by omega, fun x hx => ?_⟩;rw [Bool.not_eq_true] at hb;unfold badX at hb;have := List.any_eq_false.1 hb x hx;simp at this
    omega
  · cases h
theorem exitV_map {n n' : Int} {e : S66} {f : Int → Int} (h : exitV n e = 0) (hf : ∀ x, 0 ≤ x → x < n → x ∈ e.f1 → 0 ≤ f x ∧ f x < n') : exitV n' ⟨e.f0, e.f1.map f⟩ = 0 := by
  obtain ⟨h1, h2, h3⟩ := exitV_zero h
  have hr : rise 0 e.f0 = true := by
    unfold exitV at h
    split at h
    · assumption
    · cases h
  unfold exitV;simp only;rw [if_pos hr, List.length_map, if_neg (by omega), if_neg];unfold badX;rw [Bool.not_eq_true, List.any_eq_false];intro y hy;obtain ⟨x, hx, rfl⟩ := List.mem_map.1 hy;have := h3 x hx;have := hf x this.1 this.2 hx;simp; omega
theorem Good.other {p : Int} {s : List S64} {g g' : List S61} {x : List S66} {f : Int → Int} (h : Good p s g x) (hg : okL p s.length g') (hl : g'.length ≤ g.length)
    (hf : ∀ e ∈ x, ∀ y ∈ e.f1, 0 ≤ f y ∧ f y < g'.length) : Good p s g' (x.map fun e => ⟨e.f0, e.f1.map f⟩) :=
  ⟨h.prime, h.ls, by have := h.lg; omega, by rw [List.length_map]; exact h.lx, h.slots, hg, fun e he => by
    obtain ⟨e', he', rfl⟩ := List.mem_map.1 he
    exact exitV_map (h.exits e' he') fun y _ _ hy => hf e' he' y hy⟩
end Go.Proofs.Ytmlbliggbkfjnaa.L
/- Both ways to fold a circuit answer alike, and what they answer; copies of a circuit. -/
namespace Go.Proofs.Ytmlbliggbkfjnaa.L
open Go.RowKit Go.Proofs.YtmlbliggbkfjnaaW.PrintWords Go.Proofs.Ytmlbliggbkfjnaa.J
theorem mul_small {p a b : Int} (hp : p ≤ 65537) (ha : 0 ≤ a) (ha' : a < p) (hb : 0 ≤ b) (hb' : b < p) : 0 ≤ a * b ∧ a * b < 18446744073709551616 := by
  have h1 : a * b ≤ 65537 * 65537 := Int.mul_le_mul (by omega) (by omega) hb (by omega);exact ⟨Int.mul_nonneg ha hb, by omega⟩
theorem times_at {p a b : Int} (h0 : 0 < p) (hp : p ≤ 65537) (ha : 0 ≤ a) (ha' : a < p) (hb : 0 ≤ b) (hb' : b < p) : qva.f p a b = some (a * b % p) := by
  obtain ⟨h1, h2⟩ := mul_small hp ha ha' hb hb';unfold qva.f field_mul.f;simp only [u64_small h1 h2, if_neg (show ¬ p = 0 by omega), Option.bind_some, Int.tmod_eq_emod_of_nonneg h1]
theorem ref_mul {p a b : Int} (h0 : 0 < p) (hp : p ≤ 65537) (ha : 0 ≤ a) (ha' : a < p) (hb : 0 ≤ b) (hb' : b < p) : qxa.f p a b = some (a * b % p) := by
  obtain ⟨h1, h2⟩ := mul_small hp ha ha' hb hb';unfold qxa.f;rw [u64_small h1 h2, if_neg (show ¬ p = 0 by omega), Int.tmod_eq_emod_of_nonneg h1]
theorem ref_add {p a b : Int} (h0 : 0 < p) (hp : p ≤ 65537) (ha : 0 ≤ a) (ha' : a < p) (hb : 0 ≤ b) (hb' : b < p) : qbb.f p a b = some ((a + b) % p) := by
  unfold qbb.f;rw [u64_small (by omega) (by omega), if_neg (show ¬ p = 0 by omega), Int.tmod_eq_emod_of_nonneg (by omega)]
theorem ref_sub {p a b : Int} (h0 : 0 < p) (hp : p ≤ 65537) (ha : 0 ≤ a) (ha' : a < p) (hb : 0 ≤ b) (hb' : b < p) : qya.f p a b = some ((a + p - b) % p) := by
  unfold qya.f;rw [u64_small (n := a + p) (by omega) (by omega), u64_small (n := a + p - b) (by omega) (by omega), if_neg (show ¬ p = 0 by omega), Int.tmod_eq_emod_of_nonneg (by omega)]
theorem plus_at {p a b : Int} (h0 : 0 < p) (hp : p ≤ 65537) (ha : 0 ≤ a) (ha' : a < p) (hb : 0 ≤ b) (hb' : b < p) : qdb.f p a b = some ((a + b) % p) := by
  unfold qdb.f;rw [u64_small (n := a + b) (by omega) (by omega)]
  by_cases h : a + b ≥ p
  · rw [if_pos h, u64_small (by omega) (by omega)]
    rw [show (a + b) % p = a + b - p by rw [← Int.sub_emod_right, Int.emod_eq_of_lt (by omega) (by omega)]]
  · rw [if_neg h, Int.emod_eq_of_lt (by omega) (by omega)]
theorem minus_at {p a b : Int} (h0 : 0 < p) (hp : p ≤ 65537) (ha : 0 ≤ a) (ha' : a < p) (hb : 0 ≤ b) (hb' : b < p) : qcb.f p a b = some ((a + p - b) % p) := by
  unfold qcb.f;rw [if_neg (show ¬ p = 0 by omega), u64_small (n := p - b) (by omega) (by omega), Int.tmod_eq_emod_of_nonneg (by omega)];rw [plus_at h0 hp ha ha' (Int.emod_nonneg _ (by omega)) (Int.emod_lt_of_pos _ h0), Option.bind_some]
  congr 1
  rw [Int.add_emod_emod]
  congr 1
  omega
theorem of_at {p a b : Int} (k : Int) (h0 : 0 < p) (hp : p ≤ 65537) (ha : 0 ≤ a) (ha' : a < p) (hb : 0 ≤ b) (hb' : b < p) (hk : k = 3 ∨ k = 4 ∨ k = 5) : circ_Of.f p k 0 1 0 [] [a, b] = some (opV p k a b) := by
  have e0 : rd [a, b] 0 = a := rfl;have e1 : rd [a, b] 1 = b := rfl
  rcases hk with rfl | rfl | rfl
  · simp [circ_Of.f, opV, e0, e1, plus_at h0 hp ha ha' hb hb']
  · simp [circ_Of.f, opV, e0, e1, minus_at h0 hp ha ha' hb hb']
  · simp [circ_Of.f, opV, e0, e1, times_at h0 hp ha ha' hb hb']
theorem k_range {p s i : Int} {g : S61} (h : okG p s i g) (hk : g.f0 = 2 ∨ g.f0 = 6) : 0 ≤ g.f3 ∧ g.f3 < p := by
  unfold okG at h; omega
def stepR (o : Option S61) (g : S61) : Int × Int × Int × Int × Bool := match o with
  | some g' => (g'.f0, g'.f1, g'.f2, g'.f3, true)
  | none => (g.f0, g.f1, g.f2, g.f3, false)
theorem folded_at {p s : Int} (h0 : 0 < p) (hp : p ≤ 65537) {D R : List S61} {g : S61} (hD : okL p s D) (hg : okG p s D.length g) : Ev (fun k => tune_folded.f k p (D ++ R) g.f0 g.f1 g.f2 g.f3) (stepR (foldStep p D g) g) := by
  refine Ev.fuel 12 fun k => ?_
  obtain ⟨a, b, c, d⟩ := g
  rcases hg with h | h | h | h
  · obtain rfl : a = 1 := h.1
    simp [tune_folded.f, tune_folded.j0, foldStep, stepR]
  · obtain rfl : a = 2 := h.1
    simp [tune_folded.f, tune_folded.j0, foldStep, stepR]
  · obtain ⟨hk, b0, b1, c0, c1, hd⟩ := h
    simp only at hk b0 b1 c0 c1 hd;subst hd;have hA := okL_at hD b0 b1;have hB := okL_at hD c0 c1;have eA : rd_T61 (D ++ R) b = atG D b := atG_left b1 b0;have eB : rd_T61 (D ++ R) c = atG D c := atG_left c1 c0
    have b2 : b < ((D ++ R).length : Int) := by simp; omega
    have c2 : c < ((D ++ R).length : Int) := by simp; omega
    have kA := k_range hA;have kB := k_range hB
    have hop : (atG D b).f0 = 2 → (atG D c).f0 = 2 → circ_Of.f p a 0 1 0 [] [(atG D b).f3, (atG D c).f3] = some (opV p a (atG D b).f3 (atG D c).f3) := fun h1 h2 =>
      of_at a h0 hp (kA (.inl h1)).1 (kA (.inl h1)).2 (kB (.inl h2)).1 (kB (.inl h2)).2 hk
    unfold foldStep;simp only;generalize atG D b = A at *;generalize atG D c = B at *;generalize D ++ R = E at *
    rcases hk with rfl | rfl | rfl
    · by_cases hA2 : A.f0 = 2 <;> by_cases hB2 : B.f0 = 2 <;> simp [tune_folded.f, tune_folded.j0, tune_folded.j1, tune_folded.j2, tune_folded.j3, tune_folded.j4, tune_folded.j5, tune_folded.j6, tune_folded_1.f, tune_folded_2.f, b0, b2, c0, c2, eA, eB, stepR, hA2, hB2, hop] <;> simp_all [tune_folded_1.f, tune_folded_2.f]
    · by_cases hA2 : A.f0 = 2 <;> by_cases hB2 : B.f0 = 2 <;> by_cases hbc : b = c <;> simp [tune_folded.f, tune_folded.j0, tune_folded.j1, tune_folded.j2, tune_folded.j3, tune_folded.j4, tune_folded.j5, tune_folded.j6, tune_folded_1.f, tune_folded_2.f, b0, b2, c0, c2, eA, eB, stepR, hA2, hB2, hop, hbc] <;> simp_all [tune_folded_1.f, tune_folded_2.f]
    · by_cases hA2 : A.f0 = 2 <;> by_cases hB2 : B.f0 = 2 <;> simp [tune_folded.f, tune_folded.j0, tune_folded.j1, tune_folded.j2, tune_folded.j3, tune_folded.j4, tune_folded.j5, tune_folded.j6, tune_folded_1.f, tune_folded_2.f, b0, b2, c0, c2, eA, eB, stepR, hA2, hB2, hop] <;> simp_all [tune_folded_1.f, tune_folded_2.f]
  · obtain ⟨hk, b0, b1, c0, d0, d1⟩ := h
    simp only at hk b0 b1 c0 d0 d1;subst hk; subst c0;have hA := okL_at hD b0 b1;have eA : rd_T61 (D ++ R) b = atG D b := atG_left b1 b0
    have b2 : b < ((D ++ R).length : Int) := by simp; omega
    have c2 : (0 : Int) < ((D ++ R).length : Int) := by omega
    have kA := k_range hA
    have hop : (atG D b).f0 = 2 ∨ (atG D b).f0 = 6 → qva.f p (atG D b).f3 d = some ((atG D b).f3 * d % p) := fun h1 =>
      times_at h0 hp (kA h1).1 (kA h1).2 d0 d1
    unfold foldStep;simp only;generalize atG D b = A at *;generalize D ++ R = E at *;generalize rd_T61 E 0 = B at *
    have cE : E ≠ [] := by rintro rfl; simp at c2
    by_cases hA2 : A.f0 = 2
    · simp [tune_folded.f, tune_folded.j0, tune_folded.j1, tune_folded.j2, tune_folded_1.f, b0, b2, c2, cE, eA, stepR, hA2, hop (.inl hA2)]
    · by_cases hd : d = 0
      · simp [tune_folded.f, tune_folded.j0, tune_folded.j1, tune_folded.j2, tune_folded.j3, tune_folded.j4, tune_folded.j5, tune_folded_1.f, b0, b2, c2, cE, eA, stepR, hA2, hd]
      · by_cases hA6 : A.f0 = 6
        · simp [tune_folded.f, tune_folded.j0, tune_folded.j1, tune_folded.j2, tune_folded.j3, tune_folded.j4, tune_folded.j5, tune_folded.j6, tune_folded_2.f, b0, b2, c2, cE, eA, stepR, hA2, hd, hA6, hop (.inr hA6)]
        · simp [tune_folded.f, tune_folded.j0, tune_folded.j1, tune_folded.j2, tune_folded.j3, tune_folded.j4, tune_folded.j5, tune_folded.j6, b0, b2, c2, cE, eA, stepR, hA2, hd, hA6]
theorem take_more {α : Type} (l : List α) {i : Nat} (h : i < l.length) : l.take i ++ [l[i]] = l.take (i + 1) := by
  rw [List.take_add_one, List.getElem?_eq_getElem h]; rfl
theorem Good.exit {p : Int} {s : List S64} {g : List S61} {x : List S66} (h : Good p s g x) : ∀ e ∈ x, e.f0.length ≤ 13 ∧ e.f1.length ≤ 1024 := fun e he => by
  have := exitV_zero (h.exits e he); exact ⟨this.1, this.2.1⟩
theorem own_at (s : List S64) (g : List S61) (x : List S66) (hs : s.length ≤ 256) (hg : g.length ≤ 65536) (hx : x.length ≤ 4096) (he : ∀ e ∈ x, e.f0.length ≤ 13 ∧ e.f1.length ≤ 1024) : Ev (fun k => tune_Own.f k s g x) (s, g, x) := by
  unfold tune_Own.f api_Slot_64.f api_Gate_65.f;rw [if_pos (by omega), if_pos (by omega)];simp only [Option.bind_some]
  refine up0 (g := fun k i => tune_Own.l0 k x (x.length : Int) (i : Int) s g (x.take i)) (R := fun _ => (s, g, x)) (n := x.length) ?_ fun i hi h => ?_
  · rw [List.take_length]
    refine Ev.fuel 1 fun k => ?_
    simp only [tune_Own.l0];rw [if_neg (by omega)]
  · refine Ev.step (f := fun k => tune_Own.l0 k x (x.length : Int) ((i + 1 : Nat) : Int) s g (x.take (i + 1))) (fun k => ?_) h
    have := he _ (List.getElem_mem hi);simp only [tune_Own.l0];rw [if_pos (by omega), if_pos (by omega), if_pos (by omega), rdX_at hi];unfold qua.f;rw [if_pos (by omega), if_pos (by omega)];simp only [Option.bind_some];rw [if_pos (by rw [List.length_take]; omega), wadd (by omega), take_more x hi]
theorem folds_len (p : Int) (l : List S61) : (folds p [] l).length = l.length := by simp [folds, snocs_len]
theorem folds_more (p : Int) (l : List S61) {i : Nat} (h : i < l.length) : folds p [] (l.take (i + 1)) = folds p [] (l.take i) ++ [foldG p (folds p [] (l.take i)) l[i]] := by
  rw [← take_more l h]; exact snocs_snoc _ _ _ _
theorem okL_take {p s : Int} {l : List S61} (h : okL p s l) (n : Nat) : okL p s (l.take n) := by
  have : l = l.take n ++ l.drop n := (List.take_append_drop n l).symm;rw [this] at h; exact okL_app h
theorem okG_nth {p s : Int} {l : List S61} (h : okL p s l) {i : Nat} (hi : i < l.length) : okG p s i l[i] := h i _ (List.getElem?_eq_getElem hi)
theorem set_mid {α : Type} (D : List α) (y z : α) (R : List α) : (D ++ y :: R).set D.length z = D ++ z :: R := by
  rw [List.set_append_right _ _ (Nat.le_refl _), Nat.sub_self]; rfl
theorem fold_inner {p s : Int} (h0 : 0 < p) (hp : p ≤ 65537) (sl : List S64) (x : List S66) (n : Int) {D R : List S61} (hD : okL p s D) {r : (List S64) × (List S61) × (List S66) × Int} : ∀ (m : Nat) (y : S61), meas D.length y < m → okG p s D.length y →
    Ev (fun k => tune_Fold.l1 k p (D.length : Int) false n (D.length : Int) sl (D ++ foldN p D m y :: R) x) r → Ev (fun k => tune_Fold.l1 k p (D.length : Int) true n (D.length : Int) sl (D ++ y :: R) x) r
  | 0, y, hm, _, _ => by omega
  | m + 1, y, hm, hy, h => by
    have hr : rd_T61 (D ++ y :: R) (D.length : Int) = y := by simp [rd_T61, List.getD_eq_getElem?_getD]
    have hl : (D.length : Int) < ((D ++ y :: R).length : Int) := by simp; omega
    have hf := folded_at (R := y :: R) h0 hp hD hy;refine Ev.step (f := fun k => (tune_folded.f k p (D ++ y :: R) y.f0 y.f1 y.f2 y.f3).bind fun aa => (tune_Fold.l1 k p (D.length : Int) aa.2.2.2.2 n (D.length : Int) sl ((D ++ y :: R).set D.length (⟨aa.1, aa.2.1, aa.2.2.1, aa.2.2.2.1⟩ : S61)) x)) (fun k => ?_) (Ev.bind hf ?_)
    · simp only [tune_Fold.l1]
      rw [if_pos trivial, if_pos (by omega), if_pos hl, hr]
      rfl
    · unfold foldN at h
      cases e : foldStep p D y with
      | none =>
        rw [e] at h;simp only [stepR, set_mid];exact h
      | some y' =>
        rw [e] at h;simp only [stepR, set_mid];obtain ⟨o1, o2⟩ := fold_ok h0 hD hy e;exact fold_inner h0 hp sl x n hD m y' (by omega) o1 h
theorem tune_fold {p : Int} {s : List S64} {g : List S61} {x : List S66} (G : Good p s g x) : Ev (fun k => tune_Fold.f k p s g x) (s, folds p [] g, x, 0) := by
  unfold tune_Fold.f;have hlx := G.exit;refine Ev.bind (circ_check p s g x fun e he => by have := (hlx e he).1; simp only [maxLen]; omega) ?_;rw [G.check];simp only [if_true];refine Ev.bind (own_at s g x G.ls G.lg G.lx hlx) ?_;simp only
  refine up0 (g := fun k i => tune_Fold.l0 k p (g.length : Int) (i : Int) s (folds p [] (g.take i) ++ g.drop i) x) (R := fun _ => (s, folds p [] g, x, 0)) (n := g.length) ?_ fun i hi h => ?_
  · rw [List.take_length, List.drop_of_length_le (Nat.le_refl _), List.append_nil]
    refine Ev.fuel 1 fun k => ?_
    simp only [tune_Fold.l0];rw [if_neg (by omega)]
  · have hD : okL p s.length (folds p [] (g.take i)) := folds_ok G.pos _ (okL_take G.gates i)
    have hl : (folds p [] (g.take i)).length = i := by rw [folds_len, List.length_take]; omega
    have hg := okG_nth G.gates hi;rw [folds_more p g hi] at h;rw [List.drop_eq_getElem_cons hi];have hlg := G.lg;refine Ev.step (f := fun k => tune_Fold.l1 k p (i : Int) true (g.length : Int) (i : Int) s (folds p [] (g.take i) ++ g[i] :: g.drop (i + 1)) x) (fun k => ?_) ?_
    · simp only [tune_Fold.l0]
      rw [if_pos (by omega)]
    · have := fold_inner (r := (s, folds p [] g, x, 0)) G.pos G.small s x (g.length : Int) (R := g.drop (i + 1)) hD (i + 2) g[i] (by rw [hl]; exact meas_lt hg) (by rw [hl]; exact hg)
      rw [hl] at this;refine this ?_;refine Ev.step (f := fun k => tune_Fold.l0 k p (g.length : Int) ((i + 1 : Nat) : Int) s (folds p [] (g.take i) ++ foldN p (folds p [] (g.take i)) (i + 2) g[i] :: g.drop (i + 1)) x) (fun k => ?_) ?_
      · simp only [tune_Fold.l1]
        rw [if_neg (by decide), wadd (by omega)]
      · have e : foldG p (folds p [] (g.take i)) g[i] = foldN p (folds p [] (g.take i)) (i + 2) g[i] := by unfold foldG; rw [hl]
        rw [e, List.append_assoc] at h;exact h
end Go.Proofs.Ytmlbliggbkfjnaa.L
/- Gates named by new numbers in the exits: both ways answer alike, and what they answer; gates that stay. -/
namespace Go.Proofs.Ytmlbliggbkfjnaa.L
open Go.RowKit Go.Proofs.YtmlbliggbkfjnaaW.PrintWords Go.Proofs.Ytmlbliggbkfjnaa.J
def mapX (f : Int → Int) (x : List S66) : List S66 := x.map fun e => ⟨e.f0, e.f1.map f⟩
def half {α : Type} (f : α → α) (l : List α) (j : Nat) : List α := (l.take j).map f ++ l.drop j
theorem half_len {α : Type} (f : α → α) (l : List α) (j : Nat) : (half f l j).length = l.length := by
  unfold half; rw [List.length_append, List.length_map, List.length_take, List.length_drop]; omega
theorem half_zero {α : Type} (f : α → α) (l : List α) : half f l 0 = l := by simp [half]
theorem half_end {α : Type} (f : α → α) (l : List α) : half f l l.length = l.map f := by simp [half]
theorem half_at {α : Type} (f : α → α) (l : List α) {j : Nat} (h : j < l.length) : (half f l j)[j]? = some l[j] := by
  unfold half
  have hl : ((l.take j).map f).length = j := by rw [List.length_map, List.length_take]; omega
  rw [List.getElem?_append_right (by omega), hl, Nat.sub_self, List.getElem?_drop];simp [h]
theorem half_set {α : Type} (f : α → α) (l : List α) {j : Nat} (h : j < l.length) : (half f l j).set j (f l[j]) = half f l (j + 1) := by
  unfold half
  have hl : ((l.take j).map f).length = j := by rw [List.length_map, List.length_take]; omega
  rw [List.drop_eq_getElem_cons h, List.set_append_right _ _ (by omega), hl, Nat.sub_self, List.set_cons_zero, ← take_more l h, List.map_append, List.append_assoc]
  rfl
theorem half_same {α : Type} (f : α → α) (l : List α) {j : Nat} (h : j < l.length) : (half f l j).set j l[j] = half f l j := by
  have := half_at f l h
  apply List.ext_getElem?
  intro i;rw [List.getElem?_set]
  split
  · rename_i e
    subst e;rw [if_pos (by rw [half_len]; exact h), this]
  · rfl
def midX (f : Int → Int) (x : List S66) (i : Nat) (h : i < x.length) (j : Nat) : List S66 := (half (fun e : S66 => ⟨e.f0, e.f1.map f⟩) x i).set i ⟨x[i].f0, half f x[i].f1 j⟩
theorem midX_zero (f : Int → Int) (x : List S66) (i : Nat) (h : i < x.length) : midX f x i h 0 = half (fun e : S66 => ⟨e.f0, e.f1.map f⟩) x i := by
  unfold midX; rw [half_zero]; exact half_same _ x h
theorem midX_end (f : Int → Int) (x : List S66) (i : Nat) (h : i < x.length) : midX f x i h x[i].f1.length = half (fun e : S66 => ⟨e.f0, e.f1.map f⟩) x (i + 1) := by
  unfold midX; rw [half_end]; exact half_set (fun e : S66 => (⟨e.f0, e.f1.map f⟩ : S66)) x h
theorem midX_at (f : Int → Int) (x : List S66) (i : Nat) (h : i < x.length) (j : Nat) : rd_T66 (midX f x i h j) (i : Int) = ⟨x[i].f0, half f x[i].f1 j⟩ := by
  unfold midX rd_T66;rw [List.getD_eq_getElem?_getD, Int.toNat_natCast, List.getElem?_set_self (by rw [half_len]; exact h)]
  rfl
theorem midX_len (f : Int → Int) (x : List S66) (i : Nat) (h : i < x.length) (j : Nat) : (midX f x i h j).length = x.length := by
  unfold midX; rw [List.length_set, half_len]
theorem midX_set (f : Int → Int) (x : List S66) (i : Nat) (h : i < x.length) (j : Nat) (hj : j < x[i].f1.length) : (midX f x i h j).set i ⟨x[i].f0, (half f x[i].f1 j).set j (f x[i].f1[j])⟩ = midX f x i h (j + 1) := by
  unfold midX;rw [List.set_set, half_set f x[i].f1 hj]
theorem rd_half (f : Int → Int) (l : List Int) {j : Nat} (h : j < l.length) : rd (half f l j) (j : Int) = l[j] := by
  unfold rd;rw [List.getD_eq_getElem?_getD, Int.toNat_natCast, half_at f l h]
  rfl
theorem rd_pad (D : List Int) (n : Nat) (i : Int) : rd (D ++ List.replicate n 0) i = atI D i := by
  unfold rd atI;rw [List.getD_eq_getElem?_getD, List.getD_eq_getElem?_getD, List.getElem?_append]
  split
  · rfl
  · rename_i h
    rw [List.getElem?_eq_none (l := D) (by omega), List.getElem?_replicate]
    split <;> rfl
theorem pad_set (D : List Int) {n : Nat} (v : Int) : (D ++ List.replicate (n + 1) 0).set D.length v = (D ++ [v]) ++ List.replicate n 0 := by
  rw [List.replicate_succ, set_mid, List.append_assoc]; rfl
theorem mv_more (st : Int → Bool) (t : Int → Int) (g : List S61) {i : Nat} (h : i < g.length) : mvL st t (g.take (i + 1)) = mvStep st t (mvL st t (g.take i)) g[i] := by
  rw [← take_more g h, mvL_snoc]
theorem mvL_few (st : Int → Bool) (t : Int → Int) (gs : List S61) : (mvL st t gs).1.length ≤ gs.length := by
  refine snoc_ind (P := fun gs => (mvL st t gs).1.length ≤ gs.length) (Nat.le_refl _) (fun gs g ih => ?_) gs;rw [mvL_snoc];unfold mvStep
  split <;> simp <;> omega
theorem tune_exits {p : Int} {s : List S64} {g : List S61} {x : List S66} (G : Good p s g x) (l : List S61) (P : List Int) (tto : Int → Option Int) (t : Int → Int) (ht : ∀ e ∈ x, ∀ y ∈ e.f1, tto y = some (t y) ∧ 0 ≤ t y ∧ t y < P.length) :
    Ev (fun k => tune_moved.l1 tto k P (x.length : Int) 0 s l x) (s, l, mapX (fun y => atI P (t y)) x) := by
  have hx := G.lx;have h0 := half_zero (fun e : S66 => (⟨e.f0, e.f1.map (fun y => atI P (t y))⟩ : S66)) x
  have key := up0 (g := fun k i => tune_moved.l1 tto k P (x.length : Int) (i : Int) s l (half (fun e : S66 => ⟨e.f0, e.f1.map (fun y => atI P (t y))⟩) x i)) (R := fun _ => (s, l, mapX (fun y => atI P (t y)) x)) (n := x.length) ?_ fun i hi h => ?_
  · rw [h0] at key; exact key
  · rw [half_end]
    refine Ev.fuel 1 fun k => ?_
    simp only [tune_moved.l1];rw [if_neg (by omega)]
    rfl
  · have he := (G.exit _ (List.getElem_mem hi)).2
    have hy := ht _ (List.getElem_mem hi);refine Ev.step (f := fun k => tune_moved.l2 tto k P (x.length : Int) (i : Int) (x[i].f1.length : Int) 0 s l (midX (fun y => atI P (t y)) x i hi 0)) (fun k => ?_) ?_
    · simp only [tune_moved.l1]
      rw [← midX_zero (fun y => atI P (t y)) x i hi, midX_at, midX_len, if_pos (by omega), if_pos (by omega), if_pos (by omega), half_zero]
    · refine up0 (g := fun k j => tune_moved.l2 tto k P (x.length : Int) (i : Int) (x[i].f1.length : Int) (j : Int) s l (midX (fun y => atI P (t y)) x i hi j)) (R := fun _ => (s, l, mapX (fun y => atI P (t y)) x)) (n := x[i].f1.length) ?_ fun j hj h' => ?_
      · rw [midX_end]
        refine Ev.step (f := fun k => tune_moved.l1 tto k P (x.length : Int) ((i + 1 : Nat) : Int) s l (half (fun e : S66 => ⟨e.f0, e.f1.map (fun y => atI P (t y))⟩) x (i + 1))) (fun k => ?_) h;simp only [tune_moved.l2];rw [if_neg (by omega), wadd (by omega)]
      · refine Ev.step (f := fun k => tune_moved.l2 tto k P (x.length : Int) (i : Int) (x[i].f1.length : Int) ((j + 1 : Nat) : Int) s l (midX (fun y => atI P (t y)) x i hi (j + 1))) (fun k => ?_) h'
        obtain ⟨y1, y2, y3⟩ := hy _ (List.getElem_mem hj);simp only [tune_moved.l2];simp only [midX_at];rw [half_len, rd_half _ _ hj, if_pos (by omega), if_pos (by omega), if_pos (by omega), y1, Option.bind_some, if_pos y2, if_pos y3, wadd (by omega), Int.toNat_natCast, Int.toNat_natCast];rw [show rd P (t x[i].f1[j]) = atI P (t x[i].f1[j]) from rfl, midX_set (fun y => atI P (t y)) _ _ _ _ hj]
theorem tune_moved_at {p : Int} {s : List S64} {g : List S61} {x : List S66} (G : Good p s g x) (st : Int → Int → Int → Int → Int → Option Bool) (tto : Int → Option Int) (sb : Int → Bool) (t : Int → Int)
    (hs : ∀ (i : Int) a b c d, 0 ≤ i → i < g.length → st i a b c d = some (sb i)) (ht : ∀ y : Int, 0 ≤ y → y < g.length → tto y = some (t y) ∧ 0 ≤ t y ∧ t y < g.length) :
    Ev (fun k => tune_moved.f st tto k s g x) (s, (mvL sb t g).1, mapX (fun y => atI (mvL sb t g).2 (t y)) x) := by
  unfold tune_moved.f;have hlg := G.lg;refine Ev.bind (own_at s g x G.ls G.lg G.lx G.exit) ?_;simp only [if_pos (show 0 ≤ (g.length : Int) by omega), Int.toNat_natCast, if_pos (show g.length ≤ 35184372088832 by omega)]
  refine up0 (g := fun k i => tune_moved.l0 st tto k ((mvL sb t (g.take i)).2 ++ List.replicate (g.length - i) 0) g (g.length : Int) (i : Int) s (mvL sb t (g.take i)).1 x) (R := fun _ => (s, (mvL sb t g).1, mapX (fun y => atI (mvL sb t g).2 (t y)) x)) (n := g.length) ?_ fun i hi h => ?_
  · rw [List.take_length, Nat.sub_self, List.replicate_zero, List.append_nil]
    refine Ev.step (f := fun k => tune_moved.l1 tto k (mvL sb t g).2 (x.length : Int) 0 s (mvL sb t g).1 x) (fun k => ?_) (tune_exits G _ _ tto t fun e he y hy => ?_)
    · simp only [tune_moved.l0]
      rw [if_neg (by omega)]
    · have hv := (exitV_zero (G.exits e he)).2.2 y hy
      have := ht y hv.1 hv.2;rw [mvL_len]; exact this
  · have hl : (mvL sb t (g.take i)).2.length = i := by rw [mvL_len, List.length_take]; omega
    have hf := mvL_few sb t (g.take i);rw [List.length_take] at hf;have hg := okG_nth G.gates hi;rw [mv_more sb t g hi] at h;unfold mvStep at h;rw [hl] at h;have hgi : rd_T61 g (i : Int) = g[i] := rdG_get hi;generalize g[i] = y at *;generalize (mvL sb t (g.take i)).1 = l at *;generalize (mvL sb t (g.take i)).2 = P at *
    have hL : ((P ++ List.replicate (g.length - i) 0).length : Int) = g.length := by rw [List.length_append, List.length_replicate]; omega
    have hset : ∀ v : Int, (P ++ List.replicate (g.length - i) 0).set i v = (P ++ [v]) ++ List.replicate (g.length - (i + 1)) 0 := fun v => by
      have := pad_set P (n := g.length - (i + 1)) v;rw [hl, show g.length - (i + 1) + 1 = g.length - i by omega] at this; exact this
    have hst := hs (i : Int) y.f0 y.f1 y.f2 y.f3 (by omega) (by omega)
    by_cases hb : sb (i : Int) = true
    · rw [if_pos hb] at h
      refine Ev.steps (f := fun k => tune_moved.l0 st tto k ((P ++ [(l.length : Int)]) ++ List.replicate (g.length - (i + 1)) 0) g (g.length : Int) ((i + 1 : Nat) : Int) s (l ++ [rnf (fun x => atI P (t x)) y]) x) 2 (fun k => ?_) h;simp only [tune_moved.l0];rw [if_pos (by omega), if_pos (by omega), if_pos (by omega), hgi, hst, Option.bind_some, if_pos hb];obtain ⟨a, b, c, d⟩ := y;simp only
      by_cases h12 : a = 1 ∨ a = 2
      · have e : (if a = 1 then tune_moved.j1 st tto (k + 1) (P ++ List.replicate (g.length - i) 0) (i : Int) g (g.length : Int) (i : Int) false s l x a b c d else tune_moved.j1 st tto (k + 1) (P ++ List.replicate (g.length - i) 0) (i : Int) g (g.length : Int) (i : Int) (a != 2) s l x a b c d) = tune_moved.j1 st tto (k + 1) (P ++ List.replicate (g.length - i) 0) (i : Int) g (g.length : Int) (i : Int) false s l x a b c d := by
          rcases h12 with rfl | rfl <;> rfl
        rw [e];simp only [tune_moved.j1];rw [if_neg (by decide), if_pos (by omega), if_pos (by omega), if_pos (by omega), Int.toNat_natCast, hset, wadd (by omega)];rw [show rnf (fun x => atI P (t x)) ⟨a, b, c, d⟩ = ⟨a, b, c, d⟩ by unfold rnf; rw [if_pos h12]]
      · have h1 : ¬ a = 1 := by omega
        have h2 : (a != 2) = true := by simp; omega
        obtain ⟨o1, o2, o3⟩ := okG_ops hg h1 (by show a ≠ 2; omega);simp only at o1 o2 o3;obtain ⟨t1, t2, t3⟩ := ht b o1 (by omega);rw [if_neg h1, h2];simp only [tune_moved.j1];rw [if_pos trivial, t1, Option.bind_some, if_pos t2, if_pos (by omega), rd_pad]
        by_cases h6 : a = 6
        · rw [if_pos h6, if_pos (by omega), if_pos (by omega), if_pos (by omega), Int.toNat_natCast, hset, wadd (by omega)]
          rw [show rnf (fun x => atI P (t x)) ⟨a, b, c, d⟩ = ⟨a, atI P (t b), c, d⟩ by unfold rnf; rw [if_neg h12, if_pos h6]]
        · obtain ⟨o3, o4⟩ := o3 h6
          obtain ⟨u1, u2, u3⟩ := ht c o3 (by omega);rw [if_neg h6, u1, Option.bind_some, if_pos u2, if_pos (by omega), if_pos (by omega), if_pos (by omega), if_pos (by omega), Int.toNat_natCast, hset, wadd (by omega), rd_pad];rw [show rnf (fun x => atI P (t x)) ⟨a, b, c, d⟩ = ⟨a, atI P (t b), atI P (t c), d⟩ by unfold rnf; rw [if_neg h12, if_neg h6]]
    · rw [if_neg hb] at h
      rw [List.append_assoc] at h
      have e : [(0 : Int)] ++ List.replicate (g.length - (i + 1)) 0 = List.replicate (g.length - i) 0 := by
        rw [show g.length - i = g.length - (i + 1) + 1 by omega, List.replicate_succ]; rfl
      rw [e] at h;refine Ev.step (f := fun k => tune_moved.l0 st tto k (P ++ List.replicate (g.length - i) 0) g (g.length : Int) ((i + 1 : Nat) : Int) s l x) (fun k => ?_) h;simp only [tune_moved.l0];rw [if_pos (by omega), if_pos (by omega), if_pos (by omega), hgi, hst, Option.bind_some, if_neg hb, wadd (by omega)]
end Go.Proofs.Ytmlbliggbkfjnaa.L
/- Both ways to leave out gates that are alike answer alike, and what they answer. -/
namespace Go.Proofs.Ytmlbliggbkfjnaa.L
open Go.RowKit Go.Proofs.YtmlbliggbkfjnaaW.PrintWords Go.Proofs.Ytmlbliggbkfjnaa.J
theorem shL_few (gs : List S61) : (shL gs).1.length ≤ gs.length := by
  refine snoc_ind (P := fun gs => (shL gs).1.length ≤ gs.length) (Nat.le_refl _) (fun gs g ih => ?_) gs;rw [shL_snoc];unfold shStep;simp only
  split <;> simp <;> omega
theorem find_at (y : S61) : ∀ M : List (S61 × Int), tune_Share.find y M = findM y M
  | [] => rfl
  | m :: M => by
    unfold tune_Share.find findM;rw [find_at y M]
    have e : tune_Share.same y m.1 = decide (y = m.1) := by
      unfold tune_Share.same
      by_cases h : y = m.1
      · rw [qqT h, h]; simp
      · rw [qqF h, Bool.eq_false_iff]
        intro hc
        apply h
        rw [S61.ext_iff']
        simpa [Bool.and_eq_true] using hc
    rw [e]
    by_cases h : y = m.1
    · rw [if_pos h, if_pos (qqT h)]
    · rw [if_neg h, if_neg (by rw [qqF h]; decide)]
theorem sp_more (g : List S61) {i : Nat} (h : i < g.length) : spL (g.take (i + 1)) = spStep (spL (g.take i)) g[i] := by rw [← take_more g h, spL_snoc]
theorem tune_share {p : Int} {s : List S64} {g : List S61} {x : List S66} (G : Good p s g x) : Ev (fun k => tune_Share.f k p s g x) (s, (shL g).1, mapX (atI (shL g).2) x, 0) := by
  unfold tune_Share.f;have hlg := G.lg;have hlx := G.exit;refine Ev.bind (circ_check p s g x fun e he => by have := (hlx e he).1; simp only [maxLen]; omega) ?_;rw [G.check];simp only [if_true, if_pos (show 0 ≤ (g.length : Int) by omega), Int.toNat_natCast, if_pos (show g.length ≤ 35184372088832 by omega)]
  refine up0 (g := fun k i => tune_Share.l0 k g (g.length : Int) (i : Int) s g x (spL (g.take i)).2 false ((spL (g.take i)).1 ++ List.replicate (g.length - i) 0)) (R := fun _ => (s, (shL g).1, mapX (atI (shL g).2) x, 0)) (n := g.length) ?_ fun i hi h => ?_
  · rw [List.take_length, Nat.sub_self, List.replicate_zero, List.append_nil]
    obtain ⟨pl, hm, hpl, hat⟩ := share_moved G.gates;have hl := spL_len g
    have mv := tune_moved_at G (tune_Share.st (spL g).1) (tune_Share.tto (spL g).1) (fun i => atI (spL g).1 i == i) (atI (spL g).1) (fun i a b c d i0 i1 => by unfold tune_Share.st; rw [if_pos ⟨i0, by omega⟩]; rfl)
      (fun y y0 y1 => ⟨by unfold tune_Share.tto; rw [if_pos ⟨y0, by omega⟩]; rfl, (hat y y0 y1).1, (hat y y0 y1).2.1⟩)
    rw [hm] at mv
    have e : mapX (fun y => atI pl (atI (spL g).1 y)) x = mapX (atI (shL g).2) x := by
      unfold mapX
      refine List.map_congr_left fun e he => ?_
      congr 1
      refine List.map_congr_left fun y hy => ?_
      have hv := (exitV_zero (G.exits e he)).2.2 y hy;exact (hat y hv.1 hv.2).2.2
    simp only at mv;rw [e] at mv;refine Ev.step (f := fun k => (tune_moved.f (tune_Share.st (spL g).1) (tune_Share.tto (spL g).1) k s g x).bind fun aa => (some (aa.1, aa.2.1, aa.2.2, 0))) (fun k => ?_) (Ev.bind mv (Ev.now _));simp only [tune_Share.l0];rw [if_neg (by omega)]
  · have hl : (spL (g.take i)).1.length = i := by rw [spL_len, List.length_take]; omega
    have hg := okG_nth G.gates hi;rw [sp_more g hi] at h;unfold spStep at h;rw [hl] at h;have hgi : rd_T61 g (i : Int) = g[i] := rdG_get hi;generalize g[i] = y at *;generalize (spL (g.take i)).1 = P at *;generalize (spL (g.take i)).2 = M at *
    have hL : ((P ++ List.replicate (g.length - i) 0).length : Int) = g.length := by rw [List.length_append, List.length_replicate]; omega
    have hset : ∀ v : Int, (P ++ List.replicate (g.length - i) 0).set i v = (P ++ [v]) ++ List.replicate (g.length - (i + 1)) 0 := fun v => by
      have := pad_set P (n := g.length - (i + 1)) v;rw [hl, show g.length - (i + 1) + 1 = g.length - i by omega] at this; exact this
    have last : ∀ (c : S61), c = canon (rnf (atI P) y) → Ev (fun k => tune_Share.j4 k (i : Int) g (g.length : Int) (i : Int) s g x M false (P ++ List.replicate (g.length - i) 0) c.f0 c.f1 c.f2 c.f3) (s, (shL g).1, mapX (atI (shL g).2) x, 0) := by
      intro c hc;rw [← hc] at h
      have hk : tune_Share.look M c.f0 c.f1 c.f2 c.f3 = some (match findM c M with | some i => (i, true) | none => (0, false)) := by
        unfold tune_Share.look; rw [find_at]; rfl
      have hp : tune_Share.put M c.f0 c.f1 c.f2 c.f3 (i : Int) = if findM c M = none then some (M ++ [(c, (i : Int))]) else none := by
        unfold tune_Share.put; rw [find_at]
      cases e : findM c M with
      | some v =>
        rw [e] at h hk;simp only at h hk;refine Ev.step (f := fun k => tune_Share.l0 k g (g.length : Int) ((i + 1 : Nat) : Int) s g x M false ((P ++ [v]) ++ List.replicate (g.length - (i + 1)) 0)) (fun k => ?_) h;simp only [tune_Share.j4];rw [hk, Option.bind_some, if_pos rfl, if_pos (by omega), if_pos (by omega), Int.toNat_natCast, hset, wadd (by omega)]
      | none =>
        rw [e] at h hk hp;simp only at h hk;rw [if_pos rfl] at hp;refine Ev.step (f := fun k => tune_Share.l0 k g (g.length : Int) ((i + 1 : Nat) : Int) s g x (M ++ [(c, (i : Int))]) false ((P ++ [(i : Int)]) ++ List.replicate (g.length - (i + 1)) 0)) (fun k => ?_) h;simp only [tune_Share.j4];rw [hk, Option.bind_some, if_neg (by decide), hp, Option.bind_some, if_pos (by omega), if_pos (by omega), Int.toNat_natCast, hset, wadd (by omega)]
    have mid : ∀ (c : S61), c = rnf (atI P) y → Ev (fun k => tune_Share.j2 k (i : Int) g (g.length : Int) (i : Int) s g x M false (P ++ List.replicate (g.length - i) 0) c.f0 c.f1 c.f2 c.f3) (s, (shL g).1, mapX (atI (shL g).2) x, 0) := by
      intro c hc
      by_cases h35 : c.f0 = 3 ∨ c.f0 = 5
      · by_cases hgt : c.f1 > c.f2
        · have e : canon (rnf (atI P) y) = ⟨c.f0, c.f2, c.f1, c.f3⟩ := by rw [← hc]; unfold canon; rw [if_pos ⟨h35, hgt⟩]
          refine Ev.steps (f := fun k => tune_Share.j4 k (i : Int) g (g.length : Int) (i : Int) s g x M false (P ++ List.replicate (g.length - i) 0) c.f0 c.f2 c.f1 c.f3) 2 (fun k => ?_) (last ⟨c.f0, c.f2, c.f1, c.f3⟩ e.symm)
          rcases h35 with q | q <;> simp [tune_Share.j2, tune_Share.j3, q, hgt]
        · have e : canon (rnf (atI P) y) = c := by rw [← hc]; unfold canon; rw [if_neg (fun h' => hgt h'.2)]
          refine Ev.steps (f := fun k => tune_Share.j4 k (i : Int) g (g.length : Int) (i : Int) s g x M false (P ++ List.replicate (g.length - i) 0) c.f0 c.f1 c.f2 c.f3) 2 (fun k => ?_) (last c e.symm);have hle : ¬ c.f2 < c.f1 := hgt
          rcases h35 with q | q <;> simp [tune_Share.j2, tune_Share.j3, q, hle]
      · have e : canon (rnf (atI P) y) = c := by rw [← hc]; unfold canon; rw [if_neg (fun h' => h35 h'.1)]
        refine Ev.steps (f := fun k => tune_Share.j4 k (i : Int) g (g.length : Int) (i : Int) s g x M false (P ++ List.replicate (g.length - i) 0) c.f0 c.f1 c.f2 c.f3) 2 (fun k => ?_) (last c e.symm)
        have q3 : ¬ c.f0 = 3 := fun q => h35 (.inl q)
        have q5 : ¬ c.f0 = 5 := fun q => h35 (.inr q)
        simp [tune_Share.j2, tune_Share.j3, q3, q5]
    have rdp : ∀ z : Int, rd (P ++ List.replicate (g.length - i) 0) z = atI P z := fun z => rd_pad _ _ _
    obtain ⟨a, b, c, d⟩ := y
    by_cases h12 : a = 1 ∨ a = 2
    · have e : rnf (atI P) ⟨a, b, c, d⟩ = ⟨a, b, c, d⟩ := by unfold rnf; rw [if_pos h12]
      refine Ev.steps (f := fun k => tune_Share.j2 k (i : Int) g (g.length : Int) (i : Int) s g x M false (P ++ List.replicate (g.length - i) 0) a b c d) 2 (fun k => ?_) (mid ⟨a, b, c, d⟩ e.symm);simp only [tune_Share.l0];rw [if_pos (by omega), if_pos (by omega), if_pos (by omega), hgi]
      rcases h12 with rfl | rfl <;> simp [tune_Share.j1]
    · have h1 : ¬ a = 1 := by omega
      have h2 : (a != 2) = true := by simp; omega
      obtain ⟨o1, o2, o3⟩ := okG_ops hg h1 (by show a ≠ 2; omega);simp only at o1 o2 o3
      by_cases h6 : a = 6
      · have e : rnf (atI P) ⟨a, b, c, d⟩ = ⟨a, atI P b, c, d⟩ := by unfold rnf; rw [if_neg h12, if_pos h6]
        refine Ev.steps (f := fun k => tune_Share.j2 k (i : Int) g (g.length : Int) (i : Int) s g x M false (P ++ List.replicate (g.length - i) 0) a (atI P b) c d) 2 (fun k => ?_) (mid ⟨a, atI P b, c, d⟩ e.symm);simp only [tune_Share.l0];rw [if_pos (by omega), if_pos (by omega), if_pos (by omega), hgi];simp only;rw [if_neg h1, h2];simp only [tune_Share.j1];rw [if_pos trivial, if_pos o1, if_pos (by omega), if_pos h6, rdp]
      · obtain ⟨o3, o4⟩ := o3 h6
        have e : rnf (atI P) ⟨a, b, c, d⟩ = ⟨a, atI P b, atI P c, d⟩ := by unfold rnf; rw [if_neg h12, if_neg h6]
        refine Ev.steps (f := fun k => tune_Share.j2 k (i : Int) g (g.length : Int) (i : Int) s g x M false (P ++ List.replicate (g.length - i) 0) a (atI P b) (atI P c) d) 2 (fun k => ?_) (mid ⟨a, atI P b, atI P c, d⟩ e.symm);simp only [tune_Share.l0];rw [if_pos (by omega), if_pos (by omega), if_pos (by omega), hgi];simp only;rw [if_neg h1, h2];simp only [tune_Share.j1];rw [if_pos trivial, if_pos o1, if_pos (by omega), if_neg h6, if_pos o3, if_pos (by omega), rdp, rdp]
theorem Good.shared {p : Int} {s : List S64} {g : List S61} {x : List S66} (G : Good p s g x) : Good p s (shL g).1 (mapX (atI (shL g).2) x) := by
  have h := shL_shr g G.gates
  exact G.other h.ok (shL_few g) fun e he y hy => by
    have hv := (exitV_zero (G.exits e he)).2.2 y hy;exact h.rng y hv.1 hv.2 trivial
theorem mapX_id {f : Int → Int} {x : List S66} (h : ∀ e ∈ x, ∀ y ∈ e.f1, f y = y) : mapX f x = x := by
  unfold mapX
  have e : ∀ e ∈ x, (⟨e.f0, e.f1.map f⟩ : S66) = e := fun e he => by
    have := List.map_congr_left (g := id) fun y hy => h e he y hy
    rw [this, List.map_id]
  have := List.map_congr_left e;rw [this];exact List.map_id x
theorem Good.folded {p : Int} {s : List S64} {g : List S61} {x : List S66} (G : Good p s g x) : Good p s (folds p [] g) x := by
  have h := G.other (f := fun y => y) (folds_ok G.pos g G.gates) (by rw [folds_len]; exact Nat.le_refl _) fun e he y hy => by
    rw [folds_len]; exact (exitV_zero (G.exits e he)).2.2 y hy
  have e := mapX_id (f := fun y => y) (x := x) fun _ _ _ _ => rfl
  unfold mapX at e;rw [e] at h;exact h
end Go.Proofs.Ytmlbliggbkfjnaa.L
/- Both ways to leave out gates that nobody asks for answer alike, and what they answer. -/
namespace Go.Proofs.Ytmlbliggbkfjnaa.L
open Go.RowKit Go.Proofs.YtmlbliggbkfjnaaW.PrintWords Go.Proofs.Ytmlbliggbkfjnaa.J
def markG (a : List Bool) (l : List Int) : List Bool := l.foldl (fun a y => a.set y.toNat true) a
def markX (a : List Bool) (x : List S66) : List Bool := x.foldl (fun a e => markG a e.f1) a
theorem markG_len (l : List Int) : ∀ a, (markG a l).length = a.length := by
  unfold markG
  induction l with
  | nil => intro a; rfl
  | cons y l ih => intro a; rw [List.foldl_cons, ih, List.length_set]
theorem markX_len (x : List S66) : ∀ a, (markX a x).length = a.length := by
  unfold markX
  induction x with
  | nil => intro a; rfl
  | cons e x ih => intro a; rw [List.foldl_cons, ih, markG_len]
theorem markG_iff (l : List Int) : ∀ (a : List Bool), (∀ y ∈ l, 0 ≤ y ∧ y < a.length) → ∀ i : Int, 0 ≤ i → (atB (markG a l) i = true ↔ atB a i = true ∨ i ∈ l) := by
  unfold markG
  induction l with
  | nil => intro a _ i _; simp
  | cons y l ih =>
    intro a h i i0;have hy := h y (List.mem_cons_self ..);rw [List.foldl_cons, ih _ (fun z hz => by rw [List.length_set]; exact h z (List.mem_cons_of_mem _ hz)) i i0, atB_set hy.1 hy.2 i0, List.mem_cons]
    constructor
    · rintro ((q | q) | q)
      · exact .inl q
      · exact .inr (.inl q)
      · exact .inr (.inr q)
    · rintro (q | q | q)
      · exact .inl (.inl q)
      · exact .inl (.inr q)
      · exact .inr q
theorem markX_iff (x : List S66) : ∀ (a : List Bool), (∀ e ∈ x, ∀ y ∈ e.f1, 0 ≤ y ∧ y < a.length) → ∀ i : Int, 0 ≤ i → (atB (markX a x) i = true ↔ atB a i = true ∨ ∃ e ∈ x, i ∈ e.f1) := by
  unfold markX
  induction x with
  | nil => intro a _ i _; simp
  | cons e x ih =>
    intro a h i i0;rw [List.foldl_cons, ih _ (fun z hz => by rw [markG_len]; exact h z (List.mem_cons_of_mem _ hz)) i i0, markG_iff e.f1 a (h e (List.mem_cons_self ..)) i i0]
    constructor
    · rintro ((q | q) | ⟨z, q1, q2⟩)
      · exact .inl q
      · exact .inr ⟨e, List.mem_cons_self .., q⟩
      · exact .inr ⟨z, List.mem_cons_of_mem _ q1, q2⟩
    · rintro (q | ⟨z, q1, q2⟩)
      · exact .inl (.inl q)
      · rcases List.mem_cons.1 q1 with rfl | q1
        · exact .inl (.inr q2)
        · exact .inr ⟨z, q1, q2⟩
theorem atB_none (n : Nat) (i : Int) : atB (List.replicate n false) i = false := by
  unfold atB;rw [List.getD_eq_getElem?_getD, List.getElem?_replicate]
  split <;> rfl
def asked (g : List S61) (x : List S66) : List Bool := mkM g g.length (markX (List.replicate g.length false) x)
def named (x : List S66) (i : Int) : Prop := ∃ e ∈ x, i ∈ e.f1
theorem named_lt {p : Int} {s : List S64} {g : List S61} {x : List S66} (G : Good p s g x) (i : Int) (h : named x i) : 0 ≤ i ∧ i < g.length := by
  obtain ⟨e, he, hi⟩ := h;exact (exitV_zero (G.exits e he)).2.2 i hi
theorem asked_len (g : List S61) (x : List S66) : (asked g x).length = g.length := by
  unfold asked; rw [mkM_len, markX_len, List.length_replicate]
theorem asked_live {p : Int} {s : List S64} {g : List S61} {x : List S66} (G : Good p s g x) (i : Int) (i0 : 0 ≤ i) : atB (asked g x) i = true ↔ Live g (named x) i := by
  have hm := markX_iff x (List.replicate g.length false) (fun e he y hy => by rw [List.length_replicate]; exact (exitV_zero (G.exits e he)).2.2 y hy);refine mkM_live G.gates (named_lt G) g.length _ (Nat.le_refl _) (by rw [markX_len, List.length_replicate]) (fun y y0 hy => ?_) (fun y hy => ?_) (fun i i0 i1 => by omega) i i0
  · rcases (hm y y0).1 hy with q | q
    · rw [atB_none] at q; cases q
    · exact .base y q
  · exact (hm y (named_lt G y hy).1).2 (.inr hy)
theorem asked_closed {p : Int} {s : List S64} {g : List S61} {x : List S66} (G : Good p s g x) : ∀ i : Int, 0 ≤ i → i < g.length → atB (asked g x) i = true → ∀ y, uses (atG g i) y → atB (asked g x) y = true := fun i i0 i1 hi y hu =>
  (asked_live G y (uses_lt (okL_at G.gates i0 i1) hu).1).2 (.use i y ((asked_live G i i0).1 hi) i0 i1 hu)
theorem asked_named {p : Int} {s : List S64} {g : List S61} {x : List S66} (G : Good p s g x) {e : S66} (he : e ∈ x) {y : Int} (hy : y ∈ e.f1) : atB (asked g x) y = true := by
  have hv := (exitV_zero (G.exits e he)).2.2 y hy;exact (asked_live G y hv.1).2 (.base y ⟨e, he, hy⟩)
theorem tune_marks {p : Int} {s : List S64} {g : List S61} {x : List S66} (G : Good p s g x) {r : (List S64) × (List S61) × (List S66) × Int}
    (h : Ev (fun k => (tune_Prune.mark (markX (List.replicate g.length false) x) g).bind fun ab => ((tune_moved.f (tune_Prune.st ab) some k s g x).bind fun aa => (some (aa.1, aa.2.1, aa.2.2, 0)))) r) :
    Ev (fun k => tune_Prune.l0 k x (x.length : Int) 0 s g x (List.replicate g.length false)) r := by
  have hx := G.lx
  refine up0 (g := fun k i => tune_Prune.l0 k x (x.length : Int) (i : Int) s g x (markX (List.replicate g.length false) (x.take i))) (R := fun _ => r) (n := x.length) ?_ fun i hi h => ?_
  · rw [List.take_length]
    refine Ev.step (fun k => ?_) h;simp only [tune_Prune.l0];rw [if_neg (by omega)]
  · have he := (G.exit _ (List.getElem_mem hi)).2
    have hy := (exitV_zero (G.exits _ (List.getElem_mem hi))).2.2
    have hm : markX (List.replicate g.length false) (x.take (i + 1)) = markG (markX (List.replicate g.length false) (x.take i)) x[i].f1 := by
      rw [← take_more x hi]; unfold markX; rw [List.foldl_append]; rfl
    rw [hm] at h
    have hml : (markX (List.replicate g.length false) (x.take i)).length = g.length := by rw [markX_len, List.length_replicate]
    generalize markX (List.replicate g.length false) (x.take i) = a at *;refine Ev.step (f := fun k => tune_Prune.l1 k x (x.length : Int) (i : Int) x[i].f1 (x[i].f1.length : Int) 0 s g x a) (fun k => ?_) ?_
    · simp only [tune_Prune.l0]
      rw [if_pos (by omega), if_pos (by omega), if_pos (by omega), rdX_at hi]
    · refine up0 (g := fun k j => tune_Prune.l1 k x (x.length : Int) (i : Int) x[i].f1 (x[i].f1.length : Int) (j : Int) s g x (markG a (x[i].f1.take j))) (R := fun _ => r) (n := x[i].f1.length) ?_ fun j hj h' => ?_
      · rw [List.take_length]
        refine Ev.step (f := fun k => tune_Prune.l0 k x (x.length : Int) ((i + 1 : Nat) : Int) s g x (markG a x[i].f1)) (fun k => ?_) h;simp only [tune_Prune.l1];rw [if_neg (by omega), wadd (by omega)]
      · have hv := hy _ (List.getElem_mem hj)
        have hr : rd x[i].f1 (j : Int) = x[i].f1[j] := by simp [rd, List.getD_eq_getElem?_getD, hj]
        have hl : ((markG a (x[i].f1.take j)).length : Int) = g.length := by rw [markG_len]; omega
        have hm2 : (markG a (x[i].f1.take j)).set (x[i].f1[j]).toNat true = markG a (x[i].f1.take (j + 1)) := by
          rw [← take_more x[i].f1 hj]; unfold markG; rw [List.foldl_append]; rfl
        refine Ev.step (f := fun k => tune_Prune.l1 k x (x.length : Int) (i : Int) x[i].f1 (x[i].f1.length : Int) ((j + 1 : Nat) : Int) s g x (markG a (x[i].f1.take (j + 1)))) (fun k => ?_) h';simp only [tune_Prune.l1];rw [if_pos (by omega), if_pos (by omega), if_pos (by omega), hr, if_pos hv.1, if_pos (by omega), wadd (by omega), hm2]
theorem mk_step (g : List S61) (a : List Bool) (i : Nat) : tune_Prune.step g a i = mkStep g a i := rfl
theorem mk_fold (g : List S61) : ∀ (m : Nat) (a : List Bool), m ≤ g.length → ((List.range m).reverse).foldl (fun a z => tune_Prune.step g a (min z (g.length - 1))) a = mkM g m a
  | 0, a, _ => rfl
  | m + 1, a, h => by
    rw [List.range_succ, List.reverse_append]
    show ((List.range m).reverse).foldl _ (tune_Prune.step g a (min m (g.length - 1))) = _
    rw [show min m (g.length - 1) = m by omega, mk_fold g m _ (by omega), mk_step]
    rfl
theorem range_back (n : Nat) : (List.range n).map (fun k => n - 1 - k) = (List.range n).reverse := by
  apply List.ext_getElem
  · simp
  · intro i h1 h2
    simp at h1;simp [List.getElem_reverse]
theorem mark_at {p s : Int} {g : List S61} (h : okL p s g) (a : List Bool) (ha : a.length = g.length) : tune_Prune.mark a g = some (mkM g g.length a) := by
  unfold tune_Prune.mark
  have hk : tune_Prune.okG g = true := by
    unfold tune_Prune.okG;rw [List.all_eq_true];intro y hy;obtain ⟨i, hi, rfl⟩ := List.getElem_of_mem hy;have hg := okG_nth h hi;rw [decide_eq_true_iff];unfold okG at hg
    omega
  rw [if_pos ⟨ha, hk⟩, range_back, mk_fold g g.length a (Nat.le_refl _)]
theorem tune_prune {p : Int} {s : List S64} {g : List S61} {x : List S66} (G : Good p s g x) : Ev (fun k => tune_Prune.f k p s g x) (s, (prL (asked g x) g).1, mapX (atI (prL (asked g x) g).2) x, 0) := by
  unfold tune_Prune.f;have hlg := G.lg;have hlx := G.exit;refine Ev.bind (circ_check p s g x fun e he => by have := (hlx e he).1; simp only [maxLen]; omega) ?_;rw [G.check];simp only [if_true, if_pos (show 0 ≤ (g.length : Int) by omega), Int.toNat_natCast, if_pos (show g.length ≤ 281474976710656 by omega)];refine tune_marks G ?_;rw [mark_at G.gates _ (by rw [markX_len, List.length_replicate])];simp only [Option.bind_some];have hl := asked_len g x;unfold asked at hl;have mv := tune_moved_at G (tune_Prune.st (asked g x)) some (atB (asked g x)) (fun y => y) (fun i a b c d i0 i1 => by unfold tune_Prune.st; rw [if_pos ⟨i0, by rw [asked_len]; exact i1⟩]; rfl) (fun y y0 y1 => ⟨rfl, y0, y1⟩);exact Ev.bind mv (Ev.now _)
theorem prL_few (a : List Bool) (gs : List S61) : (prL a gs).1.length ≤ gs.length := mvL_few _ _ gs
theorem Good.pruned {p : Int} {s : List S64} {g : List S61} {x : List S66} (G : Good p s g x) : Good p s (prL (asked g x) g).1 (mapX (atI (prL (asked g x) g).2) x) := by
  have h := prL_shr g G.gates (asked_closed G)
  exact G.other h.ok (prL_few _ g) fun e he y hy => by
    have hv := (exitV_zero (G.exits e he)).2.2 y hy;exact h.rng y hv.1 hv.2 (asked_named G he hy)
end Go.Proofs.Ytmlbliggbkfjnaa.L
/- Both ways to tell the levels of gates answer alike, and what they answer; rows of numbers compared; the chapter's example. -/
namespace Go.Proofs.Ytmlbliggbkfjnaa.L
open Go.RowKit Go.Proofs.YtmlbliggbkfjnaaW.PrintWords Go.Proofs.Ytmlbliggbkfjnaa.J
theorem ints_same (l : List Int) (hl : l.length ≤ maxLen) : Ev (fun k => qla.f k l l) true := by
  have hm : l.length ≤ 9223372036854775807 := by simp only [maxLen] at hl; omega
  unfold qla.f;simp only [if_true]
  refine up0 (g := fun k i => qla.l0 k l l (l.length : Int) (i : Int)) (R := fun _ => true) (n := l.length) ?_ fun i hi h => ?_
  · refine Ev.fuel 1 fun k => ?_
    simp only [qla.l0];rw [if_neg (by omega)]
  · refine Ev.step (f := fun k => qla.l0 k l l (l.length : Int) ((i + 1 : Nat) : Int)) (fun k => ?_) h
    simp only [qla.l0];rw [if_pos (by omega), if_pos (by omega), if_pos (by omega), if_pos (by omega), if_pos trivial, wadd (by omega)]
def lev (v : List Int) (g : S61) : Int :=
  if g.f0 = 3 ∨ g.f0 = 4 then mx (atI v g.f1) (atI v g.f2) else if g.f0 = 5 then mx (atI v g.f1) (atI v g.f2) + 1 else if g.f0 = 6 then atI v g.f1 else 0
def levs (l : List S61) : List Int := snocs lev [] l
def badG (i : Nat) (g : S61) : Bool := decide ((g.f0 = 3 ∨ g.f0 = 4 ∨ g.f0 = 5 ∨ g.f0 = 6) ∧ (g.f1 < 0 ∨ g.f1 ≥ i)) || decide ((g.f0 = 3 ∨ g.f0 = 4 ∨ g.f0 = 5) ∧ (g.f2 < 0 ∨ g.f2 ≥ i))
def anyB : Nat → List S61 → Bool
  | _, [] => false
  | i, g :: gs => badG i g || anyB (i + 1) gs
def levR (g : List S61) : List Int := if anyB 0 g = true then [] else levs g
theorem levs_len (l : List S61) : (levs l).length = l.length := by simp [levs, snocs_len]
theorem levs_more (l : List S61) {i : Nat} (h : i < l.length) : levs (l.take (i + 1)) = levs (l.take i) ++ [lev (levs (l.take i)) l[i]] := by
  rw [← take_more l h]; exact snocs_snoc _ _ _ _
theorem mx_le {a b n : Int} (ha : 0 ≤ a ∧ a ≤ n) (hb : 0 ≤ b ∧ b ≤ n) : 0 ≤ mx a b ∧ mx a b ≤ n := by
  unfold mx; split <;> omega
theorem atI_le {v : List Int} {n : Int} (hn : 0 ≤ n) (h : ∀ x ∈ v, 0 ≤ x ∧ x ≤ n) (i : Int) : 0 ≤ atI v i ∧ atI v i ≤ n := by
  unfold atI;rw [List.getD_eq_getElem?_getD]
  cases e : v[i.toNat]? with
  | none => simpa using hn
  | some x => simpa using h x (List.mem_of_getElem? e)
theorem levs_le (l : List S61) : ∀ x ∈ levs l, 0 ≤ x ∧ x ≤ l.length := by
  refine snoc_ind (P := fun l => ∀ x ∈ levs l, 0 ≤ x ∧ x ≤ l.length) (fun x hx => by cases hx) (fun l g ih x hx => ?_) l;have e : levs (l ++ [g]) = levs l ++ [lev (levs l) g] := snocs_snoc _ _ _ _;rw [e, List.mem_append] at hx;simp only [List.length_append, List.length_cons, List.length_nil]
  rcases hx with hx | hx
  · have := ih x hx; omega
  · obtain rfl := List.mem_singleton.1 hx
    have h1 := atI_le (by omega) ih g.f1;have h2 := atI_le (by omega) ih g.f2;have h3 := mx_le h1 h2;unfold lev
    split
    · omega
    split
    · omega
    split <;> omega
theorem rd_left {D R : List Int} {i : Int} (h0 : 0 ≤ i) (h1 : i < D.length) : rd (D ++ R) i = atI D i := atI_left h1 h0
theorem tune_levels (s : List S64) (g : List S61) (x : List S66) (hl : g.length ≤ 4398046511104) : Ev (fun k => tune_Levels.f k s g x) (levR g) := by
  unfold tune_Levels.f;simp only [if_pos (show 0 ≤ (g.length : Int) by omega), Int.toNat_natCast, if_pos (show g.length ≤ 35184372088832 by omega)]
  refine up0 (g := fun k i => tune_Levels.l0 k (levs (g.take i) ++ List.replicate (g.length - i) 0) g (g.length : Int) (i : Int)) (R := fun i => if anyB i (g.drop i) = true then [] else levs g) (n := g.length) ?_ fun i hi h => ?_
  · rw [List.take_length, Nat.sub_self, List.drop_of_length_le (Nat.le_refl _)]
    refine Ev.fuel 1 fun k => ?_
    simp only [tune_Levels.l0];rw [if_neg (by omega)];simp [anyB]
  · have hD : (levs (g.take i)).length = i := by rw [levs_len, List.length_take]; omega
    have hb := levs_le (g.take i);rw [levs_more g hi] at h;rw [List.drop_eq_getElem_cons hi, show g.length - i = (g.length - (i + 1)) + 1 by omega, List.replicate_succ];have hg : rd_T61 g (i : Int) = g[i] := rdG_get hi;generalize g[i] = y at *;generalize levs (g.take i) = D at *;generalize List.replicate (g.length - (i + 1)) (0 : Int) = R at *
    have hl' : ((D ++ 0 :: R).length : Int) > i := by simp; omega
    have hset : ∀ v : Int, (D ++ 0 :: R).set i v = D ++ v :: R := fun v => by
      have := set_mid D 0 v R; rw [hD] at this; exact this
    have hlen : (g.take i).length = i := by rw [List.length_take]; omega
    rw [hlen] at hb;have n1 := atI_le (by omega) hb y.f1;have n2 := atI_le (by omega) hb y.f2;have n3 := mx_le n1 n2
    by_cases hbad : badG i y = true
    · rw [show anyB i (y :: g.drop (i + 1)) = true by simp [anyB, hbad], if_pos rfl]
      refine Ev.fuel 4 fun k => ?_
      obtain ⟨a, b, c, d⟩ := y;unfold badG at hbad;simp only at hbad n1 n2 n3
      by_cases h3 : a = 3 ∨ a = 4 ∨ a = 5
      · have e : tune_Levels.l0 (k + 4) (D ++ 0 :: R) g (g.length : Int) (i : Int) = tune_Levels.j1 (k + 3) (D ++ 0 :: R) (i : Int) true g (g.length : Int) (i : Int) a b c d := by
          simp only [tune_Levels.l0];rw [if_pos (by omega), if_pos (by omega), if_pos (by omega), hg]
          rcases h3 with rfl | rfl | rfl <;> simp
        rw [e]
        have hq : b < 0 ∨ b ≥ i ∨ c < 0 ∨ c ≥ i := by simp [h3] at hbad; omega
        simp only [tune_Levels.j1, tune_Levels.j2]
        by_cases q1 : b < 0
        · simp [q1]
        by_cases q2 : b ≥ i
        · simp [q1, q2]
        by_cases q3 : c < 0
        · simp [q1, q2, q3]
        · have q4 : c ≥ i := by omega
          simp [q1, q2, q3, q4]
      · have h6 : a = 6 := by simp [h3] at hbad; omega
        subst h6
        have hq : b < 0 ∨ b ≥ i := by simp at hbad; omega
        simp only [tune_Levels.l0];rw [if_pos (by omega), if_pos (by omega), if_pos (by omega), hg];simp only [tune_Levels.j1, tune_Levels.j2]
        by_cases q1 : b < 0
        · simp [q1]
        · have q2 : b ≥ i := by omega
          simp [q1, q2]
    · rw [Bool.not_eq_true] at hbad
      rw [show anyB i (y :: g.drop (i + 1)) = anyB (i + 1) (g.drop (i + 1)) by simp [anyB, hbad]];rw [List.append_assoc] at h;refine Ev.steps (f := fun k => tune_Levels.l0 k (D ++ lev D y :: R) g (g.length : Int) ((i + 1 : Nat) : Int)) 3 (fun k => ?_) h
      have hL : (i : Int) < ((D ++ 0 :: R).length : Int) := by omega
      have rdl : ∀ z : Int, 0 ≤ z → z < i → rd (D ++ 0 :: R) z = atI D z := fun z z0 z1 => rd_left z0 (by omega)
      obtain ⟨a, b, c, d⟩ := y;unfold badG at hbad;simp only at hbad n1 n2 n3;rw [Bool.or_eq_false_iff, decide_eq_false_iff_not, decide_eq_false_iff_not] at hbad;simp only [tune_Levels.l0];rw [if_pos (by omega), if_pos (by omega), if_pos (by omega), hg]
      by_cases h3 : a = 3 ∨ a = 4 ∨ a = 5
      · have b0 : 0 ≤ b ∧ b < i ∧ 0 ≤ c ∧ c < i := by omega
        have w1 : wrap64 (mx (atI D b) (atI D c) + 1) = mx (atI D b) (atI D c) + 1 := w64_small (by omega) (by omega)
        have e : (if a = 3 then tune_Levels.j1 (k + 2) (D ++ 0 :: R) (i : Int) true g (g.length : Int) (i : Int) a b c d else if a = 4 then tune_Levels.j1 (k + 2) (D ++ 0 :: R) (i : Int) true g (g.length : Int) (i : Int) a b c d else tune_Levels.j1 (k + 2) (D ++ 0 :: R) (i : Int) (a == 5) g (g.length : Int) (i : Int) a b c d) = tune_Levels.j1 (k + 2) (D ++ 0 :: R) (i : Int) true g (g.length : Int) (i : Int) a b c d := by
          rcases h3 with rfl | rfl | rfl <;> simp
        refine e.trans ?_;simp only [tune_Levels.j1, tune_Levels.j2];rw [if_pos trivial, if_neg (by omega), if_neg (by omega), if_neg (by omega), qqF (show ¬ (c ≥ (i : Int)) by omega), if_neg (by decide), if_pos trivial, if_pos b0.1, if_pos (by omega), if_pos b0.2.2.1, if_pos (by omega), if_pos (by omega), if_pos hL, rdl b b0.1 b0.2.1, rdl c b0.2.2.1 b0.2.2.2, Int.toNat_natCast, Option.bind_some, wadd (by omega)]
        have hs2 : ((D ++ 0 :: R).set i (mx (atI D b) (atI D c))).set i (wrap64 (mx (atI D b) (atI D c) + 1)) = D ++ (mx (atI D b) (atI D c) + 1) :: R := by
          rw [List.set_set, hset, w1]
        rw [hs2, hset];unfold lev;simp only
        by_cases h5 : a = 5
        · rw [if_pos h5, if_neg (by omega), if_pos h5]
        · rw [if_neg h5, if_pos (by omega)]
      · have n3 : ¬ a = 3 := by omega
        have n4 : ¬ a = 4 := by omega
        have n5 : ¬ a = 5 := by omega
        have n5' : (a == 5) = false := by simp [n5]
        rw [if_neg n3, if_neg n4, n5'];simp only [tune_Levels.j1, tune_Levels.j2];unfold lev;simp only;rw [if_neg (show ¬ (a = 3 ∨ a = 4) by omega)]
        by_cases h6 : a = 6
        · have b0 : 0 ≤ b ∧ b < i := by omega
          simp only [if_pos h6, if_neg n5, Bool.false_eq_true, if_false, if_neg (show ¬ b < 0 by omega), if_neg (show ¬ b ≥ (i : Int) by omega), if_pos b0.1, if_pos (show b < ((D ++ 0 :: R).length : Int) by omega), if_pos (show 0 ≤ (i : Int) by omega), if_pos hL, rdl b b0.1 b0.2, Int.toNat_natCast, Option.bind_some, hset, wadd (show i < 9223372036854775807 by omega)]
        · simp only [if_neg h6, if_neg n5, Bool.false_eq_true, if_false, wadd (show i < 9223372036854775807 by omega)]
end Go.Proofs.Ytmlbliggbkfjnaa.L
/- What the laws ask of an answer: the wanted circuit, or the wanted error. -/
namespace Go.Proofs.Ytmlbliggbkfjnaa.L
open Go.RowKit Go.Proofs.YtmlbliggbkfjnaaW.PrintWords Go.Proofs.Ytmlbliggbkfjnaa.J
theorem ints12_same (l : List Int) (hl : l.length ≤ 65536) : Ev (fun k => qna.f k l l) true := by
  unfold qna.f;simp only [if_true]
  refine up0 (g := fun k i => qna.l0 k l l (l.length : Int) (i : Int)) (R := fun _ => true) (n := l.length) ?_ fun i hi h => ?_
  · refine Ev.fuel 1 fun k => ?_
    simp only [qna.l0];rw [if_neg (by omega)]
  · refine Ev.step (f := fun k => qna.l0 k l l (l.length : Int) ((i + 1 : Nat) : Int)) (fun k => ?_) h
    simp only [qna.l0];rw [if_pos (by omega), if_pos (by omega), if_pos (by omega), if_pos (by omega), if_pos trivial, wadd (by omega)]
theorem same12 (s : List S64) (g : List S61) (x : List S66) (hs : s.length ≤ 65536) (hg : g.length ≤ 65536) (hx : x.length ≤ 65536) (he : ∀ e ∈ x, e.f0.length ≤ 65536 ∧ e.f1.length ≤ 65536) : Ev (fun k => qba.f k s g x s g x) true := by
  unfold qba.f;simp only [if_true];rw [show ((x.length : Int) != (x.length : Int)) = false by simp];refine Ev.step (f := fun k => qba.l0 k (s.length : Int) 0 s g x s g x) (fun k => by simp [qba.j0]) ?_
  refine up0 (g := fun k i => qba.l0 k (s.length : Int) (i : Int) s g x s g x) (R := fun _ => true) (n := s.length) ?_ fun i hi h => ?_
  · refine Ev.step (f := fun k => qba.l1 k (g.length : Int) 0 s g x s g x) (fun k => ?_) ?_
    · simp only [qba.l0]
      rw [if_neg (by omega)]
    refine up0 (g := fun k i => qba.l1 k (g.length : Int) (i : Int) s g x s g x) (R := fun _ => true) (n := g.length) ?_ fun i hi h => ?_
    · refine Ev.step (f := fun k => qba.l2 k (x.length : Int) 0 s g x s g x) (fun k => ?_) ?_
      · simp only [qba.l1]
        rw [if_neg (by omega)]
      refine up0 (g := fun k i => qba.l2 k (x.length : Int) (i : Int) s g x s g x) (R := fun _ => true) (n := x.length) ?_ fun i hi h => ?_
      · refine Ev.fuel 1 fun k => ?_
        simp only [qba.l2];rw [if_neg (by omega)]
      · have hq := he _ (List.getElem_mem hi)
        refine Ev.step (f := fun k => (qna.f k x[i].f0 x[i].f0).bind fun aa => (if aa = true then ((qna.f k x[i].f1 x[i].f1).bind fun ab => (if ab = true then (qba.l2 k (x.length : Int) ((i + 1 : Nat) : Int) s g x s g x) else (some false))) else (some false))) (fun k => ?_) (Ev.bind (ints12_same _ hq.1) ?_)
        · simp only [qba.l2]
          rw [if_pos (by omega), if_pos (by omega), if_pos (by omega), if_pos (by omega), rdX_at hi, wadd (by omega)]
        · simp only [if_true]
          refine Ev.bind (ints12_same _ hq.2) ?_;simp only [if_true];exact h
    · refine Ev.step (f := fun k => qba.l1 k (g.length : Int) ((i + 1 : Nat) : Int) s g x s g x) (fun k => ?_) h
      simp only [qba.l1];rw [if_pos (by omega), if_pos (by omega), if_pos (by omega), if_pos (by omega), if_neg (by simp), wadd (by omega)]
  · refine Ev.step (f := fun k => qba.l0 k (s.length : Int) ((i + 1 : Nat) : Int) s g x s g x) (fun k => ?_) h
    simp only [qba.l0];rw [if_pos (by omega), if_pos (by omega), if_pos (by omega), if_pos (by omega), if_neg (by simp), wadd (by omega)]
theorem Good.same {p : Int} {s : List S64} {g : List S61} {x : List S66} (G : Good p s g x) : Ev (fun k => qba.f k s g x s g x) true := by
  have h1 := G.ls;have h2 := G.lx
  exact same12 s g x (by omega) G.lg (by omega) fun e he => by have := G.exit e he; omega
theorem exits_small {x : List S66} (h : x.length ≤ maxLen ∧ x.length * 48 ≤ 140737488351232 ∧ ∀ x' ∈ x, (x'.f0.length ≤ maxLen ∧ x'.f0.length * 8 ≤ 140737488351232 ∧ ∀ y ∈ x'.f0, (Lit.int .i64 y).wf = true) ∧ (x'.f1.length ≤ maxLen ∧ x'.f1.length * 8 ≤ 140737488351232 ∧ ∀ y ∈ x'.f1, (Lit.int .i64 y).wf = true)) : ∀ e ∈ x, e.f0.length ≤ maxLen := fun e he => (h.2.2 e he).1.1
theorem gates_pos {g : List S61} (h : g.length ≤ maxLen ∧ g.length * 32 ≤ 140737488351232 ∧ ∀ y ∈ g, (Lit.int .i64 y.f0).wf = true ∧ (Lit.int .i64 y.f1).wf = true ∧ (Lit.int .i64 y.f2).wf = true ∧ (Lit.int .u64 y.f3).wf = true) : ∀ e ∈ g, 0 ≤ e.f3 := fun e he => (u64_wf (h.2.2 e he).2.2.2).1
end Go.Proofs.Ytmlbliggbkfjnaa.L
/- The statement TuneTunes as plain Lean. -/
namespace Go.Proofs.Ytmlbliggbkfjnaa.L
open Go.RowKit Go.Proofs.YtmlbliggbkfjnaaW.PrintWords Go.Proofs.Ytmlbliggbkfjnaa.J
theorem tune_tune {p : Int} {s : List S64} {g : List S61} {x : List S66} (G : Good p s g x) : Ev (fun k => tune_Tune.f k p s g x) (s, (prL (asked (shL (folds p [] g)).1 (mapX (atI (shL (folds p [] g)).2) x)) (shL (folds p [] g)).1).1, mapX (atI (prL (asked (shL (folds p [] g)).1 (mapX (atI (shL (folds p [] g)).2) x)) (shL (folds p [] g)).1).2) (mapX (atI (shL (folds p [] g)).2) x), 0) := by
  unfold tune_Tune.f;refine Ev.bind (tune_fold G) ?_;simp only [if_true];refine Ev.bind (tune_share G.folded) ?_;simp only [if_true];refine Ev.bind (tune_prune G.folded.shared) ?_;simp only [if_true];exact Ev.now _
theorem aliveT : Ev (fun k => qwa.f k) true := by
  unfold qwa.f;have G : Good 7 [(⟨1, false⟩ : S64)] [(⟨2, 0, 0, 2⟩ : S61), ⟨1, 0, 0, 0⟩, ⟨5, 0, 1, 0⟩, ⟨5, 2, 2, 0⟩] [(⟨[], [3]⟩ : S66)] := good_of (by decide +kernel) (by decide +kernel);have h := tune_tune G
  have e : (([(⟨1, false⟩ : S64)], (prL (asked (shL (folds 7 [] [(⟨2, 0, 0, 2⟩ : S61), ⟨1, 0, 0, 0⟩, ⟨5, 0, 1, 0⟩, ⟨5, 2, 2, 0⟩])).1 (mapX (atI (shL (folds 7 [] [(⟨2, 0, 0, 2⟩ : S61), ⟨1, 0, 0, 0⟩, ⟨5, 0, 1, 0⟩, ⟨5, 2, 2, 0⟩])).2) [(⟨[], [3]⟩ : S66)])) (shL (folds 7 [] [(⟨2, 0, 0, 2⟩ : S61), ⟨1, 0, 0, 0⟩, ⟨5, 0, 1, 0⟩, ⟨5, 2, 2, 0⟩])).1).1, mapX (atI (prL (asked (shL (folds 7 [] [(⟨2, 0, 0, 2⟩ : S61), ⟨1, 0, 0, 0⟩, ⟨5, 0, 1, 0⟩, ⟨5, 2, 2, 0⟩])).1 (mapX (atI (shL (folds 7 [] [(⟨2, 0, 0, 2⟩ : S61), ⟨1, 0, 0, 0⟩, ⟨5, 0, 1, 0⟩, ⟨5, 2, 2, 0⟩])).2) [(⟨[], [3]⟩ : S66)])) (shL (folds 7 [] [(⟨2, 0, 0, 2⟩ : S61), ⟨1, 0, 0, 0⟩, ⟨5, 0, 1, 0⟩, ⟨5, 2, 2, 0⟩])).1).2) (mapX (atI (shL (folds 7 [] [(⟨2, 0, 0, 2⟩ : S61), ⟨1, 0, 0, 0⟩, ⟨5, 0, 1, 0⟩, ⟨5, 2, 2, 0⟩])).2) [(⟨[], [3]⟩ : S66)]), (0 : Int)) : List S64 × List S61 × List S66 × Int) = ([⟨1, false⟩], [⟨1, 0, 0, 0⟩, ⟨6, 0, 0, 2⟩, ⟨5, 1, 1, 0⟩], [⟨[], [2]⟩], 0) := by kernel_rfl
  rw [e] at h;refine Ev.bind (Ev.now _) (Ev.bind h ?_);simp only [if_true];refine Ev.bind (same12 _ _ _ (by decide) (by decide) (by decide) (by decide)) ?_;simp only [if_true];refine Ev.bind (tune_levels _ _ _ (by decide)) ?_
  have e2 : levR [(⟨1, 0, 0, 0⟩ : S61), ⟨6, 0, 0, 2⟩, ⟨5, 1, 1, 0⟩] = [0, 0, 1] := by kernel_rfl
  rw [e2];exact Ev.bind (ints_same _ (by decide)) (Ev.now _)
end Go.Proofs.Ytmlbliggbkfjnaa.L
/- The statement TuneLess as plain Lean: no more gates, no more products, no higher a top. -/
namespace Go.Proofs.Ytmlbliggbkfjnaa.L
open Go.RowKit Go.Proofs.YtmlbliggbkfjnaaW.PrintWords Go.Proofs.Ytmlbliggbkfjnaa.J
def fourL (p : Int) (s : List S64) (g : List S61) (x : List S66) : List S26 :=
  [⟨s, folds p [] g, x⟩, ⟨s, (shL g).1, mapX (atI (shL g).2) x⟩, ⟨s, (prL (asked g x) g).1, mapX (atI (prL (asked g x) g).2) x⟩,
    ⟨s, (prL (asked (shL (folds p [] g)).1 (mapX (atI (shL (folds p [] g)).2) x)) (shL (folds p [] g)).1).1, mapX (atI (prL (asked (shL (folds p [] g)).1 (mapX (atI (shL (folds p [] g)).2) x)) (shL (folds p [] g)).1).2) (mapX (atI (shL (folds p [] g)).2) x)⟩]
theorem all_good {p : Int} {s : List S64} {g : List S61} {x : List S66} (G : Good p s g x) : Ev (fun k => qab.f k p s g x) (fourL p s g x, true) := by
  unfold qab.f;refine Ev.bind (tune_fold G) (Ev.bind (tune_share G) (Ev.bind (tune_prune G) (Ev.bind (tune_tune G) ?_)));exact Ev.now _
end Go.Proofs.Ytmlbliggbkfjnaa.L
/- The test of a row of numbers. -/
namespace Go.Proofs.Ytmlbliggbkfjnaa.L
open Go.RowKit Go.Proofs.YtmlbliggbkfjnaaW.PrintWords Go.Proofs.Ytmlbliggbkfjnaa.J
def belowV (p : Int) (l : List Int) : Int := if ∀ x ∈ l, x < p then 0 else 2
theorem within_loop (p : Int) (l : List Int) (hl : l.length ≤ maxLen) : ∀ (m i : Nat), i + m = l.length → (∀ x ∈ l.take i, x < p) → Ev (fun k => qpa.l0 k p l (l.length : Int) (i : Int)) (belowV p l)
  | 0, i, hi, hx => by
    have hv : belowV p l = 0 := by
      unfold belowV;rw [if_pos];rw [List.take_of_length_le (by omega)] at hx;exact hx
    rw [hv];refine Ev.step (f := fun k => some 0) (fun k => ?_) (Ev.now _);simp only [qpa.l0];rw [if_neg (by omega)]
  | m + 1, i, hi, hx => by
    have hm : (l.length : Int) ≤ 9223372036854775807 := by simp only [maxLen] at hl; omega
    have hlt : i < l.length := by omega
    have hr : rd l (i : Int) = l[i] := by simp [rd, List.getD_eq_getElem?_getD, hlt]
    by_cases hge : l[i] ≥ p
    · have hv : belowV p l = 2 := by
        unfold belowV;rw [if_neg];intro h';have := h' _ (List.getElem_mem hlt)
        omega
      rw [hv];refine Ev.step (f := fun k => some 2) (fun k => ?_) (Ev.now _);simp only [qpa.l0];rw [if_pos (by omega), if_pos (by omega), if_pos (by omega), if_pos (by rw [hr]; exact hge)]
    · refine Ev.step (f := fun k => qpa.l0 k p l (l.length : Int) ((i + 1 : Nat) : Int)) (fun k => ?_) (within_loop p l hl m (i + 1) (by omega) fun x hx' => ?_)
      · conv => lhs; simp only [qpa.l0]
        rw [if_pos (by omega), if_pos (by omega), if_pos (by omega), if_neg (by rw [hr]; exact hge), w64_small (by omega) (by omega)]
        rfl
      · rw [List.take_add_one, List.mem_append] at hx'
        rcases hx' with h' | h'
        · exact hx x h'
        · rw [List.getElem?_eq_getElem hlt] at h'
          simp only [Option.toList_some, List.mem_singleton] at h';rw [h']; omega
theorem ref_within (p : Int) (l : List Int) (hl : l.length ≤ maxLen) : Ev (fun k => qpa.f k p l) (belowV p l) :=
  within_loop p l hl l.length 0 (by omega) (fun x hx => by simp at hx)
end Go.Proofs.Ytmlbliggbkfjnaa.L
/- The statement TuneSame as plain Lean: folding, sharing and pruning keep the slots and what the circuit tells. -/
namespace Go.Proofs.Ytmlbliggbkfjnaa.L
open Go.RowKit Go.Proofs.YtmlbliggbkfjnaaW.PrintWords Go.Proofs.Ytmlbliggbkfjnaa.J
theorem atI_range {p : Int} {v : List Int} (hp : 0 < p) (h : ∀ y ∈ v, 0 ≤ y ∧ y < p) (i : Int) : 0 ≤ atI v i ∧ atI v i < p := by
  unfold atI;rw [List.getD_eq_getElem?_getD]
  cases e : v[i.toNat]? with
  | none => simpa using hp
  | some x => simpa using h x (List.mem_of_getElem? e)
theorem vals_range {p s : Int} (hp : 0 < p) {inp : List Int} (hin : ∀ y ∈ inp, 0 ≤ y ∧ y < p) (l : List S61) : okL p s l → ∀ y ∈ vals (valA p inp) l, 0 ≤ y ∧ y < p := by
  refine snoc_ind (P := fun l => okL p s l → ∀ y ∈ vals (valA p inp) l, 0 ≤ y ∧ y < p) (fun _ y hy => by cases hy) (fun l g ih h y hy => ?_) l;obtain ⟨h1, h2⟩ := okL_cut h;rw [vals_snoc, List.mem_append] at hy
  rcases hy with hy | hy
  · exact ih h1 y hy
  · obtain rfl := List.mem_singleton.1 hy
    unfold app valA;simp only
    split
    · exact atI_range hp hin _
    split
    · rename_i e; exact k_range h2 (.inl e)
    split
    · exact ⟨Int.emod_nonneg _ (by omega), Int.emod_lt_of_pos _ hp⟩
    · exact opV_range hp _ _ _
theorem ref_values {p : Int} {s : List S64} {g : List S61} {x : List S66} (G : Good p s g x) {inp : List Int} (hl : inp.length = s.length) (hin : ∀ y ∈ inp, 0 ≤ y ∧ y < p) : Ev (fun k => qha.f k p s g x inp) (vals (valA p inp) g) := by
  unfold qha.f;have hlg := G.lg
  refine up0 (g := fun k i => qha.l0 k p inp (vals (valA p inp) (g.take i)) g (g.length : Int) (i : Int)) (R := fun _ => vals (valA p inp) g) (n := g.length) ?_ fun i hi h => ?_
  · rw [List.take_length]
    refine Ev.fuel 1 fun k => ?_
    simp only [qha.l0];rw [if_neg (by omega)]
  · have hv : vals (valA p inp) (g.take (i + 1)) = vals (valA p inp) (g.take i) ++ [app (valA p inp) (vals (valA p inp) (g.take i)) g[i]] := by rw [← take_more g hi, vals_snoc]
    rw [hv] at h
    have hV : (vals (valA p inp) (g.take i)).length = i := by rw [vals_len, List.length_take]; omega
    have hr := vals_range G.pos hin (g.take i) (okL_take G.gates i);have hg := okG_nth G.gates hi;have hrd : rd_T61 g (i : Int) = g[i] := rdG_get hi;have h0 := G.pos;have hp := G.small;clear G;generalize vals (valA p inp) (g.take i) = V at *;generalize g[i] = y at *;obtain ⟨a, b, c, d⟩ := y;have hb := atI_range h0 hr b;have hc := atI_range h0 hr c;refine Ev.step (f := fun k => qha.l0 k p inp (V ++ [app (valA p inp) V ⟨a, b, c, d⟩]) g (g.length : Int) ((i + 1 : Nat) : Int)) (fun k => ?_) h;simp only [qha.l0];rw [if_pos (by omega), if_pos (by omega), if_pos (by omega), hrd];simp only [rd_at];unfold okG at hg;simp only at hg
    have hV2 : V.length < 17592186044416 := by omega
    rcases hg with ⟨rfl, g1, g2, -, -⟩ | ⟨rfl, -, -, g1, g2⟩ | ⟨q, g1, g2, g3, g4, -⟩ | ⟨rfl, g1, g2, -, g3, g4⟩
    · simp only [if_true, if_pos g1, if_pos (show b < (inp.length : Int) by omega), if_pos hV2, wadd (show i < 9223372036854775807 by omega), app, valA]
    · simp only [show ((2 : Int) = 1) = False from by decide, show ((2 : Int) = 3) = False from by decide, show ((2 : Int) = 4) = False from by decide, show ((2 : Int) = 5) = False from by decide, show ((2 : Int) = 6) = False from by decide, if_false, if_true, if_pos hV2, wadd (show i < 9223372036854775807 by omega), app, valA]
    · rcases q with rfl | rfl | rfl
      · simp only [show ((3 : Int) = 1) = False from by decide, show ((3 : Int) = 2) = False from by decide, show ((3 : Int) = 6) = False from by decide, if_false, if_true, if_pos g1, if_pos g3, if_pos (show b < (V.length : Int) by omega), if_pos (show c < (V.length : Int) by omega), if_pos hV2, wadd (show i < 9223372036854775807 by omega), ref_add h0 hp hb.1 hb.2 hc.1 hc.2, Option.bind_some, app, valA, opV]
      · simp only [show ((4 : Int) = 1) = False from by decide, show ((4 : Int) = 2) = False from by decide, show ((4 : Int) = 3) = False from by decide, show ((4 : Int) = 6) = False from by decide, if_false, if_true, if_pos g1, if_pos g3, if_pos (show b < (V.length : Int) by omega), if_pos (show c < (V.length : Int) by omega), if_pos hV2, wadd (show i < 9223372036854775807 by omega), ref_sub h0 hp hb.1 hb.2 hc.1 hc.2, Option.bind_some, app, valA, opV]
      · simp only [show ((5 : Int) = 1) = False from by decide, show ((5 : Int) = 2) = False from by decide, show ((5 : Int) = 3) = False from by decide, show ((5 : Int) = 4) = False from by decide, show ((5 : Int) = 6) = False from by decide, if_false, if_true, if_pos g1, if_pos g3, if_pos (show b < (V.length : Int) by omega), if_pos (show c < (V.length : Int) by omega), if_pos hV2, wadd (show i < 9223372036854775807 by omega), ref_mul h0 hp hb.1 hb.2 hc.1 hc.2, Option.bind_some, app, valA, opV]
    · simp only [show ((6 : Int) = 1) = False from by decide, show ((6 : Int) = 2) = False from by decide, show ((6 : Int) = 3) = False from by decide, show ((6 : Int) = 4) = False from by decide, show ((6 : Int) = 5) = False from by decide, if_false, if_true, if_pos g1, if_pos (show b < (V.length : Int) by omega), if_pos hV2, wadd (show i < 9223372036854775807 by omega), ref_mul h0 hp hb.1 hb.2 g3 g4, Option.bind_some, app, valA]
def toldX (v : List Int) (x : List S66) : List S89 := x.map fun e => ⟨e.f0, e.f1.map (atI v)⟩
theorem ref_run {p : Int} {s : List S64} {g : List S61} {x : List S66} (G : Good p s g x) {inp : List Int} (hl : inp.length = s.length) (hin : ∀ y ∈ inp, 0 ≤ y ∧ y < p) : Ev (fun k => qga.f k p s g x inp) (toldX (vals (valA p inp) g) x) := by
  unfold qga.f;refine Ev.bind (ref_values G hl hin) ?_;have hlg := G.lg;have hlx := G.lx;have hV : (vals (valA p inp) g).length = g.length := vals_len _ _;have hex := G.exits;clear G;generalize vals (valA p inp) g = V at *
  refine up0 (g := fun k i => qga.l0 k V (toldX V (x.take i)) x (x.length : Int) (i : Int)) (R := fun _ => toldX V x) (n := x.length) ?_ fun i hi h => ?_
  · rw [List.take_length]
    refine Ev.fuel 1 fun k => ?_
    simp only [qga.l0];rw [if_neg (by omega)]
  · have hm : toldX V (x.take (i + 1)) = toldX V (x.take i) ++ [⟨x[i].f0, x[i].f1.map (atI V)⟩] := by rw [← take_more x hi]; unfold toldX; rw [List.map_append]; rfl
    rw [hm] at h
    have hT : (toldX V (x.take i)).length = i := by simp [toldX]; omega
    have hxi := exitV_zero (hex _ (List.getElem_mem hi));have hrd := rdX_at hi;generalize toldX V (x.take i) = T at *;generalize x[i] = y at *;refine Ev.step (f := fun k => qga.l1 k V T x (x.length : Int) (i : Int) y.f1 (y.f1.length : Int) 0 y.f0 []) (fun k => ?_) ?_
    · simp only [qga.l0]
      rw [if_pos (by omega), if_pos (by omega), if_pos (by omega), hrd];simp only [Option.bind_some, List.length_nil, List.nil_append];rw [if_pos (by omega)]
    · refine up0 (g := fun k j => qga.l1 k V T x (x.length : Int) (i : Int) y.f1 (y.f1.length : Int) (j : Int) y.f0 ((y.f1.take j).map (atI V))) (R := fun _ => toldX V x) (n := y.f1.length) ?_ fun j hj h' => ?_
      · rw [List.take_length]
        refine Ev.step (f := fun k => qga.l0 k V (T ++ [⟨y.f0, y.f1.map (atI V)⟩]) x (x.length : Int) ((i + 1 : Nat) : Int)) (fun k => ?_) h;simp only [qga.l1];rw [if_neg (by omega), if_pos (by omega), wadd (by omega)]
      · have hv := hxi.2.2 _ (List.getElem_mem hj)
        have hr : rd y.f1 (j : Int) = y.f1[j] := by simp [rd, List.getD_eq_getElem?_getD, hj]
        have hm2 : (y.f1.take (j + 1)).map (atI V) = (y.f1.take j).map (atI V) ++ [atI V y.f1[j]] := by rw [← take_more y.f1 hj, List.map_append]; rfl
        rw [hm2] at h'
        have hL : ((y.f1.take j).map (atI V)).length = j := by simp; omega
        refine Ev.step (f := fun k => qga.l1 k V T x (x.length : Int) (i : Int) y.f1 (y.f1.length : Int) ((j + 1 : Nat) : Int) y.f0 ((y.f1.take j).map (atI V) ++ [atI V y.f1[j]])) (fun k => ?_) h';simp only [qga.l1];rw [if_pos (by omega), if_pos (by omega), if_pos (by omega), hr, if_pos hv.1, if_pos (by omega), if_pos (by omega), wadd (by omega), rd_at]
theorem ints11_same (l : List Int) (hl : l.length ≤ 65536) : Ev (fun k => qka.f k l l) true := by
  unfold qka.f;simp only [if_true]
  refine up0 (g := fun k i => qka.l0 k l l (l.length : Int) (i : Int)) (R := fun _ => true) (n := l.length) ?_ fun i hi h => ?_
  · refine Ev.fuel 1 fun k => ?_
    simp only [qka.l0];rw [if_neg (by omega)]
  · refine Ev.step (f := fun k => qka.l0 k l l (l.length : Int) ((i + 1 : Nat) : Int)) (fun k => ?_) h
    simp only [qka.l0];rw [if_pos (by omega), if_pos (by omega), if_pos (by omega), if_pos (by omega), if_pos trivial, wadd (by omega)]
theorem ints01_same (l : List Int) (hl : l.length ≤ 65536) : Ev (fun k => qoa.f k l l) true := by
  unfold qoa.f;simp only [if_true]
  refine up0 (g := fun k i => qoa.l0 k l l (l.length : Int) (i : Int)) (R := fun _ => true) (n := l.length) ?_ fun i hi h => ?_
  · refine Ev.fuel 1 fun k => ?_
    simp only [qoa.l0];rw [if_neg (by omega)]
  · refine Ev.step (f := fun k => qoa.l0 k l l (l.length : Int) ((i + 1 : Nat) : Int)) (fun k => ?_) h
    simp only [qoa.l0];rw [if_pos (by omega), if_pos (by omega), if_pos (by omega), if_pos (by omega), if_pos trivial, wadd (by omega)]
theorem same11 (l : List S89) (hl : l.length ≤ 65536) (he : ∀ e ∈ l, e.f0.length ≤ 65536 ∧ e.f1.length ≤ 65536) : Ev (fun k => qra.f k l l) true := by
  unfold qra.f;simp only [if_true]
  refine up0 (g := fun k i => qra.l0 k l l (l.length : Int) (i : Int)) (R := fun _ => true) (n := l.length) ?_ fun i hi h => ?_
  · refine Ev.fuel 1 fun k => ?_
    simp only [qra.l0];rw [if_neg (by omega)]
  · have hq := he _ (List.getElem_mem hi)
    have hr : rd_T89 l (i : Int) = l[i] := by simp [rd_T89, List.getD_eq_getElem?_getD, hi]
    refine Ev.step (f := fun k => (qka.f k l[i].f0 l[i].f0).bind fun aa => (if aa = true then ((qoa.f k l[i].f1 l[i].f1).bind fun ab => (if ab = true then (qra.l0 k l l (l.length : Int) ((i + 1 : Nat) : Int)) else (some false))) else (some false))) (fun k => ?_) (Ev.bind (ints11_same _ hq.1) ?_)
    · simp only [qra.l0]
      rw [if_pos (by omega), if_pos (by omega), if_pos (by omega), if_pos (by omega), hr, wadd (by omega)]
    · simp only [if_true]
      refine Ev.bind (ints01_same _ hq.2) ?_;simp only [if_true];exact h
theorem inputs_loop {p : Int} (hp : 0 < p) (s : List S64) (hs : s.length ≤ 256) : ∀ (m i : Nat), i + m = s.length → ∀ l : List Int, l.length = s.length → (∀ y ∈ l, 0 ≤ y ∧ y < p) →
    ∃ r : List Int, Ev (fun k => qfa.l0 k l s (s.length : Int) (i : Int)) (r, 0) ∧ r.length = s.length ∧ ∀ y ∈ r, 0 ≤ y ∧ y < p
  | 0, i, hi, l, hl, hy => by
    refine ⟨l, Ev.fuel 1 fun k => ?_, hl, hy⟩;simp only [qfa.l0];rw [if_neg (by omega)]
  | m + 1, i, hi, l, hl, hy => by
    have hlt : i < s.length := by omega
    have hr := rdS_at hlt
    by_cases hb : s[i].f1 = true
    · by_cases hg : rd l (i : Int) > 1
      · obtain ⟨r, h1, h2, h3⟩ := inputs_loop hp s hs m (i + 1) (by omega) (l.set i 0) (by rw [List.length_set]; exact hl) fun y hy' => by
          rcases List.mem_or_eq_of_mem_set hy' with h | rfl
          · exact hy y h
          · exact ⟨by omega, hp⟩
        refine ⟨r, Ev.step (fun k => ?_) h1, h2, h3⟩;simp only [qfa.l0];rw [if_pos (by omega), if_pos (by omega), if_pos (by omega), hr, if_pos hb, if_pos (by omega), if_pos hg, wadd (by omega), Int.toNat_natCast]
      · obtain ⟨r, h1, h2, h3⟩ := inputs_loop hp s hs m (i + 1) (by omega) l hl hy
        refine ⟨r, Ev.step (fun k => ?_) h1, h2, h3⟩;simp only [qfa.l0];rw [if_pos (by omega), if_pos (by omega), if_pos (by omega), hr, if_pos hb, if_pos (by omega), if_neg hg, wadd (by omega)]
    · obtain ⟨r, h1, h2, h3⟩ := inputs_loop hp s hs m (i + 1) (by omega) l hl hy
      refine ⟨r, Ev.step (fun k => ?_) h1, h2, h3⟩;simp only [qfa.l0];rw [if_pos (by omega), if_pos (by omega), if_pos (by omega), hr, if_neg hb, wadd (by omega)]
theorem ref_inputs (p : Int) (s : List S64) (g : List S61) (x : List S66) (l : List Int) (hx : ∀ e ∈ x, e.f0.length ≤ maxLen) (hg : ∀ e ∈ g, 0 ≤ e.f3) (hl : l.length ≤ maxLen) (hy : ∀ y ∈ l, 0 ≤ y) :
    ∃ r : List Int × Int, Ev (fun k => qfa.f k p s g x l) r ∧ (r.2 = 0 → Good p s g x ∧ r.1.length = s.length ∧ ∀ y ∈ r.1, 0 ≤ y ∧ y < p) := by
  by_cases h : checkV p s g x = 0
  · have G := good_of h hg
    have hls := G.ls
    by_cases hn : (l.length : Int) = (s.length : Int)
    · by_cases hb : belowV p l = 0
      · have hy2 : ∀ y ∈ l, 0 ≤ y ∧ y < p := by
          unfold belowV at hb
          split at hb
          · rename_i hq; exact fun y hm => ⟨hy y hm, hq y hm⟩
          · cases hb
        obtain ⟨r, h1, h2, h3⟩ := inputs_loop G.pos s hls s.length 0 (by omega) l (by omega) hy2;refine ⟨(r, 0), ?_, fun _ => ⟨G, h2, h3⟩⟩;unfold qfa.f;refine Ev.bind (ref_check p s g x hx) ?_;simp only [h, if_true, if_pos hn];refine Ev.bind (ref_within p l hl) ?_;rw [hb];refine Ev.step (fun k => ?_) h1;simp only [qfa.j0];rw [if_neg (by decide)];simp only [Option.bind_some, List.length_nil, List.nil_append];rw [if_pos (by omega)]
        rfl
      · refine ⟨([], 2), ?_, fun h2 => by cases h2⟩
        unfold qfa.f;refine Ev.bind (ref_check p s g x hx) ?_;simp only [h, if_true, if_pos hn];refine Ev.bind (ref_within p l hl) ?_
        have hbn : (belowV p l != 0) = true := by simpa using hb
        rw [hbn]
        refine Ev.fuel 1 fun k => ?_
        simp only [qfa.j0, if_true]
    · refine ⟨([], 2), ?_, fun h2 => by cases h2⟩
      unfold qfa.f;refine Ev.bind (ref_check p s g x hx) ?_;simp only [h, if_true, if_neg hn]
      refine Ev.fuel 1 fun k => ?_
      simp only [qfa.j0, if_true]
  · refine ⟨([], checkV p s g x), ?_, fun h2 => absurd h2 h⟩
    unfold qfa.f;refine Ev.bind (ref_check p s g x hx) ?_;simp only [if_neg h];exact Ev.now _
structure Keeps (p : Int) (s : List S64) (inp : List Int) (W : List S89) (d : S26) : Prop where
  good : Good p d.f0 d.f1 d.f2
  slots : d.f0 = s
  told : toldX (vals (valA p inp) d.f1) d.f2 = W
theorem toldX_map {v v' : List Int} {x : List S66} {f : Int → Int} (h : ∀ e ∈ x, ∀ y ∈ e.f1, atI v' (f y) = atI v y) : toldX v' (mapX f x) = toldX v x := by
  unfold toldX mapX;rw [List.map_map]
  refine List.map_congr_left fun e he => ?_
  simp only [Function.comp, List.map_map];exact congrArg (S89.mk e.f0) (List.map_congr_left fun y hy => h e he y hy)
theorem told_shared {p : Int} {s : List S64} {g : List S61} {x : List S66} (G : Good p s g x) (inp : List Int) : toldX (vals (valA p inp) (shL g).1) (mapX (atI (shL g).2) x) = toldX (vals (valA p inp) g) x :=
  toldX_map fun e he y hy => by
    have hv := (exitV_zero (G.exits e he)).2.2 y hy;exact (shL_shr g G.gates).vals _ (comm_val p inp) y hv.1 hv.2 trivial
theorem told_pruned {p : Int} {s : List S64} {g : List S61} {x : List S66} (G : Good p s g x) (inp : List Int) : toldX (vals (valA p inp) (prL (asked g x) g).1) (mapX (atI (prL (asked g x) g).2) x) = toldX (vals (valA p inp) g) x :=
  toldX_map fun e he y hy => by
    have hv := (exitV_zero (G.exits e he)).2.2 y hy;exact (prL_shr g G.gates (asked_closed G)).vals _ (comm_val p inp) y hv.1 hv.2 (asked_named G he hy)
theorem four_keeps {p : Int} {s : List S64} {g : List S61} {x : List S66} (G : Good p s g x) (inp : List Int) : ∀ d ∈ fourL p s g x, Keeps p s inp (toldX (vals (valA p inp) g) x) d := by
  have F := G.folded;have S := F.shared;have e := folds_vals (inp := inp) G.pos g G.gates;intro d hd;simp only [fourL, List.mem_cons, List.not_mem_nil, or_false] at hd
  rcases hd with rfl | rfl | rfl | rfl
  · exact ⟨F, rfl, by rw [e]⟩
  · exact ⟨G.shared, rfl, told_shared G inp⟩
  · exact ⟨G.pruned, rfl, told_pruned G inp⟩
  · exact ⟨S.pruned, rfl, by rw [told_pruned S inp, told_shared F inp, e]⟩
theorem tuneSame_at (p : Int) (s : List S64) (g : List S61) (x : List S66) (l : List Int) (hx : ∀ e ∈ x, e.f0.length ≤ maxLen) (hg : ∀ e ∈ g, 0 ≤ e.f3) (hl : l.length ≤ maxLen) (hy : ∀ y ∈ l, 0 ≤ y) : ∃ k, qma.f k p s g x l = some true := by
  suffices h : Ev (fun k => qma.f k p s g x l) true from h.rounds
  obtain ⟨⟨inp, e⟩, hI, hok⟩ := ref_inputs p s g x l hx hg hl hy;unfold qma.f;refine Ev.bind hI ?_
  by_cases h : e = 0
  · obtain ⟨G, hli, hin⟩ := hok h
    simp only [h, if_true];refine Ev.bind (all_good G) ?_;simp only [if_true];refine Ev.bind (ref_run G hli hin) ?_;have H := four_keeps G inp;have hl4 : (fourL p s g x).length = 4 := rfl;generalize fourL p s g x = L at H hl4
    refine up0 (g := fun k i => qma.l0 k p inp (toldX (vals (valA p inp) g) x) L (L.length : Int) (i : Int) s g x) (R := fun _ => true) (n := L.length) ?_ fun i hi hn => ?_
    · refine Ev.step (f := fun k => (qwa.f k).bind fun t => some t) (fun k => ?_) (Ev.bind aliveT (Ev.now _))
      simp only [qma.l0];rw [if_neg (by omega)]
    · have hd := H L[i] (List.getElem_mem hi)
      have hr : rd_T26 L (i : Int) = L[i] := by simp [rd_T26, List.getD_eq_getElem?_getD, hi]
      generalize L[i] = d at hd hr;obtain ⟨D, h1, h2⟩ := hd
      have hW : Ev (fun k => qra.f k (toldX (vals (valA p inp) g) x) (toldX (vals (valA p inp) g) x)) true := by
        have hlx := G.lx
        refine same11 _ (by simp [toldX]; omega) fun y hy => ?_
        unfold toldX at hy;obtain ⟨z, hz, rfl⟩ := List.mem_map.1 hy;have := G.exit z hz;simp only [List.length_map]
        omega
      have e1 : Ev (fun k => (qda.f k p d.f0 d.f1 d.f2).bind fun aa => (if aa = 0 then ((qba.f k d.f0 ([] : List (S61)) ([] : List (S66)) s ([] : List (S61)) ([] : List (S66))).bind fun ab => (if ab = true then ((qga.f k p d.f0 d.f1 d.f2 inp).bind fun ad => ((qra.f k ad (toldX (vals (valA p inp) g) x)).bind fun ae => (if ae = true then (qma.l0 k p inp (toldX (vals (valA p inp) g) x) L (L.length : Int) ((i + 1 : Nat) : Int) s g x) else (some false)))) else (some false))) else (some false))) true := by
        refine Ev.bind (ref_check _ _ _ _ fun e he => by have := (D.exit e he).1; simp only [maxLen]; omega) ?_;rw [D.check];simp only [if_true, h1];refine Ev.bind (same12 s [] [] (by have := G.ls; omega) (by simp) (by simp) (fun e he => by cases he)) ?_;simp only [if_true];have hrun := ref_run D (by rw [h1]; exact hli) hin;rw [h2] at hrun;simp only [h1] at hrun;refine Ev.bind hrun (Ev.bind hW ?_);simp only [if_true];exact hn
      refine Ev.step (fun k => ?_) e1;simp only [qma.l0];rw [if_pos (by omega), if_pos (by omega), if_pos (by omega), hr, wadd (by omega)]
  · simp only [if_neg h]
    exact Ev.bind aliveT (Ev.now _)
theorem tuneSame (x0 : Int) (aa : List S64) (ab : List S61) (ad : List S66) (x2 : List Int) (w0 : (Lit.int .u64 x0).wf = true) (w1_0 : aa.length ≤ maxLen ∧ aa.length * 16 ≤ 140737488351232 ∧ ∀ x1_0' ∈ aa, (Lit.int .i64 x1_0'.f0).wf = true ∧ True) (w1_1 : ab.length ≤ maxLen ∧ ab.length * 32 ≤ 140737488351232 ∧ ∀ x1_1' ∈ ab, (Lit.int .i64 x1_1'.f0).wf = true ∧ (Lit.int .i64 x1_1'.f1).wf = true ∧ (Lit.int .i64 x1_1'.f2).wf = true ∧ (Lit.int .u64 x1_1'.f3).wf = true) (w1_2 : ad.length ≤ maxLen ∧ ad.length * 48 ≤ 140737488351232 ∧ ∀ x1_2' ∈ ad, (x1_2'.f0.length ≤ maxLen ∧ x1_2'.f0.length * 8 ≤ 140737488351232 ∧ ∀ x1_2'_f0' ∈ x1_2'.f0, (Lit.int .i64 x1_2'_f0').wf = true) ∧ (x1_2'.f1.length ≤ maxLen ∧ x1_2'.f1.length * 8 ≤ 140737488351232 ∧ ∀ x1_2'_f1' ∈ x1_2'.f1, (Lit.int .i64 x1_2'_f1').wf = true)) (w2 : x2.length ≤ maxLen ∧ x2.length * 8 ≤ 140737488351232 ∧ ∀ x2' ∈ x2, (Lit.int .u64 x2').wf = true) : ∃ k, qma.f k x0 aa ab ad x2 = some true :=
  tuneSame_at x0 aa ab ad x2 (exits_small w1_2) (gates_pos w1_1) w2.1 (fun y hy => (u64_wf (w2.2.2 y hy)).1)
end Go.Proofs.Ytmlbliggbkfjnaa.L
/- The row of TuneSame: for every input the call returns true and changes nothing; no conditions. Out of the contract of the function and the plain law. -/
namespace Go.Proofs.Ytmlbliggbkfjnaa.tuneSame
open Go.ChangeShapes Go.WideShapes Go.ChangeAt Go.RowKit Go.Proofs.YtmlbliggbkfjnaaW.PrintWords Go.Proofs.Ytmlbliggbkfjnaa.J Go.Proofs.Ytmlbliggbkfjnaa.Op
theorem own : ownKnob Try.prog.godebug = none := by kernel_rfl
theorem laidOut : laidOutB Try.prog = true := by kernel_rfl
theorem op0 : Opens Try.prog (Kd.int .u64) 34 (fun n => (Lit.int .u64 n).wf = true) := (op_int Try.underlying34)
theorem op1 : Opens Try.prog (Kd.pair (Kd.slice 64 (k64)) (Kd.pair (Kd.slice 61 (k61)) (Kd.slice 66 (k66)))) 26 (fun x => (fun l => l.length ≤ maxLen ∧ l.length * 16 ≤ 140737488351232 ∧ ∀ a ∈ l, (fun b : S64 => (fun x => (fun n => (Lit.int .i64 n).wf = true) x.1 ∧ (fun _ => True) x.2) (b.f0, b.f1)) a) x.1 ∧ (fun x => (fun l => l.length ≤ maxLen ∧ l.length * 32 ≤ 140737488351232 ∧ ∀ a ∈ l, (fun b : S61 => (fun x => (fun n => (Lit.int .i64 n).wf = true) x.1 ∧ (fun x => (fun n => (Lit.int .i64 n).wf = true) x.1 ∧ (fun x => (fun n => (Lit.int .i64 n).wf = true) x.1 ∧ (fun n => (Lit.int .u64 n).wf = true) x.2) x.2) x.2) (b.f0, b.f1, b.f2, b.f3)) a) x.1 ∧ (fun l => l.length ≤ maxLen ∧ l.length * 48 ≤ 140737488351232 ∧ ∀ a ∈ l, (fun b : S66 => (fun x => (fun l => l.length ≤ maxLen ∧ l.length * 8 ≤ 140737488351232 ∧ ∀ a ∈ l, (fun n => (Lit.int .i64 n).wf = true) a) x.1 ∧ (fun l => l.length ≤ maxLen ∧ l.length * 8 ≤ 140737488351232 ∧ ∀ a ∈ l, (fun n => (Lit.int .i64 n).wf = true) a) x.2) (b.f0, b.f1)) a) x.2) x.2) := (op_agg Try.underlying26 (opL_cons (by kernel_rfl) (by kernel_rfl) (op_slice Try.underlying22 (by kernel_rfl) (by kernel_rfl) (op_struct (fun x => (⟨x.1, x.2⟩ : S64)) (fun _ => rfl) Try.underlying64 (opL_cons (by kernel_rfl) (by kernel_rfl) (op_int Try.underlying3) (by kernel_rfl) (opL_one (by kernel_rfl) (by kernel_rfl) (op_bool Try.underlying4))))) (by kernel_rfl) (opL_cons (by kernel_rfl) (by kernel_rfl) (op_slice Try.underlying23 (by kernel_rfl) (by kernel_rfl) (op_struct (fun x => (⟨x.1, x.2.1, x.2.2.1, x.2.2.2⟩ : S61)) (fun _ => rfl) Try.underlying61 (opL_cons (by kernel_rfl) (by kernel_rfl) (op_int Try.underlying3) (by kernel_rfl) (opL_cons (by kernel_rfl) (by kernel_rfl) (op_int Try.underlying3) (by kernel_rfl) (opL_cons (by kernel_rfl) (by kernel_rfl) (op_int Try.underlying3) (by kernel_rfl) (opL_one (by kernel_rfl) (by kernel_rfl) (op_int Try.underlying34))))))) (by kernel_rfl) (opL_one (by kernel_rfl) (by kernel_rfl) (op_slice Try.underlying24 (by kernel_rfl) (by kernel_rfl) (op_struct (fun x => (⟨x.1, x.2⟩ : S66)) (fun _ => rfl) Try.underlying66 (opL_cons (by kernel_rfl) (by kernel_rfl) (op_slice Try.underlying27 (by kernel_rfl) (by kernel_rfl) (op_int Try.underlying3)) (by kernel_rfl) (opL_one (by kernel_rfl) (by kernel_rfl) (op_slice Try.underlying27 (by kernel_rfl) (by kernel_rfl) (op_int Try.underlying3))))))))))
theorem op2 : Opens Try.prog (Kd.slice 34 (Kd.int .u64)) 43 (fun l => l.length ≤ maxLen ∧ l.length * 8 ≤ 140737488351232 ∧ ∀ a ∈ l, (fun n => (Lit.int .u64 n).wf = true) a) := (op_slice Try.underlying43 (by kernel_rfl) (by kernel_rfl) (op_int Try.underlying34))
theorem lifted (os : Os) (started : os.Started) (H : Type) (enc : TypeId × Value → H) :
    ReturnsInHanded {} Try.checked os 8 .any (Rows.tuneSameSpec.pre6 enc Try.prog Try.f8 Rows.tuneSameRow.domain false) (Rows.tuneSameSpec.post enc Try.prog Try.f8 false true false false) := by
  refine returnsInHanded_of_change_sized (C := Try.checked) own started (by kernel_rfl) Try.func8
    (ChangeSpec.witness6 (enc := enc) (C := Try.checked) false ⟨#[], #[.int .u64 0, .agg #[.slice none 0 0, .slice none 0 0, .slice none 0 0], .slice none 0 0], []⟩ 8 (by kernel_rfl) (by kernel_rfl) (by kernel_rfl) (by kernel_rfl)) ?_
  intro W base args ds gs before hval0 hW hcnd hsz0 _;have hsz : (DataW.weightsEach Try.prog (Try.f8.params.toList ++ Rows.tuneSameSpec.plain.varTypes Try.prog) (ds ++ gs)).all (· ≤ reachBytes) = true := hsz0;have hval : ∀ (j : Nat) t v, Try.f8.params[j]? = some t → args[j]? = some v → Value.okWide Try.prog W .any base t v := hval0;have hW' := hW;obtain ⟨p, q, hA0, hV, rfl, hfz, hnd⟩ := hW;have hA : DataW.TrodAll enc Try.prog W 0 (fun _ => true) true Try.f8.params.toList args.toList ds p := hA0;rw [Try.params8] at hA hval hsz;obtain ⟨v0, vs0, d0, ds0, p0, q0, hargs, rfl, rfl, h0, r0⟩ := trodAll_cons hA;obtain ⟨v1, vs1, d1, ds1, p1, q1, rfl, rfl, rfl, h1, r1⟩ := trodAll_cons r0;obtain ⟨v2, vs2, d2, ds2, p2, q2, rfl, rfl, rfl, h2, r2⟩ := trodAll_cons r1;obtain ⟨rfl, rfl, rfl⟩ := trodAll_nil r2
  obtain rfl : args = #[v0, v1, v2] := by cases args; simp_all
  obtain ⟨rfl, rfl⟩ := trodVars_none hV;have k0 := h0
  have lt0 : ∀ x ∈ p0, x.block < W.heap.size := by obtain ⟨m, hm⟩ := k0; exact DataW.trod_lt m _ _ _ hm
  obtain ⟨x0, rfl⟩ := okWide_int Try.underlying34 (hval 0 34 v0 rfl rfl);obtain ⟨y0, e0, w0⟩ := arg op0 rfl h0 hsz (j := 0) rfl rfl;have e0' : [Value.int .u64 x0] = [Value.int .u64 y0] := e0
  obtain rfl : x0 = y0 := by simpa using e0'
  have k1 := h1
  have lt1 : ∀ x ∈ p1, x.block < W.heap.size := by obtain ⟨m, hm⟩ := k1; exact DataW.trod_lt m _ _ _ hm
  obtain ⟨cs1, rfl, hn1⟩ := okWide_agg Try.underlying26 (hval 1 26 v1 rfl rfl);obtain ⟨⟨aa, ab, ad⟩, K1, ⟨w1_0, w1_1, w1_2⟩⟩ := arg op1 (by show cs1.toList.length = _; rw [Array.length_toList, hn1]; kernel_rfl) h1 hsz (j := 1) rfl rfl;obtain ⟨g1_0, rg1_0, qg1_0, ak, M1_0⟩ := K1;obtain ⟨al, am, l1_0', ae, af⟩ := ak;obtain ⟨g1_1, rg1_1, qg1_1, ao, M1_1⟩ := M1_0;obtain ⟨ap, aq, l1_1', ag, ah⟩ := ao;obtain ⟨ar, au, M1_1', ai, aj⟩ := M1_1
  obtain rfl : cs1 = #[.slice al aa.length am, .slice ap ab.length aq, .slice ar ad.length au] := by
    apply Array.toList_inj.1
    have z1 : cs1.toList = _ := qg1_0;rw [z1, l1_0', qg1_1, l1_1', M1_1']
    rfl
  have k2 := h2
  have lt2 : ∀ x ∈ p2, x.block < W.heap.size := by obtain ⟨m, hm⟩ := k2; exact DataW.trod_lt m _ _ _ hm
  obtain ⟨a2, len2, cap2, rfl⟩ := okWide_slice Try.underlying43 (hval 2 43 v2 rfl rfl);obtain ⟨x2, ⟨A2, c2, e2, hc2, hr2⟩, w2⟩ := arg op2 rfl h2 hsz (j := 2) rfl rfl;have e2' : [Value.slice a2 len2 cap2] = [Value.slice A2 x2.length c2] := e2
  obtain ⟨rfl, rfl, rfl⟩ : a2 = A2 ∧ len2 = x2.length ∧ cap2 = c2 := by simpa using e2'
  clear hA0 hval0 hsz0 hsz;obtain ⟨k, h⟩ := L.tuneSame x0 aa ab ad x2 w0 w1_0 w1_1 w1_2 w2
  refine (qma.calls k x0 _ _ aa _ _ ab _ _ ad _ _ x2 true W af ae ah ag aj ai hr2 hc2 h).mono fun e W' ⟨he, bel⟩ => ?_
  subst he;exact ⟨_, rfl, _, _, _, [], _, [], hW', trodAll_mk1 (shut_bool Try.underlying4 _), (trodAll_cons_mk (Below.trod laidOut (by kernel_rfl) (of_decide_eq_true (by kernel_rfl)) k0 bel lt0) (trodAll_cons_mk (Below.trod laidOut (by kernel_rfl) (of_decide_eq_true (by kernel_rfl)) k1 bel lt1) (trodAll_cons_mk (Below.trod laidOut (by kernel_rfl) (of_decide_eq_true (by kernel_rfl)) k2 bel lt2) trodAll_mk0))), rfl, bel.frame _, fun h => by cases h⟩
theorem closed : joinedFacts Try.pinned.checked.prog 8 Try.f8 Rows.tuneSameSpec Rows.tuneSameRow = true := by
  unfold joinedFacts
  repeat' with_reducible refine Bool.and_eq_true_iff.2 ⟨?_, ?_⟩
  all_goals first
    | with_reducible exact Facts.enters
    | (rw [Facts.final]; kernel_rfl)
    | (rw [Facts.made]; kernel_rfl)
    | kernel_rfl
theorem over : Rows.tuneSameRow.holds Try.pinned (OpenSpec.ofChange Rows.tuneSameSpec) :=
  OpenClaim.holds_of_wide 8 Try.f8 rfl rfl rfl rfl rfl rfl rfl ⟨rfl, rfl, rfl, rfl, rfl⟩ rfl rfl rfl rfl rfl (by kernel_rfl) Try.func8 closed
    (of_decide_eq_true (by kernel_rfl)) (by unfold Func.isWrapper; first | (rw [if_pos (by decide +kernel)]; kernel_rfl) | (rw [if_neg (by decide +kernel)]; exact ⟨rfl, rfl⟩))
    (fun os started H enc _ => lifted os started H enc)
theorem proved : Rows.TuneSameSaid := over
#print axioms proved
end Go.Proofs.Ytmlbliggbkfjnaa.tuneSame
namespace Go.Proofs.Ytmlbliggbkfjnaa
theorem tuneSame_holds : Rows.TuneSameSaid := tuneSame.proved
end Go.Proofs.Ytmlbliggbkfjnaa
