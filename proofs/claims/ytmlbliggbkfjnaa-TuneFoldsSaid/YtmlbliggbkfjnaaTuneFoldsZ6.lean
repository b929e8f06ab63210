/- Part 6 of the proof of TuneFolds: what the functions compute as plain Lean functions, that the machine comes to just these answers, and that the answer is true; no conditions. -/
import Derived.Test.YtmlbliggbkfjnaaTuneFoldsZ0
import Derived.Test.YtmlbliggbkfjnaaTuneFoldsZ1
import Derived.Test.YtmlbliggbkfjnaaTuneFoldsZ2
import Derived.Test.YtmlbliggbkfjnaaTuneFoldsZ3
import Derived.Test.YtmlbliggbkfjnaaTuneFoldsZ4
import Derived.Test.YtmlbliggbkfjnaaTuneFoldsZ5
import Derived.Test.YtmlbliggbkfjnaaRows
import Derived.WalkKit
import Derived.ProofKit
import Derived.OpenShut
import Derived.ShutString
import Derived.ChangeOld
import Derived.Below
import Derived.SizedLaws
set_option linter.unusedSimpArgs false
set_option linter.unusedVariables false
set_option maxRecDepth 100000
/- Both ways to fold a circuit answer alike, and what they answer; copies of a circuit. -/
namespace Go.Proofs.Ytmlbliggbkfjnaa.L
open Go.RowKit Go.Proofs.YtmlbliggbkfjnaaW.PrintWords Go.Proofs.Ytmlbliggbkfjnaa.J
theorem two_is (a b c d : Int) : qxa.f a b c d = some (decide (a = 3 ∨ a = 4 ∨ a = 5)) := by
  unfold qxa.f
  by_cases h3 : a = 3
  · simp [h3]
  by_cases h4 : a = 4
  · simp [h4]
  by_cases h5 : a = 5
  · simp [h5]
  · simp [h3, h4, h5]
theorem mul_small {p a b : Int} (hp : p ≤ 65537) (ha : 0 ≤ a) (ha' : a < p) (hb : 0 ≤ b) (hb' : b < p) : 0 ≤ a * b ∧ a * b < 18446744073709551616 := by
  have h1 : a * b ≤ 65537 * 65537 := Int.mul_le_mul (by omega) (by omega) hb (by omega);exact ⟨Int.mul_nonneg ha hb, by omega⟩
theorem times_at {p a b : Int} (h0 : 0 < p) (hp : p ≤ 65537) (ha : 0 ≤ a) (ha' : a < p) (hb : 0 ≤ b) (hb' : b < p) : qta.f p a b = some (a * b % p) := by
  obtain ⟨h1, h2⟩ := mul_small hp ha ha' hb hb';unfold qta.f field_mul.f;simp only [u64_small h1 h2, if_neg (show ¬ p = 0 by omega), Option.bind_some, Int.tmod_eq_emod_of_nonneg h1]
theorem ref_mul {p a b : Int} (h0 : 0 < p) (hp : p ≤ 65537) (ha : 0 ≤ a) (ha' : a < p) (hb : 0 ≤ b) (hb' : b < p) : qua.f p a b = some (a * b % p) := by
  obtain ⟨h1, h2⟩ := mul_small hp ha ha' hb hb';unfold qua.f;rw [u64_small h1 h2, if_neg (show ¬ p = 0 by omega), Int.tmod_eq_emod_of_nonneg h1]
theorem ref_add {p a b : Int} (h0 : 0 < p) (hp : p ≤ 65537) (ha : 0 ≤ a) (ha' : a < p) (hb : 0 ≤ b) (hb' : b < p) : qab.f p a b = some ((a + b) % p) := by
  unfold qab.f;rw [u64_small (by omega) (by omega), if_neg (show ¬ p = 0 by omega), Int.tmod_eq_emod_of_nonneg (by omega)]
theorem ref_sub {p a b : Int} (h0 : 0 < p) (hp : p ≤ 65537) (ha : 0 ≤ a) (ha' : a < p) (hb : 0 ≤ b) (hb' : b < p) : qwa.f p a b = some ((a + p - b) % p) := by
  unfold qwa.f;rw [u64_small (n := a + p) (by omega) (by omega), u64_small (n := a + p - b) (by omega) (by omega), if_neg (show ¬ p = 0 by omega), Int.tmod_eq_emod_of_nonneg (by omega)]
theorem plus_at {p a b : Int} (h0 : 0 < p) (hp : p ≤ 65537) (ha : 0 ≤ a) (ha' : a < p) (hb : 0 ≤ b) (hb' : b < p) : qbb.f p a b = some ((a + b) % p) := by
  unfold qbb.f;rw [u64_small (n := a + b) (by omega) (by omega)]
  by_cases h : a + b ≥ p
  · rw [if_pos h, u64_small (by omega) (by omega)]
    rw [show (a + b) % p = a + b - p by rw [← Int.sub_emod_right, Int.emod_eq_of_lt (by omega) (by omega)]]
  · rw [if_neg h, Int.emod_eq_of_lt (by omega) (by omega)]
theorem minus_at {p a b : Int} (h0 : 0 < p) (hp : p ≤ 65537) (ha : 0 ≤ a) (ha' : a < p) (hb : 0 ≤ b) (hb' : b < p) : qza.f p a b = some ((a + p - b) % p) := by
  unfold qza.f;rw [if_neg (show ¬ p = 0 by omega), u64_small (n := p - b) (by omega) (by omega), Int.tmod_eq_emod_of_nonneg (by omega)];rw [plus_at h0 hp ha ha' (Int.emod_nonneg _ (by omega)) (Int.emod_lt_of_pos _ h0), Option.bind_some]
  congr 1
  rw [Int.add_emod_emod]
  congr 1
  omega
theorem of_at {p a b : Int} (k : Int) (h0 : 0 < p) (hp : p ≤ 65537) (ha : 0 ≤ a) (ha' : a < p) (hb : 0 ≤ b) (hb' : b < p) (hk : k = 3 ∨ k = 4 ∨ k = 5) : circ_Of.f p k 0 1 0 [] [a, b] = some (opV p k a b) := by
  have e0 : rd [a, b] 0 = a := rfl;have e1 : rd [a, b] 1 = b := rfl
  rcases hk with rfl | rfl | rfl
  · simp [circ_Of.f, opV, e0, e1, plus_at h0 hp ha ha' hb hb']
  · simp [circ_Of.f, opV, e0, e1, minus_at h0 hp ha ha' hb hb']
  · simp [circ_Of.f, opV, e0, e1, times_at h0 hp ha ha' hb hb']
theorem k_range {p s i : Int} {g : S61} (h : okG p s i g) (hk : g.f0 = 2 ∨ g.f0 = 6) : 0 ≤ g.f3 ∧ g.f3 < p := by
  unfold okG at h; omega
def stepR (o : Option S61) (g : S61) : Int × Int × Int × Int × Bool := match o with
  | some g' => (g'.f0, g'.f1, g'.f2, g'.f3, true)
  | none => (g.f0, g.f1, g.f2, g.f3, false)
theorem folded_at {p s : Int} (h0 : 0 < p) (hp : p ≤ 65537) {D R : List S61} {g : S61} (hD : okL p s D) (hg : okG p s D.length g) : Ev (fun k => tune_folded.f k p (D ++ R) g.f0 g.f1 g.f2 g.f3) (stepR (foldStep p D g) g) := by
  refine Ev.fuel 12 fun k => ?_
  obtain ⟨a, b, c, d⟩ := g
  rcases hg with h | h | h | h
  · obtain rfl : a = 1 := h.1
    simp [tune_folded.f, tune_folded.j0, foldStep, stepR]
  · obtain rfl : a = 2 := h.1
    simp [tune_folded.f, tune_folded.j0, foldStep, stepR]
  · obtain ⟨hk, b0, b1, c0, c1, hd⟩ := h
    simp only at hk b0 b1 c0 c1 hd;subst hd;have hA := okL_at hD b0 b1;have hB := okL_at hD c0 c1;have eA : rd_T61 (D ++ R) b = atG D b := atG_left b1 b0;have eB : rd_T61 (D ++ R) c = atG D c := atG_left c1 c0
    have b2 : b < ((D ++ R).length : Int) := by simp; omega
    have c2 : c < ((D ++ R).length : Int) := by simp; omega
    have kA := k_range hA;have kB := k_range hB
    have hop : (atG D b).f0 = 2 → (atG D c).f0 = 2 → circ_Of.f p a 0 1 0 [] [(atG D b).f3, (atG D c).f3] = some (opV p a (atG D b).f3 (atG D c).f3) := fun h1 h2 =>
      of_at a h0 hp (kA (.inl h1)).1 (kA (.inl h1)).2 (kB (.inl h2)).1 (kB (.inl h2)).2 hk
    unfold foldStep;simp only;generalize atG D b = A at *;generalize atG D c = B at *;generalize D ++ R = E at *
    rcases hk with rfl | rfl | rfl
    · by_cases hA2 : A.f0 = 2 <;> by_cases hB2 : B.f0 = 2 <;> simp [tune_folded.f, tune_folded.j0, tune_folded.j1, tune_folded.j2, tune_folded.j3, tune_folded.j4, tune_folded.j5, tune_folded.j6, tune_folded_1.f, tune_folded_2.f, b0, b2, c0, c2, eA, eB, stepR, hA2, hB2, hop] <;> simp_all [tune_folded_1.f, tune_folded_2.f]
    · by_cases hA2 : A.f0 = 2 <;> by_cases hB2 : B.f0 = 2 <;> by_cases hbc : b = c <;> simp [tune_folded.f, tune_folded.j0, tune_folded.j1, tune_folded.j2, tune_folded.j3, tune_folded.j4, tune_folded.j5, tune_folded.j6, tune_folded_1.f, tune_folded_2.f, b0, b2, c0, c2, eA, eB, stepR, hA2, hB2, hop, hbc] <;> simp_all [tune_folded_1.f, tune_folded_2.f]
    · by_cases hA2 : A.f0 = 2 <;> by_cases hB2 : B.f0 = 2 <;> simp [tune_folded.f, tune_folded.j0, tune_folded.j1, tune_folded.j2, tune_folded.j3, tune_folded.j4, tune_folded.j5, tune_folded.j6, tune_folded_1.f, tune_folded_2.f, b0, b2, c0, c2, eA, eB, stepR, hA2, hB2, hop] <;> simp_all [tune_folded_1.f, tune_folded_2.f]
  · obtain ⟨hk, b0, b1, c0, d0, d1⟩ := h
    simp only at hk b0 b1 c0 d0 d1;subst hk; subst c0;have hA := okL_at hD b0 b1;have eA : rd_T61 (D ++ R) b = atG D b := atG_left b1 b0
    have b2 : b < ((D ++ R).length : Int) := by simp; omega
    have c2 : (0 : Int) < ((D ++ R).length : Int) := by omega
    have kA := k_range hA
    have hop : (atG D b).f0 = 2 ∨ (atG D b).f0 = 6 → qta.f p (atG D b).f3 d = some ((atG D b).f3 * d % p) := fun h1 =>
      times_at h0 hp (kA h1).1 (kA h1).2 d0 d1
    unfold foldStep;simp only;generalize atG D b = A at *;generalize D ++ R = E at *;generalize rd_T61 E 0 = B at *
    have cE : E ≠ [] := by rintro rfl; simp at c2
    by_cases hA2 : A.f0 = 2
    · simp [tune_folded.f, tune_folded.j0, tune_folded.j1, tune_folded.j2, tune_folded_1.f, b0, b2, c2, cE, eA, stepR, hA2, hop (.inl hA2)]
    · by_cases hd : d = 0
      · simp [tune_folded.f, tune_folded.j0, tune_folded.j1, tune_folded.j2, tune_folded.j3, tune_folded.j4, tune_folded.j5, tune_folded_1.f, b0, b2, c2, cE, eA, stepR, hA2, hd]
      · by_cases hA6 : A.f0 = 6
        · simp [tune_folded.f, tune_folded.j0, tune_folded.j1, tune_folded.j2, tune_folded.j3, tune_folded.j4, tune_folded.j5, tune_folded.j6, tune_folded_2.f, b0, b2, c2, cE, eA, stepR, hA2, hd, hA6, hop (.inr hA6)]
        · simp [tune_folded.f, tune_folded.j0, tune_folded.j1, tune_folded.j2, tune_folded.j3, tune_folded.j4, tune_folded.j5, tune_folded.j6, b0, b2, c2, cE, eA, stepR, hA2, hd, hA6]
theorem ref_folded {p s : Int} (h0 : 0 < p) (hp : p ≤ 65537) {D : List S61} {g : S61} (hD : okL p s D) (hg : okG p s D.length g) : Ev (fun k => qba.f k p D g.f0 g.f1 g.f2 g.f3) (stepR (foldStep p D g) g) := by
  refine Ev.fuel 12 fun k => ?_
  obtain ⟨a, b, c, d⟩ := g
  rcases hg with h | h | h | h
  · obtain rfl : a = 1 := h.1
    simp [qba.f, two_is, qba.j0, qba.j1, qba.j2, qba.j3, qba.j4, qba.j5, foldStep, stepR]
  · obtain rfl : a = 2 := h.1
    simp [qba.f, two_is, qba.j0, qba.j1, qba.j2, qba.j3, qba.j4, qba.j5, foldStep, stepR]
  · obtain ⟨hk, b0, b1, c0, c1, hd⟩ := h
    simp only at hk b0 b1 c0 c1 hd;subst hd;have hA := okL_at hD b0 b1;have hB := okL_at hD c0 c1;have eA : rd_T61 D b = atG D b := rfl;have eB : rd_T61 D c = atG D c := rfl
    have cA : qka.f D b = some ((atG D b).f0 == 2) := by unfold qka.f; rw [if_pos b0, if_pos b1, eA]
    have cB : qka.f D c = some ((atG D c).f0 == 2) := by unfold qka.f; rw [if_pos c0, if_pos c1, eB]
    have kA := k_range hA;have kB := k_range hB
    have hAB : b = c → (atG D b).f0 = (atG D c).f0 := fun e => by rw [e]
    have ho3 : (atG D b).f0 = 2 → (atG D c).f0 = 2 → qab.f p (atG D b).f3 (atG D c).f3 = some (((atG D b).f3 + (atG D c).f3) % p) := fun h1 h2 => ref_add h0 hp (kA (.inl h1)).1 (kA (.inl h1)).2 (kB (.inl h2)).1 (kB (.inl h2)).2
    have ho4 : (atG D b).f0 = 2 → (atG D c).f0 = 2 → qwa.f p (atG D b).f3 (atG D c).f3 = some (((atG D b).f3 + p - (atG D c).f3) % p) := fun h1 h2 => ref_sub h0 hp (kA (.inl h1)).1 (kA (.inl h1)).2 (kB (.inl h2)).1 (kB (.inl h2)).2
    have ho5 : (atG D b).f0 = 2 → (atG D c).f0 = 2 → qua.f p (atG D b).f3 (atG D c).f3 = some ((atG D b).f3 * (atG D c).f3 % p) := fun h1 h2 => ref_mul h0 hp (kA (.inl h1)).1 (kA (.inl h1)).2 (kB (.inl h2)).1 (kB (.inl h2)).2
    unfold foldStep;simp only;generalize atG D b = A at *;generalize atG D c = B at *;clear hA hB kA kB hD
    by_cases hA2 : A.f0 = 2 <;> by_cases hB2 : B.f0 = 2
    · rcases hk with rfl | rfl | rfl <;> simp [qba.f, two_is, qba.j0, qja.f, b0, b1, c0, c1, cA, cB, eA, eB, stepR, hA2, hB2, ho3 hA2 hB2, ho4 hA2 hB2, ho5 hA2 hB2, opV]
    · rcases hk with rfl | rfl | rfl
      · simp [qba.f, two_is, qba.j0, qba.j1, qba.j2, qba.j3, qba.j4, qba.j5, qja.f, b0, b1, c0, c1, cA, cB, eA, eB, stepR, hA2, hB2]
      · by_cases hbc : b = c
        · exact absurd ((hAB hbc).symm.trans hA2) hB2
        · simp [qba.f, two_is, qba.j0, qba.j1, qba.j2, qba.j3, qba.j4, qba.j5, qja.f, b0, b1, c0, c1, cA, cB, eA, eB, stepR, hA2, hB2, hbc]
      · simp [qba.f, two_is, qba.j0, qba.j1, qba.j2, qba.j3, qba.j4, qba.j5, qja.f, b0, b1, c0, c1, cA, cB, eA, eB, stepR, hA2, hB2]
    · rcases hk with rfl | rfl | rfl
      · simp [qba.f, two_is, qba.j0, qba.j1, qba.j2, qba.j3, qba.j4, qba.j5, qja.f, b0, b1, c0, c1, cA, cB, eA, eB, stepR, hA2, hB2]
      · by_cases hbc : b = c
        · exact absurd ((hAB hbc).trans hB2) hA2
        · simp [qba.f, two_is, qba.j0, qba.j1, qba.j2, qba.j3, qba.j4, qba.j5, qja.f, b0, b1, c0, c1, cA, cB, eA, eB, stepR, hA2, hB2, hbc]
      · simp [qba.f, two_is, qba.j0, qba.j1, qba.j2, qba.j3, qba.j4, qba.j5, qja.f, b0, b1, c0, c1, cA, cB, eA, eB, stepR, hA2, hB2]
    · rcases hk with rfl | rfl | rfl
      · simp [qba.f, two_is, qba.j0, qba.j1, qba.j2, qba.j3, qba.j4, qba.j5, qja.f, b0, b1, c0, c1, cA, cB, eA, eB, stepR, hA2, hB2]
      · by_cases hbc : b = c
        · simp [hbc, qba.f, two_is, qba.j0, qba.j1, qba.j2, qba.j3, qba.j4, qba.j5, qja.f, b0, b1, c0, c1, cA, cB, eA, eB, stepR, hA2, hB2]
        · simp [qba.f, two_is, qba.j0, qba.j1, qba.j2, qba.j3, qba.j4, qba.j5, qja.f, b0, b1, c0, c1, cA, cB, eA, eB, stepR, hA2, hB2, hbc]
      · simp [qba.f, two_is, qba.j0, qba.j1, qba.j2, qba.j3, qba.j4, qba.j5, qja.f, b0, b1, c0, c1, cA, cB, eA, eB, stepR, hA2, hB2]
  · obtain ⟨hk, b0, b1, c0, d0, d1⟩ := h
    simp only at hk b0 b1 c0 d0 d1;subst hk; subst c0;have hA := okL_at hD b0 b1;have eA : rd_T61 D b = atG D b := rfl
    have cA : qka.f D b = some ((atG D b).f0 == 2) := by unfold qka.f; rw [if_pos b0, if_pos b1, eA]
    have kA := k_range hA
    have hop : (atG D b).f0 = 2 ∨ (atG D b).f0 = 6 → qua.f p (atG D b).f3 d = some ((atG D b).f3 * d % p) := fun h1 => ref_mul h0 hp (kA h1).1 (kA h1).2 d0 d1
    unfold foldStep;simp only;generalize atG D b = A at *
    by_cases hA2 : A.f0 = 2
    · simp [qba.f, two_is, qba.j0, qba.j1, qja.f, b0, b1, cA, eA, stepR, hA2, hop (.inl hA2)]
    · by_cases hd : d = 0
      · simp [qba.f, two_is, qba.j0, qba.j1, qba.j2, qba.j3, qba.j4, qja.f, b0, b1, cA, eA, stepR, hA2, hd]
      · by_cases hA6 : A.f0 = 6
        · simp [qba.f, two_is, qba.j0, qba.j1, qba.j2, qba.j3, qba.j4, qba.j5, b0, b1, cA, eA, stepR, hA2, hd, hA6, hop (.inr hA6)]
        · simp [qba.f, two_is, qba.j0, qba.j1, qba.j2, qba.j3, qba.j4, qba.j5, b0, b1, cA, eA, stepR, hA2, hd, hA6]
theorem take_more {α : Type} (l : List α) {i : Nat} (h : i < l.length) : l.take i ++ [l[i]] = l.take (i + 1) := by
  rw [List.take_add_one, List.getElem?_eq_getElem h]; rfl
theorem Good.exit {p : Int} {s : List S64} {g : List S61} {x : List S66} (h : Good p s g x) : ∀ e ∈ x, e.f0.length ≤ 13 ∧ e.f1.length ≤ 1024 := fun e he => by
  have := exitV_zero (h.exits e he); exact ⟨this.1, this.2.1⟩
theorem own_at (s : List S64) (g : List S61) (x : List S66) (hs : s.length ≤ 256) (hg : g.length ≤ 65536) (hx : x.length ≤ 4096) (he : ∀ e ∈ x, e.f0.length ≤ 13 ∧ e.f1.length ≤ 1024) : Ev (fun k => tune_Own.f k s g x) (s, g, x) := by
  unfold tune_Own.f api_Slot_64.f api_Gate_65.f;rw [if_pos (by omega), if_pos (by omega)];simp only [Option.bind_some]
  refine up0 (g := fun k i => tune_Own.l0 k x (x.length : Int) (i : Int) s g (x.take i)) (R := fun _ => (s, g, x)) (n := x.length) ?_ fun i hi h => ?_
  · rw [List.take_length]
    refine Ev.fuel 1 fun k => ?_
    simp only [tune_Own.l0];rw [if_neg (by omega)]
  · refine Ev.step (f := fun k => tune_Own.l0 k x (x.length : Int) ((i + 1 : Nat) : Int) s g (x.take (i + 1))) (fun k => ?_) h
    have := he _ (List.getElem_mem hi);simp only [tune_Own.l0];rw [if_pos (by omega), if_pos (by omega), if_pos (by omega), rdX_at hi];unfold qqa.f;rw [if_pos (by omega), if_pos (by omega)];simp only [Option.bind_some];rw [if_pos (by rw [List.length_take]; omega), wadd (by omega), take_more x hi]
theorem copied_at (s : List S64) (g g' : List S61) (x : List S66) (hs : s.length ≤ 256) (hx : x.length ≤ 4096) (he : ∀ e ∈ x, e.f0.length ≤ 13 ∧ e.f1.length ≤ 1024) : Ev (fun k => qfa.f k s g x g') (s, g', x) := by
  unfold qfa.f;refine Ev.bind (a := (s, ([] : List S61), x)) ?_ (Ev.now _);unfold qfa.g;simp only [Option.bind_some, List.nil_append]
  have : ([] : List S64).length + s.length < 8796093022208 := by simp; omega
  simp only [if_pos this]
  refine up0 (g := fun k i => qfa.l0 k x (x.length : Int) (i : Int) s (x.take i)) (R := fun _ => (s, ([] : List S61), x)) (n := x.length) ?_ fun i hi h => ?_
  · rw [List.take_length]
    refine Ev.fuel 1 fun k => ?_
    simp only [qfa.l0];rw [if_neg (by omega)]
  · refine Ev.step (f := fun k => qfa.l0 k x (x.length : Int) ((i + 1 : Nat) : Int) s (x.take (i + 1))) (fun k => ?_) h
    have := he _ (List.getElem_mem hi);simp only [qfa.l0];rw [if_pos (by omega), if_pos (by omega), if_pos (by omega), rdX_at hi];unfold qqa.f;rw [if_pos (by omega), if_pos (by omega)];simp only [Option.bind_some];rw [if_pos (by rw [List.length_take]; omega), wadd (by omega), take_more x hi]
theorem folds_len (p : Int) (l : List S61) : (folds p [] l).length = l.length := by simp [folds, snocs_len]
theorem folds_more (p : Int) (l : List S61) {i : Nat} (h : i < l.length) : folds p [] (l.take (i + 1)) = folds p [] (l.take i) ++ [foldG p (folds p [] (l.take i)) l[i]] := by
  rw [← take_more l h]; exact snocs_snoc _ _ _ _
theorem okL_take {p s : Int} {l : List S61} (h : okL p s l) (n : Nat) : okL p s (l.take n) := by
  have : l = l.take n ++ l.drop n := (List.take_append_drop n l).symm;rw [this] at h; exact okL_app h
theorem okG_nth {p s : Int} {l : List S61} (h : okL p s l) {i : Nat} (hi : i < l.length) : okG p s i l[i] := h i _ (List.getElem?_eq_getElem hi)
theorem set_mid {α : Type} (D : List α) (y z : α) (R : List α) : (D ++ y :: R).set D.length z = D ++ z :: R := by
  rw [List.set_append_right _ _ (Nat.le_refl _), Nat.sub_self]; rfl
theorem fold_inner {p s : Int} (h0 : 0 < p) (hp : p ≤ 65537) (sl : List S64) (x : List S66) (n : Int) {D R : List S61} (hD : okL p s D) {r : (List S64) × (List S61) × (List S66) × Int} : ∀ (m : Nat) (y : S61), meas D.length y < m → okG p s D.length y →
    Ev (fun k => tune_Fold.l1 k p (D.length : Int) false n (D.length : Int) sl (D ++ foldN p D m y :: R) x) r → Ev (fun k => tune_Fold.l1 k p (D.length : Int) true n (D.length : Int) sl (D ++ y :: R) x) r
  | 0, y, hm, _, _ => by omega
  | m + 1, y, hm, hy, h => by
    have hr : rd_T61 (D ++ y :: R) (D.length : Int) = y := by simp [rd_T61, List.getD_eq_getElem?_getD]
    have hl : (D.length : Int) < ((D ++ y :: R).length : Int) := by simp; omega
    have hf := folded_at (R := y :: R) h0 hp hD hy;refine Ev.step (f := fun k => (tune_folded.f k p (D ++ y :: R) y.f0 y.f1 y.f2 y.f3).bind fun aa => (tune_Fold.l1 k p (D.length : Int) aa.2.2.2.2 n (D.length : Int) sl ((D ++ y :: R).set D.length (⟨aa.1, aa.2.1, aa.2.2.1, aa.2.2.2.1⟩ : S61)) x)) (fun k => ?_) (Ev.bind hf ?_)
    · simp only [tune_Fold.l1]
      rw [if_pos trivial, if_pos (by omega), if_pos hl, hr]
      rfl
    · unfold foldN at h
      cases e : foldStep p D y with
      | none =>
        rw [e] at h;simp only [stepR, set_mid];exact h
      | some y' =>
        rw [e] at h;simp only [stepR, set_mid];obtain ⟨o1, o2⟩ := fold_ok h0 hD hy e;exact fold_inner h0 hp sl x n hD m y' (by omega) o1 h
theorem tune_fold {p : Int} {s : List S64} {g : List S61} {x : List S66} (G : Good p s g x) : Ev (fun k => tune_Fold.f k p s g x) (s, folds p [] g, x, 0) := by
  unfold tune_Fold.f;have hlx := G.exit;refine Ev.bind (circ_check p s g x fun e he => by have := (hlx e he).1; simp only [maxLen]; omega) ?_;rw [G.check];simp only [if_true];refine Ev.bind (own_at s g x G.ls G.lg G.lx hlx) ?_;simp only
  refine up0 (g := fun k i => tune_Fold.l0 k p (g.length : Int) (i : Int) s (folds p [] (g.take i) ++ g.drop i) x) (R := fun _ => (s, folds p [] g, x, 0)) (n := g.length) ?_ fun i hi h => ?_
  · rw [List.take_length, List.drop_of_length_le (Nat.le_refl _), List.append_nil]
    refine Ev.fuel 1 fun k => ?_
    simp only [tune_Fold.l0];rw [if_neg (by omega)]
  · have hD : okL p s.length (folds p [] (g.take i)) := folds_ok G.pos _ (okL_take G.gates i)
    have hl : (folds p [] (g.take i)).length = i := by rw [folds_len, List.length_take]; omega
    have hg := okG_nth G.gates hi;rw [folds_more p g hi] at h;rw [List.drop_eq_getElem_cons hi];have hlg := G.lg;refine Ev.step (f := fun k => tune_Fold.l1 k p (i : Int) true (g.length : Int) (i : Int) s (folds p [] (g.take i) ++ g[i] :: g.drop (i + 1)) x) (fun k => ?_) ?_
    · simp only [tune_Fold.l0]
      rw [if_pos (by omega)]
    · have := fold_inner (r := (s, folds p [] g, x, 0)) G.pos G.small s x (g.length : Int) (R := g.drop (i + 1)) hD (i + 2) g[i] (by rw [hl]; exact meas_lt hg) (by rw [hl]; exact hg)
      rw [hl] at this;refine this ?_;refine Ev.step (f := fun k => tune_Fold.l0 k p (g.length : Int) ((i + 1 : Nat) : Int) s (folds p [] (g.take i) ++ foldN p (folds p [] (g.take i)) (i + 2) g[i] :: g.drop (i + 1)) x) (fun k => ?_) ?_
      · simp only [tune_Fold.l1]
        rw [if_neg (by decide), wadd (by omega)]
      · have e : foldG p (folds p [] (g.take i)) g[i] = foldN p (folds p [] (g.take i)) (i + 2) g[i] := by unfold foldG; rw [hl]
        rw [e, List.append_assoc] at h;exact h
theorem ref_inner {p s : Int} (h0 : 0 < p) (hp : p ≤ 65537) (sl : List S64) (gs : List S61) (x : List S66) (n i : Int) {D : List S61} (hD : okL p s D) {r : (List S64) × (List S61) × (List S66)} : ∀ (m : Nat) (y : S61), meas D.length y < m → okG p s D.length y →
    Ev (fun k => qia.l1 k p D false gs n i sl gs x (foldN p D m y).f0 (foldN p D m y).f1 (foldN p D m y).f2 (foldN p D m y).f3) r → Ev (fun k => qia.l1 k p D true gs n i sl gs x y.f0 y.f1 y.f2 y.f3) r
  | 0, y, hm, _, _ => by omega
  | m + 1, y, hm, hy, h => by
    have hf := ref_folded h0 hp hD hy;refine Ev.step (f := fun k => (qba.f k p D y.f0 y.f1 y.f2 y.f3).bind fun aa => (qia.l1 k p D aa.2.2.2.2 gs n i sl gs x aa.1 aa.2.1 aa.2.2.1 aa.2.2.2.1)) (fun k => ?_) (Ev.bind hf ?_)
    · simp only [qia.l1]
      rw [if_pos trivial]
    · unfold foldN at h
      cases e : foldStep p D y with
      | none => rw [e] at h; simp only [stepR]; exact h
      | some y' =>
        rw [e] at h;simp only [stepR];obtain ⟨o1, o2⟩ := fold_ok h0 hD hy e;exact ref_inner h0 hp sl gs x n i hD m y' (by omega) o1 h
theorem ref_fold {p : Int} {s : List S64} {g : List S61} {x : List S66} (G : Good p s g x) : Ev (fun k => qia.f k p s g x) (s, folds p [] g, x) := by
  unfold qia.f;have hlg := G.lg
  refine up0 (g := fun k i => qia.l0 k p (folds p [] (g.take i)) g (g.length : Int) (i : Int) s g x) (R := fun _ => (s, folds p [] g, x)) (n := g.length) ?_ fun i hi h => ?_
  · rw [List.take_length]
    refine Ev.step (f := fun k => (qfa.f k s g x (folds p [] g)).bind fun aa => (some (aa.1, aa.2.1, aa.2.2))) (fun k => ?_) (Ev.bind (copied_at s g _ x G.ls G.lx G.exit) (Ev.now _));simp only [qia.l0];rw [if_neg (by omega)]
  · have hD : okL p s.length (folds p [] (g.take i)) := folds_ok G.pos _ (okL_take G.gates i)
    have hl : (folds p [] (g.take i)).length = i := by rw [folds_len, List.length_take]; omega
    have hg := okG_nth G.gates hi;rw [folds_more p g hi] at h;refine Ev.step (f := fun k => qia.l1 k p (folds p [] (g.take i)) true g (g.length : Int) (i : Int) s g x g[i].f0 g[i].f1 g[i].f2 g[i].f3) (fun k => ?_) ?_
    · simp only [qia.l0]
      rw [if_pos (by omega), if_pos (by omega), if_pos (by omega), rdG_get hi]
    · refine ref_inner G.pos G.small s g x (g.length : Int) (i : Int) hD (i + 2) g[i] (by rw [hl]; exact meas_lt hg) (by rw [hl]; exact hg) ?_
      have e : foldG p (folds p [] (g.take i)) g[i] = foldN p (folds p [] (g.take i)) (i + 2) g[i] := by unfold foldG; rw [hl]
      rw [e] at h;refine Ev.step (f := fun k => qia.l0 k p (folds p [] (g.take i) ++ [foldN p (folds p [] (g.take i)) (i + 2) g[i]]) g (g.length : Int) ((i + 1 : Nat) : Int) s g x) (fun k => ?_) h;simp only [qia.l1];rw [if_neg (by decide), if_pos (by omega), wadd (by omega)]
end Go.Proofs.Ytmlbliggbkfjnaa.L
/- Gates named by new numbers in the exits: both ways answer alike, and what they answer; gates that stay. -/
namespace Go.Proofs.Ytmlbliggbkfjnaa.L
open Go.RowKit Go.Proofs.YtmlbliggbkfjnaaW.PrintWords Go.Proofs.Ytmlbliggbkfjnaa.J
def mapX (f : Int → Int) (x : List S66) : List S66 := x.map fun e => ⟨e.f0, e.f1.map f⟩
end Go.Proofs.Ytmlbliggbkfjnaa.L
/- Both ways to leave out gates that are alike answer alike, and what they answer. -/
namespace Go.Proofs.Ytmlbliggbkfjnaa.L
open Go.RowKit Go.Proofs.YtmlbliggbkfjnaaW.PrintWords Go.Proofs.Ytmlbliggbkfjnaa.J
theorem mapX_id {f : Int → Int} {x : List S66} (h : ∀ e ∈ x, ∀ y ∈ e.f1, f y = y) : mapX f x = x := by
  unfold mapX
  have e : ∀ e ∈ x, (⟨e.f0, e.f1.map f⟩ : S66) = e := fun e he => by
    have := List.map_congr_left (g := id) fun y hy => h e he y hy
    rw [this, List.map_id]
  have := List.map_congr_left e;rw [this];exact List.map_id x
theorem Good.folded {p : Int} {s : List S64} {g : List S61} {x : List S66} (G : Good p s g x) : Good p s (folds p [] g) x := by
  have h := G.other (f := fun y => y) (folds_ok G.pos g G.gates) (by rw [folds_len]; exact Nat.le_refl _) fun e he y hy => by
    rw [folds_len]; exact (exitV_zero (G.exits e he)).2.2 y hy
  have e := mapX_id (f := fun y => y) (x := x) fun _ _ _ _ => rfl
  unfold mapX at e;rw [e] at h;exact h
end Go.Proofs.Ytmlbliggbkfjnaa.L
/- Both ways to leave out gates that nobody asks for answer alike, and what they answer. -/
namespace Go.Proofs.Ytmlbliggbkfjnaa.L
open Go.RowKit Go.Proofs.YtmlbliggbkfjnaaW.PrintWords Go.Proofs.Ytmlbliggbkfjnaa.J
def markG (a : List Bool) (l : List Int) : List Bool := l.foldl (fun a y => a.set y.toNat true) a
def markX (a : List Bool) (x : List S66) : List Bool := x.foldl (fun a e => markG a e.f1) a
def asked (g : List S61) (x : List S66) : List Bool := mkM g g.length (markX (List.replicate g.length false) x)
end Go.Proofs.Ytmlbliggbkfjnaa.L
/- Both ways to tell the levels of gates answer alike, and what they answer; rows of numbers compared; the chapter's example. -/
namespace Go.Proofs.Ytmlbliggbkfjnaa.L
open Go.RowKit Go.Proofs.YtmlbliggbkfjnaaW.PrintWords Go.Proofs.Ytmlbliggbkfjnaa.J
theorem alive16 : Ev (fun k => qsa.f k) true := Ev.of qsa.mono (k := 60) (by decide +kernel)
def badG (i : Nat) (g : S61) : Bool := decide ((g.f0 = 3 ∨ g.f0 = 4 ∨ g.f0 = 5 ∨ g.f0 = 6) ∧ (g.f1 < 0 ∨ g.f1 ≥ i)) || decide ((g.f0 = 3 ∨ g.f0 = 4 ∨ g.f0 = 5) ∧ (g.f2 < 0 ∨ g.f2 ≥ i))
def anyB : Nat → List S61 → Bool
  | _, [] => false
  | i, g :: gs => badG i g || anyB (i + 1) gs
end Go.Proofs.Ytmlbliggbkfjnaa.L
/- What the laws ask of an answer: the wanted circuit, or the wanted error. -/
namespace Go.Proofs.Ytmlbliggbkfjnaa.L
open Go.RowKit Go.Proofs.YtmlbliggbkfjnaaW.PrintWords Go.Proofs.Ytmlbliggbkfjnaa.J
theorem ints12_same (l : List Int) (hl : l.length ≤ 65536) : Ev (fun k => qga.f k l l) true := by
  unfold qga.f;simp only [if_true]
  refine up0 (g := fun k i => qga.l0 k l l (l.length : Int) (i : Int)) (R := fun _ => true) (n := l.length) ?_ fun i hi h => ?_
  · refine Ev.fuel 1 fun k => ?_
    simp only [qga.l0];rw [if_neg (by omega)]
  · refine Ev.step (f := fun k => qga.l0 k l l (l.length : Int) ((i + 1 : Nat) : Int)) (fun k => ?_) h
    simp only [qga.l0];rw [if_pos (by omega), if_pos (by omega), if_pos (by omega), if_pos (by omega), if_pos trivial, wadd (by omega)]
theorem same12 (s : List S64) (g : List S61) (x : List S66) (hs : s.length ≤ 65536) (hg : g.length ≤ 65536) (hx : x.length ≤ 65536) (he : ∀ e ∈ x, e.f0.length ≤ 65536 ∧ e.f1.length ≤ 65536) : Ev (fun k => qca.f k s g x s g x) true := by
  unfold qca.f;simp only [if_true];rw [show ((x.length : Int) != (x.length : Int)) = false by simp];refine Ev.step (f := fun k => qca.l0 k (s.length : Int) 0 s g x s g x) (fun k => by simp [qca.j0]) ?_
  refine up0 (g := fun k i => qca.l0 k (s.length : Int) (i : Int) s g x s g x) (R := fun _ => true) (n := s.length) ?_ fun i hi h => ?_
  · refine Ev.step (f := fun k => qca.l1 k (g.length : Int) 0 s g x s g x) (fun k => ?_) ?_
    · simp only [qca.l0]
      rw [if_neg (by omega)]
    refine up0 (g := fun k i => qca.l1 k (g.length : Int) (i : Int) s g x s g x) (R := fun _ => true) (n := g.length) ?_ fun i hi h => ?_
    · refine Ev.step (f := fun k => qca.l2 k (x.length : Int) 0 s g x s g x) (fun k => ?_) ?_
      · simp only [qca.l1]
        rw [if_neg (by omega)]
      refine up0 (g := fun k i => qca.l2 k (x.length : Int) (i : Int) s g x s g x) (R := fun _ => true) (n := x.length) ?_ fun i hi h => ?_
      · refine Ev.fuel 1 fun k => ?_
        simp only [qca.l2];rw [if_neg (by omega)]
      · have hq := he _ (List.getElem_mem hi)
        refine Ev.step (f := fun k => (qga.f k x[i].f0 x[i].f0).bind fun aa => (if aa = true then ((qga.f k x[i].f1 x[i].f1).bind fun ab => (if ab = true then (qca.l2 k (x.length : Int) ((i + 1 : Nat) : Int) s g x s g x) else (some false))) else (some false))) (fun k => ?_) (Ev.bind (ints12_same _ hq.1) ?_)
        · simp only [qca.l2]
          rw [if_pos (by omega), if_pos (by omega), if_pos (by omega), if_pos (by omega), rdX_at hi, wadd (by omega)]
        · simp only [if_true]
          refine Ev.bind (ints12_same _ hq.2) ?_;simp only [if_true];exact h
    · refine Ev.step (f := fun k => qca.l1 k (g.length : Int) ((i + 1 : Nat) : Int) s g x s g x) (fun k => ?_) h
      simp only [qca.l1];rw [if_pos (by omega), if_pos (by omega), if_pos (by omega), if_pos (by omega), if_neg (by simp), wadd (by omega)]
  · refine Ev.step (f := fun k => qca.l0 k (s.length : Int) ((i + 1 : Nat) : Int) s g x s g x) (fun k => ?_) h
    simp only [qca.l0];rw [if_pos (by omega), if_pos (by omega), if_pos (by omega), if_pos (by omega), if_neg (by simp), wadd (by omega)]
theorem Good.same {p : Int} {s : List S64} {g : List S61} {x : List S66} (G : Good p s g x) : Ev (fun k => qca.f k s g x s g x) true := by
  have h1 := G.ls;have h2 := G.lx
  exact same12 s g x (by omega) G.lg (by omega) fun e he => by have := G.exit e he; omega
theorem is_ok {p : Int} {s : List S64} {g : List S61} {x : List S66} (G : Good p s g x) : Ev (fun k => qva.f k s g x 0 s g x 0) true := by
  unfold qva.f;simp only [if_true];exact Ev.bind G.same (Ev.now _)
theorem is_bad (e : Int) (h : e ≠ 0) : Ev (fun k => qva.f k [] [] [] e [] [] [] e) true := by
  unfold qva.f;simp only [if_neg h, if_true];exact Ev.bind (same12 [] [] [] (by simp) (by simp) (by simp) (fun e he => by cases he)) (Ev.now _)
theorem exits_small {x : List S66} (h : x.length ≤ maxLen ∧ x.length * 48 ≤ 140737488351232 ∧ ∀ x' ∈ x, (x'.f0.length ≤ maxLen ∧ x'.f0.length * 8 ≤ 140737488351232 ∧ ∀ y ∈ x'.f0, (Lit.int .i64 y).wf = true) ∧ (x'.f1.length ≤ maxLen ∧ x'.f1.length * 8 ≤ 140737488351232 ∧ ∀ y ∈ x'.f1, (Lit.int .i64 y).wf = true)) : ∀ e ∈ x, e.f0.length ≤ maxLen := fun e he => (h.2.2 e he).1.1
theorem gates_pos {g : List S61} (h : g.length ≤ maxLen ∧ g.length * 32 ≤ 140737488351232 ∧ ∀ y ∈ g, (Lit.int .i64 y.f0).wf = true ∧ (Lit.int .i64 y.f1).wf = true ∧ (Lit.int .i64 y.f2).wf = true ∧ (Lit.int .u64 y.f3).wf = true) : ∀ e ∈ g, 0 ≤ e.f3 := fun e he => (u64_wf (h.2.2 e he).2.2.2).1
end Go.Proofs.Ytmlbliggbkfjnaa.L
/- The statement TuneFolds as plain Lean. -/
namespace Go.Proofs.Ytmlbliggbkfjnaa.L
open Go.RowKit Go.Proofs.YtmlbliggbkfjnaaW.PrintWords Go.Proofs.Ytmlbliggbkfjnaa.J
theorem tune_Fold_bad {p : Int} {s : List S64} {g : List S61} {x : List S66} (hx : ∀ e ∈ x, e.f0.length ≤ maxLen) (h : checkV p s g x ≠ 0) : Ev (fun k => tune_Fold.f k p s g x) ([], [], [], checkV p s g x) := by
  unfold tune_Fold.f;refine Ev.bind (circ_check p s g x hx) ?_;simp only [if_neg h];exact Ev.now _
theorem tuneFolds_at (p : Int) (s : List S64) (g : List S61) (x : List S66) (hx : ∀ e ∈ x, e.f0.length ≤ maxLen) (hg : ∀ e ∈ g, 0 ≤ e.f3) : ∃ k, qna.f k p s g x = some true := by
  suffices h : Ev (fun k => qna.f k p s g x) true from h.rounds
  unfold qna.f
  by_cases h : checkV p s g x = 0
  · have G := good_of h hg
    refine Ev.bind (tune_fold G) (Ev.bind (ref_check p s g x hx) ?_);simp only [h, if_true];refine Ev.bind (ref_fold G) (Ev.bind (is_ok G.folded) ?_);simp only [if_true];exact Ev.bind alive16 (Ev.now _)
  · refine Ev.bind (tune_Fold_bad hx h) (Ev.bind (ref_check p s g x hx) ?_)
    simp only [if_neg h];refine Ev.bind (is_bad _ h) ?_;simp only [if_true];exact Ev.bind alive16 (Ev.now _)
theorem tuneFolds (x0 : Int) (aa : List S64) (ab : List S61) (ad : List S66) (w0 : (Lit.int .u64 x0).wf = true) (w1_0 : aa.length ≤ maxLen ∧ aa.length * 16 ≤ 140737488351232 ∧ ∀ x1_0' ∈ aa, (Lit.int .i64 x1_0'.f0).wf = true ∧ True) (w1_1 : ab.length ≤ maxLen ∧ ab.length * 32 ≤ 140737488351232 ∧ ∀ x1_1' ∈ ab, (Lit.int .i64 x1_1'.f0).wf = true ∧ (Lit.int .i64 x1_1'.f1).wf = true ∧ (Lit.int .i64 x1_1'.f2).wf = true ∧ (Lit.int .u64 x1_1'.f3).wf = true) (w1_2 : ad.length ≤ maxLen ∧ ad.length * 48 ≤ 140737488351232 ∧ ∀ x1_2' ∈ ad, (x1_2'.f0.length ≤ maxLen ∧ x1_2'.f0.length * 8 ≤ 140737488351232 ∧ ∀ x1_2'_f0' ∈ x1_2'.f0, (Lit.int .i64 x1_2'_f0').wf = true) ∧ (x1_2'.f1.length ≤ maxLen ∧ x1_2'.f1.length * 8 ≤ 140737488351232 ∧ ∀ x1_2'_f1' ∈ x1_2'.f1, (Lit.int .i64 x1_2'_f1').wf = true)) : ∃ k, qna.f k x0 aa ab ad = some true :=
  tuneFolds_at x0 aa ab ad (exits_small w1_2) (gates_pos w1_1)
end Go.Proofs.Ytmlbliggbkfjnaa.L
/- The row of TuneFolds: for every input the call returns true and changes nothing; no conditions. Out of the contract of the function and the plain law. -/
namespace Go.Proofs.Ytmlbliggbkfjnaa.tuneFolds
open Go.ChangeShapes Go.WideShapes Go.ChangeAt Go.RowKit Go.Proofs.YtmlbliggbkfjnaaW.PrintWords Go.Proofs.Ytmlbliggbkfjnaa.J Go.Proofs.Ytmlbliggbkfjnaa.Op
theorem own : ownKnob Try.prog.godebug = none := by kernel_rfl
theorem laidOut : laidOutB Try.prog = true := by kernel_rfl
theorem op0 : Opens Try.prog (Kd.int .u64) 34 (fun n => (Lit.int .u64 n).wf = true) := (op_int Try.underlying34)
theorem op1 : Opens Try.prog (Kd.pair (Kd.slice 64 (k64)) (Kd.pair (Kd.slice 61 (k61)) (Kd.slice 66 (k66)))) 26 (fun x => (fun l => l.length ≤ maxLen ∧ l.length * 16 ≤ 140737488351232 ∧ ∀ a ∈ l, (fun b : S64 => (fun x => (fun n => (Lit.int .i64 n).wf = true) x.1 ∧ (fun _ => True) x.2) (b.f0, b.f1)) a) x.1 ∧ (fun x => (fun l => l.length ≤ maxLen ∧ l.length * 32 ≤ 140737488351232 ∧ ∀ a ∈ l, (fun b : S61 => (fun x => (fun n => (Lit.int .i64 n).wf = true) x.1 ∧ (fun x => (fun n => (Lit.int .i64 n).wf = true) x.1 ∧ (fun x => (fun n => (Lit.int .i64 n).wf = true) x.1 ∧ (fun n => (Lit.int .u64 n).wf = true) x.2) x.2) x.2) (b.f0, b.f1, b.f2, b.f3)) a) x.1 ∧ (fun l => l.length ≤ maxLen ∧ l.length * 48 ≤ 140737488351232 ∧ ∀ a ∈ l, (fun b : S66 => (fun x => (fun l => l.length ≤ maxLen ∧ l.length * 8 ≤ 140737488351232 ∧ ∀ a ∈ l, (fun n => (Lit.int .i64 n).wf = true) a) x.1 ∧ (fun l => l.length ≤ maxLen ∧ l.length * 8 ≤ 140737488351232 ∧ ∀ a ∈ l, (fun n => (Lit.int .i64 n).wf = true) a) x.2) (b.f0, b.f1)) a) x.2) x.2) := (op_agg Try.underlying26 (opL_cons (by kernel_rfl) (by kernel_rfl) (op_slice Try.underlying22 (by kernel_rfl) (by kernel_rfl) (op_struct (fun x => (⟨x.1, x.2⟩ : S64)) (fun _ => rfl) Try.underlying64 (opL_cons (by kernel_rfl) (by kernel_rfl) (op_int Try.underlying3) (by kernel_rfl) (opL_one (by kernel_rfl) (by kernel_rfl) (op_bool Try.underlying4))))) (by kernel_rfl) (opL_cons (by kernel_rfl) (by kernel_rfl) (op_slice Try.underlying23 (by kernel_rfl) (by kernel_rfl) (op_struct (fun x => (⟨x.1, x.2.1, x.2.2.1, x.2.2.2⟩ : S61)) (fun _ => rfl) Try.underlying61 (opL_cons (by kernel_rfl) (by kernel_rfl) (op_int Try.underlying3) (by kernel_rfl) (opL_cons (by kernel_rfl) (by kernel_rfl) (op_int Try.underlying3) (by kernel_rfl) (opL_cons (by kernel_rfl) (by kernel_rfl) (op_int Try.underlying3) (by kernel_rfl) (opL_one (by kernel_rfl) (by kernel_rfl) (op_int Try.underlying34))))))) (by kernel_rfl) (opL_one (by kernel_rfl) (by kernel_rfl) (op_slice Try.underlying24 (by kernel_rfl) (by kernel_rfl) (op_struct (fun x => (⟨x.1, x.2⟩ : S66)) (fun _ => rfl) Try.underlying66 (opL_cons (by kernel_rfl) (by kernel_rfl) (op_slice Try.underlying27 (by kernel_rfl) (by kernel_rfl) (op_int Try.underlying3)) (by kernel_rfl) (opL_one (by kernel_rfl) (by kernel_rfl) (op_slice Try.underlying27 (by kernel_rfl) (by kernel_rfl) (op_int Try.underlying3))))))))))
theorem lifted (os : Os) (started : os.Started) (H : Type) (enc : TypeId × Value → H) :
    ReturnsInHanded {} Try.checked os 4 .any (Rows.tuneFoldsSpec.pre6 enc Try.prog Try.f4 Rows.tuneFoldsRow.domain false) (Rows.tuneFoldsSpec.post enc Try.prog Try.f4 false true false false) := by
  refine returnsInHanded_of_change_sized (C := Try.checked) own started (by kernel_rfl) Try.func4
    (ChangeSpec.witness6 (enc := enc) (C := Try.checked) false ⟨#[], #[.int .u64 0, .agg #[.slice none 0 0, .slice none 0 0, .slice none 0 0]], []⟩ 8 (by kernel_rfl) (by kernel_rfl) (by kernel_rfl) (by kernel_rfl)) ?_
  intro W base args ds gs before hval0 hW hcnd hsz0 _;have hsz : (DataW.weightsEach Try.prog (Try.f4.params.toList ++ Rows.tuneFoldsSpec.plain.varTypes Try.prog) (ds ++ gs)).all (· ≤ reachBytes) = true := hsz0;have hval : ∀ (j : Nat) t v, Try.f4.params[j]? = some t → args[j]? = some v → Value.okWide Try.prog W .any base t v := hval0;have hW' := hW;obtain ⟨p, q, hA0, hV, rfl, hfz, hnd⟩ := hW;have hA : DataW.TrodAll enc Try.prog W 0 (fun _ => true) true Try.f4.params.toList args.toList ds p := hA0;rw [Try.params4] at hA hval hsz;obtain ⟨v0, vs0, d0, ds0, p0, q0, hargs, rfl, rfl, h0, r0⟩ := trodAll_cons hA;obtain ⟨v1, vs1, d1, ds1, p1, q1, rfl, rfl, rfl, h1, r1⟩ := trodAll_cons r0;obtain ⟨rfl, rfl, rfl⟩ := trodAll_nil r1
  obtain rfl : args = #[v0, v1] := by cases args; simp_all
  obtain ⟨rfl, rfl⟩ := trodVars_none hV;have k0 := h0
  have lt0 : ∀ x ∈ p0, x.block < W.heap.size := by obtain ⟨m, hm⟩ := k0; exact DataW.trod_lt m _ _ _ hm
  obtain ⟨x0, rfl⟩ := okWide_int Try.underlying34 (hval 0 34 v0 rfl rfl);obtain ⟨y0, e0, w0⟩ := arg op0 rfl h0 hsz (j := 0) rfl rfl;have e0' : [Value.int .u64 x0] = [Value.int .u64 y0] := e0
  obtain rfl : x0 = y0 := by simpa using e0'
  have k1 := h1
  have lt1 : ∀ x ∈ p1, x.block < W.heap.size := by obtain ⟨m, hm⟩ := k1; exact DataW.trod_lt m _ _ _ hm
  obtain ⟨cs1, rfl, hn1⟩ := okWide_agg Try.underlying26 (hval 1 26 v1 rfl rfl);obtain ⟨⟨aa, ab, ad⟩, K1, ⟨w1_0, w1_1, w1_2⟩⟩ := arg op1 (by show cs1.toList.length = _; rw [Array.length_toList, hn1]; kernel_rfl) h1 hsz (j := 1) rfl rfl;obtain ⟨g1_0, rg1_0, qg1_0, ak, M1_0⟩ := K1;obtain ⟨al, am, l1_0', ae, af⟩ := ak;obtain ⟨g1_1, rg1_1, qg1_1, ao, M1_1⟩ := M1_0;obtain ⟨ap, aq, l1_1', ag, ah⟩ := ao;obtain ⟨ar, au, M1_1', ai, aj⟩ := M1_1
  obtain rfl : cs1 = #[.slice al aa.length am, .slice ap ab.length aq, .slice ar ad.length au] := by
    apply Array.toList_inj.1
    have z1 : cs1.toList = _ := qg1_0;rw [z1, l1_0', qg1_1, l1_1', M1_1']
    rfl
  clear hA0 hval0 hsz0 hsz;obtain ⟨k, h⟩ := L.tuneFolds x0 aa ab ad w0 w1_0 w1_1 w1_2
  refine (qna.calls k x0 _ _ aa _ _ ab _ _ ad true W af ae ah ag aj ai h).mono fun e W' ⟨he, bel⟩ => ?_
  subst he;exact ⟨_, rfl, _, _, _, [], _, [], hW', trodAll_mk1 (shut_bool Try.underlying4 _), (trodAll_cons_mk (Below.trod laidOut (by kernel_rfl) (of_decide_eq_true (by kernel_rfl)) k0 bel lt0) (trodAll_cons_mk (Below.trod laidOut (by kernel_rfl) (of_decide_eq_true (by kernel_rfl)) k1 bel lt1) trodAll_mk0)), rfl, bel.frame _, fun h => by cases h⟩
theorem closed : joinedFacts Try.pinned.checked.prog 4 Try.f4 Rows.tuneFoldsSpec Rows.tuneFoldsRow = true := by
  unfold joinedFacts
  repeat' with_reducible refine Bool.and_eq_true_iff.2 ⟨?_, ?_⟩
  all_goals first
    | with_reducible exact Facts.enters
    | (rw [Facts.final]; kernel_rfl)
    | (rw [Facts.made]; kernel_rfl)
    | kernel_rfl
theorem over : Rows.tuneFoldsRow.holds Try.pinned (OpenSpec.ofChange Rows.tuneFoldsSpec) :=
  OpenClaim.holds_of_wide 4 Try.f4 rfl rfl rfl rfl rfl rfl rfl ⟨rfl, rfl, rfl, rfl, rfl⟩ rfl rfl rfl rfl rfl (by kernel_rfl) Try.func4 closed
    (of_decide_eq_true (by kernel_rfl)) (by unfold Func.isWrapper; first | (rw [if_pos (by decide +kernel)]; kernel_rfl) | (rw [if_neg (by decide +kernel)]; exact ⟨rfl, rfl⟩))
    (fun os started H enc _ => lifted os started H enc)
theorem proved : Rows.TuneFoldsSaid := over
#print axioms proved
end Go.Proofs.Ytmlbliggbkfjnaa.tuneFolds
namespace Go.Proofs.Ytmlbliggbkfjnaa
theorem tuneFolds_holds : Rows.TuneFoldsSaid := tuneFolds.proved
end Go.Proofs.Ytmlbliggbkfjnaa
