/- Part 6 of the proof of TuneRounds: what the functions compute as plain Lean functions, that the machine comes to just these answers, and that the answer is true; no conditions. -/
import Derived.Test.YtmlbliggbkfjnaaTuneRoundsZ0
import Derived.Test.YtmlbliggbkfjnaaTuneRoundsZ1
import Derived.Test.YtmlbliggbkfjnaaTuneRoundsZ2
import Derived.Test.YtmlbliggbkfjnaaTuneRoundsZ3
import Derived.Test.YtmlbliggbkfjnaaTuneRoundsZ4
import Derived.Test.YtmlbliggbkfjnaaTuneRoundsZ5
import Derived.Test.YtmlbliggbkfjnaaRows
import Derived.WalkKit
import Derived.ProofKit
import Derived.OpenShut
import Derived.ShutString
import Derived.ChangeOld
import Derived.Below
import Derived.SizedLaws
set_option linter.unusedSimpArgs false
set_option linter.unusedVariables false
set_option maxRecDepth 100000
/- Both ways to tell the levels of gates answer alike, and what they answer; rows of numbers compared; the chapter's example. -/
namespace Go.Proofs.Ytmlbliggbkfjnaa.L
open Go.RowKit Go.Proofs.YtmlbliggbkfjnaaW.PrintWords Go.Proofs.Ytmlbliggbkfjnaa.J
theorem ints_same (l : List Int) (hl : l.length ≤ maxLen) : Ev (fun k => qia.f k l l) true := by
  have hm : l.length ≤ 9223372036854775807 := by simp only [maxLen] at hl; omega
  unfold qia.f;simp only [if_true]
  refine up0 (g := fun k i => qia.l0 k l l (l.length : Int) (i : Int)) (R := fun _ => true) (n := l.length) ?_ fun i hi h => ?_
  · refine Ev.fuel 1 fun k => ?_
    simp only [qia.l0];rw [if_neg (by omega)]
  · refine Ev.step (f := fun k => qia.l0 k l l (l.length : Int) ((i + 1 : Nat) : Int)) (fun k => ?_) h
    simp only [qia.l0];rw [if_pos (by omega), if_pos (by omega), if_pos (by omega), if_pos (by omega), if_pos trivial, wadd (by omega)]
def lev (v : List Int) (g : S61) : Int :=
  if g.f0 = 3 ∨ g.f0 = 4 then mx (atI v g.f1) (atI v g.f2) else if g.f0 = 5 then mx (atI v g.f1) (atI v g.f2) + 1 else if g.f0 = 6 then atI v g.f1 else 0
def levs (l : List S61) : List Int := snocs lev [] l
def badG (i : Nat) (g : S61) : Bool := decide ((g.f0 = 3 ∨ g.f0 = 4 ∨ g.f0 = 5 ∨ g.f0 = 6) ∧ (g.f1 < 0 ∨ g.f1 ≥ i)) || decide ((g.f0 = 3 ∨ g.f0 = 4 ∨ g.f0 = 5) ∧ (g.f2 < 0 ∨ g.f2 ≥ i))
def anyB : Nat → List S61 → Bool
  | _, [] => false
  | i, g :: gs => badG i g || anyB (i + 1) gs
def levR (g : List S61) : List Int := if anyB 0 g = true then [] else levs g
theorem levs_len (l : List S61) : (levs l).length = l.length := by simp [levs, snocs_len]
theorem levs_more (l : List S61) {i : Nat} (h : i < l.length) : levs (l.take (i + 1)) = levs (l.take i) ++ [lev (levs (l.take i)) l[i]] := by
  rw [← take_more l h]; exact snocs_snoc _ _ _ _
theorem mx_le {a b n : Int} (ha : 0 ≤ a ∧ a ≤ n) (hb : 0 ≤ b ∧ b ≤ n) : 0 ≤ mx a b ∧ mx a b ≤ n := by
  unfold mx; split <;> omega
theorem atI_le {v : List Int} {n : Int} (hn : 0 ≤ n) (h : ∀ x ∈ v, 0 ≤ x ∧ x ≤ n) (i : Int) : 0 ≤ atI v i ∧ atI v i ≤ n := by
  unfold atI;rw [List.getD_eq_getElem?_getD]
  cases e : v[i.toNat]? with
  | none => simpa using hn
  | some x => simpa using h x (List.mem_of_getElem? e)
theorem levs_le (l : List S61) : ∀ x ∈ levs l, 0 ≤ x ∧ x ≤ l.length := by
  refine snoc_ind (P := fun l => ∀ x ∈ levs l, 0 ≤ x ∧ x ≤ l.length) (fun x hx => by cases hx) (fun l g ih x hx => ?_) l;have e : levs (l ++ [g]) = levs l ++ [lev (levs l) g] := snocs_snoc _ _ _ _;rw [e, List.mem_append] at hx;simp only [List.length_append, List.length_cons, List.length_nil]
  rcases hx with hx | hx
  · have := ih x hx; omega
  · obtain rfl := List.mem_singleton.1 hx
    have h1 := atI_le (by omega) ih g.f1;have h2 := atI_le (by omega) ih g.f2;have h3 := mx_le h1 h2;unfold lev
    split
    · omega
    split
    · omega
    split <;> omega
theorem rd_left {D R : List Int} {i : Int} (h0 : 0 ≤ i) (h1 : i < D.length) : rd (D ++ R) i = atI D i := atI_left h1 h0
theorem tune_levels (s : List S64) (g : List S61) (x : List S66) (hl : g.length ≤ 4398046511104) : Ev (fun k => tune_Levels.f k s g x) (levR g) := by
  unfold tune_Levels.f;simp only [if_pos (show 0 ≤ (g.length : Int) by omega), Int.toNat_natCast, if_pos (show g.length ≤ 35184372088832 by omega)]
  refine up0 (g := fun k i => tune_Levels.l0 k (levs (g.take i) ++ List.replicate (g.length - i) 0) g (g.length : Int) (i : Int)) (R := fun i => if anyB i (g.drop i) = true then [] else levs g) (n := g.length) ?_ fun i hi h => ?_
  · rw [List.take_length, Nat.sub_self, List.drop_of_length_le (Nat.le_refl _)]
    refine Ev.fuel 1 fun k => ?_
    simp only [tune_Levels.l0];rw [if_neg (by omega)];simp [anyB]
  · have hD : (levs (g.take i)).length = i := by rw [levs_len, List.length_take]; omega
    have hb := levs_le (g.take i);rw [levs_more g hi] at h;rw [List.drop_eq_getElem_cons hi, show g.length - i = (g.length - (i + 1)) + 1 by omega, List.replicate_succ];have hg : rd_T61 g (i : Int) = g[i] := rdG_get hi;generalize g[i] = y at *;generalize levs (g.take i) = D at *;generalize List.replicate (g.length - (i + 1)) (0 : Int) = R at *
    have hl' : ((D ++ 0 :: R).length : Int) > i := by simp; omega
    have hset : ∀ v : Int, (D ++ 0 :: R).set i v = D ++ v :: R := fun v => by
      have := set_mid D 0 v R; rw [hD] at this; exact this
    have hlen : (g.take i).length = i := by rw [List.length_take]; omega
    rw [hlen] at hb;have n1 := atI_le (by omega) hb y.f1;have n2 := atI_le (by omega) hb y.f2;have n3 := mx_le n1 n2
    by_cases hbad : badG i y = true
    · rw [show anyB i (y :: g.drop (i + 1)) = true by simp [anyB, hbad], if_pos rfl]
      refine Ev.fuel 4 fun k => ?_
      obtain ⟨a, b, c, d⟩ := y;unfold badG at hbad;simp only at hbad n1 n2 n3
      by_cases h3 : a = 3 ∨ a = 4 ∨ a = 5
      · have e : tune_Levels.l0 (k + 4) (D ++ 0 :: R) g (g.length : Int) (i : Int) = tune_Levels.j1 (k + 3) (D ++ 0 :: R) (i : Int) true g (g.length : Int) (i : Int) a b c d := by
          simp only [tune_Levels.l0];rw [if_pos (by omega), if_pos (by omega), if_pos (by omega), hg]
          rcases h3 with rfl | rfl | rfl <;> simp
        rw [e]
        have hq : b < 0 ∨ b ≥ i ∨ c < 0 ∨ c ≥ i := by simp [h3] at hbad; omega
        simp only [tune_Levels.j1, tune_Levels.j2]
        by_cases q1 : b < 0
        · simp [q1]
        by_cases q2 : b ≥ i
        · simp [q1, q2]
        by_cases q3 : c < 0
        · simp [q1, q2, q3]
        · have q4 : c ≥ i := by omega
          simp [q1, q2, q3, q4]
      · have h6 : a = 6 := by simp [h3] at hbad; omega
        subst h6
        have hq : b < 0 ∨ b ≥ i := by simp at hbad; omega
        simp only [tune_Levels.l0];rw [if_pos (by omega), if_pos (by omega), if_pos (by omega), hg];simp only [tune_Levels.j1, tune_Levels.j2]
        by_cases q1 : b < 0
        · simp [q1]
        · have q2 : b ≥ i := by omega
          simp [q1, q2]
    · rw [Bool.not_eq_true] at hbad
      rw [show anyB i (y :: g.drop (i + 1)) = anyB (i + 1) (g.drop (i + 1)) by simp [anyB, hbad]];rw [List.append_assoc] at h;refine Ev.steps (f := fun k => tune_Levels.l0 k (D ++ lev D y :: R) g (g.length : Int) ((i + 1 : Nat) : Int)) 3 (fun k => ?_) h
      have hL : (i : Int) < ((D ++ 0 :: R).length : Int) := by omega
      have rdl : ∀ z : Int, 0 ≤ z → z < i → rd (D ++ 0 :: R) z = atI D z := fun z z0 z1 => rd_left z0 (by omega)
      obtain ⟨a, b, c, d⟩ := y;unfold badG at hbad;simp only at hbad n1 n2 n3;rw [Bool.or_eq_false_iff, decide_eq_false_iff_not, decide_eq_false_iff_not] at hbad;simp only [tune_Levels.l0];rw [if_pos (by omega), if_pos (by omega), if_pos (by omega), hg]
      by_cases h3 : a = 3 ∨ a = 4 ∨ a = 5
      · have b0 : 0 ≤ b ∧ b < i ∧ 0 ≤ c ∧ c < i := by omega
        have w1 : wrap64 (mx (atI D b) (atI D c) + 1) = mx (atI D b) (atI D c) + 1 := w64_small (by omega) (by omega)
        have e : (if a = 3 then tune_Levels.j1 (k + 2) (D ++ 0 :: R) (i : Int) true g (g.length : Int) (i : Int) a b c d else if a = 4 then tune_Levels.j1 (k + 2) (D ++ 0 :: R) (i : Int) true g (g.length : Int) (i : Int) a b c d else tune_Levels.j1 (k + 2) (D ++ 0 :: R) (i : Int) (a == 5) g (g.length : Int) (i : Int) a b c d) = tune_Levels.j1 (k + 2) (D ++ 0 :: R) (i : Int) true g (g.length : Int) (i : Int) a b c d := by
          rcases h3 with rfl | rfl | rfl <;> simp
        refine e.trans ?_;simp only [tune_Levels.j1, tune_Levels.j2];rw [if_pos trivial, if_neg (by omega), if_neg (by omega), if_neg (by omega), qqF (show ¬ (c ≥ (i : Int)) by omega), if_neg (by decide), if_pos trivial, if_pos b0.1, if_pos (by omega), if_pos b0.2.2.1, if_pos (by omega), if_pos (by omega), if_pos hL, rdl b b0.1 b0.2.1, rdl c b0.2.2.1 b0.2.2.2, Int.toNat_natCast, Option.bind_some, wadd (by omega)]
        have hs2 : ((D ++ 0 :: R).set i (mx (atI D b) (atI D c))).set i (wrap64 (mx (atI D b) (atI D c) + 1)) = D ++ (mx (atI D b) (atI D c) + 1) :: R := by
          rw [List.set_set, hset, w1]
        rw [hs2, hset];unfold lev;simp only
        by_cases h5 : a = 5
        · rw [if_pos h5, if_neg (by omega), if_pos h5]
        · rw [if_neg h5, if_pos (by omega)]
      · have n3 : ¬ a = 3 := by omega
        have n4 : ¬ a = 4 := by omega
        have n5 : ¬ a = 5 := by omega
        have n5' : (a == 5) = false := by simp [n5]
        rw [if_neg n3, if_neg n4, n5'];simp only [tune_Levels.j1, tune_Levels.j2];unfold lev;simp only;rw [if_neg (show ¬ (a = 3 ∨ a = 4) by omega)]
        by_cases h6 : a = 6
        · have b0 : 0 ≤ b ∧ b < i := by omega
          simp only [if_pos h6, if_neg n5, Bool.false_eq_true, if_false, if_neg (show ¬ b < 0 by omega), if_neg (show ¬ b ≥ (i : Int) by omega), if_pos b0.1, if_pos (show b < ((D ++ 0 :: R).length : Int) by omega), if_pos (show 0 ≤ (i : Int) by omega), if_pos hL, rdl b b0.1 b0.2, Int.toNat_natCast, Option.bind_some, hset, wadd (show i < 9223372036854775807 by omega)]
        · simp only [if_neg h6, if_neg n5, Bool.false_eq_true, if_false, wadd (show i < 9223372036854775807 by omega)]
theorem ref_levels (s : List S64) (g : List S61) (x : List S66) (hl : g.length ≤ 4398046511104) : Ev (fun k => qea.f k s g x) (levR g, !anyB 0 g) := by
  unfold qea.f
  refine up0 (g := fun k i => qea.l0 k (levs (g.take i)) g (g.length : Int) (i : Int)) (R := fun i => (if anyB i (g.drop i) = true then [] else levs g, !anyB i (g.drop i))) (n := g.length) ?_ fun i hi h => ?_
  · rw [List.take_length, List.drop_of_length_le (Nat.le_refl _)]
    refine Ev.fuel 1 fun k => ?_
    simp only [qea.l0];rw [if_neg (by omega)];simp [anyB]
  · have hD : (levs (g.take i)).length = i := by rw [levs_len, List.length_take]; omega
    have hb := levs_le (g.take i);rw [levs_more g hi] at h;rw [List.drop_eq_getElem_cons hi];have hg : rd_T61 g (i : Int) = g[i] := rdG_get hi;generalize g[i] = y at *;generalize levs (g.take i) = D at *
    have hlen : (g.take i).length = i := by rw [List.length_take]; omega
    rw [hlen] at hb;have n1 := atI_le (by omega) hb y.f1;have n2 := atI_le (by omega) hb y.f2;have n3 := mx_le n1 n2
    by_cases hbad : badG i y = true
    · rw [show anyB i (y :: g.drop (i + 1)) = true by simp [anyB, hbad], if_pos rfl]
      refine Ev.fuel 4 fun k => ?_
      obtain ⟨a, b, c, d⟩ := y;unfold badG at hbad;simp only at hbad n1 n2 n3;simp only [qea.l0];rw [if_pos (by omega), if_pos (by omega), if_pos (by omega), hg];simp only [one_is, two_is, Option.bind_some]
      by_cases h3 : a = 3 ∨ a = 4 ∨ a = 5
      · have h3' : a = 3 ∨ a = 4 ∨ a = 5 ∨ a = 6 := by omega
        have hq : b < 0 ∨ b ≥ i ∨ c < 0 ∨ c ≥ i := by simp [h3, h3'] at hbad; omega
        rw [qqT h3', qqT h3]
        by_cases q1 : b < 0
        · simp [q1, qea.j1]
        by_cases q2 : b ≥ i
        · simp [q1, q2, qea.j1]
        by_cases q3 : c < 0
        · simp [q1, q2, q3, qea.j1]
        · have q4 : c ≥ i := by omega
          simp [q1, q2, q3, q4, qea.j1]
      · have h6 : a = 6 := by simp [h3] at hbad; omega
        subst h6
        have hq : b < 0 ∨ b ≥ i := by simp at hbad; omega
        by_cases q1 : b < 0
        · simp [q1, qea.j1]
        · have q2 : b ≥ i := by omega
          simp [q1, q2, qea.j1]
    · rw [Bool.not_eq_true] at hbad
      rw [show anyB i (y :: g.drop (i + 1)) = anyB (i + 1) (g.drop (i + 1)) by simp [anyB, hbad]];refine Ev.steps (f := fun k => qea.l0 k (D ++ [lev D y]) g (g.length : Int) ((i + 1 : Nat) : Int)) 3 (fun k => ?_) h;obtain ⟨a, b, c, d⟩ := y;unfold badG at hbad;simp only at hbad n1 n2 n3;rw [Bool.or_eq_false_iff, decide_eq_false_iff_not, decide_eq_false_iff_not] at hbad;simp only [qea.l0];rw [if_pos (by omega), if_pos (by omega), if_pos (by omega), hg];simp only [one_is, two_is, Option.bind_some, qea.j1, qea.j2]
      by_cases h3 : a = 3 ∨ a = 4 ∨ a = 5
      · have h3' : a = 3 ∨ a = 4 ∨ a = 5 ∨ a = 6 := by omega
        have b0 : 0 ≤ b ∧ b < i ∧ 0 ≤ c ∧ c < i := by omega
        have w1 : wrap64 (mx (atI D b) (atI D c) + 1) = mx (atI D b) (atI D c) + 1 := w64_small (by omega) (by omega);have e1 : rd D b = atI D b := rfl;have e2 : rd D c = atI D c := rfl;rw [qqT h3', qqT h3];simp only [if_true, if_neg (show ¬ b < 0 by omega), if_neg (show ¬ b ≥ (i : Int) by omega), if_neg (show ¬ c < 0 by omega), qqF (show ¬ (c ≥ (i : Int)) by omega), Bool.false_eq_true, if_false, if_pos b0.1, if_pos (show b < (D.length : Int) by omega), if_pos b0.2.2.1, if_pos (show c < (D.length : Int) by omega), e1, e2, w1, if_pos (show D.length < 17592186044416 by omega), wadd (show i < 9223372036854775807 by omega)];unfold lev;simp only
        by_cases h5 : a = 5
        · rw [if_pos h5, if_neg (by omega), if_pos h5]
        · rw [if_neg h5, if_pos (by omega)]
      · have n5 : ¬ a = 5 := by omega
        rw [qqF h3];unfold lev;simp only;rw [if_neg (show ¬ (a = 3 ∨ a = 4) by omega), if_neg n5]
        by_cases h6 : a = 6
        · have b0 : 0 ≤ b ∧ b < i := by omega
          have h3' : a = 3 ∨ a = 4 ∨ a = 5 ∨ a = 6 := by omega
          have e1 : rd D b = atI D b := rfl;rw [qqT h3', if_pos h6];simp only [if_true, if_neg (show ¬ b < 0 by omega), if_neg (show ¬ b ≥ (i : Int) by omega), Bool.false_eq_true, if_false, if_pos b0.1, if_pos (show b < (D.length : Int) by omega), if_neg n5, if_pos (show D.length < 17592186044416 by omega), e1, wadd (show i < 9223372036854775807 by omega)]
        · have h3' : ¬ (a = 3 ∨ a = 4 ∨ a = 5 ∨ a = 6) := by omega
          rw [qqF h3', if_neg h6];simp only [Bool.false_eq_true, if_false, if_neg n5, if_pos (show D.length < 17592186044416 by omega), wadd (show i < 9223372036854775807 by omega)]
end Go.Proofs.Ytmlbliggbkfjnaa.L
/- What the laws ask of an answer: the wanted circuit, or the wanted error. -/
namespace Go.Proofs.Ytmlbliggbkfjnaa.L
open Go.RowKit Go.Proofs.YtmlbliggbkfjnaaW.PrintWords Go.Proofs.Ytmlbliggbkfjnaa.J
theorem ints12_same (l : List Int) (hl : l.length ≤ 65536) : Ev (fun k => qla.f k l l) true := by
  unfold qla.f;simp only [if_true]
  refine up0 (g := fun k i => qla.l0 k l l (l.length : Int) (i : Int)) (R := fun _ => true) (n := l.length) ?_ fun i hi h => ?_
  · refine Ev.fuel 1 fun k => ?_
    simp only [qla.l0];rw [if_neg (by omega)]
  · refine Ev.step (f := fun k => qla.l0 k l l (l.length : Int) ((i + 1 : Nat) : Int)) (fun k => ?_) h
    simp only [qla.l0];rw [if_pos (by omega), if_pos (by omega), if_pos (by omega), if_pos (by omega), if_pos trivial, wadd (by omega)]
theorem same12 (s : List S64) (g : List S61) (x : List S66) (hs : s.length ≤ 65536) (hg : g.length ≤ 65536) (hx : x.length ≤ 65536) (he : ∀ e ∈ x, e.f0.length ≤ 65536 ∧ e.f1.length ≤ 65536) : Ev (fun k => qba.f k s g x s g x) true := by
  unfold qba.f;simp only [if_true];rw [show ((x.length : Int) != (x.length : Int)) = false by simp];refine Ev.step (f := fun k => qba.l0 k (s.length : Int) 0 s g x s g x) (fun k => by simp [qba.j0]) ?_
  refine up0 (g := fun k i => qba.l0 k (s.length : Int) (i : Int) s g x s g x) (R := fun _ => true) (n := s.length) ?_ fun i hi h => ?_
  · refine Ev.step (f := fun k => qba.l1 k (g.length : Int) 0 s g x s g x) (fun k => ?_) ?_
    · simp only [qba.l0]
      rw [if_neg (by omega)]
    refine up0 (g := fun k i => qba.l1 k (g.length : Int) (i : Int) s g x s g x) (R := fun _ => true) (n := g.length) ?_ fun i hi h => ?_
    · refine Ev.step (f := fun k => qba.l2 k (x.length : Int) 0 s g x s g x) (fun k => ?_) ?_
      · simp only [qba.l1]
        rw [if_neg (by omega)]
      refine up0 (g := fun k i => qba.l2 k (x.length : Int) (i : Int) s g x s g x) (R := fun _ => true) (n := x.length) ?_ fun i hi h => ?_
      · refine Ev.fuel 1 fun k => ?_
        simp only [qba.l2];rw [if_neg (by omega)]
      · have hq := he _ (List.getElem_mem hi)
        refine Ev.step (f := fun k => (qla.f k x[i].f0 x[i].f0).bind fun aa => (if aa = true then ((qla.f k x[i].f1 x[i].f1).bind fun ab => (if ab = true then (qba.l2 k (x.length : Int) ((i + 1 : Nat) : Int) s g x s g x) else (some false))) else (some false))) (fun k => ?_) (Ev.bind (ints12_same _ hq.1) ?_)
        · simp only [qba.l2]
          rw [if_pos (by omega), if_pos (by omega), if_pos (by omega), if_pos (by omega), rdX_at hi, wadd (by omega)]
        · simp only [if_true]
          refine Ev.bind (ints12_same _ hq.2) ?_;simp only [if_true];exact h
    · refine Ev.step (f := fun k => qba.l1 k (g.length : Int) ((i + 1 : Nat) : Int) s g x s g x) (fun k => ?_) h
      simp only [qba.l1];rw [if_pos (by omega), if_pos (by omega), if_pos (by omega), if_pos (by omega), if_neg (by simp), wadd (by omega)]
  · refine Ev.step (f := fun k => qba.l0 k (s.length : Int) ((i + 1 : Nat) : Int) s g x s g x) (fun k => ?_) h
    simp only [qba.l0];rw [if_pos (by omega), if_pos (by omega), if_pos (by omega), if_pos (by omega), if_neg (by simp), wadd (by omega)]
theorem Good.same {p : Int} {s : List S64} {g : List S61} {x : List S66} (G : Good p s g x) : Ev (fun k => qba.f k s g x s g x) true := by
  have h1 := G.ls;have h2 := G.lx
  exact same12 s g x (by omega) G.lg (by omega) fun e he => by have := G.exit e he; omega
theorem exits_small {x : List S66} (h : x.length ≤ maxLen ∧ x.length * 48 ≤ 140737488351232 ∧ ∀ x' ∈ x, (x'.f0.length ≤ maxLen ∧ x'.f0.length * 8 ≤ 140737488351232 ∧ ∀ y ∈ x'.f0, (Lit.int .i64 y).wf = true) ∧ (x'.f1.length ≤ maxLen ∧ x'.f1.length * 8 ≤ 140737488351232 ∧ ∀ y ∈ x'.f1, (Lit.int .i64 y).wf = true)) : ∀ e ∈ x, e.f0.length ≤ maxLen := fun e he => (h.2.2 e he).1.1
theorem gates_pos {g : List S61} (h : g.length ≤ maxLen ∧ g.length * 32 ≤ 140737488351232 ∧ ∀ y ∈ g, (Lit.int .i64 y.f0).wf = true ∧ (Lit.int .i64 y.f1).wf = true ∧ (Lit.int .i64 y.f2).wf = true ∧ (Lit.int .u64 y.f3).wf = true) : ∀ e ∈ g, 0 ≤ e.f3 := fun e he => (u64_wf (h.2.2 e he).2.2.2).1
end Go.Proofs.Ytmlbliggbkfjnaa.L
/- The statement TuneTunes as plain Lean. -/
namespace Go.Proofs.Ytmlbliggbkfjnaa.L
open Go.RowKit Go.Proofs.YtmlbliggbkfjnaaW.PrintWords Go.Proofs.Ytmlbliggbkfjnaa.J
theorem tune_tune {p : Int} {s : List S64} {g : List S61} {x : List S66} (G : Good p s g x) : Ev (fun k => tune_Tune.f k p s g x) (s, (prL (asked (shL (folds p [] g)).1 (mapX (atI (shL (folds p [] g)).2) x)) (shL (folds p [] g)).1).1, mapX (atI (prL (asked (shL (folds p [] g)).1 (mapX (atI (shL (folds p [] g)).2) x)) (shL (folds p [] g)).1).2) (mapX (atI (shL (folds p [] g)).2) x), 0) := by
  unfold tune_Tune.f;refine Ev.bind (tune_fold G) ?_;simp only [if_true];refine Ev.bind (tune_share G.folded) ?_;simp only [if_true];refine Ev.bind (tune_prune G.folded.shared) ?_;simp only [if_true];exact Ev.now _
theorem aliveT : Ev (fun k => qra.f k) true := by
  unfold qra.f;have G : Good 7 [(⟨1, false⟩ : S64)] [(⟨2, 0, 0, 2⟩ : S61), ⟨1, 0, 0, 0⟩, ⟨5, 0, 1, 0⟩, ⟨5, 2, 2, 0⟩] [(⟨[], [3]⟩ : S66)] := good_of (by decide +kernel) (by decide +kernel);have h := tune_tune G
  have e : (([(⟨1, false⟩ : S64)], (prL (asked (shL (folds 7 [] [(⟨2, 0, 0, 2⟩ : S61), ⟨1, 0, 0, 0⟩, ⟨5, 0, 1, 0⟩, ⟨5, 2, 2, 0⟩])).1 (mapX (atI (shL (folds 7 [] [(⟨2, 0, 0, 2⟩ : S61), ⟨1, 0, 0, 0⟩, ⟨5, 0, 1, 0⟩, ⟨5, 2, 2, 0⟩])).2) [(⟨[], [3]⟩ : S66)])) (shL (folds 7 [] [(⟨2, 0, 0, 2⟩ : S61), ⟨1, 0, 0, 0⟩, ⟨5, 0, 1, 0⟩, ⟨5, 2, 2, 0⟩])).1).1, mapX (atI (prL (asked (shL (folds 7 [] [(⟨2, 0, 0, 2⟩ : S61), ⟨1, 0, 0, 0⟩, ⟨5, 0, 1, 0⟩, ⟨5, 2, 2, 0⟩])).1 (mapX (atI (shL (folds 7 [] [(⟨2, 0, 0, 2⟩ : S61), ⟨1, 0, 0, 0⟩, ⟨5, 0, 1, 0⟩, ⟨5, 2, 2, 0⟩])).2) [(⟨[], [3]⟩ : S66)])) (shL (folds 7 [] [(⟨2, 0, 0, 2⟩ : S61), ⟨1, 0, 0, 0⟩, ⟨5, 0, 1, 0⟩, ⟨5, 2, 2, 0⟩])).1).2) (mapX (atI (shL (folds 7 [] [(⟨2, 0, 0, 2⟩ : S61), ⟨1, 0, 0, 0⟩, ⟨5, 0, 1, 0⟩, ⟨5, 2, 2, 0⟩])).2) [(⟨[], [3]⟩ : S66)]), (0 : Int)) : List S64 × List S61 × List S66 × Int) = ([⟨1, false⟩], [⟨1, 0, 0, 0⟩, ⟨6, 0, 0, 2⟩, ⟨5, 1, 1, 0⟩], [⟨[], [2]⟩], 0) := by kernel_rfl
  rw [e] at h;refine Ev.bind (Ev.now _) (Ev.bind h ?_);simp only [if_true];refine Ev.bind (same12 _ _ _ (by decide) (by decide) (by decide) (by decide)) ?_;simp only [if_true];refine Ev.bind (tune_levels _ _ _ (by decide)) ?_
  have e2 : levR [(⟨1, 0, 0, 0⟩ : S61), ⟨6, 0, 0, 2⟩, ⟨5, 1, 1, 0⟩] = [0, 0, 1] := by kernel_rfl
  rw [e2];exact Ev.bind (ints_same _ (by decide)) (Ev.now _)
end Go.Proofs.Ytmlbliggbkfjnaa.L
/- The statement TuneLess as plain Lean: no more gates, no more products, no higher a top. -/
namespace Go.Proofs.Ytmlbliggbkfjnaa.L
open Go.RowKit Go.Proofs.YtmlbliggbkfjnaaW.PrintWords Go.Proofs.Ytmlbliggbkfjnaa.J
theorem lev_is {p s i : Int} {g : S61} (v : List Int) (h : okG p s i g) : lev v g = app levA v g := by
  unfold lev app levA mx;unfold okG at h
  rcases h with h | h | h | h
  · simp [h.1]
  · simp [h.1]
  · rcases h.1 with e | e | e <;> simp [e] <;> omega
  · simp [h.1]
theorem levs_vals {p s : Int} (l : List S61) : okL p s l → levs l = vals levA l := by
  refine snoc_ind (P := fun l => okL p s l → levs l = vals levA l) (fun _ => rfl) (fun l g ih h => ?_) l;obtain ⟨h1, h2⟩ := okL_cut h;unfold levs;rw [snocs_snoc, vals_snoc, ← ih h1];exact congrArg (fun x => snocs lev [] l ++ [x]) (lev_is _ h2)
theorem anyB_ok {p s : Int} : ∀ (gs : List S61) (i : Nat), (∀ (j : Nat) b, gs[j]? = some b → okG p s ((i + j : Nat) : Int) b) → anyB i gs = false
  | [], _, _ => rfl
  | g :: gs, i, h => by
    have h0 := h 0 g rfl
    have h1 := anyB_ok gs (i + 1) fun j b hb => by
      have := h (j + 1) b (by simpa using hb);rw [show i + 1 + j = i + (j + 1) by omega]; exact this
    simp only [anyB, h1, Bool.or_false];unfold okG at h0;rw [Nat.add_zero] at h0;unfold badG;rw [Bool.or_eq_false_iff]
    constructor <;> (rw [decide_eq_false_iff_not]; omega)
theorem ref_top {p s' : Int} (s : List S64) (g : List S61) (x : List S66) (hl : g.length ≤ 65536) (ho : okL p s' g) : Ev (fun k => qqa.f k s g x) (topV g) := by
  unfold qqa.f;refine Ev.bind (ref_levels s g x (by omega)) ?_
  have ha : anyB 0 g = false := anyB_ok g 0 fun j b hb => by rw [Nat.zero_add]; exact ho j b hb
  have hv : levR g = vals levA g := by unfold levR; rw [ha]; simp only [Bool.false_eq_true, if_false]; exact levs_vals g ho
  rw [hv]
  have hlen : (vals levA g).length ≤ 65536 := by rw [vals_len]; exact hl
  unfold topV;generalize vals levA g = l at hlen
  suffices h : ∀ (m i : Nat), i + m = l.length → ∀ c : Int, Ev (fun k => qqa.l0 k c l (l.length : Int) (i : Int)) ((l.drop i).foldl max c) by
    have := h l.length 0 (by omega) 0
    simpa using this
  intro m
  induction m with
  | zero =>
    intro i hi c
    refine Ev.fuel 1 fun k => ?_
    simp only [qqa.l0];rw [if_neg (by omega), List.drop_of_length_le (by omega)]
    rfl
  | succ m ih =>
    intro i hi c
    have hlt : i < l.length := by omega
    have hd : l.drop i = l[i] :: l.drop (i + 1) := List.drop_eq_getElem_cons hlt
    have hr : mx c (rd l (i : Int)) = max c l[i] := by
      rw [rd_at]; unfold mx atI;simp only [Int.toNat_natCast, List.getD_eq_getElem?_getD, List.getElem?_eq_getElem hlt, Option.getD_some]
      omega
    rw [hd, List.foldl_cons];refine Ev.step (f := fun k => qqa.l0 k (max c l[i]) l (l.length : Int) ((i + 1 : Nat) : Int)) (fun k => ?_) (ih (i + 1) (by omega) _);simp only [qqa.l0];rw [if_pos (by omega), if_pos (by omega), if_pos (by omega), hr, wadd (by omega)]
end Go.Proofs.Ytmlbliggbkfjnaa.L
/- The statement TuneRounds as plain Lean: both ways to list the products level by level answer alike. -/
namespace Go.Proofs.Ytmlbliggbkfjnaa.L
open Go.RowKit Go.Proofs.YtmlbliggbkfjnaaW.PrintWords Go.Proofs.Ytmlbliggbkfjnaa.J
def padR (o : List (List Int)) (n : Nat) : List (List Int) := o ++ List.replicate (n - o.length) []
theorem padR_len (o : List (List Int)) (n : Nat) : (padR o n).length = max o.length n := by simp [padR]; omega
theorem padR_id {o : List (List Int)} {n : Nat} (h : n ≤ o.length) : padR o n = o := by simp [padR, Nat.sub_eq_zero_of_le h]
theorem padR_padR (o : List (List Int)) {m n : Nat} (h : m ≤ n) : padR (padR o m) n = padR o n := by
  unfold padR;rw [List.append_assoc, List.replicate_append_replicate]
  congr 2
  simp
  omega
theorem padR_one (o : List (List Int)) {n : Nat} (h : o.length < n) : padR (o ++ [[]]) n = padR o n := by
  unfold padR;rw [List.append_assoc]
  congr 1
  rw [show n - o.length = (n - (o ++ [[]]).length) + 1 by simp; omega, List.replicate_succ]
  rfl
def putR (o : List (List Int)) (j : Nat) (i : Int) : List (List Int) := o.set j (o.getD j [] ++ [i])
theorem putR_len (o : List (List Int)) (j : Nat) (i : Int) : (putR o j i).length = o.length := by simp [putR]
theorem putR_pad (o : List (List Int)) {j : Nat} (i : Int) (n : Nat) (h : j < o.length) : putR (padR o n) j i = padR (putR o j i) n := by
  have e : (padR o n).getD j [] = o.getD j [] := by
    unfold padR;rw [List.getD_eq_getElem?_getD, List.getD_eq_getElem?_getD, List.getElem?_append_left h]
  unfold putR;rw [e];unfold padR;rw [List.set_append_left _ _ h, List.length_set]
def addR (o : List (List Int)) (lv : Nat) (i : Int) : List (List Int) := putR (padR o lv) (lv - 1) i
def Dn (v : List Int) (g : List S61) : Nat → List (List Int)
  | 0 => []
  | i + 1 => if (atG g i).f0 = 5 then addR (Dn v g i) (atI v i).toNat i else Dn v g i
theorem Dn_succ (v : List Int) (g : List S61) (i : Nat) : Dn v g (i + 1) = if (atG g i).f0 = 5 then addR (Dn v g i) (atI v i).toNat i else Dn v g i := rfl
structure Dok (v : List Int) (i : Nat) (o : List (List Int)) : Prop where
  len : (o.length : Int) = (v.take i).foldl max 0
  row : ∀ r ∈ o, r.length ≤ i
theorem foldl_snoc (v : List Int) {i : Nat} (h : i < v.length) : (v.take (i + 1)).foldl max 0 = max ((v.take i).foldl max 0) v[i] := by
  rw [← take_more v h, List.foldl_append]; rfl
theorem getD_small {o : List (List Int)} {n : Nat} (h : ∀ r ∈ o, r.length ≤ n) (j : Nat) : (o.getD j []).length ≤ n := by
  rw [List.getD_eq_getElem?_getD]
  cases e : o[j]? with
  | none => simp
  | some r => simpa using h r (List.mem_of_getElem? e)
theorem padR_rows {o : List (List Int)} {n : Nat} (h : ∀ r ∈ o, r.length ≤ n) (m : Nat) : ∀ r ∈ padR o m, r.length ≤ n := fun r hr => by
  unfold padR at hr;rw [List.mem_append] at hr
  rcases hr with hr | hr
  · exact h r hr
  · rw [List.mem_replicate] at hr; rw [hr.2]; simp
theorem putR_rows {o : List (List Int)} {n : Nat} (h : ∀ r ∈ o, r.length ≤ n) (j : Nat) (i : Int) : ∀ r ∈ putR o j i, r.length ≤ n + 1 := fun r hr => by
  rcases List.mem_or_eq_of_mem_set hr with hr | rfl
  · have := h r hr; omega
  · have := getD_small h j
    simp only [List.length_append, List.length_cons, List.length_nil]
    omega
theorem prev_le {v : List Int} {i : Nat} (y : Int) (y0 : 0 ≤ y) (hy : y < i) : atI v y ≤ (v.take i).foldl max 0 := by
  by_cases y1 : y < v.length
  · have hm : atI v y ∈ v.take i := by
      have hk : y.toNat < v.length := by omega
      have : atI v y = v[y.toNat] := by unfold atI; rw [List.getD_eq_getElem?_getD, List.getElem?_eq_getElem hk]; rfl
      rw [this, List.mem_take_iff_getElem];exact ⟨y.toNat, by omega, rfl⟩
    exact (le_foldl_max _ 0).2 _ hm
  · have : atI v y = 0 := by unfold atI; rw [List.getD_eq_getElem?_getD, List.getElem?_eq_none (by omega)]; rfl
    rw [this]; exact (le_foldl_max _ 0).1
theorem level_at {p s : Int} {g : List S61} (h : okL p s g) {i : Nat} (hi : i < g.length) :
    (atI (vals levA g) i : Int) = (vals levA g)[i]'(by rw [vals_len]; exact hi) ∧
    ((atG g i).f0 = 5 → 1 ≤ atI (vals levA g) i) ∧ ((atG g i).f0 ≠ 5 → atI (vals levA g) i ≤ ((vals levA g).take i).foldl max 0) := by
  have hv := vals_at levA g h i (by omega) (by omega);have hg := okL_at h (show (0 : Int) ≤ i by omega) (by omega);have h0 : 0 ≤ ((vals levA g).take i).foldl max 0 := (le_foldl_max _ 0).1;refine ⟨?_, ?_, ?_⟩
  · unfold atI
    rw [List.getD_eq_getElem?_getD, Int.toNat_natCast, List.getElem?_eq_getElem (by rw [vals_len]; exact hi)]
    rfl
  · intro h5
    rw [hv];have a := atI_mem (lev_nonneg g) (atG g i).f1;unfold app levA;simp only [h5];rw [if_neg (by decide), if_neg (by decide), if_neg (by decide), if_pos trivial];have := Int.le_max_left (atI (vals levA g) (atG g i).f1) (atI (vals levA g) (atG g i).f2);simp only [levA] at *
    omega
  · intro h5
    rw [hv];unfold app
    split
    · exact h0
    split
    · exact h0
    split
    · rename_i e1 e2 e6
      have := okG_ops hg e1 e2;exact prev_le _ (by omega) (by omega)
    · rename_i e1 e2 e6
      have := okG_ops hg e1 e2;have a := prev_le (v := vals levA g) (i := i) (atG g i).f1 (by omega) (by omega);have b := prev_le (v := vals levA g) (i := i) (atG g i).f2 (by have := this.2.2 e6; omega) (by have := this.2.2 e6; omega);unfold levA at a b ⊢;simp only [if_neg h5];exact Int.max_le.2 ⟨a, b⟩
theorem Dn_ok {p s : Int} {g : List S61} (h : okL p s g) : ∀ i : Nat, i ≤ g.length → Dok (vals levA g) i (Dn (vals levA g) g i)
  | 0, _ => ⟨rfl, fun r hr => by cases hr⟩
  | i + 1, hi => by
    have ih := Dn_ok h i (by omega);obtain ⟨e, l5, ln⟩ := level_at h (show i < g.length by omega);have hlen := ih.len;have hf := foldl_snoc (vals levA g) (i := i) (by rw [vals_len]; omega);rw [← e] at hf;rw [Dn_succ]
    by_cases h5 : (atG g i).f0 = 5
    · rw [if_pos h5]
      have h1 := l5 h5;refine ⟨?_, putR_rows (padR_rows ih.row _) _ _⟩;unfold addR;rw [putR_len, padR_len, hf, ← hlen]
      omega
    · rw [if_neg h5]
      have h1 := ln h5;refine ⟨?_, fun r hr => by have := ih.row r hr; omega⟩;rw [hf, ← hlen]
      omega
theorem top_ge {v : List Int} (i : Nat) : (v.take i).foldl max 0 ≤ v.foldl max 0 := by
  refine foldl_max_le _ 0 _ (le_foldl_max v 0).1 fun x hx => (le_foldl_max v 0).2 x (List.mem_of_mem_take hx)
theorem rdL_at (o : List (List Int)) (j : Nat) : rd_L5 o (j : Int) = o.getD j [] := by simp [rd_L5]
theorem tune_pads (s : List S64) (g : List S61) (x : List S66) (v : List Int) (n i : Int) (lv : Nat) (h1 : 1 ≤ lv) (hlv : lv ≤ 65536) (z : Int) {r : List (List Int) × Int} (hr : ∀ o : List (List Int), lv ≤ o.length → o.length ≤ 65536 → True) :
    ∀ (m : Nat) (o : List (List Int)), lv ≤ o.length + m → o.length ≤ 65536 → (∀ q ∈ o, q.length ≤ 65536) →
      Ev (fun k => tune_Rounds.l0 k (putR (padR o lv) (lv - 1) z) v n (wrap64 (i + 1)) s g x) r → Ev (fun k => tune_Rounds.l1 k o z (lv : Int) v n i s g x) r
  | 0, o, hm, ho, hq, h => by
    rw [padR_id (by omega)] at h
    have hw : wrap64 ((lv : Int) - 1) = ((lv - 1 : Nat) : Int) := by rw [w64_small (by omega) (by omega)]; omega
    refine Ev.step (fun k => ?_) h;simp only [tune_Rounds.l1];rw [if_neg (by omega), hw, if_pos (by omega), if_pos (by omega), rdL_at];have := getD_small hq (lv - 1);rw [if_pos (by omega), Int.toNat_natCast]
    rfl
  | m + 1, o, hm, ho, hq, h => by
    by_cases hlt : o.length < lv
    · have ih := tune_pads s g x v n i lv h1 hlv z hr m (o ++ [[]]) (by simp; omega) (by simp; omega) (fun q hq' => by
        rw [List.mem_append] at hq'
        rcases hq' with hq' | hq'
        · exact hq q hq'
        · rw [List.mem_singleton.1 hq']; simp) (by rw [padR_one o hlt]; exact h)
      refine Ev.step (fun k => ?_) ih
      conv => lhs; simp only [tune_Rounds.l1]
      rw [if_pos (by omega), if_pos (by omega)]
    · exact tune_pads s g x v n i lv h1 hlv z hr 0 o (by omega) ho hq h
theorem tune_rounds {p : Int} {s : List S64} {g : List S61} {x : List S66} (G : Good p s g x) : Ev (fun k => tune_Rounds.f k p s g x) (Dn (vals levA g) g g.length, 0) := by
  unfold tune_Rounds.f;have hlg := G.lg;have hgs := G.gates;refine Ev.bind (circ_check p s g x fun e he => by have := (G.exit e he).1; simp only [maxLen]; omega) ?_;rw [G.check];simp only [if_true];refine Ev.bind (tune_levels s g x (by omega)) ?_
  have ha : anyB 0 g = false := anyB_ok g 0 fun j b hb => by rw [Nat.zero_add]; exact hgs j b hb
  have hv : levR g = vals levA g := by unfold levR; rw [ha]; simp only [Bool.false_eq_true, if_false]; exact levs_vals g hgs
  rw [hv];have hl : (vals levA g).length = g.length := vals_len _ _
  have hb : ∀ y ∈ vals levA g, 0 ≤ y ∧ y ≤ g.length := by rw [← levs_vals g hgs]; exact levs_le g
  have key : Ev (fun k => tune_Rounds.l0 k (Dn (vals levA g) g 0) (vals levA g) (g.length : Int) ((0 : Nat) : Int) s g x) (Dn (vals levA g) g g.length, 0) := by
    refine up0 (g := fun k i => tune_Rounds.l0 k (Dn (vals levA g) g i) (vals levA g) (g.length : Int) (i : Int) s g x) (R := fun _ => (Dn (vals levA g) g g.length, 0)) (n := g.length) ?_ fun i hi h => ?_
    · refine Ev.fuel 1 fun k => ?_
      simp only [tune_Rounds.l0];rw [if_neg (by omega)]
    · obtain ⟨e, l5, ln⟩ := level_at hgs hi
      have hd := Dn_ok hgs i (by omega);have hy := hb _ (List.getElem_mem (show i < (vals levA g).length by omega));rw [← e] at hy;have htop := (foldl_max_le ((vals levA g).take i) 0 (g.length : Int) (by omega) fun y hy => (hb y (List.mem_of_mem_take hy)).2);rw [← hd.len] at htop;have hG : rd_T61 g (i : Int) = atG g i := rfl;rw [Dn_succ] at h
      by_cases h5 : (atG g i).f0 = 5
      · rw [if_pos h5] at h
        have h1 := l5 h5;refine Ev.step (f := fun k => tune_Rounds.l1 k (Dn (vals levA g) g i) (i : Int) (((atI (vals levA g) i).toNat : Nat) : Int) (vals levA g) (g.length : Int) (i : Int) s g x) (fun k => ?_) ?_
        · simp only [tune_Rounds.l0]
          rw [if_pos (by omega), if_pos (by omega), if_pos (by omega), if_pos (by omega), hG, if_pos h5, rd_at, Int.toNat_of_nonneg (by omega)]
        · refine tune_pads s g x _ _ _ _ (by omega) (by omega) _ (fun _ _ _ => trivial) (atI (vals levA g) i).toNat _ (by omega) (by omega) (fun q hq => by have := hd.row q hq; omega) ?_
          rw [wadd (by omega)];exact h
      · rw [if_neg h5] at h
        refine Ev.step (fun k => ?_) h;simp only [tune_Rounds.l0];rw [if_pos (by omega), if_pos (by omega), if_pos (by omega), if_pos (by omega), hG, if_neg h5, wadd (by omega)]
  have e0 : ((vals levA g).length : Int) = (g.length : Int) := by omega
  rw [e0];exact key
theorem ref_rounds {p : Int} {s : List S64} {g : List S61} {x : List S66} (G : Good p s g x) : Ev (fun k => qha.f k s g x) (Dn (vals levA g) g g.length) := by
  unfold qha.f;have hlg := G.lg;have hgs := G.gates;refine Ev.bind (ref_levels s g x (by omega)) (Ev.bind (ref_top s g x hlg hgs) ?_)
  have ha : anyB 0 g = false := anyB_ok g 0 fun j b hb => by rw [Nat.zero_add]; exact hgs j b hb
  have hv : levR g = vals levA g := by unfold levR; rw [ha]; simp only [Bool.false_eq_true, if_false]; exact levs_vals g hgs
  rw [hv];have hl : (vals levA g).length = g.length := vals_len _ _
  have hb : ∀ y ∈ vals levA g, 0 ≤ y ∧ y ≤ g.length := by rw [← levs_vals g hgs]; exact levs_le g
  have t0 : 0 ≤ topV g := (le_foldl_max _ 0).1
  have t1 : topV g ≤ g.length := foldl_max_le _ 0 _ (by omega) fun y hy => (hb y hy).2
  have hend := (Dn_ok hgs g.length (Nat.le_refl _)).len;rw [show (vals levA g).take g.length = vals levA g by rw [← hl, List.take_length]] at hend;have hT : ((topV g).toNat : Int) = topV g := Int.toNat_of_nonneg t0;simp only [if_pos t0, if_pos (show (topV g).toNat ≤ 11728124029610 by omega)]
  have key : Ev (fun k => qha.l0 k (vals levA g) (padR (Dn (vals levA g) g 0) (topV g).toNat) g (g.length : Int) ((0 : Nat) : Int)) (padR (Dn (vals levA g) g g.length) (topV g).toNat) := by
    refine up0 (g := fun k i => qha.l0 k (vals levA g) (padR (Dn (vals levA g) g i) (topV g).toNat) g (g.length : Int) (i : Int)) (R := fun _ => padR (Dn (vals levA g) g g.length) (topV g).toNat) (n := g.length) ?_ fun i hi h => ?_
    · refine Ev.fuel 1 fun k => ?_
      simp only [qha.l0];rw [if_neg (by omega)]
    · obtain ⟨e, l5, ln⟩ := level_at hgs hi
      have hd := Dn_ok hgs i (by omega)
      have hy2 : atI (vals levA g) i ≤ topV g := by rw [e]; exact (le_foldl_max _ 0).2 _ (List.getElem_mem _)
      have htop : ((Dn (vals levA g) g i).length : Int) ≤ topV g := by rw [hd.len]; exact top_ge i
      have hG : rd_T61 g (i : Int) = atG g i := rfl;rw [Dn_succ] at h
      by_cases h5 : (atG g i).f0 = 5
      · rw [if_pos h5] at h
        have h1 := l5 h5
        have hw : wrap64 (atI (vals levA g) i - 1) = (((atI (vals levA g) i).toNat - 1 : Nat) : Int) := by rw [w64_small (by omega) (by omega)]; omega
        have hp : padR (addR (Dn (vals levA g) g i) (atI (vals levA g) i).toNat i) (topV g).toNat = putR (padR (Dn (vals levA g) g i) (topV g).toNat) ((atI (vals levA g) i).toNat - 1) i := by
          unfold addR;rw [← putR_pad _ _ _ (by rw [padR_len]; omega), padR_padR _ (by omega)]
        rw [hp] at h;have hpl := padR_len (Dn (vals levA g) g i) (topV g).toNat;have hrow := getD_small (padR_rows hd.row (topV g).toNat) ((atI (vals levA g) i).toNat - 1);refine Ev.step (fun k => ?_) h;simp only [qha.l0];rw [if_pos (by omega), if_pos (by omega), if_pos (by omega), hG, if_pos h5, if_pos (by omega), rd_at, hw, if_pos (by omega), if_pos (by omega), rdL_at, if_pos (by omega), Int.toNat_natCast, wadd (by omega)]
        rfl
      · rw [if_neg h5] at h
        refine Ev.step (fun k => ?_) h;simp only [qha.l0];rw [if_pos (by omega), if_pos (by omega), if_pos (by omega), hG, if_neg h5, wadd (by omega)]
  have he : padR (Dn (vals levA g) g g.length) (topV g).toNat = Dn (vals levA g) g g.length := padR_id (by unfold topV; omega);rw [he] at key
  have h0 : padR (Dn (vals levA g) g 0) (topV g).toNat = List.replicate (topV g).toNat [] := by simp [padR, Dn]
  rw [h0] at key;exact key
theorem tuneRounds_at (p : Int) (s : List S64) (g : List S61) (x : List S66) (hx : ∀ e ∈ x, e.f0.length ≤ maxLen) (hg : ∀ e ∈ g, 0 ≤ e.f3) : ∃ k, qga.f k p s g x = some true := by
  suffices h : Ev (fun k => qga.f k p s g x) true from h.rounds
  unfold qga.f
  by_cases h : checkV p s g x = 0
  · have G := good_of h hg
    refine Ev.bind (tune_rounds G) (Ev.bind (ref_check p s g x hx) ?_);simp only [h, if_true];refine Ev.bind (ref_rounds G) ?_;have hd := Dn_ok G.gates g.length (Nat.le_refl _);have hlg := G.lg
    have hlen : (Dn (vals levA g) g g.length).length ≤ 65536 := by
      have hb : ∀ y ∈ vals levA g, 0 ≤ y ∧ y ≤ g.length := by rw [← levs_vals g G.gates]; exact levs_le g
      have := foldl_max_le ((vals levA g).take g.length) 0 (g.length : Int) (by omega) fun y hy => (hb y (List.mem_of_mem_take hy)).2
      rw [← hd.len] at this
      omega
    have hrow := hd.row;generalize Dn (vals levA g) g g.length = D at hlen hrow;refine Ev.step (f := fun k => qga.l0 k D D (D.length : Int) 0) (fun k => ?_) ?_
    · simp [qga.j0]
    · refine up0 (g := fun k i => qga.l0 k D D (D.length : Int) (i : Int)) (R := fun _ => true) (n := D.length) ?_ fun i hi hn => ?_
      · refine Ev.step (f := fun k => (qra.f k).bind fun t => some t) (fun k => ?_) (Ev.bind aliveT (Ev.now _))
        simp only [qga.l0];rw [if_neg (by omega)]
      · have hs := getD_small hrow i
        have e1 : Ev (fun k => (qia.f k (D.getD i []) (D.getD i [])).bind fun aa => (if aa = true then (qga.l0 k D D (D.length : Int) ((i + 1 : Nat) : Int)) else (some false))) true := by
          refine Ev.bind (ints_same _ (by simp only [maxLen]; omega)) ?_;simp only [if_true];exact hn
        refine Ev.step (fun k => ?_) e1;simp only [qga.l0];rw [if_pos (by omega), if_pos (by omega), if_pos (by omega), if_pos (by omega), rdL_at, wadd (by omega)]
  · have hb : Ev (fun k => tune_Rounds.f k p s g x) ([], checkV p s g x) := by
      unfold tune_Rounds.f;refine Ev.bind (circ_check p s g x hx) ?_;simp only [if_neg h];exact Ev.now _
    refine Ev.bind hb (Ev.bind (ref_check p s g x hx) ?_);simp only [if_neg h, List.length_nil, if_true];exact Ev.bind aliveT (Ev.now _)
theorem tuneRounds (x0 : Int) (aa : List S64) (ab : List S61) (ad : List S66) (w0 : (Lit.int .u64 x0).wf = true) (w1_0 : aa.length ≤ maxLen ∧ aa.length * 16 ≤ 140737488351232 ∧ ∀ x1_0' ∈ aa, (Lit.int .i64 x1_0'.f0).wf = true ∧ True) (w1_1 : ab.length ≤ maxLen ∧ ab.length * 32 ≤ 140737488351232 ∧ ∀ x1_1' ∈ ab, (Lit.int .i64 x1_1'.f0).wf = true ∧ (Lit.int .i64 x1_1'.f1).wf = true ∧ (Lit.int .i64 x1_1'.f2).wf = true ∧ (Lit.int .u64 x1_1'.f3).wf = true) (w1_2 : ad.length ≤ maxLen ∧ ad.length * 48 ≤ 140737488351232 ∧ ∀ x1_2' ∈ ad, (x1_2'.f0.length ≤ maxLen ∧ x1_2'.f0.length * 8 ≤ 140737488351232 ∧ ∀ x1_2'_f0' ∈ x1_2'.f0, (Lit.int .i64 x1_2'_f0').wf = true) ∧ (x1_2'.f1.length ≤ maxLen ∧ x1_2'.f1.length * 8 ≤ 140737488351232 ∧ ∀ x1_2'_f1' ∈ x1_2'.f1, (Lit.int .i64 x1_2'_f1').wf = true)) : ∃ k, qga.f k x0 aa ab ad = some true :=
  tuneRounds_at x0 aa ab ad (exits_small w1_2) (gates_pos w1_1)
end Go.Proofs.Ytmlbliggbkfjnaa.L
/- The row of TuneRounds: for every input the call returns true and changes nothing; no conditions. Out of the contract of the function and the plain law. -/
namespace Go.Proofs.Ytmlbliggbkfjnaa.tuneRounds
open Go.ChangeShapes Go.WideShapes Go.ChangeAt Go.RowKit Go.Proofs.YtmlbliggbkfjnaaW.PrintWords Go.Proofs.Ytmlbliggbkfjnaa.J Go.Proofs.Ytmlbliggbkfjnaa.Op
theorem own : ownKnob Try.prog.godebug = none := by kernel_rfl
theorem laidOut : laidOutB Try.prog = true := by kernel_rfl
theorem op0 : Opens Try.prog (Kd.int .u64) 34 (fun n => (Lit.int .u64 n).wf = true) := (op_int Try.underlying34)
theorem op1 : Opens Try.prog (Kd.pair (Kd.slice 64 (k64)) (Kd.pair (Kd.slice 61 (k61)) (Kd.slice 66 (k66)))) 26 (fun x => (fun l => l.length ≤ maxLen ∧ l.length * 16 ≤ 140737488351232 ∧ ∀ a ∈ l, (fun b : S64 => (fun x => (fun n => (Lit.int .i64 n).wf = true) x.1 ∧ (fun _ => True) x.2) (b.f0, b.f1)) a) x.1 ∧ (fun x => (fun l => l.length ≤ maxLen ∧ l.length * 32 ≤ 140737488351232 ∧ ∀ a ∈ l, (fun b : S61 => (fun x => (fun n => (Lit.int .i64 n).wf = true) x.1 ∧ (fun x => (fun n => (Lit.int .i64 n).wf = true) x.1 ∧ (fun x => (fun n => (Lit.int .i64 n).wf = true) x.1 ∧ (fun n => (Lit.int .u64 n).wf = true) x.2) x.2) x.2) (b.f0, b.f1, b.f2, b.f3)) a) x.1 ∧ (fun l => l.length ≤ maxLen ∧ l.length * 48 ≤ 140737488351232 ∧ ∀ a ∈ l, (fun b : S66 => (fun x => (fun l => l.length ≤ maxLen ∧ l.length * 8 ≤ 140737488351232 ∧ ∀ a ∈ l, (fun n => (Lit.int .i64 n).wf = true) a) x.1 ∧ (fun l => l.length ≤ maxLen ∧ l.length * 8 ≤ 140737488351232 ∧ ∀ a ∈ l, (fun n => (Lit.int .i64 n).wf = true) a) x.2) (b.f0, b.f1)) a) x.2) x.2) := (op_agg Try.underlying26 (opL_cons (by kernel_rfl) (by kernel_rfl) (op_slice Try.underlying22 (by kernel_rfl) (by kernel_rfl) (op_struct (fun x => (⟨x.1, x.2⟩ : S64)) (fun _ => rfl) Try.underlying64 (opL_cons (by kernel_rfl) (by kernel_rfl) (op_int Try.underlying3) (by kernel_rfl) (opL_one (by kernel_rfl) (by kernel_rfl) (op_bool Try.underlying4))))) (by kernel_rfl) (opL_cons (by kernel_rfl) (by kernel_rfl) (op_slice Try.underlying23 (by kernel_rfl) (by kernel_rfl) (op_struct (fun x => (⟨x.1, x.2.1, x.2.2.1, x.2.2.2⟩ : S61)) (fun _ => rfl) Try.underlying61 (opL_cons (by kernel_rfl) (by kernel_rfl) (op_int Try.underlying3) (by kernel_rfl) (opL_cons (by kernel_rfl) (by kernel_rfl) (op_int Try.underlying3) (by kernel_rfl) (opL_cons (by kernel_rfl) (by kernel_rfl) (op_int Try.underlying3) (by kernel_rfl) (opL_one (by kernel_rfl) (by kernel_rfl) (op_int Try.underlying34))))))) (by kernel_rfl) (opL_one (by kernel_rfl) (by kernel_rfl) (op_slice Try.underlying24 (by kernel_rfl) (by kernel_rfl) (op_struct (fun x => (⟨x.1, x.2⟩ : S66)) (fun _ => rfl) Try.underlying66 (opL_cons (by kernel_rfl) (by kernel_rfl) (op_slice Try.underlying27 (by kernel_rfl) (by kernel_rfl) (op_int Try.underlying3)) (by kernel_rfl) (opL_one (by kernel_rfl) (by kernel_rfl) (op_slice Try.underlying27 (by kernel_rfl) (by kernel_rfl) (op_int Try.underlying3))))))))))
theorem lifted (os : Os) (started : os.Started) (H : Type) (enc : TypeId × Value → H) :
    ReturnsInHanded {} Try.checked os 11 .any (Rows.tuneRoundsSpec.pre6 enc Try.prog Try.f11 Rows.tuneRoundsRow.domain false) (Rows.tuneRoundsSpec.post enc Try.prog Try.f11 false true false false) := by
  refine returnsInHanded_of_change_sized (C := Try.checked) own started (by kernel_rfl) Try.func11
    (ChangeSpec.witness6 (enc := enc) (C := Try.checked) false ⟨#[], #[.int .u64 0, .agg #[.slice none 0 0, .slice none 0 0, .slice none 0 0]], []⟩ 8 (by kernel_rfl) (by kernel_rfl) (by kernel_rfl) (by kernel_rfl)) ?_
  intro W base args ds gs before hval0 hW hcnd hsz0 _;have hsz : (DataW.weightsEach Try.prog (Try.f11.params.toList ++ Rows.tuneRoundsSpec.plain.varTypes Try.prog) (ds ++ gs)).all (· ≤ reachBytes) = true := hsz0;have hval : ∀ (j : Nat) t v, Try.f11.params[j]? = some t → args[j]? = some v → Value.okWide Try.prog W .any base t v := hval0;have hW' := hW;obtain ⟨p, q, hA0, hV, rfl, hfz, hnd⟩ := hW;have hA : DataW.TrodAll enc Try.prog W 0 (fun _ => true) true Try.f11.params.toList args.toList ds p := hA0;rw [Try.params11] at hA hval hsz;obtain ⟨v0, vs0, d0, ds0, p0, q0, hargs, rfl, rfl, h0, r0⟩ := trodAll_cons hA;obtain ⟨v1, vs1, d1, ds1, p1, q1, rfl, rfl, rfl, h1, r1⟩ := trodAll_cons r0;obtain ⟨rfl, rfl, rfl⟩ := trodAll_nil r1
  obtain rfl : args = #[v0, v1] := by cases args; simp_all
  obtain ⟨rfl, rfl⟩ := trodVars_none hV;have k0 := h0
  have lt0 : ∀ x ∈ p0, x.block < W.heap.size := by obtain ⟨m, hm⟩ := k0; exact DataW.trod_lt m _ _ _ hm
  obtain ⟨x0, rfl⟩ := okWide_int Try.underlying34 (hval 0 34 v0 rfl rfl);obtain ⟨y0, e0, w0⟩ := arg op0 rfl h0 hsz (j := 0) rfl rfl;have e0' : [Value.int .u64 x0] = [Value.int .u64 y0] := e0
  obtain rfl : x0 = y0 := by simpa using e0'
  have k1 := h1
  have lt1 : ∀ x ∈ p1, x.block < W.heap.size := by obtain ⟨m, hm⟩ := k1; exact DataW.trod_lt m _ _ _ hm
  obtain ⟨cs1, rfl, hn1⟩ := okWide_agg Try.underlying26 (hval 1 26 v1 rfl rfl);obtain ⟨⟨aa, ab, ad⟩, K1, ⟨w1_0, w1_1, w1_2⟩⟩ := arg op1 (by show cs1.toList.length = _; rw [Array.length_toList, hn1]; kernel_rfl) h1 hsz (j := 1) rfl rfl;obtain ⟨g1_0, rg1_0, qg1_0, ak, M1_0⟩ := K1;obtain ⟨al, am, l1_0', ae, af⟩ := ak;obtain ⟨g1_1, rg1_1, qg1_1, ao, M1_1⟩ := M1_0;obtain ⟨ap, aq, l1_1', ag, ah⟩ := ao;obtain ⟨ar, au, M1_1', ai, aj⟩ := M1_1
  obtain rfl : cs1 = #[.slice al aa.length am, .slice ap ab.length aq, .slice ar ad.length au] := by
    apply Array.toList_inj.1
    have z1 : cs1.toList = _ := qg1_0;rw [z1, l1_0', qg1_1, l1_1', M1_1']
    rfl
  clear hA0 hval0 hsz0 hsz;obtain ⟨k, h⟩ := L.tuneRounds x0 aa ab ad w0 w1_0 w1_1 w1_2
  refine (qga.calls k x0 _ _ aa _ _ ab _ _ ad true W af ae ah ag aj ai h).mono fun e W' ⟨he, bel⟩ => ?_
  subst he;exact ⟨_, rfl, _, _, _, [], _, [], hW', trodAll_mk1 (shut_bool Try.underlying4 _), (trodAll_cons_mk (Below.trod laidOut (by kernel_rfl) (of_decide_eq_true (by kernel_rfl)) k0 bel lt0) (trodAll_cons_mk (Below.trod laidOut (by kernel_rfl) (of_decide_eq_true (by kernel_rfl)) k1 bel lt1) trodAll_mk0)), rfl, bel.frame _, fun h => by cases h⟩
theorem closed : joinedFacts Try.pinned.checked.prog 11 Try.f11 Rows.tuneRoundsSpec Rows.tuneRoundsRow = true := by
  unfold joinedFacts
  repeat' with_reducible refine Bool.and_eq_true_iff.2 ⟨?_, ?_⟩
  all_goals first
    | with_reducible exact Facts.enters
    | (rw [Facts.final]; kernel_rfl)
    | (rw [Facts.made]; kernel_rfl)
    | kernel_rfl
theorem over : Rows.tuneRoundsRow.holds Try.pinned (OpenSpec.ofChange Rows.tuneRoundsSpec) :=
  OpenClaim.holds_of_wide 11 Try.f11 rfl rfl rfl rfl rfl rfl rfl ⟨rfl, rfl, rfl, rfl, rfl⟩ rfl rfl rfl rfl rfl (by kernel_rfl) Try.func11 closed
    (of_decide_eq_true (by kernel_rfl)) (by unfold Func.isWrapper; first | (rw [if_pos (by decide +kernel)]; kernel_rfl) | (rw [if_neg (by decide +kernel)]; exact ⟨rfl, rfl⟩))
    (fun os started H enc _ => lifted os started H enc)
theorem proved : Rows.TuneRoundsSaid := over
#print axioms proved
end Go.Proofs.Ytmlbliggbkfjnaa.tuneRounds
namespace Go.Proofs.Ytmlbliggbkfjnaa
theorem tuneRounds_holds : Rows.TuneRoundsSaid := tuneRounds.proved
end Go.Proofs.Ytmlbliggbkfjnaa
