/- Part 4 of the proof of PolyRoots: what the functions compute as plain Lean functions, that the machine comes to just these answers, and that the answer is true; no conditions. -/
import Derived.Test.YtjjnfobeeflnhaaPolyRootsZ0
import Derived.Test.YtjjnfobeeflnhaaPolyRootsZ1
import Derived.Test.YtjjnfobeeflnhaaPolyRootsZ2
import Derived.Test.YtjjnfobeeflnhaaPolyRootsZ3
import Derived.Test.YtjjnfobeeflnhaaRows
import Derived.WalkKit
import Derived.ProofKit
import Derived.OpenShut
import Derived.ShutString
import Derived.ChangeOld
import Derived.Below
import Derived.SizedLaws
/- Both ways to divide with rest answer alike, and what they answer. -/
namespace Go.Proofs.Ytjjnfobeeflnhaa.L
open Go.RowKit Go.Proofs.YtjjnfobeeflnhaaW.PrintWords Go.Proofs.Ytjjnfobeeflnhaa.J
set_option linter.unusedVariables false
set_option linter.unusedSimpArgs false

theorem pr_of_isP {q : Nat} (h : isP (q : Int) = true) : Fld.Pr q := by
  obtain ⟨h1, h2, h3⟩ := (isP_iff _).1 h
  refine Fld.pr_of_trial (by omega) fun d hd hdd h0 => h3 (d : Int) (by omega) (by exact_mod_cast hdd) (by exact_mod_cast h0)

section
variable {q : Nat} [NeZero q]
/-- What a division with rest answers. -/
def DivOf (f g Q R : List (Fin q)) : Prop := Fld.trim Q = Q ∧ Fld.trim R = R ∧ Fld.Eqv f (Fld.add (Fld.mul Q g) R) ∧ R.length < (Fld.trim g).length ∧ Q.length ≤ f.length
theorem DivOf.unique (hp : Fld.Pr q) {f g Q R Q' R' : List (Fin q)} (hg : Fld.trim g ≠ []) (h : DivOf f g Q R) (h' : DivOf f g Q' R') : Q = Q' ∧ R = R' := by
  obtain ⟨a1, a2, a3, a4, _⟩ := h
  obtain ⟨b1, b2, b3, b4, _⟩ := h'
  obtain ⟨c1, c2⟩ := Fld.div_unique hp hg (a3.symm.trans b3) (by rw [a2]; exact a4) (by rw [b2]; exact b4)
  exact ⟨by rw [← a1, ← b1, Fld.trim_congr c1], by rw [← a2, ← b2, Fld.trim_congr c2]⟩

/-! the program's -/
/-! the reference's -/
end

end Go.Proofs.Ytjjnfobeeflnhaa.L

/- Both tests of a prime and rows of coefficients answer alike, and what they answer; the chapter's example holds. -/
namespace Go.Proofs.Ytjjnfobeeflnhaa.L
open Go.RowKit Go.Proofs.YtjjnfobeeflnhaaW.PrintWords Go.Proofs.Ytjjnfobeeflnhaa.J
set_option linter.unusedVariables false
set_option linter.unusedSimpArgs false

theorem alive02 : Ev (fun k => juntolaw02_alive.f k) true := Ev.of juntolaw02_alive.mono (k := 60) (by decide +kernel)

/-- What both tests answer: 0, 2 or 3. -/
def okV (p : Int) (l : List (List Int)) : Int := if isP p = true then isV p l else 2
theorem poly_ok (p : Int) (l : List (List Int)) (hn : l.length ≤ 1000000) (hl : ∀ f ∈ l, f.length ≤ maxLen) : Ev (fun k => poly_Is.f k p l) (okV p l) := by
  unfold okV
  by_cases hp : isP p = true
  · rw [if_pos hp]
    exact poly_is p l hn hl hp
  · rw [if_neg hp]
    unfold poly_Is.f
    refine Ev.bind (field_is p) ?_
    simp only [hp, if_false]
    exact Ev.now _
theorem right_loop (p : Int) (l : List (List Int)) (hn : l.length ≤ 1000000) (hl : ∀ f ∈ l, f.length ≤ maxLen) (m : Nat) : ∀ i : Nat, i + m = l.length → Ev (fun k => juntoref02_Right.l0 k p l (l.length : Int) (i : Int)) (isV p (l.drop i)) := by
  induction m with
  | zero =>
    intro i hi
    rw [List.drop_of_length_le (by omega), isV]
    refine Ev.step (f := fun k => some 0) (fun k => ?_) (Ev.now _)
    simp only [juntoref02_Right.l0]
    rw [if_neg (by omega)]
  | succ m ih =>
    intro i hi
    have hlt : i < l.length := by omega
    have hr : rd_L3 l (i : Int) = l[i] := by simp [rd_L3, List.getD_eq_getElem?_getD, hlt]
    have hw : wrap64 ((i : Int) + 1) = ((i + 1 : Nat) : Int) := by rw [w64_small (by omega) (by omega)]; omega
    rw [List.drop_eq_getElem_cons hlt, isV]
    refine Ev.step (f := fun k => (juntoref02_Within.f k p l[i]).bind fun t => if t = 0 then juntoref02_Right.l0 k p l (l.length : Int) ((i + 1 : Nat) : Int) else some t) (fun k => ?_) (Ev.bind (ref_rowok p _ (hl _ (List.getElem_mem hlt))) ?_)
    · conv => lhs; simp only [juntoref02_Right.l0]
      rw [if_pos (by omega), if_pos (by omega), if_pos (by omega), hr, hw]
    · by_cases h0 : withinV p l[i] = 0
      · simp only [h0, if_true]
        exact ih (i + 1) (by omega)
      · simp only [h0, if_false]
        exact Ev.now _
theorem ref_right (p : Int) (l : List (List Int)) (hn : l.length ≤ 1000000) (hl : ∀ f ∈ l, f.length ≤ maxLen) : Ev (fun k => juntoref02_Right.f k p l) (okV p l) := by
  unfold juntoref02_Right.f okV
  refine Ev.bind (ref_is p) ?_
  by_cases hp : isP p = true
  · simp only [hp, if_true]
    have h := right_loop p l hn hl l.length 0 (by omega)
    rw [List.drop_zero] at h
    exact h
  · simp only [hp, if_false]
    exact Ev.now _
theorem okV_one {p : Int} {f : List Int} (h : okV p [f] = 0) : isP p = true ∧ withinV p f = 0 := by
  unfold okV at h
  split at h
  · rw [isV_one] at h
    exact ⟨by assumption, h⟩
  · cases h
theorem okV_len (f : List Int) (hf : f.length ≤ maxLen) : ∀ g ∈ [f], g.length ≤ maxLen := fun g hg => by rw [List.mem_singleton.1 hg]; exact hf
/-- A prime and a row of its residues. -/
theorem row_of {p : Int} {f : List Int} (h : okV p [f] = 0) (hu : ∀ c ∈ f, 0 ≤ c) : ∃ (q : Nat) (_ : NeZero q) (g : List (Fin q)), p = (q : Int) ∧ f = oI g ∧ 2 < q ∧ q ≤ 65537 ∧ Fld.Pr q ∧ g.length ≤ 201 := by
  obtain ⟨hp, hw⟩ := okV_one h
  have h2 := (isP_iff p).1 hp
  obtain ⟨q, rfl⟩ : ∃ q : Nat, p = (q : Int) := ⟨p.toNat, by omega⟩
  have hz : NeZero q := ⟨by omega⟩
  obtain ⟨g, hg, hl⟩ := rows_of hw hu
  exact ⟨q, hz, g, rfl, hg.symm, by omega, by omega, pr_of_isP hp, hl⟩

theorem is02_same (l : List Int) (hl : l.length ≤ maxLen) : Ev (fun k => juntolaw02_is.f k l 0 l 0) true := by
  unfold juntolaw02_is.f
  simp only [if_true]
  exact Ev.bind (same_self l hl) (Ev.now _)
theorem is02_bad (e : Int) (h : e ≠ 0) : Ev (fun k => juntolaw02_is.f k [] e [] e) true := by
  unfold juntolaw02_is.f
  simp only [h, if_true, if_false]
  exact Ev.now _
end Go.Proofs.Ytjjnfobeeflnhaa.L

/- Both searches for the places where a polynomial is 0 answer alike, and what they answer. -/
namespace Go.Proofs.Ytjjnfobeeflnhaa.L
open Go.RowKit Go.Proofs.YtjjnfobeeflnhaaW.PrintWords Go.Proofs.Ytjjnfobeeflnhaa.J
set_option linter.unusedVariables false
set_option linter.unusedSimpArgs false

section
variable {q : Nat} [NeZero q]
/-- The places below n where a polynomial is 0. -/
def rootsF (f : List (Fin q)) (n : Nat) : List (Fin q) := ((List.range n).map fun x : Nat => resid q (x : Int)).filter fun x => decide (Fld.ev f x = 0)
theorem rootsF_succ (f : List (Fin q)) (n : Nat) : rootsF f (n + 1) = rootsF f n ++ (if Fld.ev f (resid q (n : Int)) = 0 then [resid q (n : Int)] else []) := by
  unfold rootsF
  rw [List.range_succ, List.map_append, List.filter_append, List.map_cons, List.map_nil]
  congr 1
  by_cases h : Fld.ev f (resid q (n : Int)) = 0
  · rw [if_pos h]; simp [h]
  · rw [if_neg h]; simp [h]
theorem nI_res {n : Nat} (h : n < q) : nI (resid q (n : Int)) = (n : Int) := by
  rw [nI_resid, Int.emod_eq_of_lt (by omega) (by omega)]
theorem rootsF_ev (f : List (Fin q)) (n : Nat) : ∀ x ∈ rootsF f n, Fld.ev f x = 0 := fun x hx => by
  unfold rootsF at hx
  have := (List.mem_filter.1 hx).2
  simpa using this
theorem rootsF_nodup (f : List (Fin q)) (n : Nat) (hn : n ≤ q) : (rootsF f n).Nodup := by
  unfold rootsF
  unfold List.Nodup
  refine List.Pairwise.filter _ ?_
  rw [List.pairwise_map]
  refine List.Pairwise.imp_of_mem ?_ List.nodup_range
  intro i j hi hj hne e
  have hi := List.mem_range.1 hi
  have hj := List.mem_range.1 hj
  have h1 := nI_res (q := q) (n := i) (by omega)
  have h2 := nI_res (q := q) (n := j) (by omega)
  rw [e, h2] at h1
  omega
theorem rootsF_few (hp : Fld.Pr q) (f : List (Fin q)) (hf : Fld.trim f ≠ []) (n : Nat) (hn : n ≤ q) : (rootsF f n).length < (Fld.trim f).length :=
  Fld.roots_count hp hf (rootsF_nodup f n hn) (rootsF_ev f n)
theorem rootsF_len (f : List (Fin q)) (n : Nat) : (rootsF f n).length ≤ n := by
  unfold rootsF
  have := List.length_filter_le (fun x => decide (Fld.ev f x = 0)) ((List.range n).map fun x : Nat => resid q (x : Int))
  simpa using this
/-- When as many are found as there can be, there are no more. -/
theorem rootsF_full (hp : Fld.Pr q) (f : List (Fin q)) (hf : Fld.trim f ≠ []) (n : Nat) (hn : n ≤ q) (hl : (Fld.trim f).length ≤ (rootsF f n).length + 1) : ∀ m, n ≤ m → m ≤ q → rootsF f m = rootsF f n := by
  intro m
  induction m with
  | zero => intro h _; rw [show n = 0 by omega]
  | succ m ih =>
    intro h hm
    by_cases e : n = m + 1
    · rw [e]
    · have h1 := ih (by omega) (by omega)
      have h2 := rootsF_few hp f hf (m + 1) hm
      rw [rootsF_succ, h1] at h2 ⊢
      by_cases hz : Fld.ev f (resid q (m : Int)) = 0
      · rw [if_pos hz, List.length_append, List.length_singleton] at h2
        omega
      · rw [if_neg hz, List.append_nil]
theorem roots_loop (hp : Fld.Pr q) (hq : q ≤ 65537) (g : List (Fin q)) (hg : g ≠ []) (hgt : Fld.trim g = g) (hl : g.length ≤ 1000) (m : Nat) : ∀ n : Nat, n + m = q → Ev (fun k => poly_Roots.l0 k (q : Int) (oI g) (oI (rootsF g n)) (n : Int)) (oI (rootsF g q), 0) := by
  have hgl := List.length_pos_iff.2 hg
  have hw : wrap64 ((g.length : Int) - 1) = ((g.length - 1 : Nat) : Int) := by rw [w64_small (by omega) (by omega)]; omega
  have stop : ∀ n, rootsF g n = rootsF g q → Ev (fun k => poly_Roots.j1 k (q : Int) (oI g) (oI (rootsF g n)) (n : Int) false) (oI (rootsF g q), 0) := fun n h => by
    rw [h]
    exact Ev.step (f := fun k => some (oI (rootsF g q), 0)) (fun k => by simp [poly_Roots.j1]) (Ev.now _)
  induction m with
  | zero =>
    intro n hn
    have hn' : n = q := by omega
    refine Ev.step (f := fun k => poly_Roots.j1 k (q : Int) (oI g) (oI (rootsF g n)) (n : Int) false) (fun k => ?_) (stop n (by rw [hn']))
    simp only [poly_Roots.l0]
    rw [if_neg (by omega)]
  | succ m ih =>
    intro n hn
    have hfl := rootsF_len g n
    by_cases hlt : (rootsF g n).length < g.length - 1
    · have hd : decide (((oI (rootsF g n)).length : Int) < wrap64 (((oI g).length : Int) - 1)) = true := by
        rw [oI_length, oI_length, hw]; exact decide_eq_true (by omega)
      have hx : (n : Int) = nI (resid q (n : Int)) := (nI_res (by omega)).symm
      have hw2 : IntKind.u64.wrap ((n : Int) + 1) = ((n + 1 : Nat) : Int) := by rw [u64_small (by omega) (by omega)]; omega
      have h := ih (n + 1) (by omega)
      rw [rootsF_succ] at h
      have hlen : (oI (rootsF g n)).length < 17592186044416 := by rw [oI_length]; omega
      have hev : poly_At.f (q : Int) (oI g) (n : Int) = some (nI (Fld.ev g (resid q (n : Int)))) := by
        have := at_rows hq g (resid q (n : Int))
        rwa [← hx] at this
      refine Ev.step (f := fun k => poly_Roots.j1 k (q : Int) (oI g) (oI (rootsF g n)) (n : Int) true) (fun k => ?_) ?_
      · simp only [poly_Roots.l0]
        rw [if_pos (by omega), hd]
      by_cases hz : Fld.ev g (resid q (n : Int)) = 0
      · rw [if_pos hz, oI_append] at h
        have hone : oI [resid q (n : Int)] = [(n : Int)] := by rw [oI_cons, ← hx]; rfl
        rw [hone] at h
        refine Ev.step (f := fun k => poly_Roots.l0 k (q : Int) (oI g) (oI (rootsF g n) ++ [(n : Int)]) ((n + 1 : Nat) : Int)) (fun k => ?_) h
        simp only [poly_Roots.j1, if_true]
        rw [hev, Option.bind_some, if_pos (by rw [hz]; exact nI_zero), if_pos hlen, hw2]
      · rw [if_neg hz, List.append_nil] at h
        refine Ev.step (f := fun k => poly_Roots.l0 k (q : Int) (oI g) (oI (rootsF g n)) ((n + 1 : Nat) : Int)) (fun k => ?_) h
        simp only [poly_Roots.j1, if_true]
        rw [hev, Option.bind_some, if_neg (fun e => hz (nI_eq_zero.1 e)), hw2]
    · have hd : decide (((oI (rootsF g n)).length : Int) < wrap64 (((oI g).length : Int) - 1)) = false := by
        rw [oI_length, oI_length, hw]; exact decide_eq_false (by omega)
      refine Ev.step (f := fun k => poly_Roots.j1 k (q : Int) (oI g) (oI (rootsF g n)) (n : Int) false) (fun k => ?_) (stop n ?_)
      · simp only [poly_Roots.l0]
        rw [if_pos (by omega), hd]
      · exact (rootsF_full hp g (by rw [hgt]; exact hg) n (by omega) (by rw [hgt]; omega) q (by omega) (Nat.le_refl _)).symm
theorem rootsF_trim (f : List (Fin q)) (n : Nat) : rootsF (Fld.trim f) n = rootsF f n := by
  unfold rootsF
  congr 1
  funext x
  rw [(Fld.trim_co f).ev]
theorem rroots_loop (h1 : 1 < q) (hq : q ≤ 65537) (f : List (Fin q)) (hl : f.length ≤ 1000) (m : Nat) : ∀ n : Nat, n + m = q → Ev (fun k => juntoref02_Roots.l0 k (q : Int) (oI f) (oI (rootsF f n)) (n : Int)) (oI (rootsF f q)) := by
  induction m with
  | zero =>
    intro n hn
    have hn' : n = q := by omega
    rw [hn']
    refine Ev.step (f := fun k => some (oI (rootsF f q))) (fun k => ?_) (Ev.now _)
    simp only [juntoref02_Roots.l0]
    rw [if_neg (by omega)]
  | succ m ih =>
    intro n hn
    have hfl := rootsF_len f n
    have hx : (n : Int) = nI (resid q (n : Int)) := (nI_res (by omega)).symm
    have hw2 : IntKind.u64.wrap ((n : Int) + 1) = ((n + 1 : Nat) : Int) := by rw [u64_small (by omega) (by omega)]; omega
    have h := ih (n + 1) (by omega)
    rw [rootsF_succ] at h
    have hlen : (oI (rootsF f n)).length < 17592186044416 := by rw [oI_length]; omega
    have hev : Ev (fun k => juntoref02_Eval.f k (q : Int) (oI f) (n : Int)) (nI (Fld.ev f (resid q (n : Int)))) := by
      have := eval_rows h1 hq f (resid q (n : Int)) (by omega)
      rwa [← hx] at this
    refine Ev.step (f := fun k => (juntoref02_Eval.f k (q : Int) (oI f) (n : Int)).bind fun t1467 => (if t1467 = 0 then (if (oI (rootsF f n)).length < 17592186044416 then (juntoref02_Roots.l0 k (q : Int) (oI f) (oI (rootsF f n) ++ [(n : Int)]) ((n + 1 : Nat) : Int)) else (none)) else (juntoref02_Roots.l0 k (q : Int) (oI f) (oI (rootsF f n)) ((n + 1 : Nat) : Int)))) (fun k => ?_) (Ev.bind hev ?_)
    · conv => lhs; simp only [juntoref02_Roots.l0]
      rw [if_pos (by omega), hw2]
    by_cases hz : Fld.ev f (resid q (n : Int)) = 0
    · rw [if_pos hz, oI_append] at h
      have hone : oI [resid q (n : Int)] = [(n : Int)] := by rw [oI_cons, ← hx]; rfl
      rw [hone] at h
      refine Ev.congr (fun k => if_pos (by rw [hz]; exact nI_zero)) (Ev.congr (fun k => if_pos hlen) h)
    · rw [if_neg hz, List.append_nil] at h
      exact Ev.congr (fun k => if_neg (fun e => hz (nI_eq_zero.1 e))) h
theorem ref_roots (h1 : 1 < q) (hq : q ≤ 65537) (f : List (Fin q)) (hl : f.length ≤ 1000) : Ev (fun k => juntoref02_Roots.f k (q : Int) (oI f)) (oI (rootsF f q)) :=
  rroots_loop h1 hq f hl q 0 (by omega)
theorem poly_roots_ok (hp : Fld.Pr q) (hq : q ≤ 65537) (f : List (Fin q)) (hl : f.length ≤ 201) (h0 : okV (q : Int) [oI f] = 0) (hf : Fld.trim f ≠ []) : Ev (fun k => poly_Roots.f k (q : Int) (oI f)) (oI (rootsF f q), 0) := by
  have hg := List.length_pos_iff.2 hf
  have hlt := Fld.trim_length_le f
  unfold poly_Roots.f
  refine Ev.bind (poly_ok _ _ (by simp) (okV_len _ (by rw [oI_length]; simp only [maxLen]; omega))) ?_
  simp only [h0, if_true]
  refine Ev.bind (short_fp f (by omega)) (Ev.congr (fun k => if_neg (by rw [oI_length]; omega)) ?_)
  have := roots_loop hp hq (Fld.trim f) hf (Fld.trim_trim _) (by omega) q 0 (by omega)
  rw [rootsF_trim f q] at this
  exact this
theorem poly_roots_zero (hq : q ≤ 65537) (f : List (Fin q)) (hl : f.length ≤ 201) (h0 : okV (q : Int) [oI f] = 0) (hf : Fld.trim f = []) : Ev (fun k => poly_Roots.f k (q : Int) (oI f)) ([], 7) := by
  unfold poly_Roots.f
  refine Ev.bind (poly_ok _ _ (by simp) (okV_len _ (by rw [oI_length]; simp only [maxLen]; omega))) ?_
  simp only [h0, if_true]
  refine Ev.bind (short_fp f (by omega)) (Ev.congr (fun k => if_pos (by rw [oI_length, hf]; rfl)) (Ev.now _))
end
theorem poly_roots_bad (p : Int) (l : List Int) (hl : l.length ≤ maxLen) (h0 : okV p [l] ≠ 0) : Ev (fun k => poly_Roots.f k p l) ([], okV p [l]) := by
  unfold poly_Roots.f
  refine Ev.bind (poly_ok _ _ (by simp) (okV_len _ hl)) ?_
  simp only [h0, if_false]
  exact Ev.now _

end Go.Proofs.Ytjjnfobeeflnhaa.L

/- The statement PolyRoots as plain Lean. -/
namespace Go.Proofs.Ytjjnfobeeflnhaa.L
open Go.RowKit Go.Proofs.YtjjnfobeeflnhaaW.PrintWords Go.Proofs.Ytjjnfobeeflnhaa.J
set_option linter.unusedVariables false
set_option linter.unusedSimpArgs false

theorem lawroots_bad (p e : Int) (f : List Int) (h : e ≠ 0) : Ev (fun k => juntolaw02_PolyRoots.j1 k p f [] e e) true := by
  refine Ev.step (f := fun k => (juntolaw02_is.f k [] e [] e).bind fun t1486 => (if t1486 = true then ((juntolaw02_alive.f k).bind fun t1487 => (some t1487)) else (some false))) (fun k => by simp only [juntolaw02_PolyRoots.j1]; rw [if_neg h]) (Ev.bind (is02_bad e h) ?_)
  simp only [if_true]
  exact Ev.bind alive02 (Ev.now _)

theorem polyRoots (x0 : Int) (x1 : List Int) (w0 : (Lit.int .u64 x0).wf = true) (w1 : x1.length ≤ maxLen ∧ x1.length * 8 ≤ 140737488351232 ∧ ∀ x1' ∈ x1, (Lit.int .u64 x1').wf = true) : ∃ k, juntolaw02_PolyRoots.f k x0 x1 = some true := by
  suffices h : Ev (fun k => juntolaw02_PolyRoots.f k x0 x1) true from h.rounds
  have hu : ∀ c ∈ x1, 0 ≤ c := fun c hc => (u64_wf (w1.2.2 c hc)).1
  unfold juntolaw02_PolyRoots.f
  by_cases h0 : okV x0 [x1] = 0
  · obtain ⟨q, hz, f, rfl, rfl, h2, hq, hp, hf⟩ := row_of h0 hu
    have hlt := Fld.trim_length_le f
    by_cases ht : Fld.trim f = []
    · refine Ev.bind (poly_roots_zero hq f hf h0 ht) (Ev.bind (ref_right _ _ (by simp) (okV_len _ w1.1)) ?_)
      simp only [h0, if_true]
      have tr := trim_fp f (by omega)
      rw [ht] at tr
      refine Ev.bind tr ?_
      refine Ev.step (f := fun k => juntolaw02_PolyRoots.j1 k (q : Int) (oI f) [] 7 7) (fun k => by simp [juntolaw02_PolyRoots.j0, oI_nil]) (lawroots_bad _ _ _ (by decide))
    · have hg := List.length_pos_iff.2 ht
      refine Ev.bind (poly_roots_ok hp hq f hf h0 ht) (Ev.bind (ref_right _ _ (by simp) (okV_len _ w1.1)) ?_)
      simp only [h0, if_true]
      refine Ev.bind (trim_fp f (by omega)) ?_
      have hb : (((oI (Fld.trim f)).length : Int) == 0) = false := by rw [oI_length, beq_eq_false_iff_ne]; omega
      rw [hb]
      have hl := rootsF_len f q
      refine Ev.step (f := fun k => juntolaw02_PolyRoots.j1 k (q : Int) (oI f) (oI (rootsF f q)) 0 0) (fun k => by simp [juntolaw02_PolyRoots.j0]) ?_
      refine Ev.step (f := fun k => (juntoref02_Roots.f k (q : Int) (oI f)).bind fun t1482 => ((juntolaw02_is.f k (oI (rootsF f q)) 0 t1482 0).bind fun t1485 => (some t1485))) (fun k => by simp only [juntolaw02_PolyRoots.j1, if_true]) ?_
      exact Ev.bind (ref_roots (by omega) hq f (by omega)) (Ev.bind (is02_same _ (by rw [oI_length]; simp only [maxLen]; omega)) (Ev.now _))
  · refine Ev.bind (poly_roots_bad _ _ w1.1 h0) (Ev.bind (ref_right _ _ (by simp) (okV_len _ w1.1)) ?_)
    simp only [h0, if_false]
    exact Ev.step (f := fun k => juntolaw02_PolyRoots.j1 k x0 x1 [] (okV x0 [x1]) (okV x0 [x1])) (fun k => by simp [juntolaw02_PolyRoots.j0]) (lawroots_bad _ _ _ h0)

end Go.Proofs.Ytjjnfobeeflnhaa.L

/- The row of PolyRoots: for every input the call returns true and changes nothing; no conditions. Out of the contract of the function and the plain law. -/
namespace Go.Proofs.Ytjjnfobeeflnhaa.polyRoots
open Go.ChangeShapes Go.WideShapes Go.ChangeAt Go.RowKit Go.Proofs.YtjjnfobeeflnhaaW.PrintWords Go.Proofs.Ytjjnfobeeflnhaa.J Go.Proofs.Ytjjnfobeeflnhaa.Op
set_option linter.unusedVariables false
theorem own : ownKnob Try.prog.godebug = none := by kernel_rfl
theorem laidOut : laidOutB Try.prog = true := by kernel_rfl
set_option maxRecDepth 100000 in
theorem op0 : Opens Try.prog (Kd.int .u64) 22 (fun n => (Lit.int .u64 n).wf = true) := (op_int Try.underlying22)
set_option maxRecDepth 100000 in
theorem op1 : Opens Try.prog (Kd.slice 22 (Kd.int .u64)) 31 (fun l => l.length ≤ maxLen ∧ l.length * 8 ≤ 140737488351232 ∧ ∀ a ∈ l, (fun n => (Lit.int .u64 n).wf = true) a) := (op_slice Try.underlying31 (by kernel_rfl) (by kernel_rfl) (op_int Try.underlying22))
set_option maxRecDepth 100000 in
theorem lifted (os : Os) (started : os.Started) (H : Type) (enc : TypeId × Value → H) :
    ReturnsInHanded {} Try.checked os 29 .any (Rows.polyRootsSpec.pre6 enc Try.prog Try.f29 Rows.polyRootsRow.domain false) (Rows.polyRootsSpec.post enc Try.prog Try.f29 false true false false) := by
  refine returnsInHanded_of_change_sized (C := Try.checked) own started (by kernel_rfl) Try.func29
    (ChangeSpec.witness6 (enc := enc) (C := Try.checked) false ⟨#[], #[.int .u64 0, .slice none 0 0], []⟩ 8 (by kernel_rfl) (by kernel_rfl) (by kernel_rfl) (by kernel_rfl)) ?_
  intro W base args ds gs before hval0 hW hcnd hsz0 _
  have hsz : (DataW.weightsEach Try.prog (Try.f29.params.toList ++ Rows.polyRootsSpec.plain.varTypes Try.prog) (ds ++ gs)).all (· ≤ reachBytes) = true := hsz0
  have hval : ∀ (j : Nat) t v, Try.f29.params[j]? = some t → args[j]? = some v → Value.okWide Try.prog W .any base t v := hval0
  have hW' := hW
  obtain ⟨p, q, hA0, hV, rfl, hfz, hnd⟩ := hW
  have hA : DataW.TrodAll enc Try.prog W 0 (fun _ => true) true Try.f29.params.toList args.toList ds p := hA0
  rw [Try.params29] at hA hval hsz
  obtain ⟨v0, vs0, d0, ds0, p0, q0, hargs, rfl, rfl, h0, r0⟩ := trodAll_cons hA
  obtain ⟨v1, vs1, d1, ds1, p1, q1, rfl, rfl, rfl, h1, r1⟩ := trodAll_cons r0
  obtain ⟨rfl, rfl, rfl⟩ := trodAll_nil r1
  obtain rfl : args = #[v0, v1] := by cases args; simp_all
  obtain ⟨rfl, rfl⟩ := trodVars_none hV
  have k0 := h0
  have lt0 : ∀ x ∈ p0, x.block < W.heap.size := by obtain ⟨m, hm⟩ := k0; exact DataW.trod_lt m _ _ _ hm
  obtain ⟨x0, rfl⟩ := okWide_int Try.underlying22 (hval 0 22 v0 rfl rfl)
  obtain ⟨y0, e0, w0⟩ := arg op0 rfl h0 hsz (j := 0) rfl rfl
  have e0' : [Value.int .u64 x0] = [Value.int .u64 y0] := e0
  obtain rfl : x0 = y0 := by simpa using e0'
  have k1 := h1
  have lt1 : ∀ x ∈ p1, x.block < W.heap.size := by obtain ⟨m, hm⟩ := k1; exact DataW.trod_lt m _ _ _ hm
  obtain ⟨a1, len1, cap1, rfl⟩ := okWide_slice Try.underlying31 (hval 1 31 v1 rfl rfl)
  obtain ⟨x1, ⟨A1, c1, e1, hc1, hr1⟩, w1⟩ := arg op1 rfl h1 hsz (j := 1) rfl rfl
  have e1' : [Value.slice a1 len1 cap1] = [Value.slice A1 x1.length c1] := e1
  obtain ⟨rfl, rfl, rfl⟩ : a1 = A1 ∧ len1 = x1.length ∧ cap1 = c1 := by simpa using e1'
  clear hA0 hval0 hsz0 hsz
  obtain ⟨k, h⟩ := L.polyRoots x0 x1 w0 w1
  refine (juntolaw02_PolyRoots.calls k x0 (fun k => k < W.heap.size) _ _ x1 true W (Kd.V_mk hc1 (Kd.C_F (Kd.heap_int _) hr1)) h).mono fun e W' ⟨he, bel⟩ => ?_
  subst he
  exact ⟨_, rfl, _, _, _, [], _, [], hW', trodAll_mk1 (shut_bool Try.underlying4 _), (trodAll_cons_mk (Below.trod laidOut (by kernel_rfl) (of_decide_eq_true (by kernel_rfl)) k0 bel lt0) (trodAll_cons_mk (Below.trod laidOut (by kernel_rfl) (of_decide_eq_true (by kernel_rfl)) k1 bel lt1) trodAll_mk0)), rfl, bel.frame _, fun h => by cases h⟩
set_option maxRecDepth 100000 in
theorem closed : joinedFacts Try.pinned.checked.prog 29 Try.f29 Rows.polyRootsSpec Rows.polyRootsRow = true := by
  unfold joinedFacts
  repeat' with_reducible refine Bool.and_eq_true_iff.2 ⟨?_, ?_⟩
  all_goals first
    | with_reducible exact Facts.enters
    | (rw [Facts.final]; kernel_rfl)
    | (rw [Facts.made]; kernel_rfl)
    | kernel_rfl
theorem over : Rows.polyRootsRow.holds Try.pinned (OpenSpec.ofChange Rows.polyRootsSpec) :=
  OpenClaim.holds_of_wide 29 Try.f29 rfl rfl rfl rfl rfl rfl rfl ⟨rfl, rfl, rfl, rfl, rfl⟩ rfl rfl rfl rfl rfl (by kernel_rfl) Try.func29 closed
    (of_decide_eq_true (by kernel_rfl)) (by unfold Func.isWrapper; first | (rw [if_pos (by decide +kernel)]; kernel_rfl) | (rw [if_neg (by decide +kernel)]; exact ⟨rfl, rfl⟩))
    (fun os started H enc _ => lifted os started H enc)
theorem proved : Rows.PolyRootsSaid := over
#print axioms proved
end Go.Proofs.Ytjjnfobeeflnhaa.polyRoots
namespace Go.Proofs.Ytjjnfobeeflnhaa
/-- The row, under a short name, for the claim. -/
theorem polyRoots_holds : Rows.PolyRootsSaid := polyRoots.proved
end Go.Proofs.Ytjjnfobeeflnhaa
