/- Part 5 of the proof of ShareThere: what the functions compute as plain Lean functions, that the machine comes to just these answers, and that the answer is true; no conditions. -/
import Derived.Test.YtjjnfobeeflnhaaShareThereZ0
import Derived.Test.YtjjnfobeeflnhaaShareThereZ1
import Derived.Test.YtjjnfobeeflnhaaShareThereZ2
import Derived.Test.YtjjnfobeeflnhaaShareThereZ3
import Derived.Test.YtjjnfobeeflnhaaShareThereZ4
import Derived.Test.YtjjnfobeeflnhaaRows
import Derived.WalkKit
import Derived.ProofKit
import Derived.OpenShut
import Derived.ShutString
import Derived.ChangeOld
import Derived.Below
import Derived.SizedLaws
/- The statement ShareSetups as plain Lean: both tests of a setup and both tests of a list of corrupted parties answer alike. -/
namespace Go.Proofs.Ytjjnfobeeflnhaa.L
open Go.RowKit Go.Proofs.YtjjnfobeeflnhaaW.PrintWords Go.Proofs.Ytjjnfobeeflnhaa.J
set_option linter.unusedVariables false
set_option linter.unusedSimpArgs false

def riseV (n : Int) : Int → List Int → Bool
  | _, [] => true
  | prev, x :: xs => if x ≤ prev then false else if x > n then false else riseV n x xs

def corrV (p n t : Int) (l : List Int) : Int :=
  if setupV2 p n t = 0 then (if (l.length : Int) > t then 2 else if riseV n 0 l = true then 0 else 2) else setupV2 p n t
where setupV2 (p n t : Int) : Int := setupV p n t

theorem rd_at (l : List Int) (i : Nat) (h : i < l.length) : rd l (i : Int) = l[i] := by
  simp [rd, List.getD_eq_getElem?_getD, h]

theorem share_rise (p n t : Int) (l : List Int) (hs : l.length ≤ maxLen) : ∀ (m i : Nat) (prev : Int), i + m = l.length → Ev (fun k => share_Corrupted.l0 k prev l (l.length : Int) (i : Int) p n t) (if riseV n prev (l.drop i) = true then 0 else 2)
  | 0, i, prev, hi => by
    rw [List.drop_of_length_le (by omega)]
    refine Ev.step (f := fun k => some 0) (fun k => ?_) (Ev.now _)
    simp only [share_Corrupted.l0]
    rw [if_neg (by omega)]
  | m + 1, i, prev, hi => by
    have hm : (l.length : Int) ≤ 9223372036854775807 := by simp only [maxLen] at hs; omega
    have hlt : i < l.length := by omega
    rw [List.drop_eq_getElem_cons hlt]
    unfold riseV
    by_cases h1 : l[i] ≤ prev
    · simp only [h1, if_true, Bool.false_eq_true, if_false]
      refine Ev.step (f := fun k => some 2) (fun k => ?_) (Ev.now _)
      simp only [share_Corrupted.l0]
      rw [if_pos (by omega), if_pos (by omega), if_pos (by omega), rd_at l i hlt, if_pos h1]
    · by_cases h2 : l[i] > n
      · simp only [h1, h2, if_true, Bool.false_eq_true, if_false]
        refine Ev.step (f := fun k => some 2) (fun k => ?_) (Ev.now _)
        simp only [share_Corrupted.l0]
        rw [if_pos (by omega), if_pos (by omega), if_pos (by omega), rd_at l i hlt, if_neg h1, if_pos h2]
      · simp only [h1, h2, if_false]
        refine Ev.step (f := fun k => share_Corrupted.l0 k l[i] l (l.length : Int) ((i + 1 : Nat) : Int) p n t) (fun k => ?_) (share_rise p n t l hs m (i + 1) l[i] (by omega))
        conv => lhs; simp only [share_Corrupted.l0]
        rw [if_pos (by omega), if_pos (by omega), if_pos (by omega), rd_at l i hlt, if_neg h1, if_neg h2, w64_small (by omega) (by omega)]
        rfl

theorem ref_rise (n : Int) (l : List Int) (hs : l.length ≤ maxLen) : ∀ (m i : Nat) (prev : Int), i + m = l.length → 0 ≤ prev → (i = 0 → prev = 0) → (∀ h : 0 < i ∧ i - 1 < l.length, prev = l[i - 1]'h.2 ∧ 1 ≤ prev) →
    Ev (fun k => juntoref04_Rising.l0 k n l l (l.length : Int) (i : Int)) (riseV n prev (l.drop i))
  | 0, i, prev, hi, hp, hz, hq => by
    rw [List.drop_of_length_le (by omega)]
    refine Ev.step (f := fun k => some true) (fun k => ?_) (Ev.now _)
    simp only [juntoref04_Rising.l0]
    rw [if_neg (by omega)]
  | m + 1, i, prev, hi, hp, hz, hq => by
    have hm : (l.length : Int) ≤ 9223372036854775807 := by simp only [maxLen] at hs; omega
    have hlt : i < l.length := by omega
    rw [List.drop_eq_getElem_cons hlt]
    unfold riseV
    by_cases h0 : l[i] < 1
    · have h1 : l[i] ≤ prev := by omega
      simp only [h1, if_true]
      refine Ev.step (f := fun k => some false) (fun k => ?_) (Ev.now _)
      simp only [juntoref04_Rising.l0]
      rw [if_pos (by omega), if_pos (by omega), if_pos (by omega), rd_at l i hlt, if_pos h0]
    · by_cases h2 : l[i] > n
      · have e : (if l[i] ≤ prev then false else if l[i] > n then false else riseV n l[i] (l.drop (i + 1))) = false := by
          split
          · rfl
          · first | rfl | rw [if_pos h2]
        rw [e]
        refine Ev.step (f := fun k => some false) (fun k => ?_) (Ev.now _)
        simp only [juntoref04_Rising.l0]
        rw [if_pos (by omega), if_pos (by omega), if_pos (by omega), rd_at l i hlt, if_neg h0, if_pos h2]
      · have next : ¬ l[i] ≤ prev → Ev (fun k => juntoref04_Rising.l0 k n l l (l.length : Int) ((i + 1 : Nat) : Int)) (if l[i] ≤ prev then false else if l[i] > n then false else riseV n l[i] (l.drop (i + 1))) := by
          intro h1
          rw [if_neg h1, if_neg h2]
          exact ref_rise n l hs m (i + 1) l[i] (by omega) (by omega) (by omega) (fun h => ⟨rfl, by omega⟩)
        by_cases hi0 : i = 0
        · have hpz := hz hi0
          refine Ev.step (f := fun k => juntoref04_Rising.l0 k n l l (l.length : Int) ((i + 1 : Nat) : Int)) (fun k => ?_) (next (by omega))
          conv => lhs; simp only [juntoref04_Rising.l0]
          rw [if_pos (by omega), if_pos (by omega), if_pos (by omega), rd_at l i hlt, if_neg h0, if_neg h2, if_neg (by omega), w64_small (by omega) (by omega)]
          rfl
        · obtain ⟨hp1, hp2⟩ := hq ⟨by omega, by omega⟩
          have hr : rd l (((i - 1 : Nat)) : Int) = prev := by rw [rd_at l (i - 1) (by omega)]; exact hp1.symm
          have hw : wrap64 ((i : Int) - 1) = ((i - 1 : Nat) : Int) := by rw [w64_small (by omega) (by omega)]; omega
          by_cases h1 : l[i] ≤ prev
          · rw [if_pos h1]
            refine Ev.step (f := fun k => some false) (fun k => ?_) (Ev.now _)
            simp only [juntoref04_Rising.l0]
            rw [if_pos (by omega), if_pos (by omega), if_pos (by omega), rd_at l i hlt, if_neg h0, if_neg h2, if_pos (by omega), hw, if_pos (by omega), if_pos (by omega), hr, if_pos (by omega)]
          · refine Ev.step (f := fun k => juntoref04_Rising.l0 k n l l (l.length : Int) ((i + 1 : Nat) : Int)) (fun k => ?_) (next h1)
            conv => lhs; simp only [juntoref04_Rising.l0]
            rw [if_pos (by omega), if_pos (by omega), if_pos (by omega), rd_at l i hlt, if_neg h0, if_neg h2, if_pos (by omega), hw, if_pos (by omega), if_pos (by omega), hr, if_neg (by omega), w64_small (by omega) (by omega)]
            rfl

theorem share_corr (p n t : Int) (l : List Int) (hs : l.length ≤ maxLen) : Ev (fun k => share_Corrupted.f k p n t l) (corrV p n t l) := by
  unfold share_Corrupted.f corrV corrV.setupV2
  refine Ev.bind (share_setup p n t) ?_
  by_cases h0 : setupV p n t = 0
  · simp only [h0, if_true]
    by_cases h1 : (l.length : Int) > t
    · simp only [h1, if_true]
      exact Ev.now _
    · simp only [h1, if_false]
      exact share_rise p n t l hs l.length 0 0 (by omega)
  · simp only [h0, if_false]
    exact Ev.now _

theorem ref_corr (p n t : Int) (l : List Int) (hs : l.length ≤ maxLen) : Ev (fun k => juntoref04_Corrupted.f k p n t l) (corrV p n t l) := by
  unfold juntoref04_Corrupted.f corrV corrV.setupV2
  refine Ev.bind (ref_setup p n t) ?_
  by_cases h0 : setupV p n t = 0
  · simp only [h0, if_true]
    by_cases h1 : (l.length : Int) > t
    · simp only [h1, if_true]
      exact Ev.now _
    · simp only [h1, if_false]
      have h := ref_rise n l hs l.length 0 0 (by omega) (by omega) (fun _ => rfl) (fun h => by omega)
      refine Ev.bind (a := riseV n 0 l) h ?_
      by_cases h2 : riseV n 0 l = true
      · simp only [h2, if_true]
        exact Ev.now _
      · simp only [h2, if_false]
        exact Ev.now _
  · simp only [h0, if_false]
    exact Ev.now _

theorem alive04 : Ev (fun k => juntolaw04_alive.f k) true := Ev.of juntolaw04_alive.mono (k := 60) (by decide +kernel)

end Go.Proofs.Ytjjnfobeeflnhaa.L

/- Both ways to move a polynomial to another secret answer alike, and what they answer. -/
namespace Go.Proofs.Ytjjnfobeeflnhaa.L
open Go.RowKit Go.Proofs.YtjjnfobeeflnhaaW.PrintWords Go.Proofs.Ytjjnfobeeflnhaa.J
set_option linter.unusedVariables false
set_option linter.unusedSimpArgs false

theorem rise_mem {n : Int} : ∀ {l : List Int} {prev : Int}, riseV n prev l = true → ∀ x ∈ l, prev < x ∧ x ≤ n
  | [], _, _, x, hx => by cases hx
  | a :: l, prev, h, x, hx => by
    unfold riseV at h
    split at h
    · cases h
    · split at h
      · cases h
      · rcases List.mem_cons.1 hx with rfl | h'
        · omega
        · have := rise_mem h x h'
          omega
theorem corrV_zero {p n t : Int} {l : List Int} (h : corrV p n t l = 0) : setupV p n t = 0 ∧ (l.length : Int) ≤ t ∧ riseV n 0 l = true := by
  unfold corrV corrV.setupV2 at h
  split at h
  · split at h
    · cases h
    · split at h
      · exact ⟨by assumption, by omega, by assumption⟩
      · cases h
  · contradiction
section
variable {q : Nat}
theorem places_of {n : Int} {l : List Int} (hr : riseV n 0 l = true) (hn : n < (q : Int)) (hq : q ≤ 65537) : ∃ xs : List (Fin q), oI xs = l ∧ (l.map fun x => IntKind.u64.wrap x) = oI xs ∧ xs.length = l.length := by
  have hm := rise_mem hr
  have e : (l.map fun x => IntKind.u64.wrap x) = l := by
    conv => rhs; rw [← List.map_id l]
    apply List.map_congr_left
    intro x hx
    have := hm x hx
    exact u64_small (by omega) (by omega)
  obtain ⟨xs, hxs⟩ := oI_of (q := q) (l := l) (fun c hc => by have := hm c hc; omega)
  exact ⟨xs, hxs, by rw [e, hxs], by rw [← hxs, oI_length]⟩
end
section
variable {q : Nat} [NeZero q]
/-- The moved polynomial. -/
def movedF (f xs : List (Fin q)) (s : Fin q) : List (Fin q) := Fld.trim (Fld.add f (Fld.trim (Fld.smul (s - Fld.ev f 0) (gone [1] xs))))
theorem move_sizes (f xs : List (Fin q)) (s : Fin q) (hf : f.length ≤ 1000) (hx : xs.length ≤ 1000) : (gone [1] xs).length ≤ 1001 ∧ (Fld.trim (Fld.smul (s - Fld.ev f 0) (gone [1] xs))).length ≤ 1001 ∧ (movedF f xs s).length ≤ 1001 := by
  have h1 := gone_length xs [1]
  rw [List.length_singleton] at h1
  have h2 := Fld.trim_length_le (Fld.smul (s - Fld.ev f 0) (gone [1] xs))
  rw [Fld.smul_length] at h2
  have h3 := Fld.trim_length_le (Fld.add f (Fld.trim (Fld.smul (s - Fld.ev f 0) (gone [1] xs))))
  rw [Fld.add_length] at h3
  unfold movedF
  omega
theorem isV_two (p s : Int) (f : List Int) : isV p [f, [s]] = if withinV p f = 0 then (if s < p then 0 else 2) else withinV p f := by
  rw [isV, isV_one, withinV_ne p [s] (by simp)]
  unfold belowV
  simp
theorem share_move_ok (h1 : 2 < q) (hq : q ≤ 65537) (n t : Int) (f xs : List (Fin q)) (s : Fin q) (l : List Int) (hf : f.length ≤ 201) (hx : xs.length ≤ 1000) (hl : l.length ≤ 1000) (hxs : (l.map fun x => IntKind.u64.wrap x) = oI xs) (hc : corrV (q : Int) n t l = 0) : Ev (fun k => share_Move.f k (q : Int) n t (oI f) l (nI s)) (oI (movedF f xs s), 0) := by
  obtain ⟨b1, b2, b3⟩ := move_sizes f xs s (by omega) hx
  have hi : isV (q : Int) [oI f, [nI s]] = 0 := by
    have hw : withinV (q : Int) (oI f) = 0 := by
      rw [withinV_ne _ _ (by rw [oI_length]; exact hf)]
      unfold belowV
      rw [if_pos (fun x hx => (oI_range f x hx).2)]
    rw [isV_two, if_pos hw, if_pos (nI_range s).2]
  unfold share_Move.f
  refine Ev.bind (share_corr _ _ _ l (by simp only [maxLen]; omega)) ?_
  simp only [hc, if_true]
  refine Ev.bind (poly_is (q : Int) _ (by simp) (fun g hg => ?_) (setupV_ok (corrV_zero hc).1).1) ?_
  · rcases List.mem_cons.1 hg with rfl | hg
    · rw [oI_length]; simp only [maxLen]; omega
    · rw [List.mem_singleton.1 hg]; simp [maxLen]
  simp only [hi, if_true]
  refine Ev.bind (share_places l (by omega)) ?_
  rw [hxs]
  refine Ev.bind (gone_rows h1 hq xs hx) ?_
  have he := at_rows hq f 0
  rw [nI_zero] at he
  rw [he]
  refine Ev.bind (Ev.now _) ?_
  rw [minus_fp hq]
  refine Ev.bind (Ev.now _) ?_
  exact Ev.bind (by_rows hq _ _ (by omega)) (Ev.bind (plus_rows hq f _ (by omega) (by omega)) (Ev.now _))
end
end Go.Proofs.Ytjjnfobeeflnhaa.L

/- Both ways to divide with rest answer alike, and what they answer. -/
namespace Go.Proofs.Ytjjnfobeeflnhaa.L
open Go.RowKit Go.Proofs.YtjjnfobeeflnhaaW.PrintWords Go.Proofs.Ytjjnfobeeflnhaa.J
set_option linter.unusedVariables false
set_option linter.unusedSimpArgs false

theorem pr_of_isP {q : Nat} (h : isP (q : Int) = true) : Fld.Pr q := by
  obtain ⟨h1, h2, h3⟩ := (isP_iff _).1 h
  refine Fld.pr_of_trial (by omega) fun d hd hdd h0 => h3 (d : Int) (by omega) (by exact_mod_cast hdd) (by exact_mod_cast h0)

section
variable {q : Nat} [NeZero q]
/-! the program's -/
/-! the reference's -/
end

end Go.Proofs.Ytjjnfobeeflnhaa.L

/- The statement ShareThere as plain Lean. -/
namespace Go.Proofs.Ytjjnfobeeflnhaa.L
open Go.RowKit Go.Proofs.YtjjnfobeeflnhaaW.PrintWords Go.Proofs.Ytjjnfobeeflnhaa.J
set_option linter.unusedVariables false
set_option linter.unusedSimpArgs false

section
variable {q : Nat} [NeZero q]
theorem gone_first : ∀ (xs f : List (Fin q)), Fld.co (gone f xs) 0 = Fld.co f 0
  | [], f => rfl
  | x :: xs, f => by
    rw [gone, gone_first xs, Fld.trim_co _ 0, Fld.co_mul]
    unfold Fld.cv
    show (0 : Fin q) + Fld.co f 0 * Fld.co [1, 0 - Fld.inv x] (0 - 0) = _
    rw [Nat.sub_zero, Fld.co_cons_zero]; grind
theorem at_first (f : List (Fin q)) : Fld.ev f 0 = Fld.co f 0 := by
  cases f with
  | nil => rw [Fld.ev_nil, Fld.co_nil]
  | cons a f => rw [Fld.ev_cons, Fld.co_cons_zero]; grind
theorem gone_one (xs : List (Fin q)) : Fld.ev (gone [1] xs) 0 = 1 := by rw [at_first, gone_first, Fld.co_cons_zero]
theorem gone_keeps : ∀ (xs f : List (Fin q)) (z : Fin q), Fld.ev f z = 0 → Fld.ev (gone f xs) z = 0
  | [], f, z, h => h
  | x :: xs, f, z, h => by
    rw [gone]
    refine gone_keeps xs _ z ?_
    rw [(Fld.trim_co _).ev, Fld.ev_mul, h]; grind
theorem gone_root (hp : Fld.Pr q) : ∀ (xs f : List (Fin q)) (z : Fin q), z ∈ xs → z ≠ 0 → Fld.ev (gone f xs) z = 0
  | x :: xs, f, z, h, h0 => by
    rw [gone]
    by_cases e : z = x
    · subst e
      refine gone_keeps xs _ z ?_
      have hi := Fld.inv_mul hp h0
      rw [(Fld.trim_co _).ev, Fld.ev_mul, Fld.ev_cons, Fld.ev_cons, Fld.ev_nil]
      generalize Fld.inv z = v at hi
      grind
    · refine gone_root hp xs _ z ?_ h0
      rcases List.mem_cons.1 h with h | h
      · exact absurd h e
      · exact h
theorem moved_co (f xs : List (Fin q)) (s : Fin q) (i : Nat) : Fld.co (movedF f xs s) i = Fld.co f i + (s - Fld.ev f 0) * Fld.co (gone [1] xs) i := by
  unfold movedF
  rw [Fld.trim_co _ i, Fld.co_add, Fld.trim_co _ i, Fld.co_smul]
theorem moved_ev (f xs : List (Fin q)) (s z : Fin q) : Fld.ev (movedF f xs s) z = Fld.ev f z + (s - Fld.ev f 0) * Fld.ev (gone [1] xs) z := by
  unfold movedF
  rw [(Fld.trim_co _).ev, Fld.ev_add, (Fld.trim_co _).ev, Fld.ev_smul]
theorem moved_first (f xs : List (Fin q)) (s : Fin q) : Fld.ev (movedF f xs s) 0 = s := by
  rw [moved_ev, gone_one]; grind
theorem moved_same (hp : Fld.Pr q) (f xs : List (Fin q)) (s z : Fin q) (h : z ∈ xs) (h0 : z ≠ 0) : Fld.ev (movedF f xs s) z = Fld.ev f z := by
  rw [moved_ev, gone_root hp xs [1] z h h0]; grind
theorem moved_back (f xs : List (Fin q)) (s : Fin q) : movedF (movedF f xs s) xs (Fld.ev f 0) = Fld.trim f := by
  have e : Fld.trim (movedF (movedF f xs s) xs (Fld.ev f 0)) = movedF (movedF f xs s) xs (Fld.ev f 0) := Fld.trim_trim _
  rw [← e]
  refine Fld.trim_congr fun i => ?_
  rw [moved_co, moved_co, moved_first]; grind
theorem moved_length (f xs : List (Fin q)) (s : Fin q) : (movedF f xs s).length ≤ max (Fld.trim f).length (xs.length + 1) := by
  have hg := gone_length xs [1]
  rw [List.length_singleton] at hg
  have e : Fld.trim (movedF f xs s) = movedF f xs s := Fld.trim_trim _
  rw [← e]
  refine Fld.trim_length_of fun i hi => ?_
  rw [moved_co, Fld.co_ge (f := gone [1] xs) (by omega), ← Fld.trim_co f i, Fld.co_ge (f := Fld.trim f) (by omega)]; grind

theorem there_out (p n t s : Int) (f l : List Int) : Ev (fun k => juntolaw04_ShareThere.j0 k true p n t f l s) true := by
  refine Ev.step (fun k => by (conv => lhs; simp only [juntolaw04_ShareThere.j0, if_true]); first | done | rfl) ?_
  exact Ev.bind alive04 (Ev.now _)

theorem there_loop (hp : Fld.Pr q) (hq : q ≤ 65537) (f g xs : List (Fin q)) (n : Nat) (hn : n < q) (hx : ∀ c ∈ oI xs, 0 < c ∧ c ≤ (n : Int)) (hs : xs.length ≤ 1000) (h : ∀ z ∈ xs, z ≠ 0 → Fld.ev g z = Fld.ev f z) (m : Nat) : ∀ i : Nat, i + m = xs.length →
    Ev (fun k => juntolaw04_ShareThere.l0 k (oI (sharesF f n)) (oI (sharesF g n)) (oI xs) (xs.length : Int) (i : Int)) true := by
  induction m with
  | zero =>
    intro i hi
    refine Ev.step (fun k => by (conv => lhs; simp only [juntolaw04_ShareThere.l0]; rw [if_neg (by omega)]); first | done | rfl) ?_
    exact Ev.bind alive04 (Ev.now _)
  | succ m ih =>
    intro i hi
    have hw : wrap64 ((i : Int) + 1) = ((i + 1 : Nat) : Int) := by rw [w64_small (by omega) (by omega)]; omega
    have hm : Fld.co xs i ∈ xs := by rw [Fld.co_lt (by omega)]; exact List.getElem_mem _
    have hc := hx _ (List.mem_map.2 ⟨_, hm, rfl⟩)
    obtain ⟨a, ha⟩ : ∃ a : Nat, nI (Fld.co xs i) = ((a : Nat) : Int) + 1 := ⟨(nI (Fld.co xs i) - 1).toNat, by omega⟩
    have han : a < n := by omega
    have hpt : pt q a = Fld.co xs i := nI_inj (by rw [nI_pt (by omega), ha])
    have hne : Fld.co xs i ≠ 0 := fun e => by rw [e, nI_zero] at ha; omega
    have hv : ∀ u : List (Fin q), rd (oI (sharesF u n)) (a : Int) = nI (Fld.ev u (Fld.co xs i)) := fun u => by
      rw [rd_oI, sharesF, Fld.co_mk, if_pos han, hpt]
    have hr : wrap64 (rd (oI xs) (i : Int) - 1) = (a : Int) := by rw [rd_oI, ha, w64_small (by omega) (by omega)]; omega
    refine Ev.step (f := fun k => juntolaw04_ShareThere.l0 k (oI (sharesF f n)) (oI (sharesF g n)) (oI xs) (xs.length : Int) ((i + 1 : Nat) : Int)) (fun k => ?_) (ih (i + 1) (by omega))
    have hl : ∀ u : List (Fin q), (oI (sharesF u n)).length = n := fun u => by rw [oI_length, sharesF, Fld.mk_length]
    conv => lhs; simp only [juntolaw04_ShareThere.l0]
    rw [if_pos (by omega), if_pos (by omega), if_pos (by rw [oI_length]; omega), hr, if_pos (by omega), if_pos (by rw [hl]; omega), if_pos (by rw [hl]; omega), hv, hv, h _ hm hne, if_pos rfl, hw]
end

theorem shareThere (x0_0 : Int) (x0_1 : Int) (x0_2 : Int) (x1_0 : List Int) (x1_1 : List Int) (x1_2 : Int) (w0_0 : (Lit.int .u64 x0_0).wf = true) (w0_1 : (Lit.int .i64 x0_1).wf = true) (w0_2 : (Lit.int .i64 x0_2).wf = true)
    (w1_0 : x1_0.length ≤ maxLen ∧ x1_0.length * 8 ≤ 140737488351232 ∧ ∀ x1_0' ∈ x1_0, (Lit.int .u64 x1_0').wf = true) (w1_1 : x1_1.length ≤ maxLen ∧ x1_1.length * 8 ≤ 140737488351232 ∧ ∀ x1_1' ∈ x1_1, (Lit.int .i64 x1_1').wf = true) (w1_2 : (Lit.int .u64 x1_2).wf = true) : ∃ k, juntolaw04_ShareThere.f k x0_0 x0_1 x0_2 x1_0 x1_1 x1_2 = some true := by
  suffices h : Ev (fun k => juntolaw04_ShareThere.f k x0_0 x0_1 x0_2 x1_0 x1_1 x1_2) true from h.rounds
  have hu : ∀ c ∈ x1_0, 0 ≤ c := fun c hc => (u64_wf (w1_0.2.2 c hc)).1
  have hv := (u64_wf w1_2).1
  unfold juntolaw04_ShareThere.f
  refine Ev.bind (ref_corr _ _ _ _ w1_1.1) ?_
  by_cases hc : corrV x0_0 x0_1 x0_2 x1_1 = 0
  · obtain ⟨h0, hlt, hr⟩ := corrV_zero hc
    have hh := setupV_small h0
    simp only [hc, if_true]
    refine Ev.bind (ref_rowok _ _ w1_0.1) ?_
    by_cases hw : withinV x0_0 x1_0 = 0
    · simp only [hw, if_true]
      by_cases hs : x1_2 < x0_0
      · rw [decide_eq_false (show ¬ x1_2 ≥ x0_0 by omega)]
        have hp1 := (setupV_ok h0).1
        obtain ⟨q, rfl⟩ : ∃ q : Nat, x0_0 = (q : Int) := ⟨x0_0.toNat, by omega⟩
        have hz : NeZero q := ⟨by omega⟩
        have hp := pr_of_isP hp1
        obtain ⟨n, rfl⟩ : ∃ n : Nat, x0_1 = (n : Int) := ⟨x0_1.toNat, by omega⟩
        obtain ⟨f, rfl, hf⟩ := rows_of hw hu
        obtain ⟨s, rfl⟩ := nI_of (q := q) hv hs
        have hq : q ≤ 65537 := by omega
        obtain ⟨xs, hxe, hxs, hxl⟩ := places_of (q := q) hr (by omega) hq
        have hml := moved_length f xs s
        have htl := Fld.trim_length_le f
        have hxl2 : (xs.length : Int) ≤ x0_2 := by omega
        have hrm := rise_mem hr
        have e1 := share_move_ok (by omega) hq (n : Int) x0_2 f xs s x1_1 hf (by omega) (by omega) hxs hc
        have e2 := share_move_ok (by omega) hq (n : Int) x0_2 (movedF f xs s) xs (Fld.ev f 0) x1_1 (by omega) (by omega) (by omega) hxs hc
        rw [moved_back] at e2
        have e3 := eval_rows (by omega) hq f 0 (by omega)
        have e4 := eval_rows (by omega) hq (movedF f xs s) 0 (by omega)
        rw [nI_zero] at e3 e4
        rw [moved_first] at e4
        have hcmp : ¬ ((oI (movedF f xs s)).length : Int) > mx ((oI (Fld.trim f)).length : Int) (wrap64 (x0_2 + 1)) := by
          rw [w64_small (by omega) (by omega), oI_length, oI_length]
          unfold mx
          split <;> omega
        have hl : ∀ u : List (Fin q), ((oI (sharesF u n)).length : Int) = (n : Int) := fun u => by rw [oI_length, sharesF, Fld.mk_length]
        refine Ev.step (fun k => by (conv => lhs; simp only [juntolaw04_ShareThere.j0, Bool.false_eq_true, if_false]); first | done | rfl) ?_
        refine Ev.bind e1 (Ev.bind e3 (Ev.bind e2 (Ev.bind (share_shares_ok hq f hf n x0_2 h0) (Ev.bind (share_shares_ok hq (movedF f xs s) (by omega) n x0_2 h0) ?_))))
        simp only [if_true]
        refine Ev.bind (trim_fp f (by omega)) (Ev.bind (same_self _ (by rw [oI_length]; simp only [maxLen]; omega)) ?_)
        simp only [if_true]
        refine Ev.bind e4 ?_
        simp only [if_true]
        refine Ev.bind (trim_fp f (by omega)) ?_
        simp only [hcmp, if_false, hl, if_true, bne_self_eq_false]
        refine Ev.step (fun k => by (conv => lhs; simp only [juntolaw04_ShareThere.j1, Bool.false_eq_true, if_false]); first | done | rfl) ?_
        have hlp := there_loop hp hq f (movedF f xs s) xs n (by omega) (by rw [hxe]; exact hrm) (by omega) (fun z hz1 hz2 => moved_same hp f xs s z hz1 hz2) xs.length 0 (by omega)
        rw [hxe, hxl] at hlp
        exact hlp
      · rw [decide_eq_true (show x1_2 ≥ x0_0 by omega)]
        exact there_out _ _ _ _ _ _
    · simp only [hw, if_false]
      exact there_out _ _ _ _ _ _
  · simp only [hc, if_false]
    exact there_out _ _ _ _ _ _

end Go.Proofs.Ytjjnfobeeflnhaa.L

/- The row of ShareThere: for every input the call returns true and changes nothing; no conditions. Out of the contract of the function and the plain law. -/
namespace Go.Proofs.Ytjjnfobeeflnhaa.shareThere
open Go.ChangeShapes Go.WideShapes Go.ChangeAt Go.RowKit Go.Proofs.YtjjnfobeeflnhaaW.PrintWords Go.Proofs.Ytjjnfobeeflnhaa.J Go.Proofs.Ytjjnfobeeflnhaa.Op
set_option linter.unusedVariables false
theorem own : ownKnob Try.prog.godebug = none := by kernel_rfl
theorem laidOut : laidOutB Try.prog = true := by kernel_rfl
set_option maxRecDepth 100000 in
theorem op0 : Opens Try.prog (Kd.pair (Kd.int .u64) (Kd.pair (Kd.int .i64) (Kd.int .i64))) 24 (fun x => (fun n => (Lit.int .u64 n).wf = true) x.1 ∧ (fun x => (fun n => (Lit.int .i64 n).wf = true) x.1 ∧ (fun n => (Lit.int .i64 n).wf = true) x.2) x.2) := (op_agg Try.underlying24 (opL_cons (by kernel_rfl) (by kernel_rfl) (op_int Try.underlying22) (by kernel_rfl) (opL_cons (by kernel_rfl) (by kernel_rfl) (op_int Try.underlying3) (by kernel_rfl) (opL_one (by kernel_rfl) (by kernel_rfl) (op_int Try.underlying3)))))
set_option maxRecDepth 100000 in
theorem op1 : Opens Try.prog (Kd.pair (Kd.slice 22 (Kd.int .u64)) (Kd.pair (Kd.slice 3 (Kd.int .i64)) (Kd.int .u64))) 77 (fun x => (fun l => l.length ≤ maxLen ∧ l.length * 8 ≤ 140737488351232 ∧ ∀ a ∈ l, (fun n => (Lit.int .u64 n).wf = true) a) x.1 ∧ (fun x => (fun l => l.length ≤ maxLen ∧ l.length * 8 ≤ 140737488351232 ∧ ∀ a ∈ l, (fun n => (Lit.int .i64 n).wf = true) a) x.1 ∧ (fun n => (Lit.int .u64 n).wf = true) x.2) x.2) := (op_agg Try.underlying77 (opL_cons (by kernel_rfl) (by kernel_rfl) (op_slice Try.underlying31 (by kernel_rfl) (by kernel_rfl) (op_int Try.underlying22)) (by kernel_rfl) (opL_cons (by kernel_rfl) (by kernel_rfl) (op_slice Try.underlying63 (by kernel_rfl) (by kernel_rfl) (op_int Try.underlying3)) (by kernel_rfl) (opL_one (by kernel_rfl) (by kernel_rfl) (op_int Try.underlying22)))))
set_option maxRecDepth 100000 in
theorem lifted (os : Os) (started : os.Started) (H : Type) (enc : TypeId × Value → H) :
    ReturnsInHanded {} Try.checked os 16 .any (Rows.shareThereSpec.pre6 enc Try.prog Try.f16 Rows.shareThereRow.domain false) (Rows.shareThereSpec.post enc Try.prog Try.f16 false true false false) := by
  refine returnsInHanded_of_change_sized (C := Try.checked) own started (by kernel_rfl) Try.func16
    (ChangeSpec.witness6 (enc := enc) (C := Try.checked) false ⟨#[], #[.agg #[.int .u64 0, .int .i64 0, .int .i64 0], .agg #[.slice none 0 0, .slice none 0 0, .int .u64 0]], []⟩ 8 (by kernel_rfl) (by kernel_rfl) (by kernel_rfl) (by kernel_rfl)) ?_
  intro W base args ds gs before hval0 hW hcnd hsz0 _
  have hsz : (DataW.weightsEach Try.prog (Try.f16.params.toList ++ Rows.shareThereSpec.plain.varTypes Try.prog) (ds ++ gs)).all (· ≤ reachBytes) = true := hsz0
  have hval : ∀ (j : Nat) t v, Try.f16.params[j]? = some t → args[j]? = some v → Value.okWide Try.prog W .any base t v := hval0
  have hW' := hW
  obtain ⟨p, q, hA0, hV, rfl, hfz, hnd⟩ := hW
  have hA : DataW.TrodAll enc Try.prog W 0 (fun _ => true) true Try.f16.params.toList args.toList ds p := hA0
  rw [Try.params16] at hA hval hsz
  obtain ⟨v0, vs0, d0, ds0, p0, q0, hargs, rfl, rfl, h0, r0⟩ := trodAll_cons hA
  obtain ⟨v1, vs1, d1, ds1, p1, q1, rfl, rfl, rfl, h1, r1⟩ := trodAll_cons r0
  obtain ⟨rfl, rfl, rfl⟩ := trodAll_nil r1
  obtain rfl : args = #[v0, v1] := by cases args; simp_all
  obtain ⟨rfl, rfl⟩ := trodVars_none hV
  have k0 := h0
  have lt0 : ∀ x ∈ p0, x.block < W.heap.size := by obtain ⟨m, hm⟩ := k0; exact DataW.trod_lt m _ _ _ hm
  obtain ⟨cs0, rfl, hn0⟩ := okWide_agg Try.underlying24 (hval 0 24 v0 rfl rfl)
  obtain ⟨⟨x0_0, x0_1, x0_2⟩, K0, ⟨w0_0, w0_1, w0_2⟩⟩ := arg op0 (by show cs0.toList.length = _; rw [Array.length_toList, hn0]; kernel_rfl) h0 hsz (j := 0) rfl rfl
  obtain ⟨g0_0, rg0_0, qg0_0, l0_0, M0_0⟩ := K0
  have l0_0' : g0_0 = [Value.int .u64 x0_0] := l0_0
  obtain ⟨g0_1, rg0_1, qg0_1, l0_1, M0_1⟩ := M0_0
  have l0_1' : g0_1 = [Value.int .i64 x0_1] := l0_1
  have M0_1' : rg0_1 = [Value.int .i64 x0_2] := M0_1
  obtain rfl : cs0 = #[.int .u64 x0_0, .int .i64 x0_1, .int .i64 x0_2] := by
    apply Array.toList_inj.1
    have z0 : cs0.toList = _ := qg0_0
    rw [z0, l0_0', qg0_1, l0_1', M0_1']
    rfl
  have k1 := h1
  have lt1 : ∀ x ∈ p1, x.block < W.heap.size := by obtain ⟨m, hm⟩ := k1; exact DataW.trod_lt m _ _ _ hm
  obtain ⟨cs1, rfl, hn1⟩ := okWide_agg Try.underlying77 (hval 1 77 v1 rfl rfl)
  obtain ⟨⟨x1_0, x1_1, x1_2⟩, K1, ⟨w1_0, w1_1, w1_2⟩⟩ := arg op1 (by show cs1.toList.length = _; rw [Array.length_toList, hn1]; kernel_rfl) h1 hsz (j := 1) rfl rfl
  obtain ⟨g1_0, rg1_0, qg1_0, l1_0, M1_0⟩ := K1
  obtain ⟨A1_0, c1_0, l1_0', hc1_0, hr1_0⟩ := l1_0
  obtain ⟨g1_1, rg1_1, qg1_1, l1_1, M1_1⟩ := M1_0
  obtain ⟨A1_1, c1_1, l1_1', hc1_1, hr1_1⟩ := l1_1
  have M1_1' : rg1_1 = [Value.int .u64 x1_2] := M1_1
  obtain rfl : cs1 = #[.slice A1_0 x1_0.length c1_0, .slice A1_1 x1_1.length c1_1, .int .u64 x1_2] := by
    apply Array.toList_inj.1
    have z1 : cs1.toList = _ := qg1_0
    rw [z1, l1_0', qg1_1, l1_1', M1_1']
    rfl
  clear hA0 hval0 hsz0 hsz
  obtain ⟨k, h⟩ := L.shareThere x0_0 x0_1 x0_2 x1_0 x1_1 x1_2 w0_0 w0_1 w0_2 w1_0 w1_1 w1_2
  refine (juntolaw04_ShareThere.calls k x0_0 x0_1 x0_2 _ _ x1_0 _ _ x1_1 x1_2 true W hr1_0 hc1_0 hr1_1 hc1_1 h).mono fun e W' ⟨he, bel⟩ => ?_
  subst he
  exact ⟨_, rfl, _, _, _, [], _, [], hW', trodAll_mk1 (shut_bool Try.underlying4 _), (trodAll_cons_mk (Below.trod laidOut (by kernel_rfl) (of_decide_eq_true (by kernel_rfl)) k0 bel lt0) (trodAll_cons_mk (Below.trod laidOut (by kernel_rfl) (of_decide_eq_true (by kernel_rfl)) k1 bel lt1) trodAll_mk0)), rfl, bel.frame _, fun h => by cases h⟩
set_option maxRecDepth 100000 in
theorem closed : joinedFacts Try.pinned.checked.prog 16 Try.f16 Rows.shareThereSpec Rows.shareThereRow = true := by
  unfold joinedFacts
  repeat' with_reducible refine Bool.and_eq_true_iff.2 ⟨?_, ?_⟩
  all_goals first
    | with_reducible exact Facts.enters
    | (rw [Facts.final]; kernel_rfl)
    | (rw [Facts.made]; kernel_rfl)
    | kernel_rfl
theorem over : Rows.shareThereRow.holds Try.pinned (OpenSpec.ofChange Rows.shareThereSpec) :=
  OpenClaim.holds_of_wide 16 Try.f16 rfl rfl rfl rfl rfl rfl rfl ⟨rfl, rfl, rfl, rfl, rfl⟩ rfl rfl rfl rfl rfl (by kernel_rfl) Try.func16 closed
    (of_decide_eq_true (by kernel_rfl)) (by unfold Func.isWrapper; first | (rw [if_pos (by decide +kernel)]; kernel_rfl) | (rw [if_neg (by decide +kernel)]; exact ⟨rfl, rfl⟩))
    (fun os started H enc _ => lifted os started H enc)
theorem proved : Rows.ShareThereSaid := over
#print axioms proved
end Go.Proofs.Ytjjnfobeeflnhaa.shareThere
namespace Go.Proofs.Ytjjnfobeeflnhaa
/-- The row, under a short name, for the claim. -/
theorem shareThere_holds : Rows.ShareThereSaid := shareThere.proved
end Go.Proofs.Ytjjnfobeeflnhaa
