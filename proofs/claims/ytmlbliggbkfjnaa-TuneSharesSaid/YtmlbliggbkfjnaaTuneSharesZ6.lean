/- Part 6 of the proof of TuneShares: what the functions compute as plain Lean functions, that the machine comes to just these answers, and that the answer is true; no conditions. -/
import Derived.Test.YtmlbliggbkfjnaaTuneSharesZ0
import Derived.Test.YtmlbliggbkfjnaaTuneSharesZ1
import Derived.Test.YtmlbliggbkfjnaaTuneSharesZ2
import Derived.Test.YtmlbliggbkfjnaaTuneSharesZ3
import Derived.Test.YtmlbliggbkfjnaaTuneSharesZ4
import Derived.Test.YtmlbliggbkfjnaaTuneSharesZ5
import Derived.Test.YtmlbliggbkfjnaaRows
import Derived.WalkKit
import Derived.ProofKit
import Derived.OpenShut
import Derived.ShutString
import Derived.ChangeOld
import Derived.Below
import Derived.SizedLaws
set_option linter.unusedSimpArgs false
set_option linter.unusedVariables false
set_option maxRecDepth 100000
/- Both tests of a prime answer alike, and what they answer; loops. -/
namespace Go.Proofs.Ytmlbliggbkfjnaa.L
open Go.RowKit Go.Proofs.YtmlbliggbkfjnaaW.PrintWords Go.Proofs.Ytmlbliggbkfjnaa.J
theorem u64_small {n : Int} (h0 : 0 ≤ n) (h1 : n < 18446744073709551616) : IntKind.u64.wrap n = n := by
  simp [IntKind.wrap, IntKind.signed, IntKind.bits]
  omega
theorem w64_small {n : Int} (h0 : -9223372036854775808 ≤ n) (h1 : n < 9223372036854775808) : wrap64 n = n := by
  unfold wrap64
  omega
def free (a : Int) : Prop := ∀ y : Fin 257, 2 ≤ y.val → ((y.val : Int) * (y.val : Int)) ≤ a → a % (y.val : Int) ≠ 0
def isP (a : Int) : Bool := decide (3 ≤ a ∧ a ≤ 65537 ∧ ∀ y : Fin 257, 2 ≤ y.val → ((y.val : Int) * (y.val : Int)) ≤ a → a % (y.val : Int) ≠ 0)
theorem free_of {a : Int} (h : a ≤ 65537) (hf : ∀ y : Fin 257, 2 ≤ y.val → ((y.val : Int) * (y.val : Int)) ≤ a → a % (y.val : Int) ≠ 0) (y : Int) (h2 : 2 ≤ y) (hy : y * y ≤ a) : a % y ≠ 0 := by
  have hb : y < 257 := by
    rcases Int.lt_or_le y 257 with h' | h'
    · exact h'
    · have : 257 * 257 ≤ y * y := Int.mul_le_mul h' h' (by omega) (by omega)
      omega
  have := hf ⟨y.toNat, by omega⟩ (show 2 ≤ y.toNat by omega);simp only at this;rw [show ((y.toNat : Nat) : Int) = y by omega] at this;exact this hy
theorem isP_iff (a : Int) : isP a = true ↔ 3 ≤ a ∧ a ≤ 65537 ∧ ∀ y : Int, 2 ≤ y → y * y ≤ a → a % y ≠ 0 := by
  unfold isP;rw [decide_eq_true_iff]
  constructor
  · rintro ⟨h1, h2, h3⟩
    exact ⟨h1, h2, fun y hy => free_of h2 h3 y hy⟩
  · rintro ⟨h1, h2, h3⟩
    exact ⟨h1, h2, fun y hy hq => h3 y.val (by omega) hq⟩
theorem sq_small {x : Int} (h0 : 0 ≤ x) (h1 : x ≤ 300) : 0 ≤ x * x ∧ x * x ≤ 90000 :=
  ⟨Int.mul_nonneg h0 h0, Int.mul_le_mul h1 h1 h0 (by omega)⟩
theorem ref_loop (a : Int) (h3 : 3 ≤ a) (ha : a ≤ 65537) : ∀ (m : Nat) (x : Int), 2 ≤ x → x + m = 258 → (∀ y : Int, 2 ≤ y → y < x → y * y ≤ a → a % y ≠ 0) → Ev (fun k => qla.l0 k a x) (isP a)
  | 0, x, h2, hx, hy => by
    have hb : isP a = true := (isP_iff a).2 ⟨h3, ha, fun y y2 yq => hy y y2 (by
      rcases Int.lt_or_le y x with h' | h'
      · exact h'
      · have : 257 * 257 ≤ y * y := Int.mul_le_mul (by omega) (by omega) (by omega) (by omega)
        omega) yq⟩
    rw [hb];refine Ev.step (f := fun k => some true) (fun k => ?_) (Ev.now _);have hq := sq_small (x := x) (by omega) (by omega)
    have : ¬ (x * x ≤ a) := by
      have : 257 * 257 ≤ x * x := Int.mul_le_mul (by omega) (by omega) (by omega) (by omega)
      omega
    simp only [qla.l0];rw [u64_small hq.1 (by omega), if_neg this]
  | m + 1, x, h2, hx, hy => by
    have hq := sq_small (x := x) (by omega) (by omega)
    by_cases hle : x * x ≤ a
    · by_cases hd : a % x = 0
      · have hb : isP a = false := by
          rw [Bool.eq_false_iff];intro h';exact ((isP_iff a).1 h').2.2 x h2 hle hd
        rw [hb];refine Ev.step (f := fun k => some false) (fun k => ?_) (Ev.now _);simp only [qla.l0];rw [u64_small hq.1 (by omega), if_pos hle, if_neg (show ¬ x = 0 by omega), if_pos (by rw [Int.tmod_eq_emod_of_nonneg (by omega)]; exact hd)]
      · refine Ev.step (f := fun k => qla.l0 k a (x + 1)) (fun k => ?_) (ref_loop a h3 ha m (x + 1) (by omega) (by omega) fun y y2 yx yq => ?_)
        · conv => lhs; simp only [qla.l0]
          rw [u64_small hq.1 (by omega), if_pos hle, if_neg (show ¬ x = 0 by omega), if_neg (by rw [Int.tmod_eq_emod_of_nonneg (by omega)]; exact hd), u64_small (show 0 ≤ x + 1 by omega) (by omega)]
        · rcases Int.lt_or_le y x with h' | h'
          · exact hy y y2 h' yq
          · obtain rfl : y = x := by omega
            exact hd
    · have hb : isP a = true := (isP_iff a).2 ⟨h3, ha, fun y y2 yq => hy y y2 (by
        rcases Int.lt_or_le y x with h' | h'
        · exact h'
        · have : x * x ≤ y * y := Int.mul_le_mul h' h' (by omega) (by omega)
          omega) yq⟩
      rw [hb];refine Ev.step (f := fun k => some true) (fun k => ?_) (Ev.now _);simp only [qla.l0];rw [u64_small hq.1 (by omega), if_neg hle]
theorem odd_loop (a : Int) (h3 : 3 ≤ a) (ha : a ≤ 65537) (hodd : a % 2 = 1) : ∀ (m : Nat) (x : Int), 3 ≤ x → x % 2 = 1 → x + 2 * m = 259 → (∀ y : Int, 2 ≤ y → y < x → y * y ≤ a → a % y ≠ 0) → Ev (fun k => qoa.l0 k a x) (isP a)
  | 0, x, h2, hxo, hx, hy => by
    have hb : isP a = true := (isP_iff a).2 ⟨h3, ha, fun y y2 yq => hy y y2 (by
      rcases Int.lt_or_le y x with h' | h'
      · exact h'
      · have : 257 * 257 ≤ y * y := Int.mul_le_mul (by omega) (by omega) (by omega) (by omega)
        omega) yq⟩
    rw [hb];refine Ev.step (f := fun k => some true) (fun k => ?_) (Ev.now _);have hq := sq_small (x := x) (by omega) (by omega)
    have : ¬ (x * x ≤ a) := by
      have : 257 * 257 ≤ x * x := Int.mul_le_mul (by omega) (by omega) (by omega) (by omega)
      omega
    simp only [qoa.l0];rw [u64_small hq.1 (by omega), if_neg this]
  | m + 1, x, h2, hxo, hx, hy => by
    have hq := sq_small (x := x) (by omega) (by omega)
    by_cases hle : x * x ≤ a
    · by_cases hd : a % x = 0
      · have hb : isP a = false := by
          rw [Bool.eq_false_iff];intro h';exact ((isP_iff a).1 h').2.2 x (by omega) hle hd
        rw [hb];refine Ev.step (f := fun k => some false) (fun k => ?_) (Ev.now _);simp only [qoa.l0];rw [u64_small hq.1 (by omega), if_pos hle, if_neg (show ¬ x = 0 by omega), if_pos (by rw [Int.tmod_eq_emod_of_nonneg (by omega)]; exact hd)]
      · refine Ev.step (f := fun k => qoa.l0 k a (x + 2)) (fun k => ?_) (odd_loop a h3 ha hodd m (x + 2) (by omega) (by omega) (by omega) fun y y2 yx yq => ?_)
        · conv => lhs; simp only [qoa.l0]
          rw [u64_small hq.1 (by omega), if_pos hle, if_neg (show ¬ x = 0 by omega), if_neg (by rw [Int.tmod_eq_emod_of_nonneg (by omega)]; exact hd), u64_small (show 0 ≤ x + 2 by omega) (by omega)]
        · rcases Int.lt_or_le y x with h' | h'
          · exact hy y y2 h' yq
          · rcases Int.lt_or_le x y with h'' | h''
            · obtain rfl : y = x + 1 := by omega
              intro h0;have h1 : (2 : Int) ∣ a := Int.dvd_trans (Int.dvd_of_emod_eq_zero (by omega)) (Int.dvd_of_emod_eq_zero h0);have := Int.emod_eq_zero_of_dvd h1
              omega
            · obtain rfl : y = x := by omega
              exact hd
    · have hb : isP a = true := (isP_iff a).2 ⟨h3, ha, fun y y2 yq => hy y y2 (by
        rcases Int.lt_or_le y x with h' | h'
        · exact h'
        · have : x * x ≤ y * y := Int.mul_le_mul h' h' (by omega) (by omega)
          omega) yq⟩
      rw [hb];refine Ev.step (f := fun k => some true) (fun k => ?_) (Ev.now _);simp only [qoa.l0];rw [u64_small hq.1 (by omega), if_neg hle]
theorem not_isP {a : Int} (h : ¬ (3 ≤ a ∧ a ≤ 65537)) : isP a = false := by
  rw [Bool.eq_false_iff];intro h';have := (isP_iff a).1 h';exact h ⟨this.1, this.2.1⟩
theorem ref_is (a : Int) : Ev (fun k => qla.f k a) (isP a) := by
  by_cases h3 : a < 3
  · rw [not_isP (by omega)]
    refine Ev.step (f := fun k => some false) (fun k => ?_) (Ev.now _);simp [qla.f, qla.j0, h3]
  · by_cases hb : a > 65537
    · rw [not_isP (by omega)]
      refine Ev.step (f := fun k => some false) (fun k => ?_) (Ev.now _);simp [qla.f, qla.j0, h3, hb]
    · refine Ev.step (f := fun k => qla.l0 k a 2) (fun k => ?_) (ref_loop a (by omega) (by omega) 256 2 (by omega) (by omega) fun y y2 yx => by omega)
      simp [qla.f, qla.j0, h3, hb]
theorem field_is (a : Int) : Ev (fun k => qoa.f k a) (isP a) := by
  by_cases h3 : a < 3
  · rw [not_isP (by omega)]
    refine Ev.step (f := fun k => some false) (fun k => ?_) (Ev.now _);simp [qoa.f, qoa.j0, h3]
  · by_cases hb : a > 65537
    · rw [not_isP (by omega)]
      refine Ev.step (f := fun k => some false) (fun k => ?_) (Ev.now _);simp [qoa.f, qoa.j0, h3, hb]
    · by_cases ho : a % 2 = 0
      · have hp : isP a = false := by
          rw [Bool.eq_false_iff];intro h';exact ((isP_iff a).1 h').2.2 2 (by omega) (by omega) ho
        rw [hp];refine Ev.step (f := fun k => some false) (fun k => ?_) (Ev.now _)
        have ht : Int.tmod a 2 = 0 := by rw [Int.tmod_eq_emod_of_nonneg (by omega)]; exact ho
        simp [qoa.f, qoa.j0, h3, hb, ht]
      · refine Ev.step (f := fun k => qoa.l0 k a 3) (fun k => ?_) (odd_loop a (by omega) (by omega) (by omega) 128 3 (by omega) (by omega) (by omega) fun y y2 yx yq => ?_)
        · have ht : ¬ Int.tmod a 2 = 0 := by rw [Int.tmod_eq_emod_of_nonneg (by omega)]; exact ho
          simp [qoa.f, qoa.j0, h3, hb, ht]
        · obtain rfl : y = 2 := by omega
          exact ho
theorem Ev.fuel {α : Type} {g : Nat → Option α} {r : α} (n : Nat) (h : ∀ k, g (k + n) = some r) : Ev g r :=
  ⟨n, fun k hk => by obtain ⟨m, rfl⟩ := Nat.exists_eq_add_of_le hk; rw [Nat.add_comm]; exact h m⟩
theorem Ev.steps {α : Type} {g f : Nat → Option α} {r : α} (n : Nat) (h : ∀ k, g (k + n) = f k) (hf : Ev f r) : Ev g r := by
  obtain ⟨K, hK⟩ := hf;exact ⟨K + n, fun k hk => by obtain ⟨m, rfl⟩ := Nat.exists_eq_add_of_le hk; rw [show K + n + m = (K + m) + n by omega, h]; exact hK _ (by omega)⟩
theorem up {α : Type} {g : Nat → Nat → Option α} {R : Nat → α} {n : Nat} (last : Ev (fun k => g k n) (R n)) (step : ∀ i, i < n → Ev (fun k => g k (i + 1)) (R (i + 1)) → Ev (fun k => g k i) (R i)) : ∀ m i : Nat, i + m = n → Ev (fun k => g k i) (R i)
  | 0, i, h => by obtain rfl : i = n := by omega
                  exact last
  | m + 1, i, h => step i (by omega) (up last step m (i + 1) (by omega))
theorem up0 {α : Type} {g : Nat → Nat → Option α} {R : Nat → α} {n : Nat} (last : Ev (fun k => g k n) (R n)) (step : ∀ i, i < n → Ev (fun k => g k (i + 1)) (R (i + 1)) → Ev (fun k => g k i) (R i)) : Ev (fun k => g k 0) (R 0) := up last step n 0 (by omega)
theorem wadd {i : Nat} (h : i < 9223372036854775807) : wrap64 ((i : Int) + 1) = ((i + 1 : Nat) : Int) := by rw [w64_small (by omega) (by omega)]; omega
theorem u64_wf {n : Int} (h : (Lit.int .u64 n).wf = true) : 0 ≤ n ∧ n < 18446744073709551616 := by
  simp [Lit.wf, IntKind.min, IntKind.max, IntKind.signed, IntKind.bits] at h
  omega
end Go.Proofs.Ytmlbliggbkfjnaa.L
/- Both checks of a circuit answer alike, and what they answer. -/
namespace Go.Proofs.Ytmlbliggbkfjnaa.L
open Go.RowKit Go.Proofs.YtmlbliggbkfjnaaW.PrintWords Go.Proofs.Ytmlbliggbkfjnaa.J
def gateV (p s i : Int) (g : S61) : Int :=
  if g.f0 = 1 then (if g.f2 ≠ 0 ∨ g.f3 ≠ 0 then 4 else if g.f1 < 0 ∨ g.f1 ≥ s then 13 else 0)
  else if g.f0 = 2 then (if g.f1 ≠ 0 ∨ g.f2 ≠ 0 then 4 else if g.f3 ≥ p then 2 else 0)
  else if g.f0 = 3 ∨ g.f0 = 4 ∨ g.f0 = 5 then (if g.f3 ≠ 0 then 4 else if g.f1 < 0 ∨ g.f1 ≥ i ∨ g.f2 < 0 ∨ g.f2 ≥ i then 13 else 0)
  else if g.f0 = 6 then (if g.f2 ≠ 0 then 4 else if g.f1 < 0 ∨ g.f1 ≥ i then 13 else if g.f3 ≥ p then 2 else 0)
  else 4
theorem gateV_ok {p s i : Int} {g : S61} (h3 : 0 ≤ g.f3) : gateV p s i g = 0 ↔ okG p s i g := by
  unfold gateV okG
  split
  · split
    · simp; omega
    · split
      · simp; omega
      · simp; omega
  split
  · split
    · simp; omega
    · split
      · simp; omega
      · simp; omega
  split
  · split
    · simp; omega
    · split
      · simp; omega
      · simp; omega
  split
  · split
    · simp; omega
    · split
      · simp; omega
      · split
        · simp; omega
        · simp; omega
  · simp; omega
theorem within_is (b s : Int) : circ_Gate_1.f b s = some (!decide (b < 0 ∨ b ≥ s)) := by
  unfold circ_Gate_1.f
  by_cases h : b < 0
  · rw [if_neg (by omega)]; simp [h]
  · rw [if_pos (by omega)]
    by_cases h' : b < s
    · have : ¬ (b < 0 ∨ b ≥ s) := by omega
      simp [this, h']
    · have : (b < 0 ∨ b ≥ s) := by omega
      simp [this, h']
theorem circ_gate (p s i : Int) (g : S61) (hp : 0 < p) : Ev (fun k => circ_Gate.f k p s i g.f0 g.f1 g.f2 g.f3) (gateV p s i g) := by
  refine Ev.fuel 10 fun k => ?_
  unfold gateV;obtain ⟨a, b, c, d⟩ := g;simp only
  have hp' : ¬ p ≤ 0 := by omega
  by_cases h1 : a = 1
  · subst h1
    have e := within_is b s
    by_cases hb : b < 0 ∨ b ≥ s
    · rw [decide_eq_true hb] at e
      by_cases hc : c = 0 <;> by_cases hd : d = 0 <;> simp only [circ_Gate.f, circ_named.f, circ_Gate.j0, circ_Gate.j1, e, if_pos hb] <;> simp [hc, hd, hp']
    · rw [decide_eq_false hb] at e
      by_cases hc : c = 0 <;> by_cases hd : d = 0 <;> simp only [circ_Gate.f, circ_named.f, circ_Gate.j0, circ_Gate.j1, e, if_neg hb] <;> simp [hc, hd, hp']
  by_cases h2 : a = 2
  · subst h2
    by_cases hb : b = 0 <;> by_cases hc : c = 0 <;> by_cases hd : d ≥ p <;> simp [circ_Gate.f, circ_named.f, circ_Gate.j0, circ_Gate.j1, hb, hc, hd]
  by_cases h3 : a = 3 ∨ a = 4 ∨ a = 5
  · have e : circ_named.f (k + 10) a = some (false, true, true, false, true) := by
      rcases h3 with rfl | rfl | rfl <;> simp [circ_named.f, circ_named.j0]
    rw [if_neg h1, if_neg h2, if_pos h3];unfold circ_Gate.f;rw [e];have e1 := within_is b i;have e2 := within_is c i
    by_cases hb : b < 0 ∨ b ≥ i
    · rw [decide_eq_true hb] at e1
      have hh : b < 0 ∨ b ≥ i ∨ c < 0 ∨ c ≥ i := by omega
      by_cases hd : d = 0 <;> simp only [circ_Gate.j0, circ_Gate.j1, e1, e2, if_pos hh] <;> simp [hd, hp']
    · rw [decide_eq_false hb] at e1
      by_cases hc : c < 0 ∨ c ≥ i
      · rw [decide_eq_true hc] at e2
        have hh : b < 0 ∨ b ≥ i ∨ c < 0 ∨ c ≥ i := by omega
        by_cases hd : d = 0 <;> simp only [circ_Gate.j0, circ_Gate.j1, e1, e2, if_pos hh] <;> simp [hd, hp']
      · rw [decide_eq_false hc] at e2
        have hh : ¬ (b < 0 ∨ b ≥ i ∨ c < 0 ∨ c ≥ i) := by omega
        by_cases hd : d = 0 <;> simp only [circ_Gate.j0, circ_Gate.j1, e1, e2, if_neg hh] <;> simp [hd, hp']
  by_cases h6 : a = 6
  · subst h6
    have e := within_is b i
    by_cases hb : b < 0 ∨ b ≥ i
    · rw [decide_eq_true hb] at e
      by_cases hc : c = 0 <;> by_cases hd : d ≥ p <;> simp only [circ_Gate.f, circ_named.f, circ_named.j0, circ_Gate.j0, circ_Gate.j1, e, if_pos hb] <;> simp [hc, hd]
    · rw [decide_eq_false hb] at e
      by_cases hc : c = 0 <;> by_cases hd : d ≥ p <;> simp only [circ_Gate.f, circ_named.f, circ_named.j0, circ_Gate.j0, circ_Gate.j1, e, if_neg hb] <;> simp [hc, hd]
  · have e : circ_named.f (k + 10) a = some (false, false, false, false, false) := by
      have h5 : a ≠ 3 ∧ a ≠ 4 ∧ a ≠ 5 := by omega
      simp [circ_named.f, circ_named.j0, h1, h2, h5, h6]
    rw [if_neg h1, if_neg h2, if_neg h3, if_neg h6];unfold circ_Gate.f;rw [e]
    rfl
theorem ref_gate (p s i : Int) (g : S61) : Ev (fun k => qca.f k p s i g.f0 g.f1 g.f2 g.f3) (gateV p s i g) := by
  refine Ev.fuel 10 fun k => ?_
  unfold gateV;obtain ⟨a, b, c, d⟩ := g;simp only
  by_cases h1 : a = 1
  · subst h1
    by_cases hc : c = 0 <;> by_cases hd : d = 0 <;> by_cases hb : b < 0 <;> by_cases hb' : b ≥ s <;> simp [qca.f, qca.j0, qca.j1, qca.j2, qca.j3, qca.j4, hb, hb', hc, hd]
  by_cases h2 : a = 2
  · subst h2
    by_cases hb : b = 0 <;> by_cases hc : c = 0 <;> by_cases hd : d ≥ p <;> simp [qca.f, qca.j0, qca.j1, qca.j2, qca.j3, qca.j4, hb, hc, hd]
  by_cases h3 : a = 3 ∨ a = 4 ∨ a = 5
  · have e : qca.f (k + 10) p s i a b c d = qca.j1 (k + 9) p s i true true false a b c d := by
      rcases h3 with rfl | rfl | rfl <;> simp [qca.f, qca.j0]
    have h1' : ¬ a = 1 := h1;rw [if_neg h1, if_neg h2, if_pos h3, e]
    by_cases hd : d = 0 <;> by_cases hb : b < 0 <;> by_cases hb' : b ≥ i <;> by_cases hc : c < 0 <;> by_cases hc' : c ≥ i <;> simp [qca.j1, qca.j2, qca.j3, qca.j4, h1', hd, hb, hb', hc, hc']
  by_cases h6 : a = 6
  · subst h6
    by_cases hc : c = 0 <;> by_cases hb : b < 0 <;> by_cases hb' : b ≥ i <;> by_cases hd : d ≥ p <;> simp [qca.f, qca.j0, qca.j1, qca.j2, qca.j3, qca.j4, hd, hb, hb', hc]
  · have h5 : a ≠ 3 ∧ a ≠ 4 ∧ a ≠ 5 := by omega
    rw [if_neg h1, if_neg h2, if_neg h3, if_neg h6];simp [qca.f, qca.j0, h1, h2, h5, h6]
def firstE {β : Type} (f : Int → β → Int) : Nat → List β → Int
  | _, [] => 0
  | i, b :: bs => if f i b = 0 then firstE f (i + 1) bs else f i b
theorem firstE_step {β : Type} (f : Int → β → Int) (l : List β) (i : Nat) (h : i < l.length) : firstE f i (l.drop i) = if f i l[i] = 0 then firstE f (i + 1) (l.drop (i + 1)) else f i l[i] := by
  rw [List.drop_eq_getElem_cons h]; rfl
theorem firstE_end {β : Type} (f : Int → β → Int) (l : List β) : firstE f l.length (l.drop l.length) = 0 := by
  rw [List.drop_of_length_le (Nat.le_refl _)]; rfl
theorem firstE_zero {β : Type} (f : Int → β → Int) : ∀ (l : List β) (i : Nat), firstE f i l = 0 ↔ ∀ (j : Nat) b, l[j]? = some b → f ((i + j : Nat) : Int) b = 0
  | [], i => by simp [firstE]
  | b :: l, i => by
    unfold firstE
    constructor
    · intro h j c hc
      split at h
      · rename_i h0
        match j, hc with
        | 0, hc => obtain rfl : b = c := by simpa using hc
                   exact h0
        | j + 1, hc =>
          have := (firstE_zero f l (i + 1)).1 h j c (by simpa using hc);rw [show i + (j + 1) = i + 1 + j by omega]; exact this
      · rename_i h0; exact absurd h h0
    · intro h
      rw [if_pos (show f (i : Int) b = 0 from h 0 b rfl)]
      refine (firstE_zero f l (i + 1)).2 fun j c hc => ?_
      have := h (j + 1) c (by simpa using hc);rw [show i + (j + 1) = i + 1 + j by omega] at this; exact this
def rise (m : Int) : List Int → Bool
  | [] => true
  | x :: xs => decide (m < x ∧ x ≤ 13) && rise x xs
theorem rise_len : ∀ (l : List Int) (m : Int), m ≤ 13 → rise m l = true → (l.length : Int) ≤ 13 - m
  | [], m, h, _ => by simp only [List.length_nil]; omega
  | x :: xs, m, _, h => by
    simp only [rise, Bool.and_eq_true, decide_eq_true_eq] at h;have := rise_len xs x h.1.2 h.2;simp only [List.length_cons]; omega
def badX (n : Int) (l : List Int) : Bool := l.any fun x => decide (x < 0) || decide (x ≥ n)
def exitV (n : Int) (x : S66) : Int := if rise 0 x.f0 = true then (if (x.f1.length : Int) > 1024 then 3 else if badX n x.f1 = true then 13 else 0) else 2
theorem circ_exit (n : Int) (x : S66) (hl : x.f0.length ≤ maxLen) : Ev (fun k => circ_Exit.f k n x.f0 x.f1) (exitV n x) := by
  have hm : x.f0.length ≤ 9223372036854775807 := by simp only [maxLen] at hl; omega
  unfold circ_Exit.f
  have key : ∀ (m i : Nat) (last : Int), i + m = x.f0.length → Ev (fun k => circ_Exit.l0 k last x.f0 (x.f0.length : Int) (i : Int) n x.f0 x.f1) (if rise last (x.f0.drop i) = true then (if (x.f1.length : Int) > 1024 then 3 else if badX n x.f1 = true then 13 else 0) else 2) := by
    intro m
    induction m with
    | zero =>
      intro i last hi;rw [List.drop_of_length_le (by omega)]
      refine Ev.fuel 1 fun k => ?_
      simp only [circ_Exit.l0, rise, if_true];rw [if_neg (by omega)];unfold badX qqa.f
      split
      · rfl
      · simp only [Option.bind_some]
        split <;> rfl
    | succ m ih =>
      intro i last hi
      have hlt : i < x.f0.length := by omega
      have hr : rd x.f0 (i : Int) = x.f0[i] := by simp [rd, List.getD_eq_getElem?_getD, hlt]
      rw [List.drop_eq_getElem_cons hlt]
      by_cases h1 : x.f0[i] ≤ last
      · refine Ev.step (f := fun k => some 2) (fun k => ?_) ?_
        · simp only [circ_Exit.l0]
          rw [if_pos (by omega), if_pos (by omega), if_pos (by omega), hr, if_pos h1]
        · have hf : rise last (x.f0[i] :: x.f0.drop (i + 1)) = false := by
            simp only [rise];rw [show decide (last < x.f0[i] ∧ x.f0[i] ≤ 13) = false by rw [decide_eq_false_iff_not]; omega, Bool.false_and]
          rw [if_neg (by rw [hf]; decide)]; exact Ev.now _
      by_cases h2 : x.f0[i] > 13
      · refine Ev.step (f := fun k => some 2) (fun k => ?_) ?_
        · simp only [circ_Exit.l0]
          rw [if_pos (by omega), if_pos (by omega), if_pos (by omega), hr, if_neg h1, if_pos h2]
        · have hf : rise last (x.f0[i] :: x.f0.drop (i + 1)) = false := by
            simp only [rise];rw [show decide (last < x.f0[i] ∧ x.f0[i] ≤ 13) = false by rw [decide_eq_false_iff_not]; omega, Bool.false_and]
          rw [if_neg (by rw [hf]; decide)]; exact Ev.now _
      · have hd : decide (last < x.f0[i] ∧ x.f0[i] ≤ 13) = true := by simp; omega
        have he : rise last (x.f0[i] :: x.f0.drop (i + 1)) = rise x.f0[i] (x.f0.drop (i + 1)) := by
          simp only [rise];rw [hd, Bool.true_and]
        rw [he];refine Ev.step (f := fun k => circ_Exit.l0 k x.f0[i] x.f0 (x.f0.length : Int) ((i + 1 : Nat) : Int) n x.f0 x.f1) (fun k => ?_) (ih (i + 1) x.f0[i] (by omega));simp only [circ_Exit.l0];rw [if_pos (by omega), if_pos (by omega), if_pos (by omega), hr, if_neg h1, if_neg h2, wadd (by omega)]
  exact key x.f0.length 0 0 (by omega)
theorem ref_rising (l : List Int) (hl : l.length ≤ maxLen) : Ev (fun k => qka.f k 13 l) (rise 0 l) := by
  have hm : l.length ≤ 9223372036854775807 := by simp only [maxLen] at hl; omega
  unfold qka.f
  have key : ∀ (m i : Nat), i + m = l.length → (0 < i → 1 ≤ atI l ((i : Int) - 1)) → Ev (fun k => qka.l0 k 13 l l (l.length : Int) (i : Int)) (rise (if i = 0 then 0 else atI l ((i : Int) - 1)) (l.drop i)) := by
    intro m
    induction m with
    | zero =>
      intro i hi _;rw [List.drop_of_length_le (by omega)]
      refine Ev.fuel 1 fun k => ?_
      simp only [qka.l0, rise];rw [if_neg (by omega)]
    | succ m ih =>
      intro i hi h0
      have hlt : i < l.length := by omega
      have hr : rd l (i : Int) = l[i] := by simp [rd, List.getD_eq_getElem?_getD, hlt]
      have ha : atI l ((i + 1 : Nat) - 1 : Int) = l[i] := by rw [show ((i + 1 : Nat) - 1 : Int) = (i : Int) by omega]; exact hr
      rw [List.drop_eq_getElem_cons hlt];simp only [rise]
      have stop : (l[i] < 1 ∨ l[i] > 13 ∨ (0 < i ∧ atI l ((i : Int) - 1) ≥ l[i])) → Ev (fun k => qka.l0 k 13 l l (l.length : Int) (i : Int)) false := by
        intro hs
        refine Ev.fuel 1 fun k => ?_
        simp only [qka.l0];rw [if_pos (by omega), if_pos (by omega), if_pos (by omega), hr]
        by_cases a1 : l[i] < 1
        · rw [if_pos a1]
        rw [if_neg a1]
        by_cases a2 : l[i] > 13
        · rw [if_pos a2]
        rw [if_neg a2]
        have a3 : 0 < i ∧ atI l ((i : Int) - 1) ≥ l[i] := by omega
        rw [if_pos (by omega), w64_small (by omega) (by omega), if_pos (by omega), if_pos (by omega), if_pos (by exact a3.2)]
      by_cases c : l[i] < 1 ∨ l[i] > 13 ∨ (0 < i ∧ atI l ((i : Int) - 1) ≥ l[i])
      · have e : decide ((if i = 0 then 0 else atI l ((i : Int) - 1)) < l[i] ∧ l[i] ≤ 13) = false := by
          rw [decide_eq_false_iff_not]
          split
          · omega
          · rename_i hne
            have := h0 (by omega)
            omega
        rw [e, Bool.false_and];exact stop c
      · have e : decide ((if i = 0 then 0 else atI l ((i : Int) - 1)) < l[i] ∧ l[i] ≤ 13) = true := by
          rw [decide_eq_true_iff]
          split <;> omega
        rw [e, Bool.true_and];have := ih (i + 1) (by omega) (fun _ => by rw [ha]; omega);rw [if_neg (by omega), ha] at this;refine Ev.step (f := fun k => qka.l0 k 13 l l (l.length : Int) ((i + 1 : Nat) : Int)) (fun k => ?_) this;simp only [qka.l0];rw [if_pos (by omega), if_pos (by omega), if_pos (by omega), hr, if_neg (by omega), if_neg (by omega), wadd (by omega)]
        by_cases hi0 : (i : Int) > 0
        · rw [if_pos hi0, w64_small (by omega) (by omega), if_pos (by omega), if_pos (by omega), if_neg (by show ¬ (atI l ((i : Int) - 1) ≥ l[i]); omega)]
        · rw [if_neg hi0]
  have := key l.length 0 (by omega) (by omega)
  simpa using this
theorem ref_exit (n : Int) (x : S66) (hl : x.f0.length ≤ maxLen) : Ev (fun k => qna.f k n x.f0 x.f1) (exitV n x) := by
  unfold qna.f exitV;refine Ev.bind (ref_rising x.f0 hl) ?_
  by_cases hr : rise 0 x.f0 = true
  · simp only [if_pos hr]
    by_cases h1 : (x.f1.length : Int) > 1024
    · simp only [if_pos h1]; exact Ev.now _
    simp only [if_neg h1]
    refine up0 (g := fun k i => qna.l0 k n x.f1 (x.f1.length : Int) (i : Int)) (R := fun i => if badX n (x.f1.drop i) = true then 13 else 0) (n := x.f1.length) ?_ fun i hi h => ?_
    · rw [List.drop_of_length_le (Nat.le_refl _)]
      refine Ev.fuel 1 fun k => ?_
      simp only [qna.l0];rw [if_neg (by omega)]
      rfl
    · have hr : rd x.f1 (i : Int) = x.f1[i] := by simp [rd, List.getD_eq_getElem?_getD, hi]
      rw [List.drop_eq_getElem_cons hi];unfold badX at h ⊢;rw [List.any_cons]
      by_cases a1 : x.f1[i] < 0
      · refine Ev.fuel 1 fun k => ?_
        simp only [qna.l0];rw [if_pos (by omega), if_pos (by omega), if_pos (by omega), hr, if_pos a1];simp [a1]
      by_cases a2 : x.f1[i] ≥ n
      · refine Ev.fuel 1 fun k => ?_
        simp only [qna.l0];rw [if_pos (by omega), if_pos (by omega), if_pos (by omega), hr, if_neg a1, if_pos a2];simp [a2]
      · rw [show (decide (x.f1[i] < 0) || decide (x.f1[i] ≥ n)) = false by simp; omega, Bool.false_or]
        refine Ev.step (f := fun k => qna.l0 k n x.f1 (x.f1.length : Int) ((i + 1 : Nat) : Int)) (fun k => ?_) h;simp only [qna.l0];rw [if_pos (by omega), if_pos (by omega), if_pos (by omega), hr, if_neg a1, if_neg a2, wadd (by omega)]
  · simp only [if_neg hr]; exact Ev.now _
def badS (s : List S64) : Bool := s.any fun x => decide (x.f0 < 1) || decide (x.f0 > 13)
def checkV (p : Int) (s : List S64) (g : List S61) (x : List S66) : Int :=
  if isP p = true then (if (s.length : Int) > 256 ∨ (g.length : Int) > 65536 ∨ (x.length : Int) > 4096 then 3 else if badS s = true then 2 else
    if firstE (gateV p s.length) 0 g = 0 then firstE (fun _ => exitV g.length) 0 x else firstE (gateV p s.length) 0 g) else 2
theorem rdX_at {x : List S66} {i : Nat} (h : i < x.length) : rd_T66 x (i : Int) = x[i] := by simp [rd_T66, List.getD_eq_getElem?_getD, h]
theorem rdG_get {x : List S61} {i : Nat} (h : i < x.length) : rd_T61 x (i : Int) = x[i] := by simp [rd_T61, List.getD_eq_getElem?_getD, h]
theorem rdS_at {x : List S64} {i : Nat} (h : i < x.length) : rd_T64 x (i : Int) = x[i] := by simp [rd_T64, List.getD_eq_getElem?_getD, h]
theorem circ_check_exits (s : List S64) (g : List S61) (x : List S66) (hx : (x.length : Int) ≤ 4096) (hl : ∀ e ∈ x, e.f0.length ≤ maxLen) : Ev (fun k => circ_Check.l1 k x (x.length : Int) 0 s g x) (firstE (fun _ => exitV g.length) 0 x) := by
  refine up0 (g := fun k i => circ_Check.l1 k x (x.length : Int) (i : Int) s g x) (R := fun i => firstE (fun _ => exitV g.length) i (x.drop i)) (n := x.length) ?_ fun i hi h => ?_
  · rw [firstE_end]
    refine Ev.fuel 1 fun k => ?_
    simp only [circ_Check.l1];rw [if_neg (by omega)]
  · rw [firstE_step _ _ _ hi]
    refine Ev.step (f := fun k => (circ_Exit.f k (g.length : Int) x[i].f0 x[i].f1).bind fun aa => (if aa = 0 then (circ_Check.l1 k x (x.length : Int) ((i + 1 : Nat) : Int) s g x) else (some aa))) (fun k => ?_) (Ev.bind (circ_exit _ x[i] (hl _ (List.getElem_mem hi))) ?_)
    · simp only [circ_Check.l1]
      rw [if_pos (by omega), if_pos (by omega), if_pos (by omega), rdX_at hi, wadd (by omega)]
    · by_cases e : exitV g.length x[i] = 0
      · simp only [if_pos e]; exact h
      · simp only [if_neg e]; exact Ev.now _
theorem circ_check (p : Int) (s : List S64) (g : List S61) (x : List S66) (hl : ∀ e ∈ x, e.f0.length ≤ maxLen) : Ev (fun k => circ_Check.f k p s g x) (checkV p s g x) := by
  unfold circ_Check.f checkV;refine Ev.bind (field_is p) ?_
  by_cases hp : isP p = true
  · simp only [if_pos hp]
    have hp3 := ((isP_iff p).1 hp).1
    have j0t : Ev (fun k => circ_Check.j0 k p true s g x) 3 := Ev.fuel 1 fun k => by simp [circ_Check.j0]
    by_cases h1 : (s.length : Int) > 256
    · simp only [if_pos h1, if_pos (show (s.length : Int) > 256 ∨ (g.length : Int) > 65536 ∨ (x.length : Int) > 4096 from .inl h1)]; exact j0t
    by_cases h2 : (g.length : Int) > 65536
    · simp only [if_neg h1, if_pos h2, if_pos (show (s.length : Int) > 256 ∨ (g.length : Int) > 65536 ∨ (x.length : Int) > 4096 from .inr (.inl h2))]; exact j0t
    by_cases h3 : (x.length : Int) > 4096
    · simp only [if_neg h1, if_neg h2, decide_eq_true h3, if_pos (show (s.length : Int) > 256 ∨ (g.length : Int) > 65536 ∨ (x.length : Int) > 4096 from .inr (.inr h3))]; exact j0t
    simp only [if_neg h1, if_neg h2, decide_eq_false h3, if_neg (show ¬ ((s.length : Int) > 256 ∨ (g.length : Int) > 65536 ∨ (x.length : Int) > 4096) by omega)]
    have hs : api_Slot_60.f s = some (badS s) := by
      unfold api_Slot_60.f badS
      congr 2
      funext y
      unfold circ_Check_1.f
      by_cases hy : y.f0 < 1
      · simp [hy]
      · simp [hy]
    refine Ev.step (f := fun k => (api_Slot_60.f s).bind fun ab => (if ab = true then (some 2) else (circ_Check.l0 k p g (g.length : Int) 0 s g x))) (fun k => by simp [circ_Check.j0]) ?_;rw [hs]
    by_cases hb : badS s = true
    · simp only [Option.bind_some, if_pos hb]; exact Ev.now _
    simp only [Option.bind_some, if_neg hb];have hx := circ_check_exits s g x (by omega) hl
    refine up0 (g := fun k i => circ_Check.l0 k p g (g.length : Int) (i : Int) s g x) (R := fun i => if firstE (gateV p s.length) i (g.drop i) = 0 then firstE (fun _ => exitV g.length) 0 x else firstE (gateV p s.length) i (g.drop i)) (n := g.length) ?_ fun i hi h => ?_
    · rw [firstE_end, if_pos rfl]
      refine Ev.step (f := fun k => circ_Check.l1 k x (x.length : Int) 0 s g x) (fun k => ?_) hx;simp only [circ_Check.l0];rw [if_neg (by omega)]
    · rw [firstE_step _ _ _ hi]
      refine Ev.step (f := fun k => (circ_Gate.f k p (s.length : Int) (i : Int) g[i].f0 g[i].f1 g[i].f2 g[i].f3).bind fun aa => (if aa = 0 then (circ_Check.l0 k p g (g.length : Int) ((i + 1 : Nat) : Int) s g x) else (some aa))) (fun k => ?_) (Ev.bind (circ_gate p _ _ g[i] (by omega)) ?_)
      · simp only [circ_Check.l0]
        rw [if_pos (by omega), if_pos (by omega), if_pos (by omega), rdG_get hi, wadd (by omega)]
      · by_cases e : gateV p s.length i g[i] = 0
        · simp only [if_pos e]; exact h
        · simp only [if_neg e]; exact Ev.now _
  · simp only [if_neg hp]; exact Ev.now _
theorem ref_check_exits (s : List S64) (g : List S61) (x : List S66) (hx : (x.length : Int) ≤ 4096) (hl : ∀ e ∈ x, e.f0.length ≤ maxLen) : Ev (fun k => qga.l2 k x (x.length : Int) 0 s g x) (firstE (fun _ => exitV g.length) 0 x) := by
  refine up0 (g := fun k i => qga.l2 k x (x.length : Int) (i : Int) s g x) (R := fun i => firstE (fun _ => exitV g.length) i (x.drop i)) (n := x.length) ?_ fun i hi h => ?_
  · rw [firstE_end]
    refine Ev.fuel 1 fun k => ?_
    simp only [qga.l2];rw [if_neg (by omega)]
  · rw [firstE_step _ _ _ hi]
    refine Ev.step (f := fun k => (qna.f k (g.length : Int) x[i].f0 x[i].f1).bind fun aa => (if aa = 0 then (qga.l2 k x (x.length : Int) ((i + 1 : Nat) : Int) s g x) else (some aa))) (fun k => ?_) (Ev.bind (ref_exit _ x[i] (hl _ (List.getElem_mem hi))) ?_)
    · simp only [qga.l2]
      rw [if_pos (by omega), if_pos (by omega), if_pos (by omega), rdX_at hi, wadd (by omega)]
    · by_cases e : exitV g.length x[i] = 0
      · simp only [if_pos e]; exact h
      · simp only [if_neg e]; exact Ev.now _
theorem ref_check (p : Int) (s : List S64) (g : List S61) (x : List S66) (hl : ∀ e ∈ x, e.f0.length ≤ maxLen) : Ev (fun k => qga.f k p s g x) (checkV p s g x) := by
  unfold qga.f checkV;refine Ev.bind (ref_is p) ?_
  by_cases hp : isP p = true
  · simp only [if_pos hp]
    have hp3 := ((isP_iff p).1 hp).1
    have j0t : Ev (fun k => qga.j0 k p true s g x) 3 := Ev.fuel 1 fun k => by simp [qga.j0]
    by_cases h1 : (s.length : Int) > 256
    · simp only [if_pos h1, if_pos (show (s.length : Int) > 256 ∨ (g.length : Int) > 65536 ∨ (x.length : Int) > 4096 from .inl h1)]; exact j0t
    by_cases h2 : (g.length : Int) > 65536
    · simp only [if_neg h1, if_pos h2, if_pos (show (s.length : Int) > 256 ∨ (g.length : Int) > 65536 ∨ (x.length : Int) > 4096 from .inr (.inl h2))]; exact j0t
    by_cases h3 : (x.length : Int) > 4096
    · simp only [if_neg h1, if_neg h2, decide_eq_true h3, if_pos (show (s.length : Int) > 256 ∨ (g.length : Int) > 65536 ∨ (x.length : Int) > 4096 from .inr (.inr h3))]; exact j0t
    simp only [if_neg h1, if_neg h2, decide_eq_false h3, if_neg (show ¬ ((s.length : Int) > 256 ∨ (g.length : Int) > 65536 ∨ (x.length : Int) > 4096) by omega)];refine Ev.step (f := fun k => qga.l0 k p s (s.length : Int) 0 s g x) (fun k => by simp [qga.j0]) ?_;have hx := ref_check_exits s g x (by omega) hl
    have hg : Ev (fun k => qga.l1 k p g (g.length : Int) 0 s g x) (if firstE (gateV p s.length) 0 g = 0 then firstE (fun _ => exitV g.length) 0 x else firstE (gateV p s.length) 0 g) := by
      refine up0 (g := fun k i => qga.l1 k p g (g.length : Int) (i : Int) s g x) (R := fun i => if firstE (gateV p s.length) i (g.drop i) = 0 then firstE (fun _ => exitV g.length) 0 x else firstE (gateV p s.length) i (g.drop i)) (n := g.length) ?_ fun i hi h => ?_
      · rw [firstE_end, if_pos rfl]
        refine Ev.step (f := fun k => qga.l2 k x (x.length : Int) 0 s g x) (fun k => ?_) hx;simp only [qga.l1];rw [if_neg (by omega)]
      · rw [firstE_step _ _ _ hi]
        refine Ev.step (f := fun k => (qca.f k p (s.length : Int) (i : Int) g[i].f0 g[i].f1 g[i].f2 g[i].f3).bind fun aa => (if aa = 0 then (qga.l1 k p g (g.length : Int) ((i + 1 : Nat) : Int) s g x) else (some aa))) (fun k => ?_) (Ev.bind (ref_gate p _ _ g[i]) ?_)
        · simp only [qga.l1]
          rw [if_pos (by omega), if_pos (by omega), if_pos (by omega), rdG_get hi, wadd (by omega)]
        · by_cases e : gateV p s.length i g[i] = 0
          · simp only [if_pos e]; exact h
          · simp only [if_neg e]; exact Ev.now _
    refine up0 (g := fun k i => qga.l0 k p s (s.length : Int) (i : Int) s g x) (R := fun i => if badS (s.drop i) = true then 2 else (if firstE (gateV p s.length) 0 g = 0 then firstE (fun _ => exitV g.length) 0 x else firstE (gateV p s.length) 0 g)) (n := s.length) ?_ fun i hi h => ?_
    · rw [List.drop_of_length_le (Nat.le_refl _)]
      refine Ev.step (f := fun k => qga.l1 k p g (g.length : Int) 0 s g x) (fun k => ?_) hg;simp only [qga.l0];rw [if_neg (by omega)]
    · rw [List.drop_eq_getElem_cons hi]
      unfold badS at h ⊢;rw [List.any_cons]
      by_cases a1 : s[i].f0 < 1
      · refine Ev.fuel 1 fun k => ?_
        simp only [qga.l0];rw [if_pos (by omega), if_pos (by omega), if_pos (by omega), rdS_at hi, if_pos a1];simp [a1]
      by_cases a2 : s[i].f0 > 13
      · refine Ev.fuel 1 fun k => ?_
        simp only [qga.l0];rw [if_pos (by omega), if_pos (by omega), if_pos (by omega), rdS_at hi, if_neg a1, if_pos a2];simp [a2]
      · rw [show (decide (s[i].f0 < 1) || decide (s[i].f0 > 13)) = false by simp; omega, Bool.false_or]
        refine Ev.step (f := fun k => qga.l0 k p s (s.length : Int) ((i + 1 : Nat) : Int) s g x) (fun k => ?_) h;simp only [qga.l0];rw [if_pos (by omega), if_pos (by omega), if_pos (by omega), rdS_at hi, if_neg a1, if_neg a2, wadd (by omega)]
  · simp only [if_neg hp]; exact Ev.now _
structure Good (p : Int) (s : List S64) (g : List S61) (x : List S66) : Prop where
  prime : isP p = true
  ls : s.length ≤ 256
  lg : g.length ≤ 65536
  lx : x.length ≤ 4096
  slots : badS s = false
  gates : okL p s.length g
  exits : ∀ e ∈ x, exitV g.length e = 0
theorem good_of {p : Int} {s : List S64} {g : List S61} {x : List S66} (h : checkV p s g x = 0) (h3 : ∀ e ∈ g, 0 ≤ e.f3) : Good p s g x := by
  unfold checkV at h
  split at h
  · rename_i hp
    split at h
    · cases h
    rename_i hl
    split at h
    · cases h
    rename_i hb
    split at h
    · rename_i hg
      refine ⟨hp, by omega, by omega, by omega, by simpa using hb, ?_, ?_⟩
      · intro i y hy
        have := (firstE_zero _ g 0).1 hg i y hy;rw [Nat.zero_add] at this;exact (gateV_ok (h3 y (List.mem_of_getElem? hy))).1 this
      · intro e he
        obtain ⟨j, hj⟩ := List.getElem?_of_mem he;exact (firstE_zero _ x 0).1 h j e hj
    · rename_i hg; exact absurd h hg
  · cases h
theorem Good.check {p : Int} {s : List S64} {g : List S61} {x : List S66} (h : Good p s g x) : checkV p s g x = 0 := by
  have hg : firstE (gateV p s.length) 0 g = 0 := (firstE_zero _ g 0).2 fun j b hb => by
    have := h.gates j b hb;rw [Nat.zero_add];exact (gateV_ok (by unfold okG at this; omega)).2 this
  have hx : firstE (fun _ => exitV g.length) 0 x = 0 := (firstE_zero _ x 0).2 fun j b hb => h.exits b (List.mem_of_getElem? hb)
  unfold checkV;have := h.ls;have := h.lg;have := h.lx;rw [if_pos h.prime, if_neg (by omega), h.slots, hg, hx]
  rfl
theorem Good.small {p : Int} {s : List S64} {g : List S61} {x : List S66} (h : Good p s g x) : p ≤ 65537 := by
  have := (isP_iff p).1 h.prime; omega
theorem exitV_zero {n : Int} {e : S66} (h : exitV n e = 0) : e.f0.length ≤ 13 ∧ e.f1.length ≤ 1024 ∧ ∀ x ∈ e.f1, 0 ≤ x ∧ x < n := by
  unfold exitV at h
  split at h
  · rename_i hr
    split at h
    · cases h
    rename_i hl
    split at h
    · cases h
    rename_i hb;have := rise_len _ _ (by omega) hr;refine ⟨by omega, by omega, fun x hx => ?_⟩;rw [Bool.not_eq_true] at hb;unfold badX at hb;have := List.any_eq_false.1 hb x hx;simp at this
    omega
  · cases h
theorem exitV_map {n n' : Int} {e : S66} {f : Int → Int} (h : exitV n e = 0) (hf : ∀ x, 0 ≤ x → x < n → x ∈ e.f1 → 0 ≤ f x ∧ f x < n') : exitV n' ⟨e.f0, e.f1.map f⟩ = 0 := by
  obtain ⟨h1, h2, h3⟩ := exitV_zero h
  have hr : rise 0 e.f0 = true := by
    unfold exitV at h
    split at h
    · assumption
    · cases h
  unfold exitV;simp only;rw [if_pos hr, List.length_map, if_neg (by omega), if_neg];unfold badX;rw [Bool.not_eq_true, List.any_eq_false];intro y hy;obtain ⟨x, hx, rfl⟩ := List.mem_map.1 hy;have := h3 x hx;have := hf x this.1 this.2 hx;simp; omega
theorem Good.other {p : Int} {s : List S64} {g g' : List S61} {x : List S66} {f : Int → Int} (h : Good p s g x) (hg : okL p s.length g') (hl : g'.length ≤ g.length)
    (hf : ∀ e ∈ x, ∀ y ∈ e.f1, 0 ≤ f y ∧ f y < g'.length) : Good p s g' (x.map fun e => ⟨e.f0, e.f1.map f⟩) :=
  ⟨h.prime, h.ls, by have := h.lg; omega, by rw [List.length_map]; exact h.lx, h.slots, hg, fun e he => by
    obtain ⟨e', he', rfl⟩ := List.mem_map.1 he
    exact exitV_map (h.exits e' he') fun y _ _ hy => hf e' he' y hy⟩
end Go.Proofs.Ytmlbliggbkfjnaa.L
/- Both ways to fold a circuit answer alike, and what they answer; copies of a circuit. -/
namespace Go.Proofs.Ytmlbliggbkfjnaa.L
open Go.RowKit Go.Proofs.YtmlbliggbkfjnaaW.PrintWords Go.Proofs.Ytmlbliggbkfjnaa.J
theorem two_is (a b c d : Int) : qsa.f a b c d = some (decide (a = 3 ∨ a = 4 ∨ a = 5)) := by
  unfold qsa.f
  by_cases h3 : a = 3
  · simp [h3]
  by_cases h4 : a = 4
  · simp [h4]
  by_cases h5 : a = 5
  · simp [h5]
  · simp [h3, h4, h5]
theorem one_is (a b c d : Int) : qva.f a b c d = some (decide (a = 3 ∨ a = 4 ∨ a = 5 ∨ a = 6)) := by
  unfold qva.f;rw [two_is, Option.bind_some]
  by_cases h : a = 3 ∨ a = 4 ∨ a = 5
  · have h' : a = 3 ∨ a = 4 ∨ a = 5 ∨ a = 6 := by omega
    simp [h, h']
  · by_cases h6 : a = 6
    · simp [h6]
    · have h' : ¬ (a = 3 ∨ a = 4 ∨ a = 5 ∨ a = 6) := by omega
      simp [h, h', h6]
theorem take_more {α : Type} (l : List α) {i : Nat} (h : i < l.length) : l.take i ++ [l[i]] = l.take (i + 1) := by
  rw [List.take_add_one, List.getElem?_eq_getElem h]; rfl
theorem Good.exit {p : Int} {s : List S64} {g : List S61} {x : List S66} (h : Good p s g x) : ∀ e ∈ x, e.f0.length ≤ 13 ∧ e.f1.length ≤ 1024 := fun e he => by
  have := exitV_zero (h.exits e he); exact ⟨this.1, this.2.1⟩
theorem own_at (s : List S64) (g : List S61) (x : List S66) (hs : s.length ≤ 256) (hg : g.length ≤ 65536) (hx : x.length ≤ 4096) (he : ∀ e ∈ x, e.f0.length ≤ 13 ∧ e.f1.length ≤ 1024) : Ev (fun k => tune_Own.f k s g x) (s, g, x) := by
  unfold tune_Own.f api_Slot_64.f api_Gate_65.f;rw [if_pos (by omega), if_pos (by omega)];simp only [Option.bind_some]
  refine up0 (g := fun k i => tune_Own.l0 k x (x.length : Int) (i : Int) s g (x.take i)) (R := fun _ => (s, g, x)) (n := x.length) ?_ fun i hi h => ?_
  · rw [List.take_length]
    refine Ev.fuel 1 fun k => ?_
    simp only [tune_Own.l0];rw [if_neg (by omega)]
  · refine Ev.step (f := fun k => tune_Own.l0 k x (x.length : Int) ((i + 1 : Nat) : Int) s g (x.take (i + 1))) (fun k => ?_) h
    have := he _ (List.getElem_mem hi);simp only [tune_Own.l0];rw [if_pos (by omega), if_pos (by omega), if_pos (by omega), rdX_at hi];unfold qpa.f;rw [if_pos (by omega), if_pos (by omega)];simp only [Option.bind_some];rw [if_pos (by rw [List.length_take]; omega), wadd (by omega), take_more x hi]
theorem copied_at (s : List S64) (g g' : List S61) (x : List S66) (hs : s.length ≤ 256) (hx : x.length ≤ 4096) (he : ∀ e ∈ x, e.f0.length ≤ 13 ∧ e.f1.length ≤ 1024) : Ev (fun k => qda.f k s g x g') (s, g', x) := by
  unfold qda.f;refine Ev.bind (a := (s, ([] : List S61), x)) ?_ (Ev.now _);unfold qda.g;simp only [Option.bind_some, List.nil_append]
  have : ([] : List S64).length + s.length < 8796093022208 := by simp; omega
  simp only [if_pos this]
  refine up0 (g := fun k i => qda.l0 k x (x.length : Int) (i : Int) s (x.take i)) (R := fun _ => (s, ([] : List S61), x)) (n := x.length) ?_ fun i hi h => ?_
  · rw [List.take_length]
    refine Ev.fuel 1 fun k => ?_
    simp only [qda.l0];rw [if_neg (by omega)]
  · refine Ev.step (f := fun k => qda.l0 k x (x.length : Int) ((i + 1 : Nat) : Int) s (x.take (i + 1))) (fun k => ?_) h
    have := he _ (List.getElem_mem hi);simp only [qda.l0];rw [if_pos (by omega), if_pos (by omega), if_pos (by omega), rdX_at hi];unfold qpa.f;rw [if_pos (by omega), if_pos (by omega)];simp only [Option.bind_some];rw [if_pos (by rw [List.length_take]; omega), wadd (by omega), take_more x hi]
theorem okG_nth {p s : Int} {l : List S61} (h : okL p s l) {i : Nat} (hi : i < l.length) : okG p s i l[i] := h i _ (List.getElem?_eq_getElem hi)
theorem set_mid {α : Type} (D : List α) (y z : α) (R : List α) : (D ++ y :: R).set D.length z = D ++ z :: R := by
  rw [List.set_append_right _ _ (Nat.le_refl _), Nat.sub_self]; rfl
end Go.Proofs.Ytmlbliggbkfjnaa.L
/- Gates named by new numbers in the exits: both ways answer alike, and what they answer; gates that stay. -/
namespace Go.Proofs.Ytmlbliggbkfjnaa.L
open Go.RowKit Go.Proofs.YtmlbliggbkfjnaaW.PrintWords Go.Proofs.Ytmlbliggbkfjnaa.J
def mapX (f : Int → Int) (x : List S66) : List S66 := x.map fun e => ⟨e.f0, e.f1.map f⟩
def half {α : Type} (f : α → α) (l : List α) (j : Nat) : List α := (l.take j).map f ++ l.drop j
theorem half_len {α : Type} (f : α → α) (l : List α) (j : Nat) : (half f l j).length = l.length := by
  unfold half; rw [List.length_append, List.length_map, List.length_take, List.length_drop]; omega
theorem half_zero {α : Type} (f : α → α) (l : List α) : half f l 0 = l := by simp [half]
theorem half_end {α : Type} (f : α → α) (l : List α) : half f l l.length = l.map f := by simp [half]
theorem half_at {α : Type} (f : α → α) (l : List α) {j : Nat} (h : j < l.length) : (half f l j)[j]? = some l[j] := by
  unfold half
  have hl : ((l.take j).map f).length = j := by rw [List.length_map, List.length_take]; omega
  rw [List.getElem?_append_right (by omega), hl, Nat.sub_self, List.getElem?_drop];simp [h]
theorem half_set {α : Type} (f : α → α) (l : List α) {j : Nat} (h : j < l.length) : (half f l j).set j (f l[j]) = half f l (j + 1) := by
  unfold half
  have hl : ((l.take j).map f).length = j := by rw [List.length_map, List.length_take]; omega
  rw [List.drop_eq_getElem_cons h, List.set_append_right _ _ (by omega), hl, Nat.sub_self, List.set_cons_zero, ← take_more l h, List.map_append, List.append_assoc]
  rfl
theorem half_same {α : Type} (f : α → α) (l : List α) {j : Nat} (h : j < l.length) : (half f l j).set j l[j] = half f l j := by
  have := half_at f l h
  apply List.ext_getElem?
  intro i;rw [List.getElem?_set]
  split
  · rename_i e
    subst e;rw [if_pos (by rw [half_len]; exact h), this]
  · rfl
def midX (f : Int → Int) (x : List S66) (i : Nat) (h : i < x.length) (j : Nat) : List S66 := (half (fun e : S66 => ⟨e.f0, e.f1.map f⟩) x i).set i ⟨x[i].f0, half f x[i].f1 j⟩
theorem midX_zero (f : Int → Int) (x : List S66) (i : Nat) (h : i < x.length) : midX f x i h 0 = half (fun e : S66 => ⟨e.f0, e.f1.map f⟩) x i := by
  unfold midX; rw [half_zero]; exact half_same _ x h
theorem midX_end (f : Int → Int) (x : List S66) (i : Nat) (h : i < x.length) : midX f x i h x[i].f1.length = half (fun e : S66 => ⟨e.f0, e.f1.map f⟩) x (i + 1) := by
  unfold midX; rw [half_end]; exact half_set (fun e : S66 => (⟨e.f0, e.f1.map f⟩ : S66)) x h
theorem midX_at (f : Int → Int) (x : List S66) (i : Nat) (h : i < x.length) (j : Nat) : rd_T66 (midX f x i h j) (i : Int) = ⟨x[i].f0, half f x[i].f1 j⟩ := by
  unfold midX rd_T66;rw [List.getD_eq_getElem?_getD, Int.toNat_natCast, List.getElem?_set_self (by rw [half_len]; exact h)]
  rfl
theorem midX_len (f : Int → Int) (x : List S66) (i : Nat) (h : i < x.length) (j : Nat) : (midX f x i h j).length = x.length := by
  unfold midX; rw [List.length_set, half_len]
theorem midX_set (f : Int → Int) (x : List S66) (i : Nat) (h : i < x.length) (j : Nat) (hj : j < x[i].f1.length) : (midX f x i h j).set i ⟨x[i].f0, (half f x[i].f1 j).set j (f x[i].f1[j])⟩ = midX f x i h (j + 1) := by
  unfold midX;rw [List.set_set, half_set f x[i].f1 hj]
theorem rd_half (f : Int → Int) (l : List Int) {j : Nat} (h : j < l.length) : rd (half f l j) (j : Int) = l[j] := by
  unfold rd;rw [List.getD_eq_getElem?_getD, Int.toNat_natCast, half_at f l h]
  rfl
theorem ref_moved {p : Int} {s : List S64} {g : List S61} {x : List S66} (G : Good p s g x) (l : List S61) (ts : List Int) (hto : ∀ e ∈ x, ∀ y ∈ e.f1, 0 ≤ y ∧ y < ts.length) : Ev (fun k => qia.f k s g x l ts) (s, l, mapX (atI ts) x) := by
  unfold qia.f;have hx := G.lx;refine Ev.bind (copied_at s g l x G.ls hx G.exit) ?_;simp only;have h0 := half_zero (fun e : S66 => (⟨e.f0, e.f1.map (atI ts)⟩ : S66)) x
  have key := up0 (g := fun k i => qia.l0 k ts (x.length : Int) (i : Int) s l (half (fun e : S66 => ⟨e.f0, e.f1.map (atI ts)⟩) x i)) (R := fun _ => (s, l, mapX (atI ts) x)) (n := x.length) ?_ fun i hi h => ?_
  · rw [h0] at key; exact key
  · rw [half_end]
    refine Ev.fuel 1 fun k => ?_
    simp only [qia.l0];rw [if_neg (by omega)]
    rfl
  · have hlen : ((half (fun e : S66 => (⟨e.f0, e.f1.map (atI ts)⟩ : S66)) x i).length : Int) = x.length := by rw [half_len]
    have he := (G.exit _ (List.getElem_mem hi)).2;have hy := hto _ (List.getElem_mem hi);refine Ev.step (f := fun k => qia.l1 k ts (x.length : Int) (i : Int) (x[i].f1.length : Int) 0 s l (midX (atI ts) x i hi 0)) (fun k => ?_) ?_
    · simp only [qia.l0]
      rw [← midX_zero (atI ts) x i hi, midX_at, midX_len, if_pos (by omega), if_pos (by omega), if_pos (by omega), half_zero]
    · refine up0 (g := fun k j => qia.l1 k ts (x.length : Int) (i : Int) (x[i].f1.length : Int) (j : Int) s l (midX (atI ts) x i hi j)) (R := fun _ => (s, l, mapX (atI ts) x)) (n := x[i].f1.length) ?_ fun j hj h' => ?_
      · rw [midX_end]
        refine Ev.step (f := fun k => qia.l0 k ts (x.length : Int) ((i + 1 : Nat) : Int) s l (half (fun e : S66 => ⟨e.f0, e.f1.map (atI ts)⟩) x (i + 1))) (fun k => ?_) h;simp only [qia.l1];rw [if_neg (by omega), wadd (by omega)]
      · refine Ev.step (f := fun k => qia.l1 k ts (x.length : Int) (i : Int) (x[i].f1.length : Int) ((j + 1 : Nat) : Int) s l (midX (atI ts) x i hi (j + 1))) (fun k => ?_) h'
        have hyj := hy _ (List.getElem_mem hj);simp only [qia.l1];simp only [midX_at];rw [half_len, rd_half _ _ hj, if_pos (by omega), if_pos (by omega), if_pos (by omega), if_pos hyj.1, if_pos hyj.2, wadd (by omega), Int.toNat_natCast, Int.toNat_natCast];rw [show rd ts x[i].f1[j] = atI ts x[i].f1[j] from rfl, midX_set _ _ _ _ _ hj]
theorem rd_pad (D : List Int) (n : Nat) (i : Int) : rd (D ++ List.replicate n 0) i = atI D i := by
  unfold rd atI;rw [List.getD_eq_getElem?_getD, List.getD_eq_getElem?_getD, List.getElem?_append]
  split
  · rfl
  · rename_i h
    rw [List.getElem?_eq_none (l := D) (by omega), List.getElem?_replicate]
    split <;> rfl
theorem pad_set (D : List Int) {n : Nat} (v : Int) : (D ++ List.replicate (n + 1) 0).set D.length v = (D ++ [v]) ++ List.replicate n 0 := by
  rw [List.replicate_succ, set_mid, List.append_assoc]; rfl
theorem mv_more (st : Int → Bool) (t : Int → Int) (g : List S61) {i : Nat} (h : i < g.length) : mvL st t (g.take (i + 1)) = mvStep st t (mvL st t (g.take i)) g[i] := by
  rw [← take_more g h, mvL_snoc]
theorem mvL_few (st : Int → Bool) (t : Int → Int) (gs : List S61) : (mvL st t gs).1.length ≤ gs.length := by
  refine snoc_ind (P := fun gs => (mvL st t gs).1.length ≤ gs.length) (Nat.le_refl _) (fun gs g ih => ?_) gs;rw [mvL_snoc];unfold mvStep
  split <;> simp <;> omega
theorem tune_exits {p : Int} {s : List S64} {g : List S61} {x : List S66} (G : Good p s g x) (l : List S61) (P : List Int) (tto : Int → Option Int) (t : Int → Int) (ht : ∀ e ∈ x, ∀ y ∈ e.f1, tto y = some (t y) ∧ 0 ≤ t y ∧ t y < P.length) :
    Ev (fun k => tune_moved.l1 tto k P (x.length : Int) 0 s l x) (s, l, mapX (fun y => atI P (t y)) x) := by
  have hx := G.lx;have h0 := half_zero (fun e : S66 => (⟨e.f0, e.f1.map (fun y => atI P (t y))⟩ : S66)) x
  have key := up0 (g := fun k i => tune_moved.l1 tto k P (x.length : Int) (i : Int) s l (half (fun e : S66 => ⟨e.f0, e.f1.map (fun y => atI P (t y))⟩) x i)) (R := fun _ => (s, l, mapX (fun y => atI P (t y)) x)) (n := x.length) ?_ fun i hi h => ?_
  · rw [h0] at key; exact key
  · rw [half_end]
    refine Ev.fuel 1 fun k => ?_
    simp only [tune_moved.l1];rw [if_neg (by omega)]
    rfl
  · have he := (G.exit _ (List.getElem_mem hi)).2
    have hy := ht _ (List.getElem_mem hi);refine Ev.step (f := fun k => tune_moved.l2 tto k P (x.length : Int) (i : Int) (x[i].f1.length : Int) 0 s l (midX (fun y => atI P (t y)) x i hi 0)) (fun k => ?_) ?_
    · simp only [tune_moved.l1]
      rw [← midX_zero (fun y => atI P (t y)) x i hi, midX_at, midX_len, if_pos (by omega), if_pos (by omega), if_pos (by omega), half_zero]
    · refine up0 (g := fun k j => tune_moved.l2 tto k P (x.length : Int) (i : Int) (x[i].f1.length : Int) (j : Int) s l (midX (fun y => atI P (t y)) x i hi j)) (R := fun _ => (s, l, mapX (fun y => atI P (t y)) x)) (n := x[i].f1.length) ?_ fun j hj h' => ?_
      · rw [midX_end]
        refine Ev.step (f := fun k => tune_moved.l1 tto k P (x.length : Int) ((i + 1 : Nat) : Int) s l (half (fun e : S66 => ⟨e.f0, e.f1.map (fun y => atI P (t y))⟩) x (i + 1))) (fun k => ?_) h;simp only [tune_moved.l2];rw [if_neg (by omega), wadd (by omega)]
      · refine Ev.step (f := fun k => tune_moved.l2 tto k P (x.length : Int) (i : Int) (x[i].f1.length : Int) ((j + 1 : Nat) : Int) s l (midX (fun y => atI P (t y)) x i hi (j + 1))) (fun k => ?_) h'
        obtain ⟨y1, y2, y3⟩ := hy _ (List.getElem_mem hj);simp only [tune_moved.l2];simp only [midX_at];rw [half_len, rd_half _ _ hj, if_pos (by omega), if_pos (by omega), if_pos (by omega), y1, Option.bind_some, if_pos y2, if_pos y3, wadd (by omega), Int.toNat_natCast, Int.toNat_natCast];rw [show rd P (t x[i].f1[j]) = atI P (t x[i].f1[j]) from rfl, midX_set (fun y => atI P (t y)) _ _ _ _ hj]
theorem tune_moved_at {p : Int} {s : List S64} {g : List S61} {x : List S66} (G : Good p s g x) (st : Int → Int → Int → Int → Int → Option Bool) (tto : Int → Option Int) (sb : Int → Bool) (t : Int → Int)
    (hs : ∀ (i : Int) a b c d, 0 ≤ i → i < g.length → st i a b c d = some (sb i)) (ht : ∀ y : Int, 0 ≤ y → y < g.length → tto y = some (t y) ∧ 0 ≤ t y ∧ t y < g.length) :
    Ev (fun k => tune_moved.f st tto k s g x) (s, (mvL sb t g).1, mapX (fun y => atI (mvL sb t g).2 (t y)) x) := by
  unfold tune_moved.f;have hlg := G.lg;refine Ev.bind (own_at s g x G.ls G.lg G.lx G.exit) ?_;simp only [if_pos (show 0 ≤ (g.length : Int) by omega), Int.toNat_natCast, if_pos (show g.length ≤ 35184372088832 by omega)]
  refine up0 (g := fun k i => tune_moved.l0 st tto k ((mvL sb t (g.take i)).2 ++ List.replicate (g.length - i) 0) g (g.length : Int) (i : Int) s (mvL sb t (g.take i)).1 x) (R := fun _ => (s, (mvL sb t g).1, mapX (fun y => atI (mvL sb t g).2 (t y)) x)) (n := g.length) ?_ fun i hi h => ?_
  · rw [List.take_length, Nat.sub_self, List.replicate_zero, List.append_nil]
    refine Ev.step (f := fun k => tune_moved.l1 tto k (mvL sb t g).2 (x.length : Int) 0 s (mvL sb t g).1 x) (fun k => ?_) (tune_exits G _ _ tto t fun e he y hy => ?_)
    · simp only [tune_moved.l0]
      rw [if_neg (by omega)]
    · have hv := (exitV_zero (G.exits e he)).2.2 y hy
      have := ht y hv.1 hv.2;rw [mvL_len]; exact this
  · have hl : (mvL sb t (g.take i)).2.length = i := by rw [mvL_len, List.length_take]; omega
    have hf := mvL_few sb t (g.take i);rw [List.length_take] at hf;have hg := okG_nth G.gates hi;rw [mv_more sb t g hi] at h;unfold mvStep at h;rw [hl] at h;have hgi : rd_T61 g (i : Int) = g[i] := rdG_get hi;generalize g[i] = y at *;generalize (mvL sb t (g.take i)).1 = l at *;generalize (mvL sb t (g.take i)).2 = P at *
    have hL : ((P ++ List.replicate (g.length - i) 0).length : Int) = g.length := by rw [List.length_append, List.length_replicate]; omega
    have hset : ∀ v : Int, (P ++ List.replicate (g.length - i) 0).set i v = (P ++ [v]) ++ List.replicate (g.length - (i + 1)) 0 := fun v => by
      have := pad_set P (n := g.length - (i + 1)) v;rw [hl, show g.length - (i + 1) + 1 = g.length - i by omega] at this; exact this
    have hst := hs (i : Int) y.f0 y.f1 y.f2 y.f3 (by omega) (by omega)
    by_cases hb : sb (i : Int) = true
    · rw [if_pos hb] at h
      refine Ev.steps (f := fun k => tune_moved.l0 st tto k ((P ++ [(l.length : Int)]) ++ List.replicate (g.length - (i + 1)) 0) g (g.length : Int) ((i + 1 : Nat) : Int) s (l ++ [rnf (fun x => atI P (t x)) y]) x) 2 (fun k => ?_) h;simp only [tune_moved.l0];rw [if_pos (by omega), if_pos (by omega), if_pos (by omega), hgi, hst, Option.bind_some, if_pos hb];obtain ⟨a, b, c, d⟩ := y;simp only
      by_cases h12 : a = 1 ∨ a = 2
      · have e : (if a = 1 then tune_moved.j1 st tto (k + 1) (P ++ List.replicate (g.length - i) 0) (i : Int) g (g.length : Int) (i : Int) false s l x a b c d else tune_moved.j1 st tto (k + 1) (P ++ List.replicate (g.length - i) 0) (i : Int) g (g.length : Int) (i : Int) (a != 2) s l x a b c d) = tune_moved.j1 st tto (k + 1) (P ++ List.replicate (g.length - i) 0) (i : Int) g (g.length : Int) (i : Int) false s l x a b c d := by
          rcases h12 with rfl | rfl <;> rfl
        rw [e];simp only [tune_moved.j1];rw [if_neg (by decide), if_pos (by omega), if_pos (by omega), if_pos (by omega), Int.toNat_natCast, hset, wadd (by omega)];rw [show rnf (fun x => atI P (t x)) ⟨a, b, c, d⟩ = ⟨a, b, c, d⟩ by unfold rnf; rw [if_pos h12]]
      · have h1 : ¬ a = 1 := by omega
        have h2 : (a != 2) = true := by simp; omega
        obtain ⟨o1, o2, o3⟩ := okG_ops hg h1 (by show a ≠ 2; omega);simp only at o1 o2 o3;obtain ⟨t1, t2, t3⟩ := ht b o1 (by omega);rw [if_neg h1, h2];simp only [tune_moved.j1];rw [if_pos trivial, t1, Option.bind_some, if_pos t2, if_pos (by omega), rd_pad]
        by_cases h6 : a = 6
        · rw [if_pos h6, if_pos (by omega), if_pos (by omega), if_pos (by omega), Int.toNat_natCast, hset, wadd (by omega)]
          rw [show rnf (fun x => atI P (t x)) ⟨a, b, c, d⟩ = ⟨a, atI P (t b), c, d⟩ by unfold rnf; rw [if_neg h12, if_pos h6]]
        · obtain ⟨o3, o4⟩ := o3 h6
          obtain ⟨u1, u2, u3⟩ := ht c o3 (by omega);rw [if_neg h6, u1, Option.bind_some, if_pos u2, if_pos (by omega), if_pos (by omega), if_pos (by omega), if_pos (by omega), Int.toNat_natCast, hset, wadd (by omega), rd_pad];rw [show rnf (fun x => atI P (t x)) ⟨a, b, c, d⟩ = ⟨a, atI P (t b), atI P (t c), d⟩ by unfold rnf; rw [if_neg h12, if_neg h6]]
    · rw [if_neg hb] at h
      rw [List.append_assoc] at h
      have e : [(0 : Int)] ++ List.replicate (g.length - (i + 1)) 0 = List.replicate (g.length - i) 0 := by
        rw [show g.length - i = g.length - (i + 1) + 1 by omega, List.replicate_succ]; rfl
      rw [e] at h;refine Ev.step (f := fun k => tune_moved.l0 st tto k (P ++ List.replicate (g.length - i) 0) g (g.length : Int) ((i + 1 : Nat) : Int) s l x) (fun k => ?_) h;simp only [tune_moved.l0];rw [if_pos (by omega), if_pos (by omega), if_pos (by omega), hgi, hst, Option.bind_some, if_neg hb, wadd (by omega)]
theorem renamed_at {p s : Int} {ts : List Int} {i : Nat} {g : S61} (hg : okG p s i g) (hi : i ≤ ts.length) : qwa.f g.f0 g.f1 g.f2 g.f3 ts = some ((rnf (atI ts) g).f0, (rnf (atI ts) g).f1, (rnf (atI ts) g).f2, (rnf (atI ts) g).f3) := by
  obtain ⟨a, b, c, d⟩ := g;unfold qwa.f
  dsimp only
  rw [one_is, Option.bind_some, two_is, two_is, Option.bind_some, Option.bind_some]
  by_cases h12 : a = 1 ∨ a = 2
  · have h1 : ¬ (a = 3 ∨ a = 4 ∨ a = 5 ∨ a = 6) := by omega
    have h2 : ¬ (a = 3 ∨ a = 4 ∨ a = 5) := by omega
    rw [show rnf (atI ts) ⟨a, b, c, d⟩ = ⟨a, b, c, d⟩ by unfold rnf; rw [if_pos h12], decide_eq_false h1, decide_eq_false h2]
    rfl
  · obtain ⟨o1, o2, o3⟩ := okG_ops hg (by show a ≠ 1; omega) (by show a ≠ 2; omega)
    simp only at o1 o2 o3
    by_cases h6 : a = 6
    · have h1 : (a = 3 ∨ a = 4 ∨ a = 5 ∨ a = 6) := by omega
      have h2 : ¬ (a = 3 ∨ a = 4 ∨ a = 5) := by omega
      rw [show rnf (atI ts) ⟨a, b, c, d⟩ = ⟨a, atI ts b, c, d⟩ by unfold rnf; rw [if_neg h12, if_pos h6], decide_eq_true h1, decide_eq_false h2, if_pos rfl, if_pos o1, if_pos (by omega)]
      rfl
    · obtain ⟨o3, o4⟩ := o3 h6
      have h2 : (a = 3 ∨ a = 4 ∨ a = 5) := by unfold okG at hg; simp only at hg; omega
      have h1 : (a = 3 ∨ a = 4 ∨ a = 5 ∨ a = 6) := by omega
      rw [show rnf (atI ts) ⟨a, b, c, d⟩ = ⟨a, atI ts b, atI ts c, d⟩ by unfold rnf; rw [if_neg h12, if_neg h6], decide_eq_true h1, decide_eq_true h2, if_pos rfl, if_pos o1, if_pos (by omega), if_pos rfl, if_pos o3, if_pos (by omega)]
      rfl
end Go.Proofs.Ytmlbliggbkfjnaa.L
/- Both ways to leave out gates that are alike answer alike, and what they answer. -/
namespace Go.Proofs.Ytmlbliggbkfjnaa.L
open Go.RowKit Go.Proofs.YtmlbliggbkfjnaaW.PrintWords Go.Proofs.Ytmlbliggbkfjnaa.J
theorem same_at (x y : S61) : qxa.f x.f0 x.f1 x.f2 x.f3 y.f0 y.f1 y.f2 y.f3 = some (decide (sameG x y)) := by
  obtain ⟨a, b, c, d⟩ := x;obtain ⟨e, f, g, h⟩ := y;unfold qxa.f;simp only
  by_cases h1 : (a = e ∧ b = f ∧ c = g ∧ d = h)
  · have hs : sameG ⟨a, b, c, d⟩ ⟨e, f, g, h⟩ := .inl (by rw [S61.ext_iff']; exact h1)
    rw [if_pos (by simp [h1]), decide_eq_true hs]
  · rw [if_neg (by simpa [Bool.and_eq_true] using fun q1 q2 q3 q4 => h1 ⟨q1, q2, q3, q4⟩)]
    by_cases h2 : (a = e ∧ c = f ∧ b = g ∧ d = h)
    · rw [if_pos (by simp [h2])]
      by_cases h35 : a = 3 ∨ a = 5
      · have hs : sameG ⟨a, b, c, d⟩ ⟨e, f, g, h⟩ := .inr ⟨by rw [S61.ext_iff']; exact h2, h35⟩
        rw [decide_eq_true hs]
        rcases h35 with q | q
        · rw [if_pos q]
        · rw [if_neg (by omega), q]; rfl
      · have hs : ¬ sameG ⟨a, b, c, d⟩ ⟨e, f, g, h⟩ := by
          rintro (q | ⟨_, q⟩)
          · rw [S61.ext_iff'] at q; exact h1 q
          · exact h35 q
        rw [decide_eq_false hs, if_neg (by omega)]
        congr 1
        simp; omega
    · rw [if_neg (by simpa [Bool.and_eq_true] using fun q1 q2 q3 q4 => h2 ⟨q1, q2, q3, q4⟩)]
      have hs : ¬ sameG ⟨a, b, c, d⟩ ⟨e, f, g, h⟩ := by
        rintro (q | ⟨q, _⟩)
        · rw [S61.ext_iff'] at q; exact h1 q
        · rw [S61.ext_iff'] at q; exact h2 q
      rw [decide_eq_false hs]
theorem sh_more (g : List S61) {i : Nat} (h : i < g.length) : shL (g.take (i + 1)) = shStep (shL (g.take i)) g[i] := by rw [← take_more g h, shL_snoc]
theorem shL_few (gs : List S61) : (shL gs).1.length ≤ gs.length := by
  refine snoc_ind (P := fun gs => (shL gs).1.length ≤ gs.length) (Nat.le_refl _) (fun gs g ih => ?_) gs;rw [shL_snoc];unfold shStep;simp only
  split <;> simp <;> omega
theorem ref_search (s : List S64) (g : List S61) (x : List S66) (l : List S61) (ts : List Int) (n i : Int) (y : S61) (hl : l.length ≤ 65536) (ht : ts.length ≤ 65536) {r : (List S64) × (List S61) × (List S66)}
    (h : Ev (fun k => qfa.l0 k (if findS l y = l.length then l ++ [y] else l) (ts ++ [(findS l y : Int)]) g n (wrap64 (i + 1)) s g x) r) :
    ∀ (m q : Nat), q + m = l.length → (∀ z ∈ l.take q, ¬ sameG z y) → Ev (fun k => qfa.l1 k l ts (q : Int) g n i s g x y.f0 y.f1 y.f2 y.f3) r
  | 0, q, hq, hn => by
    have e : findS l y = l.length := by
      unfold findS;rw [List.findIdx_eq_length];intro z hz;rw [List.take_of_length_le (by omega)] at hn
      simpa using hn z hz
    rw [e, if_pos rfl] at h;refine Ev.step (f := fun k => qfa.l0 k (l ++ [y]) (ts ++ [(l.length : Int)]) g n (wrap64 (i + 1)) s g x) (fun k => ?_) h
    obtain rfl : q = l.length := by omega
    simp only [qfa.l1];rw [if_neg (by omega), if_pos trivial, if_pos (by omega), if_pos (by omega)]
  | m + 1, q, hq, hn => by
    have hlt : q < l.length := by omega
    have hr : rd_T61 l (q : Int) = l[q] := rdG_get hlt;have hs := same_at l[q] y
    by_cases hc : sameG l[q] y
    · have e : findS l y = q := by
        unfold findS;rw [List.findIdx_eq hlt];refine ⟨by simpa using hc, fun j hj => ?_⟩
        have := hn l[j] (by
          rw [List.mem_take_iff_getElem]
          exact ⟨j, by omega, rfl⟩)
        simpa using this
      rw [e, if_neg (by omega)] at h;refine Ev.step (f := fun k => qfa.l0 k l (ts ++ [(q : Int)]) g n (wrap64 (i + 1)) s g x) (fun k => ?_) h;simp only [qfa.l1];rw [if_pos (by omega), if_pos (by omega), hr, hs, Option.bind_some, decide_eq_true hc, if_pos rfl, if_neg (by omega), if_pos (by omega)]
    · refine Ev.step (f := fun k => qfa.l1 k l ts ((q + 1 : Nat) : Int) g n i s g x y.f0 y.f1 y.f2 y.f3) (fun k => ?_) (ref_search s g x l ts n i y hl ht h m (q + 1) (by omega) fun z hz => ?_)
      · simp only [qfa.l1]
        rw [if_pos (by omega), if_pos (by omega), hr, hs, Option.bind_some, decide_eq_false hc, if_neg (by decide), wadd (by omega)]
      · rw [← take_more l hlt, List.mem_append] at hz
        rcases hz with hz | hz
        · exact hn z hz
        · obtain rfl := List.mem_singleton.1 hz
          exact hc
theorem ref_share {p : Int} {s : List S64} {g : List S61} {x : List S66} (G : Good p s g x) : Ev (fun k => qfa.f k s g x) (s, (shL g).1, mapX (atI (shL g).2) x) := by
  unfold qfa.f;have hlg := G.lg
  refine up0 (g := fun k i => qfa.l0 k (shL (g.take i)).1 (shL (g.take i)).2 g (g.length : Int) (i : Int) s g x) (R := fun _ => (s, (shL g).1, mapX (atI (shL g).2) x)) (n := g.length) ?_ fun i hi h => ?_
  · rw [List.take_length]
    refine Ev.step (f := fun k => (qia.f k s g x (shL g).1 (shL g).2).bind fun aa => (some (aa.1, aa.2.1, aa.2.2))) (fun k => ?_) (Ev.bind (ref_moved G _ _ fun e he y hy => ?_) (Ev.now _))
    · simp only [qfa.l0]
      rw [if_neg (by omega)]
    · rw [shL_len]; exact (exitV_zero (G.exits e he)).2.2 y hy
  · have ht : (shL (g.take i)).2.length = i := by rw [shL_len, List.length_take]; omega
    have hf := shL_few (g.take i);rw [List.length_take] at hf;have hg := okG_nth G.gates hi;rw [sh_more g hi] at h;unfold shStep at h;simp only at h;have hgi : rd_T61 g (i : Int) = g[i] := rdG_get hi;have hren := renamed_at (ts := (shL (g.take i)).2) hg (by omega);generalize hy : rnf (atI (shL (g.take i)).2) g[i] = y at *;refine Ev.step (f := fun k => qfa.l1 k (shL (g.take i)).1 (shL (g.take i)).2 0 g (g.length : Int) (i : Int) s g x y.f0 y.f1 y.f2 y.f3) (fun k => ?_) ?_
    · simp only [qfa.l0]
      rw [if_pos (by omega), if_pos (by omega), if_pos (by omega), hgi, hren, Option.bind_some]
    · refine ref_search s g x _ _ _ _ y (by omega) (by omega) ?_ (shL (g.take i)).1.length 0 (by omega) (fun z hz => by cases hz)
      rw [wadd (by omega)];exact h
theorem find_at (y : S61) : ∀ M : List (S61 × Int), tune_Share.find y M = findM y M
  | [] => rfl
  | m :: M => by
    unfold tune_Share.find findM;rw [find_at y M]
    have e : tune_Share.same y m.1 = decide (y = m.1) := by
      unfold tune_Share.same
      by_cases h : y = m.1
      · rw [decide_eq_true h, h]; simp
      · rw [decide_eq_false h, Bool.eq_false_iff]
        intro hc
        apply h
        rw [S61.ext_iff']
        simpa [Bool.and_eq_true] using hc
    rw [e]
    by_cases h : y = m.1
    · rw [if_pos h, if_pos (decide_eq_true h)]
    · rw [if_neg h, if_neg (by rw [decide_eq_false h]; decide)]
theorem sp_more (g : List S61) {i : Nat} (h : i < g.length) : spL (g.take (i + 1)) = spStep (spL (g.take i)) g[i] := by rw [← take_more g h, spL_snoc]
theorem tune_share {p : Int} {s : List S64} {g : List S61} {x : List S66} (G : Good p s g x) : Ev (fun k => tune_Share.f k p s g x) (s, (shL g).1, mapX (atI (shL g).2) x, 0) := by
  unfold tune_Share.f;have hlg := G.lg;have hlx := G.exit;refine Ev.bind (circ_check p s g x fun e he => by have := (hlx e he).1; simp only [maxLen]; omega) ?_;rw [G.check];simp only [if_true, if_pos (show 0 ≤ (g.length : Int) by omega), Int.toNat_natCast, if_pos (show g.length ≤ 35184372088832 by omega)]
  refine up0 (g := fun k i => tune_Share.l0 k g (g.length : Int) (i : Int) s g x (spL (g.take i)).2 false ((spL (g.take i)).1 ++ List.replicate (g.length - i) 0)) (R := fun _ => (s, (shL g).1, mapX (atI (shL g).2) x, 0)) (n := g.length) ?_ fun i hi h => ?_
  · rw [List.take_length, Nat.sub_self, List.replicate_zero, List.append_nil]
    obtain ⟨pl, hm, hpl, hat⟩ := share_moved G.gates;have hl := spL_len g
    have mv := tune_moved_at G (tune_Share.st (spL g).1) (tune_Share.tto (spL g).1) (fun i => atI (spL g).1 i == i) (atI (spL g).1) (fun i a b c d i0 i1 => by unfold tune_Share.st; rw [if_pos ⟨i0, by omega⟩]; rfl)
      (fun y y0 y1 => ⟨by unfold tune_Share.tto; rw [if_pos ⟨y0, by omega⟩]; rfl, (hat y y0 y1).1, (hat y y0 y1).2.1⟩)
    rw [hm] at mv
    have e : mapX (fun y => atI pl (atI (spL g).1 y)) x = mapX (atI (shL g).2) x := by
      unfold mapX
      refine List.map_congr_left fun e he => ?_
      congr 1
      refine List.map_congr_left fun y hy => ?_
      have hv := (exitV_zero (G.exits e he)).2.2 y hy;exact (hat y hv.1 hv.2).2.2
    simp only at mv;rw [e] at mv;refine Ev.step (f := fun k => (tune_moved.f (tune_Share.st (spL g).1) (tune_Share.tto (spL g).1) k s g x).bind fun aa => (some (aa.1, aa.2.1, aa.2.2, 0))) (fun k => ?_) (Ev.bind mv (Ev.now _));simp only [tune_Share.l0];rw [if_neg (by omega)]
  · have hl : (spL (g.take i)).1.length = i := by rw [spL_len, List.length_take]; omega
    have hg := okG_nth G.gates hi;rw [sp_more g hi] at h;unfold spStep at h;rw [hl] at h;have hgi : rd_T61 g (i : Int) = g[i] := rdG_get hi;generalize g[i] = y at *;generalize (spL (g.take i)).1 = P at *;generalize (spL (g.take i)).2 = M at *
    have hL : ((P ++ List.replicate (g.length - i) 0).length : Int) = g.length := by rw [List.length_append, List.length_replicate]; omega
    have hset : ∀ v : Int, (P ++ List.replicate (g.length - i) 0).set i v = (P ++ [v]) ++ List.replicate (g.length - (i + 1)) 0 := fun v => by
      have := pad_set P (n := g.length - (i + 1)) v;rw [hl, show g.length - (i + 1) + 1 = g.length - i by omega] at this; exact this
    have last : ∀ (c : S61), c = canon (rnf (atI P) y) → Ev (fun k => tune_Share.j4 k (i : Int) g (g.length : Int) (i : Int) s g x M false (P ++ List.replicate (g.length - i) 0) c.f0 c.f1 c.f2 c.f3) (s, (shL g).1, mapX (atI (shL g).2) x, 0) := by
      intro c hc;rw [← hc] at h
      have hk : tune_Share.look M c.f0 c.f1 c.f2 c.f3 = some (match findM c M with | some i => (i, true) | none => (0, false)) := by
        unfold tune_Share.look; rw [find_at]; rfl
      have hp : tune_Share.put M c.f0 c.f1 c.f2 c.f3 (i : Int) = if findM c M = none then some (M ++ [(c, (i : Int))]) else none := by
        unfold tune_Share.put; rw [find_at]
      cases e : findM c M with
      | some v =>
        rw [e] at h hk;simp only at h hk;refine Ev.step (f := fun k => tune_Share.l0 k g (g.length : Int) ((i + 1 : Nat) : Int) s g x M false ((P ++ [v]) ++ List.replicate (g.length - (i + 1)) 0)) (fun k => ?_) h;simp only [tune_Share.j4];rw [hk, Option.bind_some, if_pos rfl, if_pos (by omega), if_pos (by omega), Int.toNat_natCast, hset, wadd (by omega)]
      | none =>
        rw [e] at h hk hp;simp only at h hk;rw [if_pos rfl] at hp;refine Ev.step (f := fun k => tune_Share.l0 k g (g.length : Int) ((i + 1 : Nat) : Int) s g x (M ++ [(c, (i : Int))]) false ((P ++ [(i : Int)]) ++ List.replicate (g.length - (i + 1)) 0)) (fun k => ?_) h;simp only [tune_Share.j4];rw [hk, Option.bind_some, if_neg (by decide), hp, Option.bind_some, if_pos (by omega), if_pos (by omega), Int.toNat_natCast, hset, wadd (by omega)]
    have mid : ∀ (c : S61), c = rnf (atI P) y → Ev (fun k => tune_Share.j2 k (i : Int) g (g.length : Int) (i : Int) s g x M false (P ++ List.replicate (g.length - i) 0) c.f0 c.f1 c.f2 c.f3) (s, (shL g).1, mapX (atI (shL g).2) x, 0) := by
      intro c hc
      by_cases h35 : c.f0 = 3 ∨ c.f0 = 5
      · by_cases hgt : c.f1 > c.f2
        · have e : canon (rnf (atI P) y) = ⟨c.f0, c.f2, c.f1, c.f3⟩ := by rw [← hc]; unfold canon; rw [if_pos ⟨h35, hgt⟩]
          refine Ev.steps (f := fun k => tune_Share.j4 k (i : Int) g (g.length : Int) (i : Int) s g x M false (P ++ List.replicate (g.length - i) 0) c.f0 c.f2 c.f1 c.f3) 2 (fun k => ?_) (last ⟨c.f0, c.f2, c.f1, c.f3⟩ e.symm)
          rcases h35 with q | q <;> simp [tune_Share.j2, tune_Share.j3, q, hgt]
        · have e : canon (rnf (atI P) y) = c := by rw [← hc]; unfold canon; rw [if_neg (fun h' => hgt h'.2)]
          refine Ev.steps (f := fun k => tune_Share.j4 k (i : Int) g (g.length : Int) (i : Int) s g x M false (P ++ List.replicate (g.length - i) 0) c.f0 c.f1 c.f2 c.f3) 2 (fun k => ?_) (last c e.symm);have hle : ¬ c.f2 < c.f1 := hgt
          rcases h35 with q | q <;> simp [tune_Share.j2, tune_Share.j3, q, hle]
      · have e : canon (rnf (atI P) y) = c := by rw [← hc]; unfold canon; rw [if_neg (fun h' => h35 h'.1)]
        refine Ev.steps (f := fun k => tune_Share.j4 k (i : Int) g (g.length : Int) (i : Int) s g x M false (P ++ List.replicate (g.length - i) 0) c.f0 c.f1 c.f2 c.f3) 2 (fun k => ?_) (last c e.symm)
        have q3 : ¬ c.f0 = 3 := fun q => h35 (.inl q)
        have q5 : ¬ c.f0 = 5 := fun q => h35 (.inr q)
        simp [tune_Share.j2, tune_Share.j3, q3, q5]
    have rdp : ∀ z : Int, rd (P ++ List.replicate (g.length - i) 0) z = atI P z := fun z => rd_pad _ _ _
    obtain ⟨a, b, c, d⟩ := y
    by_cases h12 : a = 1 ∨ a = 2
    · have e : rnf (atI P) ⟨a, b, c, d⟩ = ⟨a, b, c, d⟩ := by unfold rnf; rw [if_pos h12]
      refine Ev.steps (f := fun k => tune_Share.j2 k (i : Int) g (g.length : Int) (i : Int) s g x M false (P ++ List.replicate (g.length - i) 0) a b c d) 2 (fun k => ?_) (mid ⟨a, b, c, d⟩ e.symm);simp only [tune_Share.l0];rw [if_pos (by omega), if_pos (by omega), if_pos (by omega), hgi]
      rcases h12 with rfl | rfl <;> simp [tune_Share.j1]
    · have h1 : ¬ a = 1 := by omega
      have h2 : (a != 2) = true := by simp; omega
      obtain ⟨o1, o2, o3⟩ := okG_ops hg h1 (by show a ≠ 2; omega);simp only at o1 o2 o3
      by_cases h6 : a = 6
      · have e : rnf (atI P) ⟨a, b, c, d⟩ = ⟨a, atI P b, c, d⟩ := by unfold rnf; rw [if_neg h12, if_pos h6]
        refine Ev.steps (f := fun k => tune_Share.j2 k (i : Int) g (g.length : Int) (i : Int) s g x M false (P ++ List.replicate (g.length - i) 0) a (atI P b) c d) 2 (fun k => ?_) (mid ⟨a, atI P b, c, d⟩ e.symm);simp only [tune_Share.l0];rw [if_pos (by omega), if_pos (by omega), if_pos (by omega), hgi];simp only;rw [if_neg h1, h2];simp only [tune_Share.j1];rw [if_pos trivial, if_pos o1, if_pos (by omega), if_pos h6, rdp]
      · obtain ⟨o3, o4⟩ := o3 h6
        have e : rnf (atI P) ⟨a, b, c, d⟩ = ⟨a, atI P b, atI P c, d⟩ := by unfold rnf; rw [if_neg h12, if_neg h6]
        refine Ev.steps (f := fun k => tune_Share.j2 k (i : Int) g (g.length : Int) (i : Int) s g x M false (P ++ List.replicate (g.length - i) 0) a (atI P b) (atI P c) d) 2 (fun k => ?_) (mid ⟨a, atI P b, atI P c, d⟩ e.symm);simp only [tune_Share.l0];rw [if_pos (by omega), if_pos (by omega), if_pos (by omega), hgi];simp only;rw [if_neg h1, h2];simp only [tune_Share.j1];rw [if_pos trivial, if_pos o1, if_pos (by omega), if_neg h6, if_pos o3, if_pos (by omega), rdp, rdp]
theorem Good.shared {p : Int} {s : List S64} {g : List S61} {x : List S66} (G : Good p s g x) : Good p s (shL g).1 (mapX (atI (shL g).2) x) := by
  have h := shL_shr g G.gates
  exact G.other h.ok (shL_few g) fun e he y hy => by
    have hv := (exitV_zero (G.exits e he)).2.2 y hy;exact h.rng y hv.1 hv.2 trivial
end Go.Proofs.Ytmlbliggbkfjnaa.L
/- Both ways to leave out gates that nobody asks for answer alike, and what they answer. -/
namespace Go.Proofs.Ytmlbliggbkfjnaa.L
open Go.RowKit Go.Proofs.YtmlbliggbkfjnaaW.PrintWords Go.Proofs.Ytmlbliggbkfjnaa.J
def markG (a : List Bool) (l : List Int) : List Bool := l.foldl (fun a y => a.set y.toNat true) a
def markX (a : List Bool) (x : List S66) : List Bool := x.foldl (fun a e => markG a e.f1) a
def asked (g : List S61) (x : List S66) : List Bool := mkM g g.length (markX (List.replicate g.length false) x)
def named (x : List S66) (i : Int) : Prop := ∃ e ∈ x, i ∈ e.f1
end Go.Proofs.Ytmlbliggbkfjnaa.L
/- Both ways to tell the levels of gates answer alike, and what they answer; rows of numbers compared; the chapter's example. -/
namespace Go.Proofs.Ytmlbliggbkfjnaa.L
open Go.RowKit Go.Proofs.YtmlbliggbkfjnaaW.PrintWords Go.Proofs.Ytmlbliggbkfjnaa.J
theorem alive16 : Ev (fun k => qra.f k) true := Ev.of qra.mono (k := 60) (by decide +kernel)
def badG (i : Nat) (g : S61) : Bool := decide ((g.f0 = 3 ∨ g.f0 = 4 ∨ g.f0 = 5 ∨ g.f0 = 6) ∧ (g.f1 < 0 ∨ g.f1 ≥ i)) || decide ((g.f0 = 3 ∨ g.f0 = 4 ∨ g.f0 = 5) ∧ (g.f2 < 0 ∨ g.f2 ≥ i))
def anyB : Nat → List S61 → Bool
  | _, [] => false
  | i, g :: gs => badG i g || anyB (i + 1) gs
end Go.Proofs.Ytmlbliggbkfjnaa.L
/- What the laws ask of an answer: the wanted circuit, or the wanted error. -/
namespace Go.Proofs.Ytmlbliggbkfjnaa.L
open Go.RowKit Go.Proofs.YtmlbliggbkfjnaaW.PrintWords Go.Proofs.Ytmlbliggbkfjnaa.J
theorem ints12_same (l : List Int) (hl : l.length ≤ 65536) : Ev (fun k => qha.f k l l) true := by
  unfold qha.f;simp only [if_true]
  refine up0 (g := fun k i => qha.l0 k l l (l.length : Int) (i : Int)) (R := fun _ => true) (n := l.length) ?_ fun i hi h => ?_
  · refine Ev.fuel 1 fun k => ?_
    simp only [qha.l0];rw [if_neg (by omega)]
  · refine Ev.step (f := fun k => qha.l0 k l l (l.length : Int) ((i + 1 : Nat) : Int)) (fun k => ?_) h
    simp only [qha.l0];rw [if_pos (by omega), if_pos (by omega), if_pos (by omega), if_pos (by omega), if_pos trivial, wadd (by omega)]
theorem same12 (s : List S64) (g : List S61) (x : List S66) (hs : s.length ≤ 65536) (hg : g.length ≤ 65536) (hx : x.length ≤ 65536) (he : ∀ e ∈ x, e.f0.length ≤ 65536 ∧ e.f1.length ≤ 65536) : Ev (fun k => qba.f k s g x s g x) true := by
  unfold qba.f;simp only [if_true];rw [show ((x.length : Int) != (x.length : Int)) = false by simp];refine Ev.step (f := fun k => qba.l0 k (s.length : Int) 0 s g x s g x) (fun k => by simp [qba.j0]) ?_
  refine up0 (g := fun k i => qba.l0 k (s.length : Int) (i : Int) s g x s g x) (R := fun _ => true) (n := s.length) ?_ fun i hi h => ?_
  · refine Ev.step (f := fun k => qba.l1 k (g.length : Int) 0 s g x s g x) (fun k => ?_) ?_
    · simp only [qba.l0]
      rw [if_neg (by omega)]
    refine up0 (g := fun k i => qba.l1 k (g.length : Int) (i : Int) s g x s g x) (R := fun _ => true) (n := g.length) ?_ fun i hi h => ?_
    · refine Ev.step (f := fun k => qba.l2 k (x.length : Int) 0 s g x s g x) (fun k => ?_) ?_
      · simp only [qba.l1]
        rw [if_neg (by omega)]
      refine up0 (g := fun k i => qba.l2 k (x.length : Int) (i : Int) s g x s g x) (R := fun _ => true) (n := x.length) ?_ fun i hi h => ?_
      · refine Ev.fuel 1 fun k => ?_
        simp only [qba.l2];rw [if_neg (by omega)]
      · have hq := he _ (List.getElem_mem hi)
        refine Ev.step (f := fun k => (qha.f k x[i].f0 x[i].f0).bind fun aa => (if aa = true then ((qha.f k x[i].f1 x[i].f1).bind fun ab => (if ab = true then (qba.l2 k (x.length : Int) ((i + 1 : Nat) : Int) s g x s g x) else (some false))) else (some false))) (fun k => ?_) (Ev.bind (ints12_same _ hq.1) ?_)
        · simp only [qba.l2]
          rw [if_pos (by omega), if_pos (by omega), if_pos (by omega), if_pos (by omega), rdX_at hi, wadd (by omega)]
        · simp only [if_true]
          refine Ev.bind (ints12_same _ hq.2) ?_;simp only [if_true];exact h
    · refine Ev.step (f := fun k => qba.l1 k (g.length : Int) ((i + 1 : Nat) : Int) s g x s g x) (fun k => ?_) h
      simp only [qba.l1];rw [if_pos (by omega), if_pos (by omega), if_pos (by omega), if_pos (by omega), if_neg (by simp), wadd (by omega)]
  · refine Ev.step (f := fun k => qba.l0 k (s.length : Int) ((i + 1 : Nat) : Int) s g x s g x) (fun k => ?_) h
    simp only [qba.l0];rw [if_pos (by omega), if_pos (by omega), if_pos (by omega), if_pos (by omega), if_neg (by simp), wadd (by omega)]
theorem Good.same {p : Int} {s : List S64} {g : List S61} {x : List S66} (G : Good p s g x) : Ev (fun k => qba.f k s g x s g x) true := by
  have h1 := G.ls;have h2 := G.lx
  exact same12 s g x (by omega) G.lg (by omega) fun e he => by have := G.exit e he; omega
theorem is_ok {p : Int} {s : List S64} {g : List S61} {x : List S66} (G : Good p s g x) : Ev (fun k => qua.f k s g x 0 s g x 0) true := by
  unfold qua.f;simp only [if_true];exact Ev.bind G.same (Ev.now _)
theorem is_bad (e : Int) (h : e ≠ 0) : Ev (fun k => qua.f k [] [] [] e [] [] [] e) true := by
  unfold qua.f;simp only [if_neg h, if_true];exact Ev.bind (same12 [] [] [] (by simp) (by simp) (by simp) (fun e he => by cases he)) (Ev.now _)
theorem exits_small {x : List S66} (h : x.length ≤ maxLen ∧ x.length * 48 ≤ 140737488351232 ∧ ∀ x' ∈ x, (x'.f0.length ≤ maxLen ∧ x'.f0.length * 8 ≤ 140737488351232 ∧ ∀ y ∈ x'.f0, (Lit.int .i64 y).wf = true) ∧ (x'.f1.length ≤ maxLen ∧ x'.f1.length * 8 ≤ 140737488351232 ∧ ∀ y ∈ x'.f1, (Lit.int .i64 y).wf = true)) : ∀ e ∈ x, e.f0.length ≤ maxLen := fun e he => (h.2.2 e he).1.1
theorem gates_pos {g : List S61} (h : g.length ≤ maxLen ∧ g.length * 32 ≤ 140737488351232 ∧ ∀ y ∈ g, (Lit.int .i64 y.f0).wf = true ∧ (Lit.int .i64 y.f1).wf = true ∧ (Lit.int .i64 y.f2).wf = true ∧ (Lit.int .u64 y.f3).wf = true) : ∀ e ∈ g, 0 ≤ e.f3 := fun e he => (u64_wf (h.2.2 e he).2.2.2).1
end Go.Proofs.Ytmlbliggbkfjnaa.L
/- The statement TuneShares as plain Lean. -/
namespace Go.Proofs.Ytmlbliggbkfjnaa.L
open Go.RowKit Go.Proofs.YtmlbliggbkfjnaaW.PrintWords Go.Proofs.Ytmlbliggbkfjnaa.J
theorem tune_Share_bad {p : Int} {s : List S64} {g : List S61} {x : List S66} (hx : ∀ e ∈ x, e.f0.length ≤ maxLen) (h : checkV p s g x ≠ 0) : Ev (fun k => tune_Share.f k p s g x) ([], [], [], checkV p s g x) := by
  unfold tune_Share.f;refine Ev.bind (circ_check p s g x hx) ?_;simp only [if_neg h];exact Ev.now _
theorem tuneShares_at (p : Int) (s : List S64) (g : List S61) (x : List S66) (hx : ∀ e ∈ x, e.f0.length ≤ maxLen) (hg : ∀ e ∈ g, 0 ≤ e.f3) : ∃ k, qma.f k p s g x = some true := by
  suffices h : Ev (fun k => qma.f k p s g x) true from h.rounds
  unfold qma.f
  by_cases h : checkV p s g x = 0
  · have G := good_of h hg
    refine Ev.bind (tune_share G) (Ev.bind (ref_check p s g x hx) ?_);simp only [h, if_true];refine Ev.bind (ref_share G) (Ev.bind (is_ok G.shared) ?_);simp only [if_true];exact Ev.bind alive16 (Ev.now _)
  · refine Ev.bind (tune_Share_bad hx h) (Ev.bind (ref_check p s g x hx) ?_)
    simp only [if_neg h];refine Ev.bind (is_bad _ h) ?_;simp only [if_true];exact Ev.bind alive16 (Ev.now _)
theorem tuneShares (x0 : Int) (aa : List S64) (ab : List S61) (ad : List S66) (w0 : (Lit.int .u64 x0).wf = true) (w1_0 : aa.length ≤ maxLen ∧ aa.length * 16 ≤ 140737488351232 ∧ ∀ x1_0' ∈ aa, (Lit.int .i64 x1_0'.f0).wf = true ∧ True) (w1_1 : ab.length ≤ maxLen ∧ ab.length * 32 ≤ 140737488351232 ∧ ∀ x1_1' ∈ ab, (Lit.int .i64 x1_1'.f0).wf = true ∧ (Lit.int .i64 x1_1'.f1).wf = true ∧ (Lit.int .i64 x1_1'.f2).wf = true ∧ (Lit.int .u64 x1_1'.f3).wf = true) (w1_2 : ad.length ≤ maxLen ∧ ad.length * 48 ≤ 140737488351232 ∧ ∀ x1_2' ∈ ad, (x1_2'.f0.length ≤ maxLen ∧ x1_2'.f0.length * 8 ≤ 140737488351232 ∧ ∀ x1_2'_f0' ∈ x1_2'.f0, (Lit.int .i64 x1_2'_f0').wf = true) ∧ (x1_2'.f1.length ≤ maxLen ∧ x1_2'.f1.length * 8 ≤ 140737488351232 ∧ ∀ x1_2'_f1' ∈ x1_2'.f1, (Lit.int .i64 x1_2'_f1').wf = true)) : ∃ k, qma.f k x0 aa ab ad = some true :=
  tuneShares_at x0 aa ab ad (exits_small w1_2) (gates_pos w1_1)
end Go.Proofs.Ytmlbliggbkfjnaa.L
/- The row of TuneShares: for every input the call returns true and changes nothing; no conditions. Out of the contract of the function and the plain law. -/
namespace Go.Proofs.Ytmlbliggbkfjnaa.tuneShares
open Go.ChangeShapes Go.WideShapes Go.ChangeAt Go.RowKit Go.Proofs.YtmlbliggbkfjnaaW.PrintWords Go.Proofs.Ytmlbliggbkfjnaa.J Go.Proofs.Ytmlbliggbkfjnaa.Op
theorem own : ownKnob Try.prog.godebug = none := by kernel_rfl
theorem laidOut : laidOutB Try.prog = true := by kernel_rfl
theorem op0 : Opens Try.prog (Kd.int .u64) 34 (fun n => (Lit.int .u64 n).wf = true) := (op_int Try.underlying34)
theorem op1 : Opens Try.prog (Kd.pair (Kd.slice 64 (k64)) (Kd.pair (Kd.slice 61 (k61)) (Kd.slice 66 (k66)))) 26 (fun x => (fun l => l.length ≤ maxLen ∧ l.length * 16 ≤ 140737488351232 ∧ ∀ a ∈ l, (fun b : S64 => (fun x => (fun n => (Lit.int .i64 n).wf = true) x.1 ∧ (fun _ => True) x.2) (b.f0, b.f1)) a) x.1 ∧ (fun x => (fun l => l.length ≤ maxLen ∧ l.length * 32 ≤ 140737488351232 ∧ ∀ a ∈ l, (fun b : S61 => (fun x => (fun n => (Lit.int .i64 n).wf = true) x.1 ∧ (fun x => (fun n => (Lit.int .i64 n).wf = true) x.1 ∧ (fun x => (fun n => (Lit.int .i64 n).wf = true) x.1 ∧ (fun n => (Lit.int .u64 n).wf = true) x.2) x.2) x.2) (b.f0, b.f1, b.f2, b.f3)) a) x.1 ∧ (fun l => l.length ≤ maxLen ∧ l.length * 48 ≤ 140737488351232 ∧ ∀ a ∈ l, (fun b : S66 => (fun x => (fun l => l.length ≤ maxLen ∧ l.length * 8 ≤ 140737488351232 ∧ ∀ a ∈ l, (fun n => (Lit.int .i64 n).wf = true) a) x.1 ∧ (fun l => l.length ≤ maxLen ∧ l.length * 8 ≤ 140737488351232 ∧ ∀ a ∈ l, (fun n => (Lit.int .i64 n).wf = true) a) x.2) (b.f0, b.f1)) a) x.2) x.2) := (op_agg Try.underlying26 (opL_cons (by kernel_rfl) (by kernel_rfl) (op_slice Try.underlying22 (by kernel_rfl) (by kernel_rfl) (op_struct (fun x => (⟨x.1, x.2⟩ : S64)) (fun _ => rfl) Try.underlying64 (opL_cons (by kernel_rfl) (by kernel_rfl) (op_int Try.underlying3) (by kernel_rfl) (opL_one (by kernel_rfl) (by kernel_rfl) (op_bool Try.underlying4))))) (by kernel_rfl) (opL_cons (by kernel_rfl) (by kernel_rfl) (op_slice Try.underlying23 (by kernel_rfl) (by kernel_rfl) (op_struct (fun x => (⟨x.1, x.2.1, x.2.2.1, x.2.2.2⟩ : S61)) (fun _ => rfl) Try.underlying61 (opL_cons (by kernel_rfl) (by kernel_rfl) (op_int Try.underlying3) (by kernel_rfl) (opL_cons (by kernel_rfl) (by kernel_rfl) (op_int Try.underlying3) (by kernel_rfl) (opL_cons (by kernel_rfl) (by kernel_rfl) (op_int Try.underlying3) (by kernel_rfl) (opL_one (by kernel_rfl) (by kernel_rfl) (op_int Try.underlying34))))))) (by kernel_rfl) (opL_one (by kernel_rfl) (by kernel_rfl) (op_slice Try.underlying24 (by kernel_rfl) (by kernel_rfl) (op_struct (fun x => (⟨x.1, x.2⟩ : S66)) (fun _ => rfl) Try.underlying66 (opL_cons (by kernel_rfl) (by kernel_rfl) (op_slice Try.underlying27 (by kernel_rfl) (by kernel_rfl) (op_int Try.underlying3)) (by kernel_rfl) (opL_one (by kernel_rfl) (by kernel_rfl) (op_slice Try.underlying27 (by kernel_rfl) (by kernel_rfl) (op_int Try.underlying3))))))))))
theorem lifted (os : Os) (started : os.Started) (H : Type) (enc : TypeId × Value → H) :
    ReturnsInHanded {} Try.checked os 5 .any (Rows.tuneSharesSpec.pre6 enc Try.prog Try.f5 Rows.tuneSharesRow.domain false) (Rows.tuneSharesSpec.post enc Try.prog Try.f5 false true false false) := by
  refine returnsInHanded_of_change_sized (C := Try.checked) own started (by kernel_rfl) Try.func5
    (ChangeSpec.witness6 (enc := enc) (C := Try.checked) false ⟨#[], #[.int .u64 0, .agg #[.slice none 0 0, .slice none 0 0, .slice none 0 0]], []⟩ 8 (by kernel_rfl) (by kernel_rfl) (by kernel_rfl) (by kernel_rfl)) ?_
  intro W base args ds gs before hval0 hW hcnd hsz0 _;have hsz : (DataW.weightsEach Try.prog (Try.f5.params.toList ++ Rows.tuneSharesSpec.plain.varTypes Try.prog) (ds ++ gs)).all (· ≤ reachBytes) = true := hsz0;have hval : ∀ (j : Nat) t v, Try.f5.params[j]? = some t → args[j]? = some v → Value.okWide Try.prog W .any base t v := hval0;have hW' := hW;obtain ⟨p, q, hA0, hV, rfl, hfz, hnd⟩ := hW;have hA : DataW.TrodAll enc Try.prog W 0 (fun _ => true) true Try.f5.params.toList args.toList ds p := hA0;rw [Try.params5] at hA hval hsz;obtain ⟨v0, vs0, d0, ds0, p0, q0, hargs, rfl, rfl, h0, r0⟩ := trodAll_cons hA;obtain ⟨v1, vs1, d1, ds1, p1, q1, rfl, rfl, rfl, h1, r1⟩ := trodAll_cons r0;obtain ⟨rfl, rfl, rfl⟩ := trodAll_nil r1
  obtain rfl : args = #[v0, v1] := by cases args; simp_all
  obtain ⟨rfl, rfl⟩ := trodVars_none hV;have k0 := h0
  have lt0 : ∀ x ∈ p0, x.block < W.heap.size := by obtain ⟨m, hm⟩ := k0; exact DataW.trod_lt m _ _ _ hm
  obtain ⟨x0, rfl⟩ := okWide_int Try.underlying34 (hval 0 34 v0 rfl rfl);obtain ⟨y0, e0, w0⟩ := arg op0 rfl h0 hsz (j := 0) rfl rfl;have e0' : [Value.int .u64 x0] = [Value.int .u64 y0] := e0
  obtain rfl : x0 = y0 := by simpa using e0'
  have k1 := h1
  have lt1 : ∀ x ∈ p1, x.block < W.heap.size := by obtain ⟨m, hm⟩ := k1; exact DataW.trod_lt m _ _ _ hm
  obtain ⟨cs1, rfl, hn1⟩ := okWide_agg Try.underlying26 (hval 1 26 v1 rfl rfl);obtain ⟨⟨aa, ab, ad⟩, K1, ⟨w1_0, w1_1, w1_2⟩⟩ := arg op1 (by show cs1.toList.length = _; rw [Array.length_toList, hn1]; kernel_rfl) h1 hsz (j := 1) rfl rfl;obtain ⟨g1_0, rg1_0, qg1_0, ak, M1_0⟩ := K1;obtain ⟨al, am, l1_0', ae, af⟩ := ak;obtain ⟨g1_1, rg1_1, qg1_1, ao, M1_1⟩ := M1_0;obtain ⟨ap, aq, l1_1', ag, ah⟩ := ao;obtain ⟨ar, au, M1_1', ai, aj⟩ := M1_1
  obtain rfl : cs1 = #[.slice al aa.length am, .slice ap ab.length aq, .slice ar ad.length au] := by
    apply Array.toList_inj.1
    have z1 : cs1.toList = _ := qg1_0;rw [z1, l1_0', qg1_1, l1_1', M1_1']
    rfl
  clear hA0 hval0 hsz0 hsz;obtain ⟨k, h⟩ := L.tuneShares x0 aa ab ad w0 w1_0 w1_1 w1_2
  refine (qma.calls k x0 _ _ aa _ _ ab _ _ ad true W af ae ah ag aj ai h).mono fun e W' ⟨he, bel⟩ => ?_
  subst he;exact ⟨_, rfl, _, _, _, [], _, [], hW', trodAll_mk1 (shut_bool Try.underlying4 _), (trodAll_cons_mk (Below.trod laidOut (by kernel_rfl) (of_decide_eq_true (by kernel_rfl)) k0 bel lt0) (trodAll_cons_mk (Below.trod laidOut (by kernel_rfl) (of_decide_eq_true (by kernel_rfl)) k1 bel lt1) trodAll_mk0)), rfl, bel.frame _, fun h => by cases h⟩
theorem closed : joinedFacts Try.pinned.checked.prog 5 Try.f5 Rows.tuneSharesSpec Rows.tuneSharesRow = true := by
  unfold joinedFacts
  repeat' with_reducible refine Bool.and_eq_true_iff.2 ⟨?_, ?_⟩
  all_goals first
    | with_reducible exact Facts.enters
    | (rw [Facts.final]; kernel_rfl)
    | (rw [Facts.made]; kernel_rfl)
    | kernel_rfl
theorem over : Rows.tuneSharesRow.holds Try.pinned (OpenSpec.ofChange Rows.tuneSharesSpec) :=
  OpenClaim.holds_of_wide 5 Try.f5 rfl rfl rfl rfl rfl rfl rfl ⟨rfl, rfl, rfl, rfl, rfl⟩ rfl rfl rfl rfl rfl (by kernel_rfl) Try.func5 closed
    (of_decide_eq_true (by kernel_rfl)) (by unfold Func.isWrapper; first | (rw [if_pos (by decide +kernel)]; kernel_rfl) | (rw [if_neg (by decide +kernel)]; exact ⟨rfl, rfl⟩))
    (fun os started H enc _ => lifted os started H enc)
theorem proved : Rows.TuneSharesSaid := over
#print axioms proved
end Go.Proofs.Ytmlbliggbkfjnaa.tuneShares
namespace Go.Proofs.Ytmlbliggbkfjnaa
theorem tuneShares_holds : Rows.TuneSharesSaid := tuneShares.proved
end Go.Proofs.Ytmlbliggbkfjnaa
