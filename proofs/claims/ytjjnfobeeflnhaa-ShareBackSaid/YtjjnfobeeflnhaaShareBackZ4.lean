/- Part 4 of the proof of ShareBack: what the functions compute as plain Lean functions, that the machine comes to just these answers, and that the answer is true; no conditions. -/
import Derived.Test.YtjjnfobeeflnhaaShareBackZ0
import Derived.Test.YtjjnfobeeflnhaaShareBackZ1
import Derived.Test.YtjjnfobeeflnhaaShareBackZ2
import Derived.Test.YtjjnfobeeflnhaaShareBackZ3
import Derived.WalkSmall
set_option linter.unusedSimpArgs false
set_option linter.unusedVariables false
/- Both tests of a prime and both tests of a setup answer alike, and what they answer. -/
namespace Go.Proofs.Ytjjnfobeeflnhaa.L
open Go.RowKit Go.Proofs.YtjjnfobeeflnhaaW.PrintWords Go.Proofs.Ytjjnfobeeflnhaa.J
theorem u64_small {n : Int} (h0 : 0 ≤ n) (h1 : n < 18446744073709551616) : IntKind.u64.wrap n = n := by
  simp [IntKind.wrap, IntKind.signed, IntKind.bits]
  omega
theorem w64_small {n : Int} (h0 : -9223372036854775808 ≤ n) (h1 : n < 9223372036854775808) : wrap64 n = n := by
  unfold wrap64
  omega
def free (a : Int) : Prop := ∀ y : Fin 257, 2 ≤ y.val → ((y.val : Int) * (y.val : Int)) ≤ a → a % (y.val : Int) ≠ 0
def isP (a : Int) : Bool := decide (3 ≤ a ∧ a ≤ 65537 ∧ ∀ y : Fin 257, 2 ≤ y.val → ((y.val : Int) * (y.val : Int)) ≤ a → a % (y.val : Int) ≠ 0)
theorem free_of {a : Int} (h : a ≤ 65537) (hf : ∀ y : Fin 257, 2 ≤ y.val → ((y.val : Int) * (y.val : Int)) ≤ a → a % (y.val : Int) ≠ 0) (y : Int) (h2 : 2 ≤ y) (hy : y * y ≤ a) : a % y ≠ 0 := by
  have hb : y < 257 := by
    rcases Int.lt_or_le y 257 with h' | h'
    · exact h'
    · have : 257 * 257 ≤ y * y := Int.mul_le_mul h' h' (by omega) (by omega)
      omega
  have := hf ⟨y.toNat, by omega⟩ (show 2 ≤ y.toNat by omega)
  simp only at this
  rw [show ((y.toNat : Nat) : Int) = y by omega] at this
  exact this hy
theorem isP_iff (a : Int) : isP a = true ↔ 3 ≤ a ∧ a ≤ 65537 ∧ ∀ y : Int, 2 ≤ y → y * y ≤ a → a % y ≠ 0 := by
  unfold isP
  rw [decide_eq_true_iff]
  constructor
  · rintro ⟨h1, h2, h3⟩
    exact ⟨h1, h2, fun y hy => free_of h2 h3 y hy⟩
  · rintro ⟨h1, h2, h3⟩
    exact ⟨h1, h2, fun y hy hq => h3 y.val (by omega) hq⟩
theorem sq_small {x : Int} (h0 : 0 ≤ x) (h1 : x ≤ 300) : 0 ≤ x * x ∧ x * x ≤ 90000 :=
  ⟨Int.mul_nonneg h0 h0, Int.mul_le_mul h1 h1 h0 (by omega)⟩
theorem ref_loop (a : Int) (h3 : 3 ≤ a) (ha : a ≤ 65537) : ∀ (m : Nat) (x : Int), 2 ≤ x → x + m = 258 → (∀ y : Int, 2 ≤ y → y < x → y * y ≤ a → a % y ≠ 0) → Ev (fun k => qva.l0 k a x) (isP a)
  | 0, x, h2, hx, hy => by
    have hb : isP a = true := (isP_iff a).2 ⟨h3, ha, fun y y2 yq => hy y y2 (by
      rcases Int.lt_or_le y x with h' | h'
      · exact h'
      · have : 257 * 257 ≤ y * y := Int.mul_le_mul (by omega) (by omega) (by omega) (by omega)
        omega) yq⟩
    rw [hb]
    refine Ev.step (f := fun k => some true) (fun k => ?_) (Ev.now _)
    have hq := sq_small (x := x) (by omega) (by omega)
    have : ¬ (x * x ≤ a) := by
      have : 257 * 257 ≤ x * x := Int.mul_le_mul (by omega) (by omega) (by omega) (by omega)
      omega
    simp only [qva.l0]
    rw [u64_small hq.1 (by omega), if_neg this]
  | m + 1, x, h2, hx, hy => by
    have hq := sq_small (x := x) (by omega) (by omega)
    by_cases hle : x * x ≤ a
    · by_cases hd : a % x = 0
      · have hb : isP a = false := by
          rw [Bool.eq_false_iff]
          intro h'
          exact ((isP_iff a).1 h').2.2 x h2 hle hd
        rw [hb]
        refine Ev.step (f := fun k => some false) (fun k => ?_) (Ev.now _)
        simp only [qva.l0]
        rw [u64_small hq.1 (by omega), if_pos hle, if_neg (show ¬ x = 0 by omega), if_pos (by rw [Int.tmod_eq_emod_of_nonneg (by omega)]; exact hd)]
      · refine Ev.step (f := fun k => qva.l0 k a (x + 1)) (fun k => ?_) (ref_loop a h3 ha m (x + 1) (by omega) (by omega) fun y y2 yx yq => ?_)
        · conv => lhs; simp only [qva.l0]
          rw [u64_small hq.1 (by omega), if_pos hle, if_neg (show ¬ x = 0 by omega), if_neg (by rw [Int.tmod_eq_emod_of_nonneg (by omega)]; exact hd), u64_small (show 0 ≤ x + 1 by omega) (by omega)]
        · rcases Int.lt_or_le y x with h' | h'
          · exact hy y y2 h' yq
          · obtain rfl : y = x := by omega
            exact hd
    · have hb : isP a = true := (isP_iff a).2 ⟨h3, ha, fun y y2 yq => hy y y2 (by
        rcases Int.lt_or_le y x with h' | h'
        · exact h'
        · have : x * x ≤ y * y := Int.mul_le_mul h' h' (by omega) (by omega)
          omega) yq⟩
      rw [hb]
      refine Ev.step (f := fun k => some true) (fun k => ?_) (Ev.now _)
      simp only [qva.l0]
      rw [u64_small hq.1 (by omega), if_neg hle]
theorem odd_loop (a : Int) (h3 : 3 ≤ a) (ha : a ≤ 65537) (hodd : a % 2 = 1) : ∀ (m : Nat) (x : Int), 3 ≤ x → x % 2 = 1 → x + 2 * m = 259 → (∀ y : Int, 2 ≤ y → y < x → y * y ≤ a → a % y ≠ 0) → Ev (fun k => qbb.l0 k a x) (isP a)
  | 0, x, h2, hxo, hx, hy => by
    have hb : isP a = true := (isP_iff a).2 ⟨h3, ha, fun y y2 yq => hy y y2 (by
      rcases Int.lt_or_le y x with h' | h'
      · exact h'
      · have : 257 * 257 ≤ y * y := Int.mul_le_mul (by omega) (by omega) (by omega) (by omega)
        omega) yq⟩
    rw [hb]
    refine Ev.step (f := fun k => some true) (fun k => ?_) (Ev.now _)
    have hq := sq_small (x := x) (by omega) (by omega)
    have : ¬ (x * x ≤ a) := by
      have : 257 * 257 ≤ x * x := Int.mul_le_mul (by omega) (by omega) (by omega) (by omega)
      omega
    simp only [qbb.l0]
    rw [u64_small hq.1 (by omega), if_neg this]
  | m + 1, x, h2, hxo, hx, hy => by
    have hq := sq_small (x := x) (by omega) (by omega)
    by_cases hle : x * x ≤ a
    · by_cases hd : a % x = 0
      · have hb : isP a = false := by
          rw [Bool.eq_false_iff]
          intro h'
          exact ((isP_iff a).1 h').2.2 x (by omega) hle hd
        rw [hb]
        refine Ev.step (f := fun k => some false) (fun k => ?_) (Ev.now _)
        simp only [qbb.l0]
        rw [u64_small hq.1 (by omega), if_pos hle, if_neg (show ¬ x = 0 by omega), if_pos (by rw [Int.tmod_eq_emod_of_nonneg (by omega)]; exact hd)]
      · refine Ev.step (f := fun k => qbb.l0 k a (x + 2)) (fun k => ?_) (odd_loop a h3 ha hodd m (x + 2) (by omega) (by omega) (by omega) fun y y2 yx yq => ?_)
        · conv => lhs; simp only [qbb.l0]
          rw [u64_small hq.1 (by omega), if_pos hle, if_neg (show ¬ x = 0 by omega), if_neg (by rw [Int.tmod_eq_emod_of_nonneg (by omega)]; exact hd), u64_small (show 0 ≤ x + 2 by omega) (by omega)]
        · rcases Int.lt_or_le y x with h' | h'
          · exact hy y y2 h' yq
          · rcases Int.lt_or_le x y with h'' | h''
            · obtain rfl : y = x + 1 := by omega
              intro h0
              have h1 : (2 : Int) ∣ a := Int.dvd_trans (Int.dvd_of_emod_eq_zero (by omega)) (Int.dvd_of_emod_eq_zero h0)
              have := Int.emod_eq_zero_of_dvd h1
              omega
            · obtain rfl : y = x := by omega
              exact hd
    · have hb : isP a = true := (isP_iff a).2 ⟨h3, ha, fun y y2 yq => hy y y2 (by
        rcases Int.lt_or_le y x with h' | h'
        · exact h'
        · have : x * x ≤ y * y := Int.mul_le_mul h' h' (by omega) (by omega)
          omega) yq⟩
      rw [hb]
      refine Ev.step (f := fun k => some true) (fun k => ?_) (Ev.now _)
      simp only [qbb.l0]
      rw [u64_small hq.1 (by omega), if_neg hle]
theorem not_isP {a : Int} (h : ¬ (3 ≤ a ∧ a ≤ 65537)) : isP a = false := by
  rw [Bool.eq_false_iff]
  intro h'
  have := (isP_iff a).1 h'
  exact h ⟨this.1, this.2.1⟩
theorem ref_is (a : Int) : Ev (fun k => qva.f k a) (isP a) := by
  by_cases h3 : a < 3
  · rw [not_isP (by omega)]
    refine Ev.step (f := fun k => some false) (fun k => ?_) (Ev.now _)
    simp [qva.f, qva.j0, h3]
  · by_cases hb : a > 65537
    · rw [not_isP (by omega)]
      refine Ev.step (f := fun k => some false) (fun k => ?_) (Ev.now _)
      simp [qva.f, qva.j0, h3, hb]
    · refine Ev.step (f := fun k => qva.l0 k a 2) (fun k => ?_) (ref_loop a (by omega) (by omega) 256 2 (by omega) (by omega) fun y y2 yx => by omega)
      simp [qva.f, qva.j0, h3, hb]
theorem field_is (a : Int) : Ev (fun k => qbb.f k a) (isP a) := by
  by_cases h3 : a < 3
  · rw [not_isP (by omega)]
    refine Ev.step (f := fun k => some false) (fun k => ?_) (Ev.now _)
    simp [qbb.f, qbb.j0, h3]
  · by_cases hb : a > 65537
    · rw [not_isP (by omega)]
      refine Ev.step (f := fun k => some false) (fun k => ?_) (Ev.now _)
      simp [qbb.f, qbb.j0, h3, hb]
    · by_cases ho : a % 2 = 0
      · have hp : isP a = false := by
          rw [Bool.eq_false_iff]
          intro h'
          exact ((isP_iff a).1 h').2.2 2 (by omega) (by omega) ho
        rw [hp]
        refine Ev.step (f := fun k => some false) (fun k => ?_) (Ev.now _)
        have ht : Int.tmod a 2 = 0 := by rw [Int.tmod_eq_emod_of_nonneg (by omega)]; exact ho
        simp [qbb.f, qbb.j0, h3, hb, ht]
      · refine Ev.step (f := fun k => qbb.l0 k a 3) (fun k => ?_) (odd_loop a (by omega) (by omega) (by omega) 128 3 (by omega) (by omega) (by omega) fun y y2 yx yq => ?_)
        · have ht : ¬ Int.tmod a 2 = 0 := by rw [Int.tmod_eq_emod_of_nonneg (by omega)]; exact ho
          simp [qbb.f, qbb.j0, h3, hb, ht]
        · obtain rfl : y = 2 := by omega
          exact ho
def setupV (p n t : Int) : Int := if isP p = true ∧ 1 ≤ n ∧ n ≤ 13 ∧ 0 ≤ t ∧ 4 * t + 1 ≤ n ∧ n < p then 0 else 2
theorem setupV_ok {p n t : Int} (h : setupV p n t = 0) : isP p = true ∧ 1 ≤ n ∧ n ≤ 13 ∧ 0 ≤ t ∧ 4 * t + 1 ≤ n ∧ n < p := by
  unfold setupV at h
  split at h
  · assumption
  · cases h
theorem share_setup (p n t : Int) : Ev (fun k => qab.f k p n t) (setupV p n t) := by
  unfold qab.f
  refine Ev.bind (field_is p) ?_
  unfold setupV
  by_cases hp : isP p = true
  · have h3 := ((isP_iff p).1 hp)
    simp only [hp, if_true, true_and]
    by_cases h1 : n < 1
    · rw [if_pos h1, if_neg (by omega)]; exact Ev.now _
    rw [if_neg h1]
    by_cases h2 : n > 13
    · rw [if_pos h2, if_neg (by omega)]; exact Ev.now _
    rw [if_neg h2]
    by_cases h4 : t < 0
    · rw [if_pos h4, if_neg (by omega)]; exact Ev.now _
    rw [if_neg h4]
    by_cases h5 : t > n
    · rw [if_pos h5, if_neg (by omega)]; exact Ev.now _
    rw [if_neg h5, w64_small (n := 4 * t) (by omega) (by omega), w64_small (by omega) (by omega)]
    by_cases h6 : 4 * t + 1 > n
    · rw [if_pos h6, if_neg (by omega)]; exact Ev.now _
    rw [if_neg h6, u64_small (by omega) (by omega)]
    by_cases h7 : p ≤ n
    · rw [if_pos h7, if_neg (by omega)]; exact Ev.now _
    · rw [if_neg h7, if_pos (by omega)]; exact Ev.now _
  · rw [if_neg hp, if_neg (fun h => hp h.1)]
    exact Ev.now _
theorem ref_setup (p n t : Int) : Ev (fun k => qvb.f k p n t) (setupV p n t) := by
  unfold qvb.f
  refine Ev.bind (ref_is p) ?_
  unfold setupV
  by_cases hp : isP p = true
  · have h3 := ((isP_iff p).1 hp)
    simp only [hp, if_true, true_and]
    by_cases h1 : n < 1
    · rw [if_pos h1, if_neg (by omega)]; exact Ev.now _
    rw [if_neg h1]
    by_cases h2 : n > 13
    · rw [if_pos h2, if_neg (by omega)]; exact Ev.now _
    rw [if_neg h2]
    by_cases h4 : t < 0
    · rw [if_pos h4, if_neg (by omega)]; exact Ev.now _
    rw [if_neg h4]
    by_cases h5 : t > 13
    · rw [if_pos h5, if_neg (by omega)]; exact Ev.now _
    rw [if_neg h5, w64_small (n := 4 * t) (by omega) (by omega), w64_small (by omega) (by omega)]
    by_cases h6 : n < 4 * t + 1
    · rw [if_pos h6, if_neg (by omega)]; exact Ev.now _
    rw [if_neg h6, u64_small (by omega) (by omega)]
    by_cases h7 : p ≤ n
    · rw [if_pos h7, if_neg (by omega)]; exact Ev.now _
    · rw [if_neg h7, if_pos (by omega)]; exact Ev.now _
  · rw [if_neg hp, if_neg (fun h => hp h.1)]
    exact Ev.now _
def belowV (p : Int) (l : List Int) : Int := if ∀ x ∈ l, x < p then 0 else 2
theorem below_loop (p : Int) (l : List Int) (hl : l.length ≤ maxLen) : ∀ (m i : Nat), i + m = l.length → (∀ x ∈ l.take i, x < p) → Ev (fun k => qcb.l0 k p l (l.length : Int) (i : Int)) (belowV p l)
  | 0, i, hi, hx => by
    have hv : belowV p l = 0 := by
      unfold belowV
      rw [if_pos]
      rw [List.take_of_length_le (by omega)] at hx
      exact hx
    rw [hv]
    refine Ev.step (f := fun k => some 0) (fun k => ?_) (Ev.now _)
    simp only [qcb.l0]
    rw [if_neg (by omega)]
  | m + 1, i, hi, hx => by
    have hm : (l.length : Int) ≤ 9223372036854775807 := by simp only [maxLen] at hl; omega
    have hlt : i < l.length := by omega
    have hr : rd l (i : Int) = l[i] := by simp [rd, List.getD_eq_getElem?_getD, hlt]
    by_cases hge : l[i] ≥ p
    · have hv : belowV p l = 2 := by
        unfold belowV
        rw [if_neg]
        intro h'
        have := h' _ (List.getElem_mem hlt)
        omega
      rw [hv]
      refine Ev.step (f := fun k => some 2) (fun k => ?_) (Ev.now _)
      simp only [qcb.l0]
      rw [if_pos (by omega), if_pos (by omega), if_pos (by omega), if_pos (by rw [hr]; exact hge)]
    · refine Ev.step (f := fun k => qcb.l0 k p l (l.length : Int) ((i + 1 : Nat) : Int)) (fun k => ?_) (below_loop p l hl m (i + 1) (by omega) fun x hx' => ?_)
      · conv => lhs; simp only [qcb.l0]
        rw [if_pos (by omega), if_pos (by omega), if_pos (by omega), if_neg (by rw [hr]; exact hge), w64_small (by omega) (by omega)]
        rfl
      · rw [List.take_add_one, List.mem_append] at hx'
        rcases hx' with h' | h'
        · exact hx x h'
        · rw [List.getElem?_eq_getElem hlt] at h'
          simp only [Option.toList_some, List.mem_singleton] at h'
          rw [h']; omega
theorem field_below (p : Int) (l : List Int) (hl : l.length ≤ maxLen) : Ev (fun k => qcb.f k p l) (belowV p l) :=
  below_loop p l hl l.length 0 (by omega) (fun x hx => by simp at hx)
end Go.Proofs.Ytjjnfobeeflnhaa.L
/- Both ways to evaluate a polynomial answer alike, and what they answer. -/
namespace Go.Proofs.Ytjjnfobeeflnhaa.L
open Go.RowKit Go.Proofs.YtjjnfobeeflnhaaW.PrintWords Go.Proofs.Ytjjnfobeeflnhaa.J
theorem mul_small {p a b : Int} (hp : p ≤ 65537) (ha : 0 ≤ a) (ha' : a < p) (hb : 0 ≤ b) (hb' : b < p) : 0 ≤ a * b ∧ a * b < 18446744073709551616 := by
  have h1 : a * b ≤ 65537 * 65537 := Int.mul_le_mul (by omega) (by omega) hb (by omega)
  exact ⟨Int.mul_nonneg ha hb, by omega⟩
theorem times_at {p a b : Int} (h0 : 0 < p) (hp : p ≤ 65537) (ha : 0 ≤ a) (ha' : a < p) (hb : 0 ≤ b) (hb' : b < p) : qub.f p a b = some (a * b % p) := by
  obtain ⟨h1, h2⟩ := mul_small hp ha ha' hb hb'
  unfold qub.f qmc.f
  simp only [u64_small h1 h2, if_neg (show ¬ p = 0 by omega), Option.bind_some, Int.tmod_eq_emod_of_nonneg h1]
theorem ref_mul {p a b : Int} (h0 : 0 < p) (hp : p ≤ 65537) (ha : 0 ≤ a) (ha' : a < p) (hb : 0 ≤ b) (hb' : b < p) : qgc.f p a b = some (a * b % p) := by
  obtain ⟨h1, h2⟩ := mul_small hp ha ha' hb hb'
  unfold qgc.f
  rw [u64_small h1 h2, if_neg (show ¬ p = 0 by omega), Int.tmod_eq_emod_of_nonneg h1]
theorem ref_add {p a b : Int} (h0 : 0 < p) (hp : p ≤ 65537) (ha : 0 ≤ a) (ha' : a < p) (hb : 0 ≤ b) (hb' : b < p) : qhc.f p a b = some ((a + b) % p) := by
  unfold qhc.f
  rw [u64_small (by omega) (by omega), if_neg (show ¬ p = 0 by omega), Int.tmod_eq_emod_of_nonneg (by omega)]
theorem plus_at {p a b : Int} (h0 : 0 < p) (hp : p ≤ 65537) (ha : 0 ≤ a) (ha' : a < p) (hb : 0 ≤ b) (hb' : b < p) : qbc.f p a b = some ((a + b) % p) := by
  unfold qbc.f
  rw [u64_small (n := a + b) (by omega) (by omega)]
  by_cases h : a + b ≥ p
  · rw [if_pos h, u64_small (by omega) (by omega)]
    rw [show (a + b) % p = a + b - p by rw [← Int.sub_emod_right, Int.emod_eq_of_lt (by omega) (by omega)]]
  · rw [if_neg h, Int.emod_eq_of_lt (by omega) (by omega)]
def valV (p x : Int) : List Int → Int
  | [] => 0
  | c :: cs => (valV p x cs * x % p + c) % p
theorem valV_range {p : Int} (h0 : 0 < p) (x : Int) : ∀ l, 0 ≤ valV p x l ∧ valV p x l < p
  | [] => ⟨Int.le_refl _, h0⟩
  | _ :: _ => ⟨Int.emod_nonneg _ (by omega), Int.emod_lt_of_pos _ h0⟩
theorem at_run {p x : Int} (h0 : 0 < p) (hp : p ≤ 65537) (hx : 0 ≤ x) (hx' : x < p) : ∀ (l : List Int), (∀ c ∈ l, 0 ≤ c ∧ c < p) → qzb.run p x l.reverse (some 0) = some (valV p x l)
  | [], _ => rfl
  | c :: cs, h => by
    rw [List.reverse_cons, qzb.run_snoc, at_run h0 hp hx hx' cs (fun d hd => h d (List.mem_cons_of_mem _ hd))]
    have hc := h c (List.mem_cons_self ..)
    have hv := valV_range h0 x cs
    show qzb.step p x (valV p x cs) c = _
    unfold qzb.step
    rw [times_at h0 hp hv.1 hv.2 hx hx']
    exact plus_at h0 hp (Int.emod_nonneg _ (by omega)) (Int.emod_lt_of_pos _ h0) hc.1 hc.2
theorem poly_at {p x : Int} (h0 : 0 < p) (hp : p ≤ 65537) (hx : 0 ≤ x) (hx' : x < p) (l : List Int) (h : ∀ c ∈ l, 0 ≤ c ∧ c < p) : qzb.f p l x = some (valV p x l) := at_run h0 hp hx hx' l h
end Go.Proofs.Ytjjnfobeeflnhaa.L
/- The field of the residues modulo a prime: primes by trial division, no zero divisors, Fermat. Plain Lean, no program in sight. -/
namespace Go.Proofs.Ytjjnfobeeflnhaa.Fld
def Pr (p : Nat) : Prop := 2 ≤ p ∧ ∀ d, d ∣ p → d = 1 ∨ d = p
theorem Pr.dvd_mul {p a b : Nat} (hp : Pr p) (h : p ∣ a * b) : p ∣ a ∨ p ∣ b := by
  by_cases ha : p ∣ a
  · exact .inl ha
  · right
    have hc : Nat.Coprime p a := by
      rcases hp.2 _ (Nat.gcd_dvd_left p a) with h' | h'
      · exact h'
      · exact absurd (h' ▸ Nat.gcd_dvd_right p a) ha
    exact hc.dvd_of_dvd_mul_left h
theorem pr_of_trial {p : Nat} (h2 : 2 ≤ p) (h : ∀ d, 2 ≤ d → d * d ≤ p → p % d ≠ 0) : Pr p := by
  refine ⟨h2, fun d hd => ?_⟩
  obtain ⟨e, he⟩ := hd
  by_cases h1 : d = 1
  · exact .inl h1
  by_cases h3 : e = 1
  · right; rw [he, h3, Nat.mul_one]
  exfalso
  have hd0 : d ≠ 0 := by rintro rfl; omega
  have he0 : e ≠ 0 := by rintro rfl; omega
  by_cases hle : d ≤ e
  · refine h d (by omega) ?_ (Nat.mod_eq_zero_of_dvd ⟨e, he⟩)
    rw [he]; exact Nat.mul_le_mul_left d hle
  · refine h e (by omega) ?_ (Nat.mod_eq_zero_of_dvd ⟨d, by rw [he, Nat.mul_comm]⟩)
    rw [he]; exact Nat.mul_le_mul_right e (by omega)
section
variable {p : Nat} [NeZero p]
theorem mul_eq_zero (hp : Pr p) {a b : Fin p} (h : a * b = 0) : a = 0 ∨ b = 0 := by
  have h1 : (a.val * b.val) % p = 0 := by have := congrArg Fin.val h; simpa [Fin.val_mul] using this
  rcases hp.dvd_mul (Nat.dvd_of_mod_eq_zero h1) with h | h
  · left; apply Fin.ext; exact Nat.eq_zero_of_dvd_of_lt h a.isLt
  · right; apply Fin.ext; exact Nat.eq_zero_of_dvd_of_lt h b.isLt
theorem one_ne_zero (hp : Pr p) : (1 : Fin p) ≠ 0 := by
  intro h
  have := congrArg Fin.val h
  have h2 := hp.1
  have h1 : ((1 : Fin p) : Nat) = 1 % p := rfl
  rw [h1, Nat.mod_eq_of_lt (by omega)] at this
  simp at this
theorem mul_cancel (hp : Pr p) {a b c : Fin p} (ha : a ≠ 0) (h : a * b = a * c) : b = c := by
  have : a * (b - c) = 0 := by grind
  rcases mul_eq_zero hp this with h | h
  · exact absurd h ha
  · grind
def pr (l : List (Fin p)) : Fin p := l.foldr (· * ·) 1
theorem pr_cons (a : Fin p) (l : List (Fin p)) : pr (a :: l) = a * pr l := rfl
theorem pr_perm {l l' : List (Fin p)} (h : l.Perm l') : pr l = pr l' := by
  induction h with
  | nil => rfl
  | cons x _ ih => rw [pr_cons, pr_cons, ih]
  | swap x y l => simp only [pr_cons]; grind
  | trans _ _ ih1 ih2 => exact ih1.trans ih2
theorem pr_ne_zero (hp : Pr p) {l : List (Fin p)} (h : ∀ a, a ∈ l → a ≠ 0) : pr l ≠ 0 := by
  induction l with
  | nil => exact one_ne_zero hp
  | cons a l ih =>
    intro h'
    rcases mul_eq_zero hp (pr_cons a l ▸ h') with h0 | h0
    · exact h a (by simp) h0
    · exact ih (fun b hb => h b (by simp [hb])) h0
theorem pr_map_mul (a : Fin p) (l : List (Fin p)) : pr (l.map (a * ·)) = a ^ l.length * pr l := by
  induction l with
  | nil => simp only [List.map_nil, List.length_nil]; show (1 : Fin p) = a ^ 0 * 1; grind
  | cons b l ih => rw [List.map_cons, pr_cons, pr_cons, ih, List.length_cons]; grind
theorem perm_of_subset {α : Type} [BEq α] [LawfulBEq α] : ∀ (l l' : List α), l.Nodup → (∀ a, a ∈ l → a ∈ l') → l'.length ≤ l.length → l.Perm l'
  | [], l', _, _, h => by
    have : l' = [] := List.eq_nil_of_length_eq_zero (by simpa using h)
    rw [this]
  | a :: l, l', hn, hs, h => by
    have ha := hs a (by simp)
    have hp := List.perm_cons_erase ha
    have hlen : (l'.erase a).length + 1 = l'.length := by have := hp.length_eq; simpa using this.symm
    obtain ⟨hna, hn⟩ := List.nodup_cons.1 hn
    refine List.Perm.trans ?_ hp.symm
    refine List.Perm.cons a (perm_of_subset l (l'.erase a) hn ?_ (by simp at h; omega))
    intro b hb
    have hne : b ≠ a := by rintro rfl; exact hna hb
    exact (List.mem_erase_of_ne hne).2 (hs b (by simp [hb]))
def units (p : Nat) [NeZero p] : List (Fin p) := (List.range (p - 1)).map fun i => Fin.ofNat p (i + 1)
theorem units_length : (units p).length = p - 1 := by simp [units]
theorem units_ne {a : Fin p} (h : a ∈ units p) : a ≠ 0 := by
  obtain ⟨i, hi, rfl⟩ := List.mem_map.1 h
  have hi := List.mem_range.1 hi
  intro h
  have := congrArg Fin.val h
  simp only [Fin.ofNat, Fin.val_zero] at this
  rw [Nat.mod_eq_of_lt (by omega)] at this
  omega
theorem mem_units {a : Fin p} (h : a ≠ 0) : a ∈ units p := by
  have h0 : a.val ≠ 0 := fun h' => h (Fin.ext h')
  refine List.mem_map.2 ⟨a.val - 1, List.mem_range.2 (by have := a.isLt; omega), ?_⟩
  apply Fin.ext
  simp only [Fin.ofNat]
  rw [Nat.mod_eq_of_lt (by have := a.isLt; omega)]
  omega
theorem units_nodup : (units p).Nodup := by
  unfold units List.Nodup
  rw [List.pairwise_map]
  refine List.Pairwise.imp_of_mem ?_ List.nodup_range
  intro i j hi hj hne h
  have hi := List.mem_range.1 hi
  have hj := List.mem_range.1 hj
  have := congrArg Fin.val h
  simp only [Fin.ofNat] at this
  rw [Nat.mod_eq_of_lt (by omega), Nat.mod_eq_of_lt (by omega)] at this
  omega
theorem fermat (hp : Pr p) {a : Fin p} (ha : a ≠ 0) : a ^ (p - 1) = 1 := by
  have hperm : ((units p).map (a * ·)).Perm (units p) := by
    refine perm_of_subset _ _ ?_ ?_ (by simp)
    · unfold List.Nodup
      rw [List.pairwise_map]
      refine List.Pairwise.imp ?_ (units_nodup (p := p))
      intro x y hne h
      exact hne (mul_cancel hp ha h)
    · intro x hx
      obtain ⟨y, hy, rfl⟩ := List.mem_map.1 hx
      refine mem_units fun h => ?_
      rcases mul_eq_zero hp h with h | h
      · exact ha h
      · exact units_ne hy h
  have h1 := pr_perm hperm
  rw [pr_map_mul, units_length] at h1
  have h2 : pr (units p) ≠ 0 := pr_ne_zero hp fun a h => units_ne h
  exact mul_cancel hp (a := pr (units p)) h2 (by grind)
def inv (a : Fin p) : Fin p := a ^ (p - 2)
theorem inv_mul (hp : Pr p) {a : Fin p} (ha : a ≠ 0) : inv a * a = 1 := by
  have h := fermat hp ha
  have h2 := hp.1
  have : p - 1 = (p - 2) + 1 := by omega
  rw [this] at h
  unfold inv
  grind
theorem mul_inv (hp : Pr p) {a : Fin p} (ha : a ≠ 0) : a * inv a = 1 := by have := inv_mul hp ha; grind
theorem pow_double (a : Fin p) (n : Nat) : (a * a) ^ n = a ^ (2 * n) := by
  induction n with
  | zero => simp only [Nat.mul_zero]; grind
  | succ n ih =>
    have : 2 * (n + 1) = 2 * n + 1 + 1 := by omega
    rw [this]; grind
end
end Go.Proofs.Ytjjnfobeeflnhaa.Fld
/- Polynomials over the residues modulo a prime, as lists of coefficients: sums, products, values, trailing zeros, division, interpolation. Plain Lean, no program in sight. -/
namespace Go.Proofs.Ytjjnfobeeflnhaa.Fld
section
variable {p : Nat} [NeZero p]
def sm : Nat → (Nat → Fin p) → Fin p
  | 0, _ => 0
  | n + 1, g => sm n g + g n
theorem sm_succ (n : Nat) (g : Nat → Fin p) : sm (n + 1) g = sm n g + g n := rfl
theorem sm_congr {n : Nat} {g h : Nat → Fin p} (e : ∀ i, i < n → g i = h i) : sm n g = sm n h := by
  induction n with
  | zero => rfl
  | succ n ih => rw [sm_succ, sm_succ, ih (fun i hi => e i (by omega)), e n (by omega)]
theorem sm_zero {n : Nat} {g : Nat → Fin p} (e : ∀ i, i < n → g i = 0) : sm n g = 0 := by
  induction n with
  | zero => rfl
  | succ n ih => rw [sm_succ, ih (fun i hi => e i (by omega)), e n (by omega)]; grind
theorem sm_add (n : Nat) (g h : Nat → Fin p) : sm n (fun i => g i + h i) = sm n g + sm n h := by
  induction n with
  | zero => show (0 : Fin p) = 0 + 0; grind
  | succ n ih => rw [sm_succ, sm_succ, sm_succ, ih]; grind
theorem sm_mul (n : Nat) (c : Fin p) (g : Nat → Fin p) : sm n (fun i => c * g i) = c * sm n g := by
  induction n with
  | zero => show (0 : Fin p) = c * 0; grind
  | succ n ih => rw [sm_succ, sm_succ, ih]; grind
theorem sm_mul' (n : Nat) (c : Fin p) (g : Nat → Fin p) : sm n (fun i => g i * c) = sm n g * c := by
  induction n with
  | zero => show (0 : Fin p) = 0 * c; grind
  | succ n ih => rw [sm_succ, sm_succ, ih]; grind
theorem sm_front (n : Nat) (g : Nat → Fin p) : sm (n + 1) g = g 0 + sm n (fun i => g (i + 1)) := by
  induction n with
  | zero => show 0 + g 0 = g 0 + 0; grind
  | succ n ih => rw [sm_succ, ih, sm_succ]; grind
theorem sm_rev (n : Nat) (g : Nat → Fin p) : sm (n + 1) g = sm (n + 1) (fun i => g (n - i)) := by
  induction n generalizing g with
  | zero => rfl
  | succ n ih =>
    rw [sm_front, ih (fun i => g (i + 1)), sm_succ (n + 1) (fun i => g (n + 1 - i))]
    have : sm (n + 1) (fun i => g (n - i + 1)) = sm (n + 1) (fun i => g (n + 1 - i)) := sm_congr fun i hi => by congr 1; omega
    rw [this, show n + 1 - (n + 1) = 0 by omega]; grind
theorem sm_more {n m : Nat} {g : Nat → Fin p} (h : n ≤ m) (e : ∀ i, n ≤ i → i < m → g i = 0) : sm m g = sm n g := by
  induction m with
  | zero => rw [show n = 0 by omega]
  | succ m ih =>
    by_cases hn : n = m + 1
    · rw [hn]
    · rw [sm_succ, ih (by omega) (fun i h1 h2 => e i h1 (by omega)), e m (by omega) (by omega)]; grind
theorem sm_one {n k : Nat} {g : Nat → Fin p} (hk : k < n) (e : ∀ i, i < n → i ≠ k → g i = 0) : sm n g = g k := by
  induction n with
  | zero => omega
  | succ n ih =>
    rw [sm_succ]
    by_cases h : k = n
    · rw [h, sm_zero (fun i hi => e i (by omega) (by omega))]; grind
    · rw [ih (by omega) (fun i h1 h2 => e i (by omega) h2), e n (by omega) (by omega)]; grind
def co (f : List (Fin p)) (i : Nat) : Fin p := f.getD i 0
theorem co_nil (i : Nat) : co ([] : List (Fin p)) i = 0 := by simp [co]
theorem co_cons_zero (a : Fin p) (f : List (Fin p)) : co (a :: f) 0 = a := by simp [co]
theorem co_cons_succ (a : Fin p) (f : List (Fin p)) (i : Nat) : co (a :: f) (i + 1) = co f i := by simp [co]
theorem co_ge {f : List (Fin p)} {i : Nat} (h : f.length ≤ i) : co f i = 0 := by simp [co, List.getD_eq_getElem?_getD, List.getElem?_eq_none h]
theorem co_lt {f : List (Fin p)} {i : Nat} (h : i < f.length) : co f i = f[i] := by simp [co, List.getD_eq_getElem?_getD, h]
def ev (f : List (Fin p)) (x : Fin p) : Fin p := f.foldr (fun c v => v * x + c) 0
theorem ev_nil (x : Fin p) : ev [] x = 0 := rfl
theorem ev_cons (a : Fin p) (f : List (Fin p)) (x : Fin p) : ev (a :: f) x = ev f x * x + a := rfl
theorem ev_sm (f : List (Fin p)) (x : Fin p) : ∀ n, f.length ≤ n → ev f x = sm n (fun i => co f i * x ^ i) := by
  induction f with
  | nil => intro n _; rw [ev_nil, sm_zero]; intro i _; rw [co_nil]; grind
  | cons a f ih =>
    intro n hn
    obtain ⟨m, rfl⟩ : ∃ m, n = m + 1 := ⟨n - 1, by simp at hn; omega⟩
    rw [ev_cons, sm_front, ih m (by simp at hn; omega), co_cons_zero]
    have : sm m (fun i => co (a :: f) (i + 1) * x ^ (i + 1)) = sm m (fun i => co f i * x ^ i * x) := sm_congr fun i _ => by rw [co_cons_succ]; grind
    rw [this, sm_mul']; grind
def Eqv (f g : List (Fin p)) : Prop := ∀ i, co f i = co g i
theorem Eqv.refl (f : List (Fin p)) : Eqv f f := fun _ => rfl
theorem Eqv.symm {f g : List (Fin p)} (h : Eqv f g) : Eqv g f := fun i => (h i).symm
theorem Eqv.trans {f g k : List (Fin p)} (h : Eqv f g) (h' : Eqv g k) : Eqv f k := fun i => (h i).trans (h' i)
theorem Eqv.ev {f g : List (Fin p)} (h : Eqv f g) (x : Fin p) : ev f x = ev g x := by
  rw [ev_sm f x (max f.length g.length) (by omega), ev_sm g x (max f.length g.length) (by omega)]
  exact sm_congr fun i _ => by rw [h i]
def trim (f : List (Fin p)) : List (Fin p) := f.foldr (fun c r => if r = [] ∧ c = 0 then [] else c :: r) []
theorem trim_nil : trim ([] : List (Fin p)) = [] := rfl
theorem trim_cons (a : Fin p) (f : List (Fin p)) : trim (a :: f) = if trim f = [] ∧ a = 0 then [] else a :: trim f := rfl
theorem trim_co (f : List (Fin p)) : Eqv (trim f) f := by
  induction f with
  | nil => exact Eqv.refl _
  | cons a f ih =>
    intro i
    rw [trim_cons]
    split
    · rename_i h
      obtain ⟨h1, rfl⟩ := h
      cases i with
      | zero => rw [co_nil, co_cons_zero]
      | succ i => rw [co_nil, co_cons_succ, ← ih i, h1, co_nil]
    · cases i with
      | zero => rw [co_cons_zero, co_cons_zero]
      | succ i => rw [co_cons_succ, co_cons_succ, ih i]
theorem trim_eq_nil {f : List (Fin p)} (h : ∀ i, co f i = 0) : trim f = [] := by
  induction f with
  | nil => rfl
  | cons a f ih =>
    rw [trim_cons, if_pos ⟨ih (fun i => by rw [← co_cons_succ a, h]), by rw [← co_cons_zero a f, h]⟩]
theorem trim_congr {f g : List (Fin p)} (h : Eqv f g) : trim f = trim g := by
  induction f generalizing g with
  | nil => rw [trim_nil, trim_eq_nil (fun i => by rw [← h i, co_nil])]
  | cons a f ih =>
    cases g with
    | nil => rw [trim_nil, trim_eq_nil (fun i => by rw [h i, co_nil])]
    | cons b g =>
      have h0 : a = b := by have := h 0; rwa [co_cons_zero, co_cons_zero] at this
      have h1 : Eqv f g := fun i => by have := h (i + 1); rwa [co_cons_succ, co_cons_succ] at this
      rw [trim_cons, trim_cons, ih h1, h0]
theorem trim_trim (f : List (Fin p)) : trim (trim f) = trim f := trim_congr (trim_co f)
theorem trim_length_le (f : List (Fin p)) : (trim f).length ≤ f.length := by
  induction f with
  | nil => simp [trim_nil]
  | cons a f ih => rw [trim_cons]; split <;> simp <;> omega
theorem trim_length_of {f : List (Fin p)} {n : Nat} (h : ∀ i, n ≤ i → co f i = 0) : (trim f).length ≤ n := by
  induction f generalizing n with
  | nil => simp [trim_nil]
  | cons a f ih =>
    rw [trim_cons]
    split
    · simp
    · rename_i hne
      cases n with
      | zero =>
        exfalso; apply hne
        exact ⟨trim_eq_nil fun i => by rw [← co_cons_succ a, h _ (by omega)], by rw [← co_cons_zero a f, h 0 (by omega)]⟩
      | succ n =>
        have := ih (n := n) (fun i hi => by rw [← co_cons_succ a, h _ (by omega)])
        simp; omega
theorem trim_last {f : List (Fin p)} (h : trim f ≠ []) : co f ((trim f).length - 1) ≠ 0 := by
  intro h0
  have hl : 0 < (trim f).length := List.length_pos_iff.2 h
  have := trim_length_of (f := f) (n := (trim f).length - 1) (fun i hi => by
    by_cases e : i = (trim f).length - 1
    · rw [e]; exact h0
    · rw [← trim_co f i]; exact co_ge (by omega))
  omega
def Tr (f : List (Fin p)) : Prop := trim f = f
theorem Tr.trim (f : List (Fin p)) : Tr (trim f) := trim_trim f
theorem Tr.ext {f g : List (Fin p)} (hf : Tr f) (hg : Tr g) (h : Eqv f g) : f = g := by rw [← hf, ← hg, trim_congr h]
theorem Tr.last {f : List (Fin p)} (hf : Tr f) (h : f ≠ []) : co f (f.length - 1) ≠ 0 := by
  have := trim_last (f := f) (by rw [hf]; exact h)
  rwa [hf] at this
def mk (n : Nat) (c : Nat → Fin p) : List (Fin p) := (List.range n).map c
end
section
variable {p : Nat}
theorem mk_length (n : Nat) (c : Nat → Fin p) : (mk n c).length = n := by simp [mk]
end
section
variable {p : Nat} [NeZero p]
theorem co_mk (n : Nat) (c : Nat → Fin p) (i : Nat) : co (mk n c) i = if i < n then c i else 0 := by
  by_cases h : i < n
  · rw [co_lt (by rw [mk_length]; exact h), if_pos h]; simp [mk]
  · rw [co_ge (by rw [mk_length]; omega), if_neg h]
def add (f g : List (Fin p)) : List (Fin p) := mk (max f.length g.length) (fun i => co f i + co g i)
def sub (f g : List (Fin p)) : List (Fin p) := mk (max f.length g.length) (fun i => co f i - co g i)
def smul (c : Fin p) (f : List (Fin p)) : List (Fin p) := f.map (c * ·)
theorem co_add (f g : List (Fin p)) (i : Nat) : co (add f g) i = co f i + co g i := by
  unfold add; rw [co_mk]; split
  · rfl
  · rw [co_ge (f := f) (by omega), co_ge (f := g) (by omega)]; grind
theorem co_sub (f g : List (Fin p)) (i : Nat) : co (sub f g) i = co f i - co g i := by
  unfold sub; rw [co_mk]; split
  · rfl
  · rw [co_ge (f := f) (by omega), co_ge (f := g) (by omega)]; grind
theorem co_smul (c : Fin p) (f : List (Fin p)) (i : Nat) : co (smul c f) i = c * co f i := by
  unfold smul
  by_cases h : i < f.length
  · rw [co_lt (by simpa using h), co_lt h]; simp
  · rw [co_ge (by simp; omega), co_ge (by omega)]; grind
end
section
variable {p : Nat}
theorem smul_length (c : Fin p) (f : List (Fin p)) : (smul c f).length = f.length := by simp [smul]
end
section
variable {p : Nat} [NeZero p]
theorem add_length (f g : List (Fin p)) : (add f g).length = max f.length g.length := mk_length _ _
theorem sub_length (f g : List (Fin p)) : (sub f g).length = max f.length g.length := mk_length _ _
theorem ev_add (f g : List (Fin p)) (x : Fin p) : ev (add f g) x = ev f x + ev g x := by
  rw [ev_sm (add f g) x (max f.length g.length) (by rw [add_length]; omega), ev_sm f x (max f.length g.length) (by omega), ev_sm g x (max f.length g.length) (by omega), ← sm_add]
  exact sm_congr fun i _ => by rw [co_add]; grind
theorem ev_sub (f g : List (Fin p)) (x : Fin p) : ev (sub f g) x = ev f x - ev g x := by
  have h : Eqv (add (sub f g) g) f := fun i => by rw [co_add, co_sub]; grind
  have := h.ev x
  rw [ev_add] at this
  grind
theorem ev_smul (c : Fin p) (f : List (Fin p)) (x : Fin p) : ev (smul c f) x = c * ev f x := by
  rw [ev_sm (smul c f) x f.length (by rw [smul_length]; omega), ev_sm f x f.length (by omega), ← sm_mul]
  exact sm_congr fun i _ => by rw [co_smul]; grind
def cv (c d : Nat → Fin p) (n : Nat) : Fin p := sm (n + 1) (fun i => c i * d (n - i))
theorem cv_congr {c c' d d' : Nat → Fin p} (h : ∀ i, c i = c' i) (h' : ∀ i, d i = d' i) (n : Nat) : cv c d n = cv c' d' n := sm_congr fun i _ => by rw [h, h']
theorem cv_comm (c d : Nat → Fin p) (n : Nat) : cv c d n = cv d c n := by
  unfold cv
  rw [sm_rev]
  exact sm_congr fun i hi => by rw [show n - (n - i) = i by omega]; grind
theorem cv_add (c d d' : Nat → Fin p) (n : Nat) : cv c (fun i => d i + d' i) n = cv c d n + cv c d' n := by
  unfold cv; rw [← sm_add]; exact sm_congr fun i _ => by grind
theorem cv_add' (c c' d : Nat → Fin p) (n : Nat) : cv (fun i => c i + c' i) d n = cv c d n + cv c' d n := by
  unfold cv; rw [← sm_add]; exact sm_congr fun i _ => by grind
def mul : List (Fin p) → List (Fin p) → List (Fin p)
  | [], _ => []
  | a :: f, g => add (smul a g) (0 :: mul f g)
theorem co_mul (f g : List (Fin p)) (n : Nat) : co (mul f g) n = cv (co f) (co g) n := by
  induction f generalizing n with
  | nil => rw [mul, co_nil]; unfold cv; rw [sm_zero]; intro i _; rw [co_nil]; grind
  | cons a f ih =>
    rw [mul, co_add, co_smul]
    unfold cv
    rw [sm_front, co_cons_zero]
    cases n with
    | zero => rw [co_cons_zero]; show a * co g 0 + 0 = a * co g 0 + 0; rfl
    | succ n =>
      rw [co_cons_succ, ih n]
      unfold cv
      congr 1
      exact sm_congr fun i _ => by rw [co_cons_succ, show n + 1 - (i + 1) = n - i by omega]
theorem ev_mul (f g : List (Fin p)) (x : Fin p) : ev (mul f g) x = ev f x * ev g x := by
  induction f with
  | nil => rw [mul, ev_nil]; grind
  | cons a f ih => rw [mul, ev_add, ev_smul, ev_cons, ih, ev_cons]; grind
theorem co_mul_ge {f g : List (Fin p)} {n : Nat} (h : f.length + g.length ≤ n + 1) : co (mul f g) n = 0 := by
  rw [co_mul]; unfold cv
  refine sm_zero fun i hi => ?_
  by_cases h1 : f.length ≤ i
  · rw [co_ge h1]; grind
  · rw [co_ge (f := g) (by omega)]; grind
theorem co_mul_top {f g : List (Fin p)} (hf : f ≠ []) (hg : g ≠ []) : co (mul f g) (f.length + g.length - 2) = co f (f.length - 1) * co g (g.length - 1) := by
  have h1 := List.length_pos_iff.2 hf
  have h2 := List.length_pos_iff.2 hg
  rw [co_mul]; unfold cv
  rw [sm_one (k := f.length - 1) (by omega)]
  · rw [show f.length + g.length - 2 - (f.length - 1) = g.length - 1 by omega]
  · intro i hi hne
    by_cases h : f.length ≤ i
    · rw [co_ge h]; grind
    · rw [co_ge (f := g) (by omega)]; grind
theorem Eqv.add {f f' g g' : List (Fin p)} (h : Eqv f f') (h' : Eqv g g') : Eqv (add f g) (add f' g') := fun i => by rw [co_add, co_add, h i, h' i]
theorem Eqv.sub {f f' g g' : List (Fin p)} (h : Eqv f f') (h' : Eqv g g') : Eqv (sub f g) (sub f' g') := fun i => by rw [co_sub, co_sub, h i, h' i]
theorem Eqv.mul {f f' g g' : List (Fin p)} (h : Eqv f f') (h' : Eqv g g') : Eqv (mul f g) (mul f' g') := fun i => by rw [co_mul, co_mul, cv_congr h h']
theorem Eqv.smul {f f' : List (Fin p)} (c : Fin p) (h : Eqv f f') : Eqv (smul c f) (smul c f') := fun i => by rw [co_smul, co_smul, h i]
theorem mul_comm (f g : List (Fin p)) : Eqv (mul f g) (mul g f) := fun i => by rw [co_mul, co_mul, cv_comm]
theorem mul_add (f g k : List (Fin p)) : Eqv (mul f (Fld.add g k)) (Fld.add (mul f g) (mul f k)) := fun i => by
  rw [co_mul, co_add, co_mul, co_mul, cv_congr (fun _ => rfl) (co_add g k), cv_add]
theorem add_mul (f g k : List (Fin p)) : Eqv (mul (Fld.add f g) k) (Fld.add (mul f k) (mul g k)) := fun i => by
  rw [co_mul, co_add, co_mul, co_mul, cv_congr (co_add f g) (fun _ => rfl), cv_add']
theorem mul_sub (f g k : List (Fin p)) : Eqv (mul f (Fld.sub g k)) (Fld.sub (mul f g) (mul f k)) := fun i => by
  have h : Eqv (Fld.add (Fld.sub g k) k) g := fun i => by rw [co_add, co_sub]; grind
  have h1 := (mul_add f (Fld.sub g k) k).symm.trans ((Eqv.refl f).mul h) i
  rw [co_add] at h1
  rw [co_sub, ← h1]; grind
theorem sub_mul (f g k : List (Fin p)) : Eqv (mul (Fld.sub f g) k) (Fld.sub (mul f k) (mul g k)) :=
  (mul_comm _ _).trans ((mul_sub k f g).trans ((mul_comm _ _).sub (mul_comm _ _)))
theorem mul_nil (f : List (Fin p)) : Eqv (mul f []) [] := fun i => by
  rw [co_mul, co_nil]; unfold cv; exact sm_zero fun j _ => by rw [co_nil]; grind
theorem mul_one (f : List (Fin p)) : Eqv (mul f [1]) f := fun i => by
  rw [co_mul, cv_comm]; unfold cv
  rw [sm_one (k := 0) (by omega)]
  · rw [co_cons_zero]; show 1 * co f i = co f i; grind
  · intro j _ hj
    obtain ⟨m, rfl⟩ : ∃ m, j = m + 1 := ⟨j - 1, by omega⟩
    rw [co_cons_succ, co_nil]; grind
theorem trim_mul_length (hp : Pr p) {f g : List (Fin p)} (hf : trim f ≠ []) (hg : trim g ≠ []) : (trim (mul f g)).length + 1 = (trim f).length + (trim g).length := by
  have e : Eqv (mul f g) (mul (trim f) (trim g)) := (trim_co f).symm.mul (trim_co g).symm
  rw [trim_congr e]
  have h1 := List.length_pos_iff.2 hf
  have h2 := List.length_pos_iff.2 hg
  have ht := co_mul_top hf hg
  have hn : co (mul (trim f) (trim g)) ((trim f).length + (trim g).length - 2) ≠ 0 := by
    rw [ht]
    intro h
    rcases mul_eq_zero hp h with h | h
    · exact (Tr.trim f).last hf h
    · exact (Tr.trim g).last hg h
  have hle := trim_length_of (f := mul (trim f) (trim g)) (n := (trim f).length + (trim g).length - 1) (fun i hi => co_mul_ge (by omega))
  have hge : (trim f).length + (trim g).length - 2 < (trim (mul (trim f) (trim g))).length := by
    apply Nat.lt_of_not_le
    intro h
    exact hn (by rw [← trim_co]; exact co_ge h)
  omega
theorem trim_mul_le (f g : List (Fin p)) : (trim (mul f g)).length ≤ f.length + g.length - 1 := trim_length_of fun i hi => co_mul_ge (by omega)
theorem root_factor (f : List (Fin p)) (a : Fin p) : ∃ q : List (Fin p), q.length = f.length - 1 ∧ Eqv f (add (mul [-a, 1] q) [ev f a]) := by
  induction f with
  | nil => exact ⟨[], rfl, fun i => by
      rw [co_add, co_mul, ev_nil]
      have : cv (co [-a, 1]) (co []) i = 0 := by unfold cv; exact sm_zero fun j _ => by rw [co_nil]; grind
      rw [this, co_nil]
      cases i with
      | zero => rw [co_cons_zero]; grind
      | succ i => rw [co_cons_succ, co_nil]; grind⟩
  | cons c f ih =>
    obtain ⟨q, hq, he⟩ := ih
    cases f with
    | nil =>
      refine ⟨[], rfl, fun i => ?_⟩
      rw [co_add, co_mul]
      have : cv (co [-a, 1]) (co []) i = 0 := by unfold cv; exact sm_zero fun j _ => by rw [co_nil]; grind
      rw [this, ev_cons, ev_nil]
      cases i with
      | zero => rw [co_cons_zero, co_cons_zero]; grind
      | succ i => rw [co_cons_succ, co_cons_succ]; grind
    | cons d f =>
      refine ⟨ev (d :: f) a :: q, by simp at hq ⊢; omega, fun i => ?_⟩
      have key : ∀ j, co (mul [-a, 1] q) j = co (d :: f) j - co [ev (d :: f) a] j := fun j => by have := he j; rw [co_add] at this; grind
      have hm : ∀ (r : List (Fin p)) j, co (mul [-a, 1] r) j = -a * co r j + (if j = 0 then 0 else co r (j - 1)) := by
        intro r j
        rw [mul, mul, mul, co_add, co_smul]
        cases j with
        | zero => rw [co_cons_zero]; simp
        | succ j =>
          rw [co_cons_succ, co_add, co_smul]
          have : co (0 :: ([] : List (Fin p))) j = 0 := by cases j with
            | zero => rfl
            | succ j => rw [co_cons_succ, co_nil]
          rw [this]; simp; grind
      have hE : ev (c :: d :: f) a = ev (d :: f) a * a + c := rfl
      rw [co_add, hm, hE]
      generalize ev (d :: f) a = z at *
      cases i with
      | zero => rw [co_cons_zero, co_cons_zero, co_cons_zero]; simp; grind
      | succ i =>
        rw [co_cons_succ, co_cons_succ, co_cons_succ, co_nil]
        have k := key i
        rw [hm] at k
        clear he key hm hE
        cases i with
        | zero =>
          simp only [co_cons_zero, co_cons_succ, if_true] at k ⊢
          simp only [Nat.succ_ne_zero, if_false, Nat.add_sub_cancel, Nat.zero_add, Nat.sub_self, co_cons_zero]
          grind
        | succ i =>
          simp only [co_cons_succ, co_nil, Nat.succ_ne_zero, if_false, Nat.add_sub_cancel] at k ⊢
          grind
theorem roots_le (hp : Pr p) : ∀ (n : Nat) (f : List (Fin p)) (xs : List (Fin p)), xs.Nodup → (∀ x, x ∈ xs → ev f x = 0) → f.length ≤ n → xs.length = n → ∀ i, co f i = 0
  | 0, f, _, _, _, h, _ => by
    intro i; rw [List.eq_nil_of_length_eq_zero (by omega : f.length = 0), co_nil]
  | n + 1, f, xs, hn, hr, h, hl => by
    cases xs with
    | nil => simp at hl
    | cons a xs =>
      obtain ⟨hna, hn⟩ := List.nodup_cons.1 hn
      obtain ⟨q, hq, he⟩ := root_factor f a
      have ha := hr a (by simp)
      have hz : ∀ i, co q i = 0 := by
        refine roots_le hp n q xs hn (fun x hx => ?_) (by omega) (by simpa using hl)
        have h1 := he.ev x
        rw [ev_add, ev_mul, hr x (by simp [hx]), ev_cons, ev_cons, ev_nil, ev_cons, ev_nil, ha] at h1
        have h2 : (x - a) * ev q x = 0 := by grind
        rcases mul_eq_zero hp h2 with h3 | h3
        · exact absurd (by grind : x = a) (by rintro rfl; exact hna hx)
        · exact h3
      intro i
      rw [he i, co_add, co_mul, ha]
      have : cv (co [-a, 1]) (co q) i = 0 := by unfold cv; exact sm_zero fun j _ => by rw [hz]; grind
      rw [this]
      cases i with
      | zero => rw [co_cons_zero]; grind
      | succ i => rw [co_cons_succ, co_nil]; grind
theorem unique (hp : Pr p) {f g xs : List (Fin p)} (hn : xs.Nodup) (hf : (trim f).length ≤ xs.length) (hg : (trim g).length ≤ xs.length) (h : ∀ x, x ∈ xs → ev f x = ev g x) : Eqv f g := by
  have e : Eqv (sub (trim f) (trim g)) (sub f g) := (trim_co f).sub (trim_co g)
  have := roots_le hp xs.length (sub (trim f) (trim g)) xs hn (fun x hx => by rw [e.ev, ev_sub, h x hx]; grind) (by rw [sub_length]; omega) rfl
  intro i
  have h1 := (e i).symm.trans (this i)
  rw [co_sub] at h1
  grind
end
end Go.Proofs.Ytjjnfobeeflnhaa.Fld
/- The program's words over the residues modulo a number: numbers, rows of coefficients, sums, products, values. -/
namespace Go.Proofs.Ytjjnfobeeflnhaa.L
open Go.RowKit Go.Proofs.YtjjnfobeeflnhaaW.PrintWords Go.Proofs.Ytjjnfobeeflnhaa.J
section
variable {q : Nat} [NeZero q]
def nI (a : Fin q) : Int := (a.val : Int)
def oI (f : List (Fin q)) : List Int := f.map nI
theorem q_pos : 0 < q := Nat.pos_of_ne_zero (NeZero.ne q)
end
section
variable {q : Nat}
theorem nI_range (a : Fin q) : 0 ≤ nI a ∧ nI a < (q : Int) := by
  have := a.isLt
  unfold nI; omega
theorem nI_inj {a b : Fin q} (h : nI a = nI b) : a = b := Fin.ext (by unfold nI at h; omega)
end
section
variable {q : Nat} [NeZero q]
theorem nI_zero : nI (0 : Fin q) = 0 := by simp [nI]
theorem nI_eq_zero {a : Fin q} : nI a = 0 ↔ a = 0 := ⟨fun h => nI_inj (h.trans nI_zero.symm), fun h => by rw [h, nI_zero]⟩
theorem nI_one (h : 1 < q) : nI (1 : Fin q) = 1 := by
  have : ((1 : Fin q) : Nat) = 1 % q := rfl
  unfold nI; rw [this, Nat.mod_eq_of_lt h]; rfl
end
section
variable {q : Nat}
theorem nI_of {x : Int} (h0 : 0 ≤ x) (h1 : x < (q : Int)) : ∃ a : Fin q, nI a = x := ⟨⟨x.toNat, by omega⟩, by show ((x.toNat : Nat) : Int) = x; omega⟩
theorem nI_mul (a b : Fin q) : nI (a * b) = nI a * nI b % (q : Int) := by
  unfold nI; rw [Fin.val_mul]; simp
theorem nI_add (a b : Fin q) : nI (a + b) = (nI a + nI b) % (q : Int) := by
  unfold nI; rw [Fin.val_add]; simp
theorem nI_sub (a b : Fin q) : nI (a - b) = (nI a + (q : Int) - nI b) % (q : Int) := by
  have hb := b.isLt
  have e : (a - b).val = (q - b.val + a.val) % q := by rw [Fin.sub_def]
  unfold nI; rw [e]
  have : (a.val : Int) + (q : Int) - (b.val : Int) = ((q - b.val + a.val : Nat) : Int) := by omega
  rw [this]; simp
theorem oI_nil : oI ([] : List (Fin q)) = [] := rfl
theorem oI_cons (a : Fin q) (f : List (Fin q)) : oI (a :: f) = nI a :: oI f := rfl
theorem oI_length (f : List (Fin q)) : (oI f).length = f.length := by simp [oI]
theorem oI_inj : ∀ {f g : List (Fin q)}, oI f = oI g → f = g
  | [], [], _ => rfl
  | [], _ :: _, h => by cases h
  | _ :: _, [], h => by cases h
  | a :: f, b :: g, h => by
    rw [oI_cons, oI_cons] at h
    injection h with h1 h2
    rw [nI_inj h1, oI_inj h2]
theorem oI_range (f : List (Fin q)) : ∀ c ∈ oI f, 0 ≤ c ∧ c < (q : Int) := by
  intro c hc
  obtain ⟨a, _, rfl⟩ := List.mem_map.1 hc
  exact nI_range a
end
section
variable {q : Nat} [NeZero q]
theorem oI_getD (f : List (Fin q)) (i : Nat) : (oI f).getD i 0 = nI (Fld.co f i) := by
  by_cases h : i < f.length
  · rw [Fld.co_lt h]; simp [oI, List.getD_eq_getElem?_getD, h]
  · rw [Fld.co_ge (by omega), nI_zero]; simp [oI, List.getD_eq_getElem?_getD, List.getElem?_eq_none (show f.length ≤ i by omega)]
theorem rd_oI (f : List (Fin q)) (i : Nat) : rd (oI f) (i : Int) = nI (Fld.co f i) := by
  rw [← oI_getD]; simp [rd]
end
section
variable {q : Nat}
theorem oI_set (f : List (Fin q)) (i : Nat) (a : Fin q) : (oI f).set i (nI a) = oI (f.set i a) := by simp [oI, List.map_set]
end
section
variable {q : Nat} [NeZero q]
theorem oI_zeros (n : Nat) : List.replicate n (0 : Int) = oI (List.replicate n (0 : Fin q)) := by simp [oI, nI_zero]
theorem short_oI (f : List (Fin q)) : shortI (oI f) = oI (Fld.trim f) := by
  induction f with
  | nil => rfl
  | cons a f ih =>
    have e : shortI (oI (a :: f)) = if shortI (oI f) = [] ∧ nI a = 0 then [] else nI a :: shortI (oI f) := rfl
    rw [e, ih, Fld.trim_cons]
    by_cases h : Fld.trim f = [] ∧ a = 0
    · rw [if_pos h, if_pos (by rw [h.1, h.2]; exact ⟨rfl, nI_zero⟩)]; rfl
    · rw [if_neg h, if_neg (fun h' => h ⟨oI_inj (h'.1.trans oI_nil.symm), nI_eq_zero.1 h'.2⟩)]; rfl
theorem co_set (f : List (Fin q)) (i : Nat) (a : Fin q) (hi : i < f.length) (s : Nat) : Fld.co (f.set i a) s = if s = i then a else Fld.co f s := by
  unfold Fld.co
  rw [List.getD_eq_getElem?_getD, List.getD_eq_getElem?_getD]
  by_cases h : s = i
  · subst h; rw [if_pos rfl, List.getElem?_set_self hi]; rfl
  · rw [if_neg h, List.getElem?_set_ne (by omega)]
theorem co_zeros (n s : Nat) : Fld.co (List.replicate n (0 : Fin q)) s = 0 := by
  unfold Fld.co
  rw [List.getD_eq_getElem?_getD, List.getElem?_replicate]
  split <;> rfl
section
variable (hq : q ≤ 65537)
include hq
theorem times_fp (a b : Fin q) : qub.f (q : Int) (nI a) (nI b) = some (nI (a * b)) := by
  have hp := q_pos (q := q)
  rw [times_at (by omega) (by omega) (nI_range a).1 (nI_range a).2 (nI_range b).1 (nI_range b).2, nI_mul]
theorem mul_fp (a b : Fin q) : qgc.f (q : Int) (nI a) (nI b) = some (nI (a * b)) := by
  have hp := q_pos (q := q)
  rw [ref_mul (by omega) (by omega) (nI_range a).1 (nI_range a).2 (nI_range b).1 (nI_range b).2, nI_mul]
theorem plus_fp (a b : Fin q) : qbc.f (q : Int) (nI a) (nI b) = some (nI (a + b)) := by
  have hp := q_pos (q := q)
  rw [plus_at (by omega) (by omega) (nI_range a).1 (nI_range a).2 (nI_range b).1 (nI_range b).2, nI_add]
theorem add_fp (a b : Fin q) : qhc.f (q : Int) (nI a) (nI b) = some (nI (a + b)) := by
  have hp := q_pos (q := q)
  rw [ref_add (by omega) (by omega) (nI_range a).1 (nI_range a).2 (nI_range b).1 (nI_range b).2, nI_add]
theorem fmul_fp (a b : Fin q) : qmc.f (q : Int) (nI a) (nI b) = some (nI (a * b)) := by
  have := times_fp hq a b
  unfold qub.f at this
  generalize qmc.f (q : Int) (nI a) (nI b) = o at this
  cases o with
  | none => cases this
  | some v => exact this
theorem minus_fp (a b : Fin q) : qsb.f (q : Int) (nI a) (nI b) = some (nI (a - b)) := by
  have hp := q_pos (q := q)
  have ha := nI_range a
  have hb := nI_range b
  unfold qsb.f
  rw [if_neg (by omega), u64_small (by omega) (by omega), Int.tmod_eq_emod_of_nonneg (by omega)]
  have e : ((q : Int) - nI b) % (q : Int) = nI (0 - b) := by rw [nI_sub, nI_zero, Int.zero_add]
  rw [e, plus_fp hq, Option.bind_some]
  congr 2
  grind
end
theorem short_fp (f : List (Fin q)) (hl : f.length ≤ 1000000000) : Ev (fun k => qxa.f k (oI f)) (oI (Fld.trim f)) := by
  rw [← short_oI]
  exact ⟨f.length + 1, fun k hk => short_spec (oI f) (by rw [oI_length]; omega) k (by rw [oI_length]; omega)⟩
theorem zip_fp (D : Int → Int → Int) (O : Fin q → Fin q → Fin q) (h : ∀ a b : Fin q, D (nI a) (nI b) = nI (O a b)) (f g : List (Fin q)) : zipI D (oI f) (oI g) = oI (Fld.trim (Fld.mk (max f.length g.length) (fun i => O (Fld.co f i) (Fld.co g i)))) := by
  unfold zipI
  rw [← short_oI, oI_length, oI_length]
  unfold Fld.mk oI
  rw [List.map_map]
  congr 1
  apply List.map_congr_left
  intro i _
  show D ((oI f).getD i 0) ((oI g).getD i 0) = nI (O (Fld.co f i) (Fld.co g i))
  rw [oI_getD, oI_getD, h]
theorem plusI_fp (hq : q ≤ 65537) (f g : List (Fin q)) : plusI (q : Int) (oI f) (oI g) = oI (Fld.trim (Fld.add f g)) :=
  zip_fp _ (· + ·) (fun a b => by rw [plus_fp hq]; rfl) f g
theorem plus_rows (hq : q ≤ 65537) (f g : List (Fin q)) (hf : f.length ≤ 1000000000) (hg : g.length ≤ 1000000000) : Ev (fun k => qic.f k (q : Int) (oI f) (oI g)) (oI (Fld.trim (Fld.add f g))) := by
  rw [← plusI_fp hq]
  exact ⟨2 * max f.length g.length + 2, fun k hk => plusI_spec (q : Int) (oI f) (oI g) (by rw [oI_length, oI_length]; omega) k (by rw [oI_length, oI_length]; omega)⟩
theorem at_fp (hq : q ≤ 65537) (f : List (Fin q)) (x : Fin q) : valV (q : Int) (nI x) (oI f) = nI (Fld.ev f x) := by
  induction f with
  | nil => exact nI_zero.symm
  | cons a f ih =>
    rw [Fld.ev_cons, nI_add, nI_mul, ← ih]; rfl
theorem at_rows (hq : q ≤ 65537) (f : List (Fin q)) (x : Fin q) : qzb.f (q : Int) (oI f) (nI x) = some (nI (Fld.ev f x)) := by
  have hp := q_pos (q := q)
  rw [poly_at (by omega) (by omega) (nI_range x).1 (nI_range x).2 (oI f) (oI_range f), at_fp hq]
def fill (n j : Nat) (F : Nat → Fin q) : List (Fin q) := Fld.mk n (fun i => if i < j then F i else 0)
theorem fill_zero (n : Nat) (F : Nat → Fin q) : fill n 0 F = List.replicate n 0 := by
  apply List.ext_getElem (by simp [fill, Fld.mk])
  intro i h1 h2
  simp [fill, Fld.mk]
theorem fill_length (n j : Nat) (F : Nat → Fin q) : (fill n j F).length = n := Fld.mk_length _ _
theorem fill_set (n j : Nat) (F : Nat → Fin q) : (fill n j F).set j (F j) = fill n (j + 1) F := by
  apply List.ext_getElem (by simp [fill, Fld.mk])
  intro i h1 h2
  simp only [fill, Fld.mk, List.getElem_set, List.getElem_map, List.getElem_range]
  by_cases h : j = i
  · rw [if_pos h, if_pos (by omega), h]
  · rw [if_neg h]
    by_cases h' : i < j
    · rw [if_pos h', if_pos (by omega)]
    · rw [if_neg h', if_neg (by omega)]
theorem fill_all (n : Nat) (F : Nat → Fin q) : fill n n F = Fld.mk n F := by
  apply List.ext_getElem (by simp [fill, Fld.mk])
  intro i h1 h2
  have : i < n := by simpa [fill, Fld.mk] using h1
  simp [fill, Fld.mk, this]
def part (f g : List (Fin q)) (i s : Nat) : Fin q := Fld.sm i (fun j => if j ≤ s then Fld.co f j * Fld.co g (s - j) else 0)
theorem part_all (f g : List (Fin q)) (n s : Nat) (h : f.length ≤ n) : part f g n s = Fld.co (Fld.mul f g) s := by
  rw [Fld.co_mul]
  unfold part Fld.cv
  have e : Fld.sm (max n (s + 1)) (fun j => if j ≤ s then Fld.co f j * Fld.co g (s - j) else 0) = Fld.sm n (fun j => if j ≤ s then Fld.co f j * Fld.co g (s - j) else 0) := Fld.sm_more (by omega) fun i h1 h2 => by
    rw [Fld.co_ge (f := f) (by omega)]; split <;> grind
  have e' : Fld.sm (max n (s + 1)) (fun j => if j ≤ s then Fld.co f j * Fld.co g (s - j) else 0) = Fld.sm (s + 1) (fun j => if j ≤ s then Fld.co f j * Fld.co g (s - j) else 0) := Fld.sm_more (by omega) fun i h1 h2 => by
    rw [if_neg (by omega)]
  rw [← e, e']
  exact Fld.sm_congr fun i hi => by rw [if_pos (by omega)]
def At2 (f g h : List (Fin q)) (i k : Nat) : Prop := ∀ s, Fld.co h s = part f g i s + (if i ≤ s ∧ s < i + k then Fld.co f i * Fld.co g (s - i) else 0)
theorem At2.start (f g : List (Fin q)) (n : Nat) : At2 f g (List.replicate n 0) 0 0 := fun s => by
  rw [co_zeros, if_neg (by omega)]; show (0 : Fin q) = 0 + 0; grind
theorem At2.next {f g h : List (Fin q)} {i k : Nat} (H : At2 f g h i k) (hk : i + k < h.length) : At2 f g (h.set (i + k) (Fld.co h (i + k) + Fld.co f i * Fld.co g k)) i (k + 1) := fun s => by
  rw [co_set _ _ _ hk]
  by_cases e : s = i + k
  · subst e
    rw [if_pos rfl, H (i + k), if_neg (by omega), if_pos (by omega), show i + k - i = k by omega]; grind
  · rw [if_neg e, H s]
    by_cases e' : i ≤ s ∧ s < i + k
    · rw [if_pos e', if_pos (by omega)]
    · rw [if_neg e', if_neg (by omega)]
theorem At2.round {f g h : List (Fin q)} {i k : Nat} (H : At2 f g h i k) (hk : g.length ≤ k) : At2 f g h (i + 1) 0 := fun s => by
  rw [H s, if_neg (by omega : ¬ (i + 1 ≤ s ∧ s < i + 1 + 0))]
  have e : part f g (i + 1) s = part f g i s + (if i ≤ s then Fld.co f i * Fld.co g (s - i) else 0) := rfl
  rw [e]
  by_cases h1 : i ≤ s
  · by_cases h2 : s < i + k
    · rw [if_pos ⟨h1, h2⟩, if_pos h1]; grind
    · rw [if_neg (by omega), if_pos h1, Fld.co_ge (f := g) (by omega)]; grind
  · rw [if_neg (by omega), if_neg h1]; grind
theorem At2.last {f g h : List (Fin q)} {i : Nat} (H : At2 f g h i 0) (hi : f.length ≤ i) : Fld.trim h = Fld.trim (Fld.mul f g) := Fld.trim_congr fun s => by
  rw [H s, if_neg (by omega), part_all f g i s hi]; grind
theorem times_inner (hq : q ≤ 65537) (f g : List (Fin q)) (i : Nat) (hi : i < f.length) (hf : f.length ≤ 1000000) (hg : g.length ≤ 1000000) {r : List Int} (next : ∀ h : List (Fin q), h.length = f.length + g.length - 1 → At2 f g h (i + 1) 0 → Ev (fun k => qsa.l0 k (q : Int) (oI g) (oI h) (oI f) (f.length : Int) ((i + 1 : Nat) : Int)) r) : ∀ (m j : Nat) (h : List (Fin q)), j + m = g.length → h.length = f.length + g.length - 1 → At2 f g h i j →
    Ev (fun k => qsa.l1 k (q : Int) (oI g) (oI h) (i : Int) (nI (Fld.co f i)) (oI f) (f.length : Int) (i : Int) (oI g) (g.length : Int) (j : Int)) r
  | 0, j, h, hj, hh, H => by
    refine Ev.step (f := fun k => qsa.l0 k (q : Int) (oI g) (oI h) (oI f) (f.length : Int) ((i + 1 : Nat) : Int)) (fun k => ?_) (next h hh (H.round (by omega)))
    conv => lhs; simp only [qsa.l1]
    rw [if_neg (by omega), w64_small (by omega) (by omega)]
    rfl
  | m + 1, j, h, hj, hh, H => by
    refine Ev.step (f := fun k => qsa.l1 k (q : Int) (oI g) (oI (h.set (i + j) (Fld.co h (i + j) + Fld.co f i * Fld.co g j))) (i : Int) (nI (Fld.co f i)) (oI f) (f.length : Int) (i : Int) (oI g) (g.length : Int) ((j + 1 : Nat) : Int)) (fun k => ?_) (times_inner hq f g i hi hf hg next m (j + 1) _ (by omega) (by rw [List.length_set]; exact hh) (H.next (by omega)))
    conv => lhs; simp only [qsa.l1]
    have hw : wrap64 ((i : Int) + (j : Int)) = ((i + j : Nat) : Int) := by rw [w64_small (by omega) (by omega)]; omega
    rw [if_pos (by omega), if_pos (by omega), if_pos (by rw [oI_length]; omega), hw, if_pos (by omega), if_pos (by rw [oI_length]; omega), rd_oI, rd_oI, times_fp hq, Option.bind_some, plus_fp hq, Option.bind_some, Int.toNat_natCast, oI_set, w64_small (by omega) (by omega)]
    rfl
theorem times_outer (hq : q ≤ 65537) (f g : List (Fin q)) (hf : f.length ≤ 1000000) (hg : g.length ≤ 1000000) : ∀ (m i : Nat) (h : List (Fin q)), i + m = f.length → h.length = f.length + g.length - 1 → At2 f g h i 0 →
    Ev (fun k => qsa.l0 k (q : Int) (oI g) (oI h) (oI f) (f.length : Int) (i : Int)) (oI (Fld.trim (Fld.mul f g)))
  | 0, i, h, hi, hh, H => by
    rw [← H.last (by omega)]
    refine Ev.step (f := fun k => (qxa.f k (oI h)).bind fun t => some t) (fun k => ?_) (Ev.bind (short_fp _ (by omega)) (Ev.now _))
    simp only [qsa.l0]
    rw [if_neg (by omega)]
  | m + 1, i, h, hi, hh, H => by
    refine Ev.step (f := fun k => qsa.l1 k (q : Int) (oI g) (oI h) (i : Int) (nI (Fld.co f i)) (oI f) (f.length : Int) (i : Int) (oI g) (g.length : Int) 0) (fun k => ?_) (times_inner hq f g i (by omega) hf hg (fun h' hh' H' => times_outer hq f g hf hg m (i + 1) h' (by omega) hh' H') g.length 0 h (by omega) hh H)
    conv => lhs; simp only [qsa.l0]
    rw [if_pos (by omega), if_pos (by omega), if_pos (by rw [oI_length]; omega), rd_oI, oI_length]
theorem times_rows (hq : q ≤ 65537) (f g : List (Fin q)) (hf : f.length ≤ 1000000) (hg : g.length ≤ 1000000) : Ev (fun k => qsa.f k (q : Int) (oI f) (oI g)) (oI (Fld.trim (Fld.mul f g))) := by
  by_cases h0 : f = [] ∨ g = []
  · have e : Fld.trim (Fld.mul f g) = [] := by
      rcases h0 with rfl | rfl
      · rfl
      · rw [Fld.trim_congr (Fld.mul_nil f)]; rfl
    rw [e]
    refine Ev.step (f := fun k => some []) (fun k => ?_) (Ev.now _)
    unfold qsa.f
    rcases h0 with rfl | rfl
    · rw [if_pos (by rfl)]
      simp only [qsa.j0, if_true]
    · by_cases hf0 : ((oI f).length : Int) = 0
      · rw [if_pos hf0]
        simp only [qsa.j0, if_true]
      · rw [if_neg hf0]
        simp [qsa.j0, oI_nil]
  · have hf0 : 0 < f.length := List.length_pos_iff.2 (fun e => h0 (.inl e))
    have hg0 : 0 < g.length := List.length_pos_iff.2 (fun e => h0 (.inr e))
    refine Ev.step (f := fun k => qsa.l0 k (q : Int) (oI g) (oI (List.replicate (f.length + g.length - 1) 0)) (oI f) (f.length : Int) ((0 : Nat) : Int)) (fun k => ?_) (times_outer hq f g hf hg f.length 0 _ (by omega) (by simp) (At2.start f g _))
    unfold qsa.f
    have hb : (((oI g).length : Int) == 0) = false := by rw [oI_length, beq_eq_false_iff_ne]; omega
    have hw : wrap64 (wrap64 (((oI f).length : Int) + ((oI g).length : Int)) - 1) = ((f.length + g.length - 1 : Nat) : Int) := by
      rw [oI_length, oI_length, w64_small (n := (f.length : Int) + (g.length : Int)) (by omega) (by omega), w64_small (by omega) (by omega)]; omega
    rw [if_neg (by rw [oI_length]; omega), hb]
    simp only [qsa.j0, Bool.false_eq_true, if_false]
    rw [hw, if_pos (by omega), Int.toNat_natCast, if_pos (by omega), ← oI_zeros, oI_length]
    rfl
theorem pow_loop (hq : q ≤ 65537) : ∀ (n : Nat) (e : Nat) (a y : Fin q), e ≤ n → e ≤ 65537 → Ev (fun k => qtb.l0 k (q : Int) (nI a) (e : Int) (nI y)) (nI (y * a ^ e))
  | 0, e, a, y, h, he => by
    obtain rfl : e = 0 := by omega
    rw [show y * a ^ 0 = y by grind]
    refine Ev.step (f := fun k => some (nI y)) (fun k => ?_) (Ev.now _)
    simp only [qtb.l0]
    rw [if_neg (by omega)]
  | n + 1, e, a, y, h, he => by
    by_cases h0 : e = 0
    · subst h0
      rw [show y * a ^ 0 = y by grind]
      refine Ev.step (f := fun k => some (nI y)) (fun k => ?_) (Ev.now _)
      simp only [qtb.l0]
      rw [if_neg (by omega)]
    · have hd : ((e : Int) / 2) = ((e / 2 : Nat) : Int) := by omega
      have hb : Go.bits .and .u64 (e : Int) 1 = ((e % 2 : Nat) : Int) := by rw [and_one_u64 (e : Int) (by omega) (by omega)]; omega
      by_cases h1 : e % 2 = 1
      · have ee : y * a ^ e = y * a * (a * a) ^ (e / 2) := by
          have : e = 2 * (e / 2) + 1 := by omega
          rw [Fld.pow_double]
          generalize e / 2 = z at *
          subst this
          grind
        rw [ee]
        refine Ev.step (f := fun k => qtb.l0 k (q : Int) (nI (a * a)) ((e / 2 : Nat) : Int) (nI (y * a))) (fun k => ?_) (pow_loop hq n (e / 2) (a * a) (y * a) (by omega) (by omega))
        conv => lhs; simp only [qtb.l0]
        rw [if_pos (by omega), hb, h1, if_pos (by rfl), fmul_fp hq, Option.bind_some, fmul_fp hq, Option.bind_some, hd]
      · have ee : y * a ^ e = y * (a * a) ^ (e / 2) := by
          have : e = 2 * (e / 2) := by omega
          rw [Fld.pow_double]
          generalize e / 2 = z at *
          subst this
          rfl
        rw [ee]
        refine Ev.step (f := fun k => qtb.l0 k (q : Int) (nI (a * a)) ((e / 2 : Nat) : Int) (nI y)) (fun k => ?_) (pow_loop hq n (e / 2) (a * a) y (by omega) (by omega))
        conv => lhs; simp only [qtb.l0]
        rw [if_pos (by omega), hb, if_neg (by omega), fmul_fp hq, Option.bind_some, hd]
theorem over_fp (h1 : 2 < q) (hq : q ≤ 65537) (a : Fin q) : Ev (fun k => qec.f k (q : Int) (nI a)) (nI (Fld.inv a)) := by
  unfold qec.f qtb.f
  rw [u64_small (by omega) (by omega)]
  have e : ((q : Int) - 2) = ((q - 2 : Nat) : Int) := by omega
  have e1 : (1 : Int) % (q : Int) = nI (1 : Fin q) := by rw [nI_one (by omega), Int.emod_eq_of_lt (by omega) (by omega)]
  have e2 : Fld.inv a = 1 * a ^ (q - 2) := by unfold Fld.inv; grind
  rw [e, e1, e2]
  refine Ev.bind (f := fun k t => some t) (a := nI (1 * a ^ (q - 2))) ?_ (Ev.now _)
  refine Ev.congr (fun k => if_neg (by omega)) (pow_loop hq (q - 2) (q - 2) a 1 (Nat.le_refl _) (by omega))
end
end Go.Proofs.Ytjjnfobeeflnhaa.L
/- Rows drawn from a tape, rows without noughts at the end, rows compared: what the words tell. -/
namespace Go.Proofs.Ytjjnfobeeflnhaa.L
open Go.RowKit Go.Proofs.YtjjnfobeeflnhaaW.PrintWords Go.Proofs.Ytjjnfobeeflnhaa.J
theorem rd_getD (l : List Int) (i : Nat) : rd l (i : Int) = l.getD i 0 := by simp [rd]
section
variable {q : Nat} [NeZero q]
def resid (q : Nat) [NeZero q] (x : Int) : Fin q := Fin.ofNat q (x % (q : Int)).toNat
theorem nI_resid (x : Int) : nI (resid q x) = x % (q : Int) := by
  have hp := q_pos (q := q)
  have h0 : 0 ≤ x % (q : Int) := Int.emod_nonneg _ (by omega)
  have h1 : x % (q : Int) < (q : Int) := Int.emod_lt_of_pos _ (by omega)
  unfold nI resid
  simp only [Fin.ofNat]
  rw [Nat.mod_eq_of_lt (by omega)]
  omega
theorem resid_zero : resid q 0 = 0 := nI_inj (by rw [nI_resid, nI_zero]; simp)
def drawn (q : Nat) [NeZero q] (tape : List Int) (n : Nat) : List (Fin q) := Fld.mk n (fun i => resid q (tape.getD i 0))
theorem fill_skip {n j : Nat} {F : Nat → Fin q} (h : F j = 0) : fill n j F = fill n (j + 1) F := by
  unfold fill Fld.mk
  apply List.map_congr_left
  intro i _
  by_cases e : i = j
  · subst e; rw [if_neg (by omega), if_pos (by omega), h]
  · by_cases e' : i < j
    · rw [if_pos e', if_pos (by omega)]
    · rw [if_neg e', if_neg (by omega)]
theorem take_loop (hq : q ≤ 65537) (tape : List Int) (hs : tape.length ≤ 17592186044415) (hu : ∀ c ∈ tape, 0 ≤ c) (n : Nat) (hn : n ≤ 1000000000) : ∀ (m i : Nat), i + m = n →
    Ev (fun k => qmb.l0 k (q : Int) tape (n : Int) (oI (fill n i fun j => resid q (tape.getD j 0))) (n : Int) (i : Int)) (oI (drawn q tape n), tape.drop n)
  | 0, i, hi => by
    obtain rfl : i = n := by omega
    have hp := q_pos (q := q)
    have e : fill i i (fun j => resid q (tape.getD j 0)) = drawn q tape i := fill_all _ _
    rw [e]
    refine Ev.step (f := fun k => some (oI (drawn q tape i), tape.drop i)) (fun k => ?_) (Ev.now _)
    have hd : tape.drop (mn (i : Int) (tape.length : Int)).toNat = tape.drop i := by
      by_cases h : i ≤ tape.length
      · have : (mn (i : Int) (tape.length : Int)).toNat = i := by unfold mn; split <;> omega
        rw [this]
      · have : (mn (i : Int) (tape.length : Int)).toNat = tape.length := by unfold mn; split <;> omega
        rw [this, List.drop_of_length_le (Nat.le_refl _), List.drop_of_length_le (by omega)]
    have h0 : 0 ≤ mn (i : Int) (tape.length : Int) := by unfold mn; split <;> omega
    have h1 : mn (i : Int) (tape.length : Int) ≤ (tape.length : Int) := by unfold mn; split <;> omega
    simp only [qmb.l0]
    rw [if_neg (by omega), Option.bind_some, if_pos h0, if_pos h1, hd, if_pos (by simp; omega)]
    rfl
  | m + 1, i, hi => by
    have hp := q_pos (q := q)
    refine Ev.step (f := fun k => qmb.l0 k (q : Int) tape (n : Int) (oI (fill n (i + 1) fun j => resid q (tape.getD j 0))) (n : Int) ((i + 1 : Nat) : Int)) (fun k => ?_) (take_loop hq tape hs hu n hn m (i + 1) (by omega))
    conv => lhs; simp only [qmb.l0]
    rw [if_pos (by omega), w64_small (n := (i : Int) + 1) (by omega) (by omega)]
    by_cases h : i < tape.length
    · have h0 : 0 ≤ tape.getD i 0 := by
        rw [List.getD_eq_getElem?_getD, List.getElem?_eq_getElem h]; exact hu _ (List.getElem_mem h)
      rw [if_pos (by omega), if_pos (by omega), if_neg (by omega), if_pos (by rw [oI_length, fill_length]; omega), rd_getD, Int.tmod_eq_emod_of_nonneg h0, ← nI_resid, Int.toNat_natCast, oI_set, fill_set n i (fun j => resid q (tape.getD j 0))]
      rfl
    · have e : resid q (tape.getD i 0) = 0 := by
        rw [List.getD_eq_getElem?_getD, List.getElem?_eq_none (by omega)]; exact resid_zero
      rw [if_neg (by omega), fill_skip (F := fun j => resid q (tape.getD j 0)) e]
      rfl
theorem take_fp (hq : q ≤ 65537) (tape : List Int) (hs : tape.length ≤ 17592186044415) (hu : ∀ c ∈ tape, 0 ≤ c) (n : Nat) (hn : n ≤ 1000000000) : Ev (fun k => qmb.f k (q : Int) tape (n : Int)) (oI (drawn q tape n), tape.drop n) := by
  have h := take_loop hq tape hs hu n hn n 0 (by omega)
  rw [fill_zero, ← oI_zeros] at h
  refine Ev.congr (fun k => ?_) h
  unfold qmb.f
  rw [if_pos (by omega), Int.toNat_natCast, if_pos (by omega), Option.bind_some]
  simp
end
end Go.Proofs.Ytjjnfobeeflnhaa.L
/- The reference's words over the residues modulo a prime: sums, differences, products, inverses. -/
namespace Go.Proofs.Ytjjnfobeeflnhaa.L
open Go.RowKit Go.Proofs.YtjjnfobeeflnhaaW.PrintWords Go.Proofs.Ytjjnfobeeflnhaa.J
def withinV (p : Int) (l : List Int) : Int := if (l.length : Int) > 201 then 3 else belowV p l
def isV (p : Int) : List (List Int) → Int
  | [] => 0
  | f :: fs => if withinV p f = 0 then isV p fs else withinV p f
theorem is_loop (p : Int) (l : List (List Int)) (hn : l.length ≤ 1000000) (hl : ∀ f ∈ l, f.length ≤ maxLen) : ∀ (m i : Nat), i + m = l.length → Ev (fun k => qcc.l0 k p l (l.length : Int) (i : Int)) (isV p (l.drop i))
  | 0, i, hi => by
    rw [List.drop_of_length_le (by omega), isV]
    refine Ev.step (f := fun k => some 0) (fun k => ?_) (Ev.now _)
    simp only [qcc.l0]
    rw [if_neg (by omega)]
  | m + 1, i, hi => by
    have hlt : i < l.length := by omega
    have hr : rd_L3 l (i : Int) = l[i] := by simp [rd_L3, List.getD_eq_getElem?_getD, hlt]
    rw [List.drop_eq_getElem_cons hlt, isV]
    by_cases h3 : ((l[i]).length : Int) > 201
    · have e : withinV p l[i] = 3 := by unfold withinV; rw [if_pos h3]
      rw [e, if_neg (by decide)]
      refine Ev.step (f := fun k => some 3) (fun k => ?_) (Ev.now _)
      simp only [qcc.l0]
      rw [if_pos (by omega), if_pos (by omega), if_pos (by omega), hr, if_pos h3]
    · have e : withinV p l[i] = belowV p l[i] := by unfold withinV; rw [if_neg h3]
      rw [e]
      refine Ev.step (f := fun k => (qcb.f k p l[i]).bind fun t => if t = 0 then qcc.l0 k p l (l.length : Int) ((i + 1 : Nat) : Int) else some t) (fun k => ?_) (Ev.bind (field_below p _ (hl _ (List.getElem_mem hlt))) ?_)
      · conv => lhs; simp only [qcc.l0]
        rw [if_pos (by omega), if_pos (by omega), if_pos (by omega), hr, if_neg h3, w64_small (by omega) (by omega)]
        rfl
      · by_cases h0 : belowV p l[i] = 0
        · simp only [h0, if_true]
          exact is_loop p l hn hl m (i + 1) (by omega)
        · simp only [h0, if_false]
          exact Ev.now _
theorem poly_is (p : Int) (l : List (List Int)) (hn : l.length ≤ 1000000) (hl : ∀ f ∈ l, f.length ≤ maxLen) (hp : isP p = true) : Ev (fun k => qcc.f k p l) (isV p l) := by
  unfold qcc.f
  refine Ev.bind (field_is p) ?_
  simp only [hp, if_true]
  have h := is_loop p l hn hl l.length 0 (by omega)
  rw [List.drop_zero] at h
  exact h
end Go.Proofs.Ytjjnfobeeflnhaa.L
/- Small facts about numbers that came in, setups and rows. -/
namespace Go.Proofs.Ytjjnfobeeflnhaa.L
open Go.RowKit Go.Proofs.YtjjnfobeeflnhaaW.PrintWords Go.Proofs.Ytjjnfobeeflnhaa.J
theorem u64_wf {n : Int} (h : (Lit.int .u64 n).wf = true) : 0 ≤ n ∧ n < 18446744073709551616 := by
  simp [Lit.wf, IntKind.min, IntKind.max, IntKind.signed, IntKind.bits] at h
  omega
theorem setupV_small {p n t : Int} (h : setupV p n t = 0) : 3 ≤ p ∧ p ≤ 65537 ∧ 1 ≤ n ∧ n ≤ 13 ∧ 0 ≤ t ∧ t ≤ 3 ∧ 4 * t + 1 ≤ n ∧ n < p := by
  obtain ⟨hp, h1, h2, h4, h5, h6⟩ := setupV_ok h
  have hp2 := (isP_iff p).1 hp
  omega
end Go.Proofs.Ytjjnfobeeflnhaa.L
/- Both ways to share a polynomial answer alike, and what they answer. -/
namespace Go.Proofs.Ytjjnfobeeflnhaa.L
open Go.RowKit Go.Proofs.YtjjnfobeeflnhaaW.PrintWords Go.Proofs.Ytjjnfobeeflnhaa.J
theorem isV_one (p : Int) (l : List Int) : isV p [l] = withinV p l := by
  rw [isV, isV]; split
  · rename_i h; exact h.symm
  · rfl
theorem withinV_ne (p : Int) (l : List Int) (h : l.length ≤ 201) : withinV p l = belowV p l := by
  unfold withinV
  rw [if_neg (by omega)]
section
variable {q : Nat} [NeZero q]
def pt (q : Nat) [NeZero q] (i : Nat) : Fin q := resid q ((i : Int) + 1)
theorem nI_pt {i : Nat} (h : i + 1 < q) : nI (pt q i) = (i : Int) + 1 := by
  unfold pt
  rw [nI_resid, Int.emod_eq_of_lt (by omega) (by omega)]
def sharesF (f : List (Fin q)) (n : Nat) : List (Fin q) := Fld.mk n (fun i => Fld.ev f (pt q i))
end
section
variable {q : Nat} [NeZero q]
theorem of_loop (hq : q ≤ 65537) (f : List (Fin q)) (n : Nat) (t : Int) (hn : n < q) (m : Nat) : ∀ i : Nat, i + m = n → Ev (fun k => qac.l0 k (oI f) (oI (fill n i fun j => Fld.ev f (pt q j))) (n : Int) (i : Int) (q : Int) (n : Int) t) (oI (sharesF f n)) := by
  induction m with
  | zero =>
    intro i hi
    obtain rfl : i = n := by omega
    refine Ev.step (f := fun k => some (oI (sharesF f i))) (fun k => ?_) (Ev.now _)
    simp only [qac.l0]
    rw [if_neg (by omega), fill_all]
    rfl
  | succ m ih =>
    intro i hi
    have hw : wrap64 ((i : Int) + 1) = ((i + 1 : Nat) : Int) := by rw [w64_small (by omega) (by omega)]; omega
    have hp : IntKind.u64.wrap ((i + 1 : Nat) : Int) = nI (pt q i) := by rw [u64_small (by omega) (by omega), nI_pt (by omega)]; omega
    refine Ev.step (f := fun k => qac.l0 k (oI f) (oI (fill n (i + 1) fun j => Fld.ev f (pt q j))) (n : Int) ((i + 1 : Nat) : Int) (q : Int) (n : Int) t) (fun k => ?_) (ih (i + 1) (by omega))
    conv => lhs; simp only [qac.l0]
    rw [if_pos (by omega), hw, hp, at_rows hq, Option.bind_some, if_pos (by omega), if_pos (by rw [oI_length, fill_length]; omega), Int.toNat_natCast, oI_set, fill_set n i (fun j => Fld.ev f (pt q j))]
theorem share_of (hq : q ≤ 65537) (f : List (Fin q)) (n : Nat) (t : Int) (hn : n < q) : Ev (fun k => qac.f k (q : Int) (n : Int) t (oI f)) (oI (sharesF f n)) := by
  have h := of_loop hq f n t hn n 0 (by omega)
  rw [fill_zero, ← oI_zeros] at h
  refine Ev.congr (fun k => ?_) h
  unfold qac.f
  rw [if_pos (by omega), Int.toNat_natCast, if_pos (by omega), Option.bind_some]
  simp
theorem share_shares_ok (hq : q ≤ 65537) (f : List (Fin q)) (hf : f.length ≤ 201) (n : Nat) (t : Int) (h0 : setupV (q : Int) (n : Int) t = 0) : Ev (fun k => qob.f k (q : Int) (n : Int) t (oI f)) (oI (sharesF f n), 0) := by
  have hh := setupV_small h0
  have hi : isV (q : Int) [oI f] = 0 := by
    rw [isV_one, withinV_ne _ _ (by rw [oI_length]; exact hf)]
    unfold belowV
    rw [if_pos (fun x hx => (oI_range f x hx).2)]
  unfold qob.f
  refine Ev.bind (share_setup _ _ _) ?_
  simp only [h0, if_true]
  refine Ev.bind (poly_is (q : Int) [oI f] (by simp) (fun g hg => by rw [List.mem_singleton.1 hg, oI_length]; simp only [maxLen]; omega) (setupV_ok h0).1) ?_
  simp only [hi, if_true]
  exact Ev.bind (share_of hq f n t (by omega)) (Ev.now _)
end
end Go.Proofs.Ytjjnfobeeflnhaa.L
/- Interpolation over the residues modulo a prime: by differences (Newton) and by basis polynomials (Lagrange). Plain Lean, no program in sight. -/
namespace Go.Proofs.Ytjjnfobeeflnhaa.Fld
section
variable {p : Nat} [NeZero p]
theorem co_lin (b : Fin p) (r : List (Fin p)) (j : Nat) : co (mul [b, 1] r) j = b * co r j + (if j = 0 then 0 else co r (j - 1)) := by
  rw [mul, mul, mul, co_add, co_smul]
  cases j with
  | zero => rw [co_cons_zero]; simp
  | succ j =>
    rw [co_cons_succ, co_add, co_smul]
    have : co (0 :: ([] : List (Fin p))) j = 0 := by cases j with
      | zero => rfl
      | succ j => rw [co_cons_succ, co_nil]
    rw [this]; simp; grind
theorem ev_lin (b : Fin p) (z : Fin p) : ev [b, 1] z = z + b := by
  rw [ev_cons, ev_cons, ev_nil]; grind
theorem ev_one (c z : Fin p) : ev [c] z = c := by rw [ev_cons, ev_nil]; grind
def wp (x : Nat → Fin p) (a : Nat) : Nat → List (Fin p)
  | 0 => [1]
  | m + 1 => mul [-(x (a + m)), 1] (wp x a m)
theorem ev_wp (x : Nat → Fin p) (a m : Nat) (z : Fin p) : ev (wp x a (m + 1)) z = (z - x (a + m)) * ev (wp x a m) z := by
  rw [wp, ev_mul, ev_lin]; grind
theorem wp_root (x : Nat → Fin p) (a m k : Nat) (h : k < m) : ev (wp x a m) (x (a + k)) = 0 := by
  induction m with
  | zero => omega
  | succ m ih =>
    rw [ev_wp]
    by_cases e : k = m
    · subst e; grind
    · rw [ih (by omega)]; grind
theorem wp_hi (x : Nat → Fin p) (a m i : Nat) (h : m < i) : co (wp x a m) i = 0 := by
  induction m generalizing i with
  | zero => rw [wp, co_ge (by simp; omega)]
  | succ m ih =>
    rw [wp, co_lin, ih i (by omega), if_neg (by omega), ih (i - 1) (by omega)]; grind
theorem wp_top (x : Nat → Fin p) (a m : Nat) : co (wp x a m) m = 1 := by
  induction m with
  | zero => rfl
  | succ m ih =>
    rw [wp, co_lin, wp_hi x a m (m + 1) (by omega), if_neg (by omega), Nat.add_sub_cancel, ih]; grind
def dd (x y : Nat → Fin p) : Nat → Nat → Fin p
  | 0, i => y i
  | s + 1, i => (dd x y s i - dd x y s (i - 1)) * inv (x i - x (i - (s + 1)))
def nw (x y : Nat → Fin p) (a : Nat) : Nat → List (Fin p)
  | 0 => []
  | m + 1 => add (nw x y a m) (smul (dd x y m (a + m)) (wp x a m))
theorem ev_nw (x y : Nat → Fin p) (a m : Nat) (z : Fin p) : ev (nw x y a (m + 1)) z = ev (nw x y a m) z + dd x y m (a + m) * ev (wp x a m) z := by
  rw [nw, ev_add, ev_smul]
theorem nw_hi (x y : Nat → Fin p) (a m i : Nat) (h : m ≤ i) : co (nw x y a m) i = 0 := by
  induction m with
  | zero => rw [nw, co_nil]
  | succ m ih => rw [nw, co_add, co_smul, ih (by omega), wp_hi x a m i (by omega)]; grind
theorem nw_top (x y : Nat → Fin p) (a m : Nat) : co (nw x y a (m + 1)) m = dd x y m (a + m) := by
  rw [nw, co_add, co_smul, nw_hi x y a m m (Nat.le_refl _), wp_top]; grind
theorem nw_at (hp : Pr p) (x y : Nat → Fin p) (n : Nat) (hx : ∀ i j, i < n → j < n → x i = x j → i = j) : ∀ m a, a + m ≤ n → ∀ k, k < m → ev (nw x y a m) (x (a + k)) = y (a + k)
  | 0, _, _, k, h => by omega
  | 1, a, _, k, h => by
    obtain rfl : k = 0 := by omega
    rw [ev_nw, nw, ev_nil, wp, ev_one, dd]; grind
  | m + 2, a, hn, k, h => by
    have old : ∀ j, j < m + 1 → ev (nw x y a (m + 2)) (x (a + j)) = y (a + j) := fun j hj => by
      rw [ev_nw, wp_root x a (m + 1) j hj, nw_at hp x y n hx (m + 1) a (by omega) j hj]; grind
    by_cases hk : k < m + 1
    · exact old k hk
    obtain rfl : k = m + 1 := by omega
    have ne : x (a + (m + 1)) - x a ≠ 0 := by
      intro e
      have := hx (a + (m + 1)) a (by omega) (by omega) (by grind)
      omega
    let P := sub (sub (mul [-(x a), 1] (nw x y (a + 1) (m + 1))) (mul [-(x (a + (m + 1))), 1] (nw x y a (m + 1)))) (smul (x (a + (m + 1)) - x a) (nw x y a (m + 2)))
    have hP : ∀ i, m + 1 ≤ i → co P i = 0 := fun i hi => by
      show co (sub (sub _ _) _) i = 0
      rw [co_sub, co_sub, co_lin, co_lin, co_smul, nw_hi x y (a + 1) (m + 1) i hi, nw_hi x y a (m + 1) i hi, if_neg (by omega), if_neg (by omega)]
      by_cases e : i = m + 1
      · subst e
        rw [Nat.add_sub_cancel, nw_top, nw_top, nw_top]
        have e1 : dd x y (m + 1) (a + (m + 1)) = (dd x y m (a + (m + 1)) - dd x y m (a + m)) * inv (x (a + (m + 1)) - x a) := by
          rw [dd, show a + (m + 1) - 1 = a + m by omega, show a + (m + 1) - (m + 1) = a by omega]
        have e2 : a + 1 + m = a + (m + 1) := by omega
        have e3 := mul_inv hp ne
        rw [e1, e2]
        generalize inv (x (a + (m + 1)) - x a) = v at *
        grind
      · rw [nw_hi x y (a + 1) (m + 1) (i - 1) (by omega), nw_hi x y a (m + 1) (i - 1) (by omega), nw_hi x y a (m + 2) i (by omega)]; grind
    have evP : ∀ z, ev P z = (z - x a) * ev (nw x y (a + 1) (m + 1)) z - (z - x (a + (m + 1))) * ev (nw x y a (m + 1)) z - (x (a + (m + 1)) - x a) * ev (nw x y a (m + 2)) z := fun z => by
      show ev (sub (sub _ _) _) z = _
      rw [ev_sub, ev_sub, ev_mul, ev_mul, ev_smul, ev_lin, ev_lin]; grind
    have hz : ∀ i, co (trim P) i = 0 := by
      refine roots_le hp (m + 1) (trim P) ((List.range (m + 1)).map fun j => x (a + j)) ?_ ?_ (trim_length_of hP) (by simp)
      · unfold List.Nodup
        rw [List.pairwise_map]
        refine List.Pairwise.imp_of_mem ?_ List.nodup_range
        intro i j hi hj hne e
        have hi := List.mem_range.1 hi
        have hj := List.mem_range.1 hj
        have := hx (a + i) (a + j) (by omega) (by omega) e
        omega
      · intro z hz
        obtain ⟨j, hj, rfl⟩ := List.mem_map.1 hz
        have hj := List.mem_range.1 hj
        rw [(trim_co P).ev, evP, nw_at hp x y n hx (m + 1) a (by omega) j hj, old j hj]
        by_cases j0 : j = 0
        · subst j0; rw [Nat.add_zero]; grind
        · have h1 := nw_at hp x y n hx (m + 1) (a + 1) (by omega) (j - 1) (by omega)
          rw [show a + 1 + (j - 1) = a + j by omega] at h1
          rw [h1]; grind
    have h0 : ev P (x (a + (m + 1))) = 0 := by
      rw [← (trim_co P).ev, ev_sm (trim P) _ (trim P).length (Nat.le_refl _)]
      exact sm_zero fun i _ => by rw [hz]; grind
    rw [evP] at h0
    have h1 := nw_at hp x y n hx (m + 1) (a + 1) (by omega) m (by omega)
    rw [show a + 1 + m = a + (m + 1) by omega] at h1
    rw [h1] at h0
    have h2 : (x (a + (m + 1)) - x a) * ev (nw x y a (m + 2)) (x (a + (m + 1))) = (x (a + (m + 1)) - x a) * y (a + (m + 1)) := by grind
    exact mul_cancel hp ne h2
def hn (x d : Nat → Fin p) (n : Nat) : Nat → List (Fin p)
  | 0 => []
  | m + 1 => trim (add (trim (mul (hn x d n m) [-(x (n - (m + 1))), 1])) [d (n - (m + 1))])
theorem ev_hn (x d : Nat → Fin p) (n m : Nat) (z : Fin p) : ev (hn x d n (m + 1)) z = ev (hn x d n m) z * (z - x (n - (m + 1))) + d (n - (m + 1)) := by
  rw [hn, (trim_co _).ev, ev_add, (trim_co _).ev, ev_mul, ev_lin, ev_one]; grind
theorem hn_length (x d : Nat → Fin p) (n m : Nat) : (hn x d n m).length ≤ m := by
  induction m with
  | zero => simp [hn]
  | succ m ih =>
    rw [hn]
    refine trim_length_of fun i hi => ?_
    rw [co_add, trim_co _ i, co_ge (f := [d (n - (m + 1))]) (by simp; omega)]
    rw [co_mul_ge (by simp; omega)]; grind
theorem hn_tr (x d : Nat → Fin p) (n m : Nat) : trim (hn x d n m) = hn x d n m := by
  cases m with
  | zero => rfl
  | succ m => rw [hn, trim_trim]
theorem hn_nw (x y : Nat → Fin p) (n : Nat) (z : Fin p) : ∀ m, m ≤ n → ev (nw x y 0 n) z = ev (nw x y 0 (n - m)) z + ev (wp x 0 (n - m)) z * ev (hn x (fun i => dd x y i i) n m) z
  | 0, _ => by rw [hn, ev_nil, Nat.sub_zero]; grind
  | m + 1, h => by
    rw [hn_nw x y n z m (by omega), ev_hn]
    obtain ⟨c, hc⟩ : ∃ c, c = n - (m + 1) := ⟨_, rfl⟩
    rw [show n - m = c + 1 by omega, ← hc, ev_nw, ev_wp, Nat.zero_add]; grind
theorem hn_at (hp : Pr p) (x y : Nat → Fin p) (n : Nat) (hx : ∀ i j, i < n → j < n → x i = x j → i = j) (k : Nat) (hk : k < n) : ev (hn x (fun i => dd x y i i) n n) (x k) = y k := by
  have h1 := hn_nw x y n (x k) n (Nat.le_refl _)
  have h2 := nw_at hp x y n hx n 0 (by omega) k hk
  rw [Nat.zero_add] at h2
  rw [h2, Nat.sub_self, nw, ev_nil, wp, ev_one] at h1
  rw [h1]; grind
def un (x : Nat → Fin p) (i : Nat) : Nat → List (Fin p)
  | 0 => [1]
  | m + 1 => if m = i then un x i m else trim (smul (inv (x i - x m)) (trim (mul (un x i m) [-(x m), 1])))
theorem ev_un (x : Nat → Fin p) (i m : Nat) (z : Fin p) : ev (un x i (m + 1)) z = if m = i then ev (un x i m) z else ev (un x i m) z * ((z - x m) * inv (x i - x m)) := by
  rw [un]
  split
  · rfl
  · rw [(trim_co _).ev, ev_smul, (trim_co _).ev, ev_mul, ev_lin]; grind
theorem un_self (hp : Pr p) (x : Nat → Fin p) (n i : Nat) (hi : i < n) (hx : ∀ i j, i < n → j < n → x i = x j → i = j) : ∀ m, m ≤ n → ev (un x i m) (x i) = 1
  | 0, _ => by rw [un, ev_one]
  | m + 1, h => by
    rw [ev_un, un_self hp x n i hi hx m (by omega)]
    split
    · rfl
    · rename_i hne
      rw [mul_inv hp (fun e => hne (hx m i (by omega) hi (by grind)))]; grind
theorem un_other (x : Nat → Fin p) (i j m : Nat) (hj : j < m) (hne : j ≠ i) : ev (un x i m) (x j) = 0 := by
  induction m with
  | zero => omega
  | succ m ih =>
    rw [ev_un]
    by_cases e : j = m
    · subst e; rw [if_neg hne]; grind
    · rw [ih (by omega)]; split <;> grind
theorem un_length (x : Nat → Fin p) (i : Nat) : ∀ m, (un x i m).length ≤ (if i < m then m else m + 1)
  | 0 => by simp [un]
  | m + 1 => by
    have ih := un_length x i m
    rw [un]
    by_cases e : m = i
    · subst e
      rw [if_pos rfl, if_pos (by omega)]
      rw [if_neg (by omega)] at ih; exact ih
    · rw [if_neg e]
      have h1 := trim_length_le (smul (inv (x i - x m)) (trim (mul (un x i m) [-(x m), 1])))
      rw [smul_length] at h1
      have h2 := trim_mul_le (un x i m) [-(x m), 1]
      simp only [List.length_cons, List.length_nil] at h2
      split at ih <;> split <;> omega
def lg (x y : Nat → Fin p) (n : Nat) : Nat → List (Fin p)
  | 0 => []
  | m + 1 => trim (add (lg x y n m) (trim (smul (y m) (un x m n))))
theorem ev_lg (x y : Nat → Fin p) (n m : Nat) (z : Fin p) : ev (lg x y n (m + 1)) z = ev (lg x y n m) z + y m * ev (un x m n) z := by
  rw [lg, (trim_co _).ev, ev_add, (trim_co _).ev, ev_smul]
theorem lg_tr (x y : Nat → Fin p) (n m : Nat) : trim (lg x y n m) = lg x y n m := by
  cases m with
  | zero => rfl
  | succ m => rw [lg, trim_trim]
theorem lg_length (x y : Nat → Fin p) (n m : Nat) (hm : m ≤ n) : (lg x y n m).length ≤ n := by
  induction m with
  | zero => simp [lg]
  | succ m ih =>
    have h1 := trim_length_le (add (lg x y n m) (trim (smul (y m) (un x m n))))
    rw [add_length] at h1
    have h2 := trim_length_le (smul (y m) (un x m n))
    rw [smul_length] at h2
    have h3 := un_length x m n
    rw [if_pos (by omega)] at h3
    have := ih (by omega)
    rw [lg]; omega
theorem lg_at (hp : Pr p) (x y : Nat → Fin p) (n : Nat) (hx : ∀ i j, i < n → j < n → x i = x j → i = j) (k : Nat) (hk : k < n) : ∀ m, m ≤ n → ev (lg x y n m) (x k) = if k < m then y k else 0
  | 0, _ => by rw [lg, ev_nil, if_neg (by omega)]
  | m + 1, h => by
    rw [ev_lg, lg_at hp x y n hx k hk m (by omega)]
    by_cases e : k = m
    · subst e; rw [un_self hp x n k hk hx n (Nat.le_refl _), if_neg (by omega), if_pos (by omega)]; grind
    · rw [un_other x m k n hk e]
      by_cases h' : k < m
      · rw [if_pos h', if_pos (by omega)]; grind
      · rw [if_neg h', if_neg (by omega)]; grind
theorem hn_lg (hp : Pr p) (x y : Nat → Fin p) (n : Nat) (hx : ∀ i j, i < n → j < n → x i = x j → i = j) : hn x (fun i => dd x y i i) n n = lg x y n n := by
  have hd : ((List.range n).map x).Nodup := by
    unfold List.Nodup
    rw [List.pairwise_map]
    refine List.Pairwise.imp_of_mem ?_ List.nodup_range
    intro i j hi hj hne e
    exact hne (hx i j (List.mem_range.1 hi) (List.mem_range.1 hj) e)
  have h := unique hp hd (f := hn x (fun i => dd x y i i) n n) (g := lg x y n n) (by rw [hn_tr]; simpa using hn_length x _ n n) (by rw [lg_tr]; simpa using lg_length x y n n (Nat.le_refl _)) (fun z hz => by
    obtain ⟨k, hk, rfl⟩ := List.mem_map.1 hz
    have hk := List.mem_range.1 hk
    rw [hn_at hp x y n hx k hk, lg_at hp x y n hx k hk n (Nat.le_refl _), if_pos hk])
  rw [← hn_tr, ← lg_tr, trim_congr h]
end
end Go.Proofs.Ytjjnfobeeflnhaa.Fld
/- Both ways to lay a polynomial through points tell the same one: what the words tell. -/
namespace Go.Proofs.Ytjjnfobeeflnhaa.L
open Go.RowKit Go.Proofs.YtjjnfobeeflnhaaW.PrintWords Go.Proofs.Ytjjnfobeeflnhaa.J
section
variable {q : Nat} [NeZero q]
def ptsF (n : Nat) (X Y : Nat → Fin q) : List S86 := (List.range n).map fun i => (⟨nI (X i), nI (Y i)⟩ : S86)
end
section
variable {q : Nat}
theorem ptsF_length (n : Nat) (X Y : Nat → Fin q) : (ptsF n X Y).length = n := by simp [ptsF]
theorem rd_ptsF (n : Nat) (X Y : Nat → Fin q) (i : Nat) (h : i < n) : rd_T86 (ptsF n X Y) (i : Int) = (⟨nI (X i), nI (Y i)⟩ : S86) := by
  simp [rd_T86, ptsF, List.getD_eq_getElem?_getD, h]
end
section
variable {q : Nat} [NeZero q]
theorem mk_co (n : Nat) (F : Nat → Fin q) (i : Nat) (h : i < n) : Fld.co (Fld.mk n F) i = F i := by rw [Fld.co_mk, if_pos h]
end
section
variable {q : Nat}
theorem mk_congr {n : Nat} {F G : Nat → Fin q} (h : ∀ i, i < n → F i = G i) : Fld.mk n F = Fld.mk n G := by
  unfold Fld.mk
  exact List.map_congr_left fun i hi => h i (List.mem_range.1 hi)
theorem mk_set (n : Nat) (F : Nat → Fin q) (i : Nat) (a : Fin q) (hi : i < n) : (Fld.mk n F).set i a = Fld.mk n (fun j => if j = i then a else F j) := by
  apply List.ext_getElem (by simp [Fld.mk])
  intro j h1 h2
  simp only [Fld.mk, List.getElem_set, List.getElem_map, List.getElem_range]
  by_cases h : i = j
  · rw [if_pos h, if_pos h.symm]
  · rw [if_neg h, if_neg (fun e => h e.symm)]
end
section
variable {q : Nat} [NeZero q]
theorem fit_l3 (h1 : 2 < q) (hq : q ≤ 65537) (n : Nat) (hn : n ≤ 1000) (X Y D : Nat → Fin q) (m : Nat) : ∀ i : Nat, i = m → i ≤ n →
    Ev (fun k => qza.l3 k (q : Int) (ptsF n X Y) (oI (Fld.mk n D)) (oI (Fld.hn X D n (n - i))) ((i : Int) - 1)) (oI (Fld.hn X D n n)) := by
  induction m with
  | zero =>
    intro i hi hle
    subst hi
    rw [Nat.sub_zero]
    have hs := short_fp (Fld.hn X D n n) (by have := Fld.hn_length X D n n; omega)
    rw [Fld.hn_tr] at hs
    refine Ev.step (f := fun k => (qxa.f k (oI (Fld.hn X D n n))).bind fun t903 => some t903) (fun k => ?_) (Ev.bind hs (Ev.now _))
    simp only [qza.l3]
    rw [if_neg (by omega)]
  | succ m ih =>
    intro i hi hle
    subst hi
    have hw : wrap64 ((m : Int) - 1) = (m : Int) - 1 := w64_small (by omega) (by omega)
    have hi1 : ((m + 1 : Nat) : Int) - 1 = (m : Int) := by omega
    have e0 : (0 : Int) = nI (0 : Fin q) := nI_zero.symm
    have hm : qsb.f (q : Int) 0 (nI (X m)) = some (nI (-(X m))) := by
      have := minus_fp hq 0 (X m)
      rw [nI_zero] at this
      rw [this, show (0 : Fin q) - X m = -(X m) by grind]
    have e1 : [nI (-(X m)), (1 : Int)] = oI [-(X m), 1] := by rw [oI_cons, oI_cons, nI_one (by omega)]; rfl
    have e2 : [nI (D m)] = oI [D m] := rfl
    have hl := Fld.hn_length X D n (n - (m + 1))
    have hl2 := Fld.trim_mul_le (Fld.hn X D n (n - (m + 1))) [-(X m), 1]
    simp only [List.length_cons, List.length_nil] at hl2
    have hnext : Fld.hn X D n (n - m) = Fld.trim (Fld.add (Fld.trim (Fld.mul (Fld.hn X D n (n - (m + 1))) [-(X m), 1])) [D m]) := by
      have : n - m = n - (m + 1) + 1 := by omega
      rw [this, Fld.hn, show n - (n - (m + 1) + 1) = m by omega]
    have h := ih m rfl (by omega)
    rw [hnext] at h
    refine Ev.step (f := fun k => (qsa.f k (q : Int) (oI (Fld.hn X D n (n - (m + 1)))) (oI [-(X m), 1])).bind fun t893 => (qic.f k (q : Int) t893 (oI [D m])).bind fun t900 => qza.l3 k (q : Int) (ptsF n X Y) (oI (Fld.mk n D)) t900 ((m : Int) - 1)) (fun k => ?_) (Ev.bind (times_rows hq _ _ (by omega) (by simp)) (Ev.bind (plus_rows hq _ _ (by omega) (by simp)) h))
    conv => lhs; simp only [qza.l3]
    rw [hi1, if_pos (by omega), if_pos (by omega), if_pos (by rw [ptsF_length]; omega), rd_ptsF n X Y m (by omega)]
    show ((qsb.f (q : Int) 0 (nI (X m))).bind _) = _
    rw [hm, Option.bind_some, e1, oI_length, Fld.mk_length]
    simp only [show ((m : Int) < (n : Int)) by omega, if_true, rd_oI, mk_co n D m (by omega), e2, hw]
theorem fit_l2 (h1 : 2 < q) (hq : q ≤ 65537) (n : Nat) (hn : n ≤ 1000) (X Y : Nat → Fin q) (s : Nat) (hs : s + 1 < n) {r : List Int}
    (next : Ev (fun k => qza.l1 k (q : Int) (ptsF n X Y) (oI (Fld.mk n fun j => Fld.dd X Y (min (s + 1) j) j)) ((s + 2 : Nat) : Int)) r) (m : Nat) : ∀ i : Nat, i = s + m → i < n →
    Ev (fun k => qza.l2 k (q : Int) (ptsF n X Y) (oI (Fld.mk n fun j => if i < j then Fld.dd X Y (min (s + 1) j) j else Fld.dd X Y (min s j) j)) ((s + 1 : Nat) : Int) (i : Int)) r := by
  induction m with
  | zero =>
    intro i hi hlt
    obtain rfl : i = s := by omega
    have e : (Fld.mk n fun j => if i < j then Fld.dd X Y (min (i + 1) j) j else Fld.dd X Y (min i j) j) = Fld.mk n fun j => Fld.dd X Y (min (i + 1) j) j := mk_congr fun j hj => by
      by_cases h : i < j
      · rw [if_pos h]
      · rw [if_neg h, show min i j = min (i + 1) j by omega]
    rw [e]
    have hw : wrap64 (((i + 1 : Nat) : Int) + 1) = ((i + 2 : Nat) : Int) := by rw [w64_small (by omega) (by omega)]; omega
    refine Ev.step (f := fun k => qza.l1 k (q : Int) (ptsF n X Y) (oI (Fld.mk n fun j => Fld.dd X Y (min (i + 1) j) j)) ((i + 2 : Nat) : Int)) (fun k => ?_) next
    conv => lhs; simp only [qza.l2]
    rw [if_neg (by omega), hw]
  | succ m ih =>
    intro i hi hlt
    have hw1 : wrap64 ((i : Int) - ((s + 1 : Nat) : Int)) = ((i - (s + 1) : Nat) : Int) := by rw [w64_small (by omega) (by omega)]; omega
    have hw2 : wrap64 ((i : Int) - 1) = ((i - 1 : Nat) : Int) := by rw [w64_small (by omega) (by omega)]; omega
    have h := ih (i - 1) (by omega) (by omega)
    have e : ((Fld.mk n fun j => if i < j then Fld.dd X Y (min (s + 1) j) j else Fld.dd X Y (min s j) j).set i ((Fld.dd X Y s i - Fld.dd X Y s (i - 1)) * Fld.inv (X i - X (i - (s + 1))))) = Fld.mk n fun j => if i - 1 < j then Fld.dd X Y (min (s + 1) j) j else Fld.dd X Y (min s j) j := by
      rw [mk_set n _ i _ hlt]
      refine mk_congr fun j hj => ?_
      by_cases h' : j = i
      · subst h'
        rw [if_pos rfl, if_pos (by omega), show min (s + 1) j = s + 1 by omega, Fld.dd]
      · rw [if_neg h']
        by_cases h2 : i < j
        · rw [if_pos h2, if_pos (by omega)]
        · rw [if_neg h2, if_neg (by omega)]
    have c1 : Fld.co (Fld.mk n fun j => if i < j then Fld.dd X Y (min (s + 1) j) j else Fld.dd X Y (min s j) j) i = Fld.dd X Y s i := by
      rw [mk_co n _ i hlt, if_neg (by omega), show min s i = s by omega]
    have c2 : Fld.co (Fld.mk n fun j => if i < j then Fld.dd X Y (min (s + 1) j) j else Fld.dd X Y (min s j) j) (i - 1) = Fld.dd X Y s (i - 1) := by
      rw [mk_co n _ (i - 1) (by omega), if_neg (by omega), show min s (i - 1) = s by omega]
    rw [← e] at h
    generalize Fld.mk n (fun j => if i < j then Fld.dd X Y (min (s + 1) j) j else Fld.dd X Y (min s j) j) = d at *
    have hd : d.length = n := by
      have := congrArg List.length e
      rwa [List.length_set, Fld.mk_length] at this
    refine Ev.step (f := fun k => (qec.f k (q : Int) (nI (X i - X (i - (s + 1))))).bind fun t885 => (qub.f (q : Int) (nI (Fld.dd X Y s i - Fld.dd X Y s (i - 1))) t885).bind fun t886 => qza.l2 k (q : Int) (ptsF n X Y) ((oI d).set i t886) ((s + 1 : Nat) : Int) ((i - 1 : Nat) : Int)) (fun k => ?_) (Ev.bind (over_fp h1 hq _) ?_)
    · conv => lhs; simp only [qza.l2]
      rw [if_pos (by omega), if_pos (by omega), if_pos (by rw [ptsF_length]; omega), hw1, if_pos (by omega), if_pos (by rw [ptsF_length]; omega), rd_ptsF n X Y i hlt, rd_ptsF n X Y (i - (s + 1)) (by omega), minus_fp hq, Option.bind_some, oI_length, hd, if_pos (by omega), hw2, if_pos (by omega), if_pos (by omega), rd_oI, rd_oI, c1, c2, minus_fp hq, Option.bind_some, Int.toNat_natCast]
    · rw [times_fp hq]
      refine Ev.bind (Ev.now _) ?_
      rw [oI_set]
      exact h
theorem fit_l1 (h1 : 2 < q) (hq : q ≤ 65537) (n : Nat) (hn : n ≤ 1000) (X Y : Nat → Fin q) (m : Nat) : ∀ s : Nat, s + 1 + m = max n 1 →
    Ev (fun k => qza.l1 k (q : Int) (ptsF n X Y) (oI (Fld.mk n fun j => Fld.dd X Y (min s j) j)) ((s + 1 : Nat) : Int)) (oI (Fld.hn X (fun i => Fld.dd X Y i i) n n)) := by
  induction m with
  | zero =>
    intro s hs
    have e : (Fld.mk n fun j => Fld.dd X Y (min s j) j) = Fld.mk n fun j => Fld.dd X Y j j := mk_congr fun j hj => by rw [show min s j = j by omega]
    rw [e]
    have hw : wrap64 ((n : Int) - 1) = (n : Int) - 1 := w64_small (by omega) (by omega)
    have h := fit_l3 h1 hq n hn X Y (fun j => Fld.dd X Y j j) n n rfl (Nat.le_refl _)
    rw [Nat.sub_self] at h
    refine Ev.step (f := fun k => qza.l3 k (q : Int) (ptsF n X Y) (oI (Fld.mk n fun j => Fld.dd X Y j j)) [] ((n : Int) - 1)) (fun k => ?_) h
    conv => lhs; simp only [qza.l1]
    rw [ptsF_length, if_neg (by omega), hw]
  | succ m ih =>
    intro s hs
    have hw : wrap64 ((n : Int) - 1) = ((n - 1 : Nat) : Int) := by rw [w64_small (by omega) (by omega)]; omega
    have h := fit_l2 h1 hq n hn X Y s (by omega) (ih (s + 1) (by omega)) (n - 1 - s) (n - 1) (by omega) (by omega)
    have e : (Fld.mk n fun j => if n - 1 < j then Fld.dd X Y (min (s + 1) j) j else Fld.dd X Y (min s j) j) = Fld.mk n fun j => Fld.dd X Y (min s j) j := mk_congr fun j hj => by rw [if_neg (by omega)]
    rw [e] at h
    refine Ev.step (f := fun k => qza.l2 k (q : Int) (ptsF n X Y) (oI (Fld.mk n fun j => Fld.dd X Y (min s j) j)) ((s + 1 : Nat) : Int) ((n - 1 : Nat) : Int)) (fun k => ?_) h
    conv => lhs; simp only [qza.l1]
    rw [ptsF_length, if_pos (by omega), hw]
theorem fit_l0 (h1 : 2 < q) (hq : q ≤ 65537) (n : Nat) (hn : n ≤ 1000) (X Y : Nat → Fin q) (m : Nat) : ∀ i : Nat, i + m = n →
    Ev (fun k => qza.l0 k (q : Int) (ptsF n X Y) (oI (fill n i Y)) (ptsF n X Y) (n : Int) (i : Int)) (oI (Fld.hn X (fun i => Fld.dd X Y i i) n n)) := by
  induction m with
  | zero =>
    intro i hi
    obtain rfl : i = n := by omega
    have h := fit_l1 h1 hq i hn X Y (max i 1 - 1) 0 (by omega)
    have e : (Fld.mk i fun j => Fld.dd X Y (min 0 j) j) = Fld.mk i Y := mk_congr fun j hj => by rw [Nat.zero_min, Fld.dd]
    rw [e] at h
    refine Ev.step (f := fun k => qza.l1 k (q : Int) (ptsF i X Y) (oI (Fld.mk i Y)) ((0 + 1 : Nat) : Int)) (fun k => ?_) h
    conv => lhs; simp only [qza.l0]
    rw [if_neg (by omega), fill_all]
    rfl
  | succ m ih =>
    intro i hi
    have hw : wrap64 ((i : Int) + 1) = ((i + 1 : Nat) : Int) := by rw [w64_small (by omega) (by omega)]; omega
    refine Ev.step (f := fun k => qza.l0 k (q : Int) (ptsF n X Y) (oI (fill n (i + 1) Y)) (ptsF n X Y) (n : Int) ((i + 1 : Nat) : Int)) (fun k => ?_) (ih (i + 1) (by omega))
    conv => lhs; simp only [qza.l0]
    rw [if_pos (by omega), if_pos (by omega), if_pos (by rw [ptsF_length]; omega), if_pos (by rw [oI_length, fill_length]; omega), rd_ptsF n X Y i (by omega), Int.toNat_natCast, oI_set, fill_set, hw]
theorem fit_rows (h1 : 2 < q) (hq : q ≤ 65537) (n : Nat) (hn : n ≤ 1000) (X Y : Nat → Fin q) : Ev (fun k => qza.f k (q : Int) (ptsF n X Y)) (oI (Fld.hn X (fun i => Fld.dd X Y i i) n n)) := by
  have h := fit_l0 h1 hq n hn X Y n 0 (by omega)
  rw [fill_zero, ← oI_zeros] at h
  refine Ev.congr (fun k => ?_) h
  unfold qza.f
  rw [ptsF_length, if_pos (by omega), Int.toNat_natCast, if_pos (by omega)]
  rfl
end
section
variable {q : Nat} [NeZero q]
theorem points_loop (y : List (Fin q)) (hn : y.length ≤ 1000) (hq : y.length < q) (m : Nat) : ∀ i : Nat, i + m = y.length → Ev (fun k => qua.l0 k (ptsF i (pt q) (Fld.co y)) (oI y) (y.length : Int) (i : Int)) (ptsF y.length (pt q) (Fld.co y)) := by
  induction m with
  | zero =>
    intro i hi
    obtain rfl : i = y.length := by omega
    refine Ev.step (f := fun k => some (ptsF y.length (pt q) (Fld.co y))) (fun k => ?_) (Ev.now _)
    simp only [qua.l0]
    rw [if_neg (by omega)]
  | succ m ih =>
    intro i hi
    have hw : wrap64 ((i : Int) + 1) = ((i + 1 : Nat) : Int) := by rw [w64_small (by omega) (by omega)]; omega
    have hp : IntKind.u64.wrap ((i + 1 : Nat) : Int) = nI (pt q i) := by rw [u64_small (by omega) (by omega), nI_pt (by omega)]; omega
    have e : ptsF (i + 1) (pt q) (Fld.co y) = ptsF i (pt q) (Fld.co y) ++ [(⟨nI (pt q i), nI (Fld.co y i)⟩ : S86)] := by
      unfold ptsF; rw [List.range_succ]; simp
    have h := ih (i + 1) (by omega)
    rw [e] at h
    refine Ev.step (f := fun k => qua.l0 k (ptsF i (pt q) (Fld.co y) ++ [(⟨nI (pt q i), nI (Fld.co y i)⟩ : S86)]) (oI y) (y.length : Int) ((i + 1 : Nat) : Int)) (fun k => ?_) h
    conv => lhs; simp only [qua.l0]
    rw [if_pos (by omega), if_pos (by omega), if_pos (by rw [oI_length]; omega), if_pos (by rw [ptsF_length]; omega), hw, hp, rd_oI]
theorem ref_points (y : List (Fin q)) (hn : y.length ≤ 1000) (hq : y.length < q) : Ev (fun k => qua.f k (oI y)) (ptsF y.length (pt q) (Fld.co y)) := by
  refine Ev.congr (fun k => ?_) (points_loop y hn hq y.length 0 (by omega))
  unfold qua.f
  rw [oI_length]
  rfl
end
theorem points_eq : ∀ k a b c d, qyb.l0 k a b c d = qua.l0 k a b c d
  | 0, _, _, _, _ => rfl
  | k + 1, a, b, c, d => by simp only [qyb.l0, qua.l0, points_eq k]
section
variable {q : Nat} [NeZero q]
theorem share_points (y : List (Fin q)) (hn : y.length ≤ 1000) (hq : y.length < q) : Ev (fun k => qyb.f k (oI y)) (ptsF y.length (pt q) (Fld.co y)) :=
  Ev.congr (fun k => points_eq _ _ _ _ _) (ref_points y hn hq)
theorem pt_inj {i j : Nat} (hi : i + 1 < q) (hj : j + 1 < q) (h : pt q i = pt q j) : i = j := by
  have h1 := nI_pt hi
  have h2 := nI_pt hj
  rw [h] at h1
  omega
end
end Go.Proofs.Ytjjnfobeeflnhaa.L
/- The statement ShareSetups as plain Lean: both tests of a setup and both tests of a list of corrupted parties answer alike. -/
namespace Go.Proofs.Ytjjnfobeeflnhaa.L
open Go.RowKit Go.Proofs.YtjjnfobeeflnhaaW.PrintWords Go.Proofs.Ytjjnfobeeflnhaa.J
theorem alive04 : Ev (fun k => qnb.f k) true := Ev.of qnb.mono (k := 60) (by decide +kernel)
end Go.Proofs.Ytjjnfobeeflnhaa.L
/- Division with rest of polynomials over the residues modulo a prime: one step, and that there is but one answer. Plain Lean, no program in sight. -/
namespace Go.Proofs.Ytjjnfobeeflnhaa.Fld
section
variable {p : Nat} [NeZero p]
theorem div_unique (hp : Pr p) {g Q Q' R R' : List (Fin p)} (hg : trim g ≠ []) (h : Eqv (add (mul Q g) R) (add (mul Q' g) R')) (hR : (trim R).length < (trim g).length) (hR' : (trim R').length < (trim g).length) : Eqv Q Q' ∧ Eqv R R' := by
  have hD : Eqv (mul (sub Q Q') g) (sub R' R) := fun i => by
    have h1 := h i
    rw [co_add, co_add] at h1
    rw [sub_mul Q Q' g i, co_sub, co_sub]
    grind
  by_cases hd : trim (sub Q Q') = []
  · have hQ : Eqv Q Q' := fun i => by
      have : co (sub Q Q') i = 0 := by rw [← trim_co (sub Q Q') i, hd, co_nil]
      rw [co_sub] at this
      grind
    refine ⟨hQ, fun i => ?_⟩
    have h1 := h i
    have h2 := hQ.mul (Eqv.refl g) i
    rw [co_add, co_add, h2] at h1
    grind
  · exfalso
    have h1 := trim_mul_length hp hd hg
    rw [trim_congr hD] at h1
    have h2 := trim_length_of (f := sub R' R) (n := (trim g).length - 1) (fun i hi => by
      rw [co_sub, ← trim_co R' i, ← trim_co R i, co_ge (f := trim R') (by omega), co_ge (f := trim R) (by omega)]; grind)
    have h3 := List.length_pos_iff.2 hd
    have h4 := List.length_pos_iff.2 hg
    omega
end
end Go.Proofs.Ytjjnfobeeflnhaa.Fld
/- Both ways to divide with rest answer alike, and what they answer. -/
namespace Go.Proofs.Ytjjnfobeeflnhaa.L
open Go.RowKit Go.Proofs.YtjjnfobeeflnhaaW.PrintWords Go.Proofs.Ytjjnfobeeflnhaa.J
theorem pr_of_isP {q : Nat} (h : isP (q : Int) = true) : Fld.Pr q := by
  obtain ⟨h1, h2, h3⟩ := (isP_iff _).1 h
  refine Fld.pr_of_trial (by omega) fun d hd hdd h0 => h3 (d : Int) (by omega) (by exact_mod_cast hdd) (by exact_mod_cast h0)
section
variable {q : Nat} [NeZero q]
def DivOf (f g Q R : List (Fin q)) : Prop := Fld.trim Q = Q ∧ Fld.trim R = R ∧ Fld.Eqv f (Fld.add (Fld.mul Q g) R) ∧ R.length < (Fld.trim g).length ∧ Q.length ≤ f.length
theorem DivOf.unique (hp : Fld.Pr q) {f g Q R Q' R' : List (Fin q)} (hg : Fld.trim g ≠ []) (h : DivOf f g Q R) (h' : DivOf f g Q' R') : Q = Q' ∧ R = R' := by
  obtain ⟨a1, a2, a3, a4, _⟩ := h
  obtain ⟨b1, b2, b3, b4, _⟩ := h'
  obtain ⟨c1, c2⟩ := Fld.div_unique hp hg (a3.symm.trans b3) (by rw [a2]; exact a4) (by rw [b2]; exact b4)
  exact ⟨by rw [← a1, ← b1, Fld.trim_congr c1], by rw [← a2, ← b2, Fld.trim_congr c2]⟩
end
end Go.Proofs.Ytjjnfobeeflnhaa.L
/- The statement ShareFits as plain Lean. -/
namespace Go.Proofs.Ytjjnfobeeflnhaa.L
open Go.RowKit Go.Proofs.YtjjnfobeeflnhaaW.PrintWords Go.Proofs.Ytjjnfobeeflnhaa.J
def areV (p n : Int) (l : List Int) : Int := if (l.length : Int) = n then belowV p l else 2
theorem belowV_two {p : Int} {l : List Int} (h : belowV p l ≠ 0) : belowV p l = 2 := by
  unfold belowV at h ⊢
  split
  · rename_i h'
    rw [if_pos h'] at h
    exact absurd rfl h
  · rfl
theorem share_are_one (p n t : Int) (l : List Int) (hl : l.length ≤ maxLen) : Ev (fun k => qqb.f k p n t [l]) (areV p n l) := by
  have hr : rd_L3 [l] 0 = l := rfl
  have hw : wrap64 (0 + 1) = 1 := w64_small (by omega) (by omega)
  unfold areV
  by_cases hn : (l.length : Int) = n
  · rw [if_pos hn]
    refine Ev.step (f := fun k => (qcb.f k p l).bind fun t818 => (if t818 = 0 then (qqb.l0 k [l] 1 1 p n t) else (some 2))) (fun k => ?_) (Ev.bind (field_below p l hl) ?_)
    · unfold qqb.f
      show qqb.l0 (k + 1) [l] 1 0 p n t = _
      simp only [qqb.l0]
      rw [if_pos (by omega), if_pos (by omega), if_pos (by simp), hr, if_pos hn, hw]
    · by_cases hb : belowV p l = 0
      · simp only [hb, if_true]
        refine Ev.step (f := fun k => some 0) (fun k => ?_) (Ev.now _)
        simp only [qqb.l0]
        rw [if_neg (by decide)]
      · simp only [hb, if_false]
        rw [belowV_two hb]
        exact Ev.now _
  · rw [if_neg hn]
    refine Ev.step (f := fun k => some 2) (fun k => ?_) (Ev.now _)
    unfold qqb.f
    show qqb.l0 (k + 1) [l] 1 0 p n t = _
    simp only [qqb.l0]
    rw [if_pos (by omega), if_pos (by omega), if_pos (by simp), hr, if_neg hn]
end Go.Proofs.Ytjjnfobeeflnhaa.L
/- The statement ShareSums as plain Lean. -/
namespace Go.Proofs.Ytjjnfobeeflnhaa.L
open Go.RowKit Go.Proofs.YtjjnfobeeflnhaaW.PrintWords Go.Proofs.Ytjjnfobeeflnhaa.J
def arsV (p n : Int) : List (List Int) → Int
  | [] => 0
  | f :: fs => if areV p n f = 0 then arsV p n fs else 2
theorem row_at3 (l : List (List Int)) (i : Nat) (h : i < l.length) : rd_L3 l (i : Int) = l[i] := by simp [rd_L3, List.getD_eq_getElem?_getD, h]
theorem share_ars (p n t : Int) (l : List (List Int)) (hml : l.length ≤ 100000000000000000) (hf : ∀ f ∈ l, f.length ≤ maxLen) (m : Nat) : ∀ i : Nat, i + m = l.length → Ev (fun k => qqb.l0 k l (l.length : Int) (i : Int) p n t) (arsV p n (l.drop i)) := by
  induction m with
  | zero =>
    intro i hi
    rw [List.drop_of_length_le (by omega)]
    refine Ev.step (f := fun k => some 0) (fun k => ?_) (Ev.now _)
    simp only [qqb.l0]
    rw [if_neg (by omega)]
  | succ m ih =>
    intro i hi
    have hlt : i < l.length := by omega
    have hw : wrap64 ((i : Int) + 1) = ((i + 1 : Nat) : Int) := by rw [w64_small (by omega) (by omega)]; omega
    rw [List.drop_eq_getElem_cons hlt]
    unfold arsV areV
    by_cases hn : (l[i].length : Int) = n
    · rw [if_pos hn]
      refine Ev.step (f := fun k => (qcb.f k p l[i]).bind fun t824 => (if t824 = 0 then (qqb.l0 k l (l.length : Int) ((i + 1 : Nat) : Int) p n t) else (some 2))) (fun k => ?_) (Ev.bind (field_below p _ (hf _ (List.getElem_mem hlt))) ?_)
      · simp only [qqb.l0]
        rw [if_pos (by omega), if_pos (by omega), if_pos (by omega), row_at3 l i hlt, if_pos hn, hw]
      · by_cases hb : belowV p l[i] = 0
        · simp only [hb, if_true]
          exact ih (i + 1) (by omega)
        · simp only [hb, if_false]
          exact Ev.now _
    · rw [if_neg hn, if_neg (by decide)]
      refine Ev.step (f := fun k => some 2) (fun k => ?_) (Ev.now _)
      simp only [qqb.l0]
      rw [if_pos (by omega), if_pos (by omega), if_pos (by omega), row_at3 l i hlt, if_neg hn]
theorem share_ares (p n t : Int) (l : List (List Int)) (hl : l.length ≤ 100000000000000000) (hf : ∀ f ∈ l, f.length ≤ maxLen) : Ev (fun k => qqb.f k p n t l) (arsV p n l) := by
  have h := share_ars p n t l hl hf l.length 0 (by omega)
  rw [List.drop_zero] at h
  exact h
section
variable {q : Nat} [NeZero q]
def adding (a r : List (Fin q)) (n j : Nat) : List (Fin q) := Fld.mk n (fun i => if i < j then Fld.co a i + Fld.co r i else Fld.co a i)
theorem adding_zero (a r : List (Fin q)) (n : Nat) (h : a.length = n) : adding a r n 0 = a := by
  apply List.ext_getElem (by rw [adding, Fld.mk_length, h])
  intro i h1 h2
  have := Fld.co_lt h1
  rw [← this, adding, Fld.co_mk, if_pos (by omega), if_neg (by omega), Fld.co_lt h2]
theorem adding_length (a r : List (Fin q)) (n j : Nat) : (adding a r n j).length = n := Fld.mk_length _ _
theorem adding_co (a r : List (Fin q)) (n j : Nat) (h : j < n) : Fld.co (adding a r n j) j = Fld.co a j := by
  rw [adding, Fld.co_mk, if_pos h, if_neg (by omega)]
theorem adding_set (a r : List (Fin q)) (n j : Nat) (h : j < n) : (adding a r n j).set j (Fld.co a j + Fld.co r j) = adding a r n (j + 1) := by
  apply List.ext_getElem (by simp [adding, Fld.mk])
  intro i h1 h2
  rw [← Fld.co_lt h1, ← Fld.co_lt h2, co_set _ _ _ (by rw [adding_length]; exact h)]
  rw [adding_length] at h2
  unfold adding
  rw [Fld.co_mk, Fld.co_mk, if_pos h2, if_pos h2]
  by_cases e : i = j
  · subst e; rw [if_pos rfl, if_pos (by omega)]
  · rw [if_neg e]
    by_cases e2 : i < j
    · rw [if_pos e2, if_pos (by omega)]
    · rw [if_neg e2, if_neg (by omega)]
def sumsF (n : Nat) : List (Fin q) → List (List (Fin q)) → List (Fin q)
  | a, [] => a
  | a, r :: rs => sumsF n (adding a r n n) rs
theorem sum_inner (hq : q ≤ 65537) (n t : Int) (L : List (List (Fin q))) (z : Nat) (hz : z ≤ 100) (i : Nat) (a r : List (Fin q)) (hr : r.length = z) {out : List Int × Int}
    (last : Ev (fun k => qkb.l0 k (oI (adding a r z z)) (L.map oI) (L.length : Int) ((i + 1 : Nat) : Int) (q : Int) n t) out) (hi : i < 1000000000000000000) (m : Nat) : ∀ j : Nat, j + m = z →
    Ev (fun k => qkb.l1 k (oI (adding a r z j)) (L.map oI) (L.length : Int) (i : Int) (oI r) (z : Int) (j : Int) (q : Int) n t) out := by
  induction m with
  | zero =>
    intro j hj
    obtain rfl : j = z := by omega
    have hw : wrap64 ((i : Int) + 1) = ((i + 1 : Nat) : Int) := by rw [w64_small (by omega) (by omega)]; omega
    refine Ev.step (f := fun k => qkb.l0 k (oI (adding a r j j)) (L.map oI) (L.length : Int) ((i + 1 : Nat) : Int) (q : Int) n t) (fun k => ?_) last
    conv => lhs; simp only [qkb.l1]
    rw [if_neg (by omega), hw]
  | succ m ih =>
    intro j hj
    have hw : wrap64 ((j : Int) + 1) = ((j + 1 : Nat) : Int) := by rw [w64_small (by omega) (by omega)]; omega
    refine Ev.step (f := fun k => qkb.l1 k (oI (adding a r z (j + 1))) (L.map oI) (L.length : Int) (i : Int) (oI r) (z : Int) ((j + 1 : Nat) : Int) (q : Int) n t) (fun k => ?_) (ih (j + 1) (by omega))
    conv => lhs; simp only [qkb.l1]
    rw [if_pos (by omega), if_pos (by omega), if_pos (by rw [oI_length]; omega), if_pos (by rw [oI_length, adding_length]; omega), rd_oI, rd_oI, adding_co _ _ _ _ (by omega), plus_fp hq, Option.bind_some, Int.toNat_natCast, oI_set, adding_set _ _ _ _ (by omega), hw]
theorem sum_outer (hq : q ≤ 65537) (n t : Int) (L : List (List (Fin q))) (z : Nat) (hz : z ≤ 100) (hl : L.length ≤ 100000000000000000) (hr : ∀ f ∈ L, f.length = z) (m : Nat) : ∀ (i : Nat) (a : List (Fin q)), i + m = L.length → a.length = z →
    Ev (fun k => qkb.l0 k (oI a) (L.map oI) (L.length : Int) (i : Int) (q : Int) n t) (oI (sumsF z a (L.drop i)), 0) := by
  induction m with
  | zero =>
    intro i a hi ha
    rw [List.drop_of_length_le (by omega), sumsF]
    refine Ev.step (f := fun k => some (oI a, 0)) (fun k => ?_) (Ev.now _)
    simp only [qkb.l0]
    rw [if_neg (by omega)]
  | succ m ih =>
    intro i a hi ha
    have hlt : i < L.length := by omega
    have hrow := hr _ (List.getElem_mem hlt)
    rw [List.drop_eq_getElem_cons hlt, sumsF]
    have hrl : rd_L3 (L.map oI) (i : Int) = oI L[i] := by rw [row_at3 _ _ (by rw [List.length_map]; exact hlt)]; simp
    have h := sum_inner hq n t L z hz i a L[i] hrow (ih (i + 1) _ (by omega) (adding_length _ _ _ _)) (by omega) z 0 (by omega)
    rw [adding_zero _ _ _ ha] at h
    refine Ev.step (f := fun k => qkb.l1 k (oI a) (L.map oI) (L.length : Int) (i : Int) (oI L[i]) (z : Int) ((0 : Nat) : Int) (q : Int) n t) (fun k => ?_) h
    conv => lhs; simp only [qkb.l0]
    rw [if_pos (by omega), if_pos (by omega), if_pos (by rw [List.length_map]; omega), hrl, oI_length, hrow]
    rfl
def sumF (L : List (List (Fin q))) (n : Nat) : List (Fin q) := sumsF n (List.replicate n 0) L
theorem share_sum_ok (hq : q ≤ 65537) (t : Int) (L : List (List (Fin q))) (n : Nat) (h0 : setupV (q : Int) (n : Int) t = 0) (ha : arsV (q : Int) (n : Int) (L.map oI) = 0) (hl : L.length ≤ 100000000000000000) (hr : ∀ f ∈ L, f.length = n) : Ev (fun k => qkb.f k (q : Int) (n : Int) t (L.map oI)) (oI (sumF L n), 0) := by
  have hh := setupV_small h0
  have h := sum_outer hq (n : Int) t L n (by omega) hl hr L.length 0 (List.replicate n 0) (by omega) (by simp)
  rw [List.drop_zero, ← oI_zeros] at h
  unfold qkb.f
  refine Ev.bind (share_setup _ _ _) ?_
  simp only [h0, if_true]
  refine Ev.bind (share_ares _ _ _ _ (by rw [List.length_map]; omega) (fun f hf => ?_)) ?_
  · obtain ⟨g, hg, rfl⟩ := List.mem_map.1 hf
    rw [oI_length, hr g hg]; simp only [maxLen]; omega
  simp only [ha, if_true]
  refine Ev.congr (fun k => ?_) h
  rw [if_pos (by omega), Int.toNat_natCast, if_pos (by omega), List.length_map]
  rfl
theorem scale04_loop (hq : q ≤ 65537) (f : List (Fin q)) (c : Fin q) (n : Nat) (t : Int) (hf : f.length = n) (hn : n ≤ 100) : ∀ m i : Nat, i + m = n → Ev (fun k => qfb.l0 k (nI c) (oI (fill n i fun j => Fld.co f j * c)) (oI f) (n : Int) (i : Int) (q : Int) (n : Int) t) (oI (Fld.mk n fun j => Fld.co f j * c), 0) := by
  intro m
  induction m with
  | zero =>
    intro i hi
    obtain rfl : i = n := by omega
    refine Ev.step (f := fun k => some (oI (Fld.mk i fun j => Fld.co f j * c), 0)) (fun k => ?_) (Ev.now _)
    simp only [qfb.l0]
    rw [if_neg (by omega), fill_all]
  | succ m ih =>
    intro i hi
    have hw : wrap64 ((i : Int) + 1) = ((i + 1 : Nat) : Int) := by rw [w64_small (by omega) (by omega)]; omega
    refine Ev.step (f := fun k => qfb.l0 k (nI c) (oI (fill n (i + 1) fun j => Fld.co f j * c)) (oI f) (n : Int) ((i + 1 : Nat) : Int) (q : Int) (n : Int) t) (fun k => ?_) (ih (i + 1) (by omega))
    conv => lhs; simp only [qfb.l0]
    rw [if_pos (by omega), if_pos (by omega), if_pos (by rw [oI_length]; omega), rd_oI, times_fp hq, Option.bind_some, if_pos (by rw [oI_length, fill_length]; omega), Int.toNat_natCast, oI_set, fill_set n i (fun j => Fld.co f j * c), hw]
theorem share_scale_ok (hq : q ≤ 65537) (f : List (Fin q)) (c : Fin q) (n : Nat) (t : Int) (hf : f.length = n) (h0 : setupV (q : Int) (n : Int) t = 0) : Ev (fun k => qfb.f k (q : Int) (n : Int) t (oI f) (nI c)) (oI (Fld.mk n fun j => Fld.co f j * c), 0) := by
  have hh := setupV_small h0
  have hm : (oI f).length ≤ maxLen := by rw [oI_length]; simp only [maxLen]; omega
  have ha : areV (q : Int) (n : Int) (oI f) = 0 := by
    unfold areV belowV
    rw [if_pos (by rw [oI_length]; omega), if_pos (fun x hx => (oI_range f x hx).2)]
  have h := scale04_loop hq f c n t hf (by clear ha; omega) n 0 (by omega)
  rw [fill_zero, ← oI_zeros] at h
  unfold qfb.f
  refine Ev.bind (share_setup _ _ _) ?_
  simp only [h0, if_true]
  refine Ev.bind (share_are_one _ _ _ _ hm) ?_
  simp only [ha, if_true]
  rw [decide_eq_false (show ¬ nI c ≥ (q : Int) by have := (nI_range c).2; clear ha h0; omega)]
  clear ha h0
  refine Ev.step (f := fun k => qfb.l0 k (nI c) (List.replicate n 0) (oI f) (n : Int) ((0 : Nat) : Int) (q : Int) (n : Int) t) (fun k => ?_) h
  simp only [qfb.j0, Bool.false_eq_true, if_false]
  rw [if_pos (by omega), Int.toNat_natCast, if_pos (by omega), oI_length, hf]
  rfl
end
end Go.Proofs.Ytjjnfobeeflnhaa.L
/- Both ways to draw a sharing polynomial answer alike, and what they answer. -/
namespace Go.Proofs.Ytjjnfobeeflnhaa.L
open Go.RowKit Go.Proofs.YtjjnfobeeflnhaaW.PrintWords Go.Proofs.Ytjjnfobeeflnhaa.J
section
variable {q : Nat} [NeZero q]
theorem drawn_length (tape : List Int) (n : Nat) : (drawn q tape n).length = n := Fld.mk_length _ _
theorem share_draw (hq : q ≤ 65537) (s : Fin q) (d : Nat) (hd : d ≤ 1000) (tape : List Int) (hs : tape.length ≤ 17592186044415) (hu : ∀ c ∈ tape, 0 ≤ c) : Ev (fun k => qlc.f k (q : Int) (nI s) (d : Int) tape) (oI (Fld.trim (s :: drawn q tape d)), tape.drop d) := by
  unfold qlc.f
  refine Ev.bind (take_fp hq tape hs hu d (by omega)) (Ev.bind (Ev.now _) ?_)
  refine Ev.congr (fun k => if_pos ?_) ?_
  · rw [oI_length, drawn_length]; show 1 + d < _; omega
  · exact Ev.bind (short_fp (s :: drawn q tape d) (by rw [List.length_cons, drawn_length]; omega)) (Ev.now _)
theorem share_make_ok (hq : q ≤ 65537) (n t : Int) (h0 : setupV (q : Int) n t = 0) (s : Fin q) (d : Nat) (hn : (d : Int) < n) (tape : List Int) (hs : tape.length ≤ 17592186044415) (hu : ∀ c ∈ tape, 0 ≤ c) : Ev (fun k => qdc.f k (q : Int) n t (nI s) (d : Int) tape) (oI (Fld.trim (s :: drawn q tape d)), tape.drop d, 0) := by
  have hh := setupV_small h0
  have hr := nI_range s
  unfold qdc.f
  refine Ev.bind (share_setup _ n t) ?_
  simp only [h0, if_true]
  simp only [show ¬ (nI s ≥ (q : Int)) by omega, show ¬ ((d : Int) < 0) by omega, show ¬ ((d : Int) ≥ n) by omega, if_false]
  exact Ev.bind (share_draw hq s d (by omega) tape hs hu) (Ev.now _)
end
end Go.Proofs.Ytjjnfobeeflnhaa.L
