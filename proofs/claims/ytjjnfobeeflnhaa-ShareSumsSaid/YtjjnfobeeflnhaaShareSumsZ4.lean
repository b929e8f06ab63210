/- Part 4 of the proof of ShareSums: what the functions compute as plain Lean functions, that the machine comes to just these answers, and that the answer is true; no conditions. -/
import Derived.Test.YtjjnfobeeflnhaaShareSumsZ0
import Derived.Test.YtjjnfobeeflnhaaShareSumsZ1
import Derived.Test.YtjjnfobeeflnhaaShareSumsZ2
import Derived.Test.YtjjnfobeeflnhaaShareSumsZ3
import Derived.Test.YtjjnfobeeflnhaaRows
import Derived.JoinedOf
import Derived.KernelRfl
import Derived.WalkSmall
import Derived.WalkKit
import Derived.ProofKit
import Derived.OpenShut
import Derived.ShutString
import Derived.ChangeOld
import Derived.Below
import Derived.SizedLaws
/- Three closed facts over the whole program, with its header's words as numbers. -/
namespace Go.Proofs.Ytjjnfobeeflnhaa.Facts
theorem toList_of (s : String) (l : List Char) (h : s = String.ofList l) : s.toList = l := by rw [h, String.toList_ofList]
def glue : List (List Char) → List Char
  | [] => []
  | [w] => w
  | w :: v :: r => w ++ Char.ofNat 32 :: glue (v :: r)
theorem signs_space (r : List Char) : wordsSigns (Char.ofNat 32 :: r) = [] :: wordsSigns r := rfl
theorem signs_cons (c : Char) (r : List Char) (h : c ≠ Char.ofNat 32) (w : List Char) (ws : List (List Char)) (e : wordsSigns r = w :: ws) : wordsSigns (c :: r) = (c :: w) :: ws := by
  rw [wordsSigns]
  · rw [e]
  · exact h
theorem signs_one : ∀ (w : List Char), (∀ c ∈ w, c ≠ Char.ofNat 32) → wordsSigns w = [w]
  | [], _ => rfl
  | c :: w, h => signs_cons c w (h c (List.mem_cons_self ..)) _ _ (signs_one w (fun d hd => h d (List.mem_cons_of_mem _ hd)))
theorem signs_more (r : List Char) : ∀ (w : List Char), (∀ c ∈ w, c ≠ Char.ofNat 32) → wordsSigns (w ++ Char.ofNat 32 :: r) = w :: wordsSigns r
  | [], _ => signs_space r
  | c :: w, h => signs_cons c _ (h c (List.mem_cons_self ..)) _ _ (signs_more r w (fun d hd => h d (List.mem_cons_of_mem _ hd)))
theorem signs_glue : ∀ (ws : List (List Char)), ws ≠ [] → (∀ w ∈ ws, ∀ c ∈ w, c ≠ Char.ofNat 32) → wordsSigns (glue ws) = ws
  | [], h, _ => absurd rfl h
  | [w], _, h => signs_one w (h w (List.mem_cons_self ..))
  | w :: v :: r, _, h => by
    rw [glue, signs_more _ w (h w (List.mem_cons_self ..)), signs_glue (v :: r) (by simp) (fun u hu => h u (List.mem_cons_of_mem _ hu))]
def W : List (List Char) := (List.map (List.map Char.ofNat) [[104, 97, 114, 110, 101, 115, 115],
  [56, 98, 98, 99, 100, 53, 56, 100, 55, 50, 48, 97, 53, 56, 100, 57, 52, 98, 55, 57, 101, 52, 50, 101, 52, 51, 102, 99, 99, 49, 53, 53, 57, 54, 97, 50, 97, 48, 101, 99, 97, 98, 49, 48, 54, 55, 52, 48, 102, 55, 97, 48, 53, 52, 57, 55, 52, 100, 97, 52, 102, 54, 100, 56],
  [99, 117, 116],
  [97, 116],
  [106, 117, 110, 116, 111, 47, 106, 117, 110, 116, 111, 108, 97, 119, 48, 55, 46, 84, 119, 105, 99, 101, 67, 104, 101, 99, 107, 115],
  [106, 117, 110, 116, 111, 47, 106, 117, 110, 116, 111, 108, 97, 119, 48, 55, 46, 84, 119, 105, 99, 101, 77, 97, 107, 101, 115],
  [106, 117, 110, 116, 111, 47, 106, 117, 110, 116, 111, 108, 97, 119, 48, 55, 46, 84, 119, 105, 99, 101, 86, 97, 108, 117, 101, 115],
  [106, 117, 110, 116, 111, 47, 106, 117, 110, 116, 111, 108, 97, 119, 48, 55, 46, 84, 119, 105, 99, 101, 80, 114, 111, 100, 117, 99, 116],
  [106, 117, 110, 116, 111, 47, 106, 117, 110, 116, 111, 108, 97, 119, 48, 55, 46, 84, 119, 105, 99, 101, 74, 111, 105, 110, 115],
  [106, 117, 110, 116, 111, 47, 106, 117, 110, 116, 111, 108, 97, 119, 48, 55, 46, 84, 119, 105, 99, 101, 79, 110, 101],
  [106, 117, 110, 116, 111, 47, 106, 117, 110, 116, 111, 108, 97, 119, 48, 55, 46, 84, 119, 105, 99, 101, 77, 111, 118, 101, 115],
  [106, 117, 110, 116, 111, 47, 106, 117, 110, 116, 111, 108, 97, 119, 48, 52, 46, 83, 104, 97, 114, 101, 83, 101, 116, 117, 112, 115],
  [106, 117, 110, 116, 111, 47, 106, 117, 110, 116, 111, 108, 97, 119, 48, 52, 46, 83, 104, 97, 114, 101, 77, 97, 107, 101, 115],
  [106, 117, 110, 116, 111, 47, 106, 117, 110, 116, 111, 108, 97, 119, 48, 52, 46, 83, 104, 97, 114, 101, 86, 97, 108, 117, 101, 115],
  [106, 117, 110, 116, 111, 47, 106, 117, 110, 116, 111, 108, 97, 119, 48, 52, 46, 83, 104, 97, 114, 101, 77, 111, 118, 101, 115],
  [106, 117, 110, 116, 111, 47, 106, 117, 110, 116, 111, 108, 97, 119, 48, 52, 46, 83, 104, 97, 114, 101, 78, 111, 116, 104, 105, 110, 103],
  [106, 117, 110, 116, 111, 47, 106, 117, 110, 116, 111, 108, 97, 119, 48, 52, 46, 83, 104, 97, 114, 101, 79, 110, 108, 121],
  [106, 117, 110, 116, 111, 47, 106, 117, 110, 116, 111, 108, 97, 119, 48, 52, 46, 83, 104, 97, 114, 101, 84, 104, 101, 114, 101],
  [106, 117, 110, 116, 111, 47, 106, 117, 110, 116, 111, 108, 97, 119, 48, 52, 46, 83, 104, 97, 114, 101, 83, 117, 109, 115],
  [106, 117, 110, 116, 111, 47, 106, 117, 110, 116, 111, 108, 97, 119, 48, 52, 46, 83, 104, 97, 114, 101, 70, 105, 116, 115],
  [106, 117, 110, 116, 111, 47, 106, 117, 110, 116, 111, 108, 97, 119, 48, 55, 46, 84, 119, 105, 99, 101, 67, 117, 116, 115],
  [106, 117, 110, 116, 111, 47, 106, 117, 110, 116, 111, 108, 97, 119, 48, 55, 46, 84, 119, 105, 99, 101, 77, 111, 118, 101, 100],
  [106, 117, 110, 116, 111, 47, 106, 117, 110, 116, 111, 108, 97, 119, 48, 50, 46, 80, 111, 108, 121, 84, 104, 114, 111, 117, 103, 104],
  [106, 117, 110, 116, 111, 47, 106, 117, 110, 116, 111, 108, 97, 119, 48, 50, 46, 80, 111, 108, 121, 87, 101, 105, 103, 104, 116, 115],
  [106, 117, 110, 116, 111, 47, 106, 117, 110, 116, 111, 108, 97, 119, 48, 50, 46, 80, 111, 108, 121, 65, 119, 97, 121],
  [106, 117, 110, 116, 111, 47, 106, 117, 110, 116, 111, 108, 97, 119, 48, 50, 46, 80, 111, 108, 121, 83, 108, 111, 112, 101, 115],
  [106, 117, 110, 116, 111, 47, 106, 117, 110, 116, 111, 108, 97, 119, 48, 50, 46, 80, 111, 108, 121, 80, 114, 111, 100, 117, 99, 116, 115],
  [106, 117, 110, 116, 111, 47, 106, 117, 110, 116, 111, 108, 97, 119, 48, 50, 46, 80, 111, 108, 121, 83, 117, 109, 115],
  [106, 117, 110, 116, 111, 47, 106, 117, 110, 116, 111, 108, 97, 119, 48, 50, 46, 80, 111, 108, 121, 66, 97, 99, 107],
  [106, 117, 110, 116, 111, 47, 106, 117, 110, 116, 111, 108, 97, 119, 48, 50, 46, 80, 111, 108, 121, 86, 97, 108, 117, 101, 115],
  [106, 117, 110, 116, 111, 47, 106, 117, 110, 116, 111, 108, 97, 119, 48, 50, 46, 80, 111, 108, 121, 82, 111, 111, 116, 115],
  [106, 117, 110, 116, 111, 47, 106, 117, 110, 116, 111, 108, 97, 119, 48, 50, 46, 80, 111, 108, 121, 70, 101, 119],
  [106, 117, 110, 116, 111, 47, 106, 117, 110, 116, 111, 108, 97, 119, 48, 50, 46, 80, 111, 108, 121, 86, 97, 108, 117, 101, 100],
  [106, 117, 110, 116, 111, 47, 106, 117, 110, 116, 111, 108, 97, 119, 48, 50, 46, 80, 111, 108, 121, 81, 117, 111, 116, 105, 101, 110, 116, 115],
  [106, 117, 110, 116, 111, 47, 106, 117, 110, 116, 111, 108, 97, 119, 48, 50, 46, 80, 111, 108, 121, 65, 112, 97, 114, 116],
  [106, 117, 110, 116, 111, 47, 106, 117, 110, 116, 111, 108, 97, 119, 48, 52, 46, 83, 104, 97, 114, 101, 83, 101, 99, 114, 101, 116, 115],
  [106, 117, 110, 116, 111, 47, 106, 117, 110, 116, 111, 108, 97, 119, 48, 52, 46, 83, 104, 97, 114, 101, 66, 97, 99, 107]])
set_option maxRecDepth 100000 in
theorem head : Try.pinned.checked.prog.initOrder.toList = glue W := toList_of _ _ (by kernel_rfl)
theorem plain : (W.all fun w => w.all fun c => c.toNat != 32) = true := by kernel_rfl
theorem signs : wordsSigns Try.pinned.checked.prog.initOrder.toList = W := by
  rw [head]
  refine signs_glue W (by simp [W]) fun w hw c hc e => ?_
  have h := List.all_eq_true.1 (List.all_eq_true.1 plain w hw) c hc
  rw [e] at h
  cases h
theorem words : behindMainWord (wordsSigns Try.pinned.checked.prog.initOrder.toList) = W.drop 2 := by
  rw [signs]
  kernel_rfl
theorem lifts : Try.pinned.checked.prog.headLifts = [] := by
  unfold Program.headLifts
  rw [words]
  kernel_rfl
theorem final : Try.pinned.checked.prog.liftsFinal = false := by
  unfold Program.liftsFinal
  rw [words, lifts]
  kernel_rfl
theorem made_of (P : Program) (rest : List (List Char)) (h : behindMainWord (wordsSigns P.initOrder.toList) = [Char.ofNat 99, Char.ofNat 117, Char.ofNat 116] :: rest) : P.make = some .cut := by
  unfold Program.make
  rw [h]
  kernel_rfl
theorem enters_of (P : Program) (rest : List (List Char)) (h : behindMainWord (wordsSigns P.initOrder.toList) = [Char.ofNat 99, Char.ofNat 117, Char.ofNat 116] :: rest) (hl : P.laysLater = false) (hb : P.bearsReflect = false) (hd : P.doorFits [] = true)
    (hs : stripLifts liftWords ([Char.ofNat 99, Char.ofNat 117, Char.ofNat 116] :: rest) = ([], [Char.ofNat 99, Char.ofNat 117, Char.ofNat 116] :: rest)) : P.mayEnter = true := by
  unfold Program.mayEnter
  rw [h]
  simp only [hs, hl, hb, hd]
  kernel_rfl
theorem made : Try.pinned.checked.prog.make = some .cut := made_of _ (W.drop 3) (words.trans (by kernel_rfl))
theorem enters : Try.pinned.checked.prog.mayEnter = true := enters_of _ (W.drop 3) (words.trans (by kernel_rfl)) (by kernel_rfl) (by kernel_rfl) (by kernel_rfl) (by kernel_rfl)
end Go.Proofs.Ytjjnfobeeflnhaa.Facts

/- Both tests of a prime and both tests of a setup answer alike, and what they answer. -/
namespace Go.Proofs.Ytjjnfobeeflnhaa.L
open Go.RowKit Go.Proofs.YtjjnfobeeflnhaaW.PrintWords Go.Proofs.Ytjjnfobeeflnhaa.J
set_option linter.unusedVariables false
set_option linter.unusedSimpArgs false

theorem u64_small {n : Int} (h0 : 0 ≤ n) (h1 : n < 18446744073709551616) : IntKind.u64.wrap n = n := by
  simp [IntKind.wrap, IntKind.signed, IntKind.bits]
  omega
theorem w64_small {n : Int} (h0 : -9223372036854775808 ≤ n) (h1 : n < 9223372036854775808) : wrap64 n = n := by
  unfold wrap64
  omega

/-- No divisor from 2 on whose square is at most a. -/
def free (a : Int) : Prop := ∀ y : Fin 257, 2 ≤ y.val → ((y.val : Int) * (y.val : Int)) ≤ a → a % (y.val : Int) ≠ 0
def isP (a : Int) : Bool := decide (3 ≤ a ∧ a ≤ 65537 ∧ ∀ y : Fin 257, 2 ≤ y.val → ((y.val : Int) * (y.val : Int)) ≤ a → a % (y.val : Int) ≠ 0)
theorem free_of {a : Int} (h : a ≤ 65537) (hf : ∀ y : Fin 257, 2 ≤ y.val → ((y.val : Int) * (y.val : Int)) ≤ a → a % (y.val : Int) ≠ 0) (y : Int) (h2 : 2 ≤ y) (hy : y * y ≤ a) : a % y ≠ 0 := by
  have hb : y < 257 := by
    rcases Int.lt_or_le y 257 with h' | h'
    · exact h'
    · have : 257 * 257 ≤ y * y := Int.mul_le_mul h' h' (by omega) (by omega)
      omega
  have := hf ⟨y.toNat, by omega⟩ (show 2 ≤ y.toNat by omega)
  simp only at this
  rw [show ((y.toNat : Nat) : Int) = y by omega] at this
  exact this hy
theorem isP_iff (a : Int) : isP a = true ↔ 3 ≤ a ∧ a ≤ 65537 ∧ ∀ y : Int, 2 ≤ y → y * y ≤ a → a % y ≠ 0 := by
  unfold isP
  rw [decide_eq_true_iff]
  constructor
  · rintro ⟨h1, h2, h3⟩
    exact ⟨h1, h2, fun y hy => free_of h2 h3 y hy⟩
  · rintro ⟨h1, h2, h3⟩
    exact ⟨h1, h2, fun y hy hq => h3 y.val (by omega) hq⟩

theorem sq_small {x : Int} (h0 : 0 ≤ x) (h1 : x ≤ 300) : 0 ≤ x * x ∧ x * x ≤ 90000 :=
  ⟨Int.mul_nonneg h0 h0, Int.mul_le_mul h1 h1 h0 (by omega)⟩

theorem ref_loop (a : Int) (h3 : 3 ≤ a) (ha : a ≤ 65537) : ∀ (m : Nat) (x : Int), 2 ≤ x → x + m = 258 → (∀ y : Int, 2 ≤ y → y < x → y * y ≤ a → a % y ≠ 0) → Ev (fun k => juntoref01_Is.l0 k a x) (isP a)
  | 0, x, h2, hx, hy => by
    have hb : isP a = true := (isP_iff a).2 ⟨h3, ha, fun y y2 yq => hy y y2 (by
      rcases Int.lt_or_le y x with h' | h'
      · exact h'
      · have : 257 * 257 ≤ y * y := Int.mul_le_mul (by omega) (by omega) (by omega) (by omega)
        omega) yq⟩
    rw [hb]
    refine Ev.step (f := fun k => some true) (fun k => ?_) (Ev.now _)
    have hq := sq_small (x := x) (by omega) (by omega)
    have : ¬ (x * x ≤ a) := by
      have : 257 * 257 ≤ x * x := Int.mul_le_mul (by omega) (by omega) (by omega) (by omega)
      omega
    simp only [juntoref01_Is.l0]
    rw [u64_small hq.1 (by omega), if_neg this]
  | m + 1, x, h2, hx, hy => by
    have hq := sq_small (x := x) (by omega) (by omega)
    by_cases hle : x * x ≤ a
    · by_cases hd : a % x = 0
      · have hb : isP a = false := by
          rw [Bool.eq_false_iff]
          intro h'
          exact ((isP_iff a).1 h').2.2 x h2 hle hd
        rw [hb]
        refine Ev.step (f := fun k => some false) (fun k => ?_) (Ev.now _)
        simp only [juntoref01_Is.l0]
        rw [u64_small hq.1 (by omega), if_pos hle, if_neg (show ¬ x = 0 by omega), if_pos (by rw [Int.tmod_eq_emod_of_nonneg (by omega)]; exact hd)]
      · refine Ev.step (f := fun k => juntoref01_Is.l0 k a (x + 1)) (fun k => ?_) (ref_loop a h3 ha m (x + 1) (by omega) (by omega) fun y y2 yx yq => ?_)
        · conv => lhs; simp only [juntoref01_Is.l0]
          rw [u64_small hq.1 (by omega), if_pos hle, if_neg (show ¬ x = 0 by omega), if_neg (by rw [Int.tmod_eq_emod_of_nonneg (by omega)]; exact hd), u64_small (show 0 ≤ x + 1 by omega) (by omega)]
        · rcases Int.lt_or_le y x with h' | h'
          · exact hy y y2 h' yq
          · obtain rfl : y = x := by omega
            exact hd
    · have hb : isP a = true := (isP_iff a).2 ⟨h3, ha, fun y y2 yq => hy y y2 (by
        rcases Int.lt_or_le y x with h' | h'
        · exact h'
        · have : x * x ≤ y * y := Int.mul_le_mul h' h' (by omega) (by omega)
          omega) yq⟩
      rw [hb]
      refine Ev.step (f := fun k => some true) (fun k => ?_) (Ev.now _)
      simp only [juntoref01_Is.l0]
      rw [u64_small hq.1 (by omega), if_neg hle]

theorem odd_loop (a : Int) (h3 : 3 ≤ a) (ha : a ≤ 65537) (hodd : a % 2 = 1) : ∀ (m : Nat) (x : Int), 3 ≤ x → x % 2 = 1 → x + 2 * m = 259 → (∀ y : Int, 2 ≤ y → y < x → y * y ≤ a → a % y ≠ 0) → Ev (fun k => field_Is.l0 k a x) (isP a)
  | 0, x, h2, hxo, hx, hy => by
    have hb : isP a = true := (isP_iff a).2 ⟨h3, ha, fun y y2 yq => hy y y2 (by
      rcases Int.lt_or_le y x with h' | h'
      · exact h'
      · have : 257 * 257 ≤ y * y := Int.mul_le_mul (by omega) (by omega) (by omega) (by omega)
        omega) yq⟩
    rw [hb]
    refine Ev.step (f := fun k => some true) (fun k => ?_) (Ev.now _)
    have hq := sq_small (x := x) (by omega) (by omega)
    have : ¬ (x * x ≤ a) := by
      have : 257 * 257 ≤ x * x := Int.mul_le_mul (by omega) (by omega) (by omega) (by omega)
      omega
    simp only [field_Is.l0]
    rw [u64_small hq.1 (by omega), if_neg this]
  | m + 1, x, h2, hxo, hx, hy => by
    have hq := sq_small (x := x) (by omega) (by omega)
    by_cases hle : x * x ≤ a
    · by_cases hd : a % x = 0
      · have hb : isP a = false := by
          rw [Bool.eq_false_iff]
          intro h'
          exact ((isP_iff a).1 h').2.2 x (by omega) hle hd
        rw [hb]
        refine Ev.step (f := fun k => some false) (fun k => ?_) (Ev.now _)
        simp only [field_Is.l0]
        rw [u64_small hq.1 (by omega), if_pos hle, if_neg (show ¬ x = 0 by omega), if_pos (by rw [Int.tmod_eq_emod_of_nonneg (by omega)]; exact hd)]
      · refine Ev.step (f := fun k => field_Is.l0 k a (x + 2)) (fun k => ?_) (odd_loop a h3 ha hodd m (x + 2) (by omega) (by omega) (by omega) fun y y2 yx yq => ?_)
        · conv => lhs; simp only [field_Is.l0]
          rw [u64_small hq.1 (by omega), if_pos hle, if_neg (show ¬ x = 0 by omega), if_neg (by rw [Int.tmod_eq_emod_of_nonneg (by omega)]; exact hd), u64_small (show 0 ≤ x + 2 by omega) (by omega)]
        · rcases Int.lt_or_le y x with h' | h'
          · exact hy y y2 h' yq
          · rcases Int.lt_or_le x y with h'' | h''
            · obtain rfl : y = x + 1 := by omega
              intro h0
              have h1 : (2 : Int) ∣ a := Int.dvd_trans (Int.dvd_of_emod_eq_zero (by omega)) (Int.dvd_of_emod_eq_zero h0)
              have := Int.emod_eq_zero_of_dvd h1
              omega
            · obtain rfl : y = x := by omega
              exact hd
    · have hb : isP a = true := (isP_iff a).2 ⟨h3, ha, fun y y2 yq => hy y y2 (by
        rcases Int.lt_or_le y x with h' | h'
        · exact h'
        · have : x * x ≤ y * y := Int.mul_le_mul h' h' (by omega) (by omega)
          omega) yq⟩
      rw [hb]
      refine Ev.step (f := fun k => some true) (fun k => ?_) (Ev.now _)
      simp only [field_Is.l0]
      rw [u64_small hq.1 (by omega), if_neg hle]

theorem not_isP {a : Int} (h : ¬ (3 ≤ a ∧ a ≤ 65537)) : isP a = false := by
  rw [Bool.eq_false_iff]
  intro h'
  have := (isP_iff a).1 h'
  exact h ⟨this.1, this.2.1⟩

theorem ref_is (a : Int) : Ev (fun k => juntoref01_Is.f k a) (isP a) := by
  by_cases h3 : a < 3
  · rw [not_isP (by omega)]
    refine Ev.step (f := fun k => some false) (fun k => ?_) (Ev.now _)
    simp [juntoref01_Is.f, juntoref01_Is.j0, h3]
  · by_cases hb : a > 65537
    · rw [not_isP (by omega)]
      refine Ev.step (f := fun k => some false) (fun k => ?_) (Ev.now _)
      simp [juntoref01_Is.f, juntoref01_Is.j0, h3, hb]
    · refine Ev.step (f := fun k => juntoref01_Is.l0 k a 2) (fun k => ?_) (ref_loop a (by omega) (by omega) 256 2 (by omega) (by omega) fun y y2 yx => by omega)
      simp [juntoref01_Is.f, juntoref01_Is.j0, h3, hb]

theorem field_is (a : Int) : Ev (fun k => field_Is.f k a) (isP a) := by
  by_cases h3 : a < 3
  · rw [not_isP (by omega)]
    refine Ev.step (f := fun k => some false) (fun k => ?_) (Ev.now _)
    simp [field_Is.f, field_Is.j0, h3]
  · by_cases hb : a > 65537
    · rw [not_isP (by omega)]
      refine Ev.step (f := fun k => some false) (fun k => ?_) (Ev.now _)
      simp [field_Is.f, field_Is.j0, h3, hb]
    · by_cases ho : a % 2 = 0
      · have hp : isP a = false := by
          rw [Bool.eq_false_iff]
          intro h'
          exact ((isP_iff a).1 h').2.2 2 (by omega) (by omega) ho
        rw [hp]
        refine Ev.step (f := fun k => some false) (fun k => ?_) (Ev.now _)
        have ht : Int.tmod a 2 = 0 := by rw [Int.tmod_eq_emod_of_nonneg (by omega)]; exact ho
        simp [field_Is.f, field_Is.j0, h3, hb, ht]
      · refine Ev.step (f := fun k => field_Is.l0 k a 3) (fun k => ?_) (odd_loop a (by omega) (by omega) (by omega) 128 3 (by omega) (by omega) (by omega) fun y y2 yx yq => ?_)
        · have ht : ¬ Int.tmod a 2 = 0 := by rw [Int.tmod_eq_emod_of_nonneg (by omega)]; exact ho
          simp [field_Is.f, field_Is.j0, h3, hb, ht]
        · obtain rfl : y = 2 := by omega
          exact ho

/-- What both tests of a setup answer: 0 or 2. -/
def setupV (p n t : Int) : Int := if isP p = true ∧ 1 ≤ n ∧ n ≤ 13 ∧ 0 ≤ t ∧ 4 * t + 1 ≤ n ∧ n < p then 0 else 2

theorem setupV_ok {p n t : Int} (h : setupV p n t = 0) : isP p = true ∧ 1 ≤ n ∧ n ≤ 13 ∧ 0 ≤ t ∧ 4 * t + 1 ≤ n ∧ n < p := by
  unfold setupV at h
  split at h
  · assumption
  · cases h

theorem share_setup (p n t : Int) : Ev (fun k => share_Setup.f k p n t) (setupV p n t) := by
  unfold share_Setup.f
  refine Ev.bind (field_is p) ?_
  unfold setupV
  by_cases hp : isP p = true
  · have h3 := ((isP_iff p).1 hp)
    simp only [hp, if_true, true_and]
    by_cases h1 : n < 1
    · rw [if_pos h1, if_neg (by omega)]; exact Ev.now _
    rw [if_neg h1]
    by_cases h2 : n > 13
    · rw [if_pos h2, if_neg (by omega)]; exact Ev.now _
    rw [if_neg h2]
    by_cases h4 : t < 0
    · rw [if_pos h4, if_neg (by omega)]; exact Ev.now _
    rw [if_neg h4]
    by_cases h5 : t > n
    · rw [if_pos h5, if_neg (by omega)]; exact Ev.now _
    rw [if_neg h5, w64_small (n := 4 * t) (by omega) (by omega), w64_small (by omega) (by omega)]
    by_cases h6 : 4 * t + 1 > n
    · rw [if_pos h6, if_neg (by omega)]; exact Ev.now _
    rw [if_neg h6, u64_small (by omega) (by omega)]
    by_cases h7 : p ≤ n
    · rw [if_pos h7, if_neg (by omega)]; exact Ev.now _
    · rw [if_neg h7, if_pos (by omega)]; exact Ev.now _
  · rw [if_neg hp, if_neg (fun h => hp h.1)]
    exact Ev.now _

theorem ref_setup (p n t : Int) : Ev (fun k => juntoref04_Setup.f k p n t) (setupV p n t) := by
  unfold juntoref04_Setup.f
  refine Ev.bind (ref_is p) ?_
  unfold setupV
  by_cases hp : isP p = true
  · have h3 := ((isP_iff p).1 hp)
    simp only [hp, if_true, true_and]
    by_cases h1 : n < 1
    · rw [if_pos h1, if_neg (by omega)]; exact Ev.now _
    rw [if_neg h1]
    by_cases h2 : n > 13
    · rw [if_pos h2, if_neg (by omega)]; exact Ev.now _
    rw [if_neg h2]
    by_cases h4 : t < 0
    · rw [if_pos h4, if_neg (by omega)]; exact Ev.now _
    rw [if_neg h4]
    by_cases h5 : t > 13
    · rw [if_pos h5, if_neg (by omega)]; exact Ev.now _
    rw [if_neg h5, w64_small (n := 4 * t) (by omega) (by omega), w64_small (by omega) (by omega)]
    by_cases h6 : n < 4 * t + 1
    · rw [if_pos h6, if_neg (by omega)]; exact Ev.now _
    rw [if_neg h6, u64_small (by omega) (by omega)]
    by_cases h7 : p ≤ n
    · rw [if_pos h7, if_neg (by omega)]; exact Ev.now _
    · rw [if_neg h7, if_pos (by omega)]; exact Ev.now _
  · rw [if_neg hp, if_neg (fun h => hp h.1)]
    exact Ev.now _

/-- What the tests of a row answer: 0 or 2. -/
def belowV (p : Int) (l : List Int) : Int := if ∀ x ∈ l, x < p then 0 else 2

theorem below_loop (p : Int) (l : List Int) (hl : l.length ≤ maxLen) : ∀ (m i : Nat), i + m = l.length → (∀ x ∈ l.take i, x < p) → Ev (fun k => field_Below.l0 k p l (l.length : Int) (i : Int)) (belowV p l)
  | 0, i, hi, hx => by
    have hv : belowV p l = 0 := by
      unfold belowV
      rw [if_pos]
      rw [List.take_of_length_le (by omega)] at hx
      exact hx
    rw [hv]
    refine Ev.step (f := fun k => some 0) (fun k => ?_) (Ev.now _)
    simp only [field_Below.l0]
    rw [if_neg (by omega)]
  | m + 1, i, hi, hx => by
    have hm : (l.length : Int) ≤ 9223372036854775807 := by simp only [maxLen] at hl; omega
    have hlt : i < l.length := by omega
    have hr : rd l (i : Int) = l[i] := by simp [rd, List.getD_eq_getElem?_getD, hlt]
    by_cases hge : l[i] ≥ p
    · have hv : belowV p l = 2 := by
        unfold belowV
        rw [if_neg]
        intro h'
        have := h' _ (List.getElem_mem hlt)
        omega
      rw [hv]
      refine Ev.step (f := fun k => some 2) (fun k => ?_) (Ev.now _)
      simp only [field_Below.l0]
      rw [if_pos (by omega), if_pos (by omega), if_pos (by omega), if_pos (by rw [hr]; exact hge)]
    · refine Ev.step (f := fun k => field_Below.l0 k p l (l.length : Int) ((i + 1 : Nat) : Int)) (fun k => ?_) (below_loop p l hl m (i + 1) (by omega) fun x hx' => ?_)
      · conv => lhs; simp only [field_Below.l0]
        rw [if_pos (by omega), if_pos (by omega), if_pos (by omega), if_neg (by rw [hr]; exact hge), w64_small (by omega) (by omega)]
        rfl
      · rw [List.take_add_one, List.mem_append] at hx'
        rcases hx' with h' | h'
        · exact hx x h'
        · rw [List.getElem?_eq_getElem hlt] at h'
          simp only [Option.toList_some, List.mem_singleton] at h'
          rw [h']; omega

theorem field_below (p : Int) (l : List Int) (hl : l.length ≤ maxLen) : Ev (fun k => field_Below.f k p l) (belowV p l) :=
  below_loop p l hl l.length 0 (by omega) (fun x hx => by simp at hx)

theorem within_eq : ∀ k a b c d, juntoref01_Within.l0 k a b c d = field_Below.l0 k a b c d
  | 0, _, _, _, _ => rfl
  | k + 1, a, b, c, d => by
    simp only [juntoref01_Within.l0, field_Below.l0, within_eq k]

theorem ref_within (p : Int) (l : List Int) (hl : l.length ≤ maxLen) : Ev (fun k => juntoref01_Within.f k p l) (belowV p l) := by
  refine Ev.congr (fun k => ?_) (field_below p l hl)
  exact within_eq _ _ _ _ _

end Go.Proofs.Ytjjnfobeeflnhaa.L

/- Both ways to evaluate a polynomial answer alike, and what they answer. -/
namespace Go.Proofs.Ytjjnfobeeflnhaa.L
open Go.RowKit Go.Proofs.YtjjnfobeeflnhaaW.PrintWords Go.Proofs.Ytjjnfobeeflnhaa.J
set_option linter.unusedVariables false
set_option linter.unusedSimpArgs false

theorem mul_small {p a b : Int} (hp : p ≤ 65537) (ha : 0 ≤ a) (ha' : a < p) (hb : 0 ≤ b) (hb' : b < p) : 0 ≤ a * b ∧ a * b < 18446744073709551616 := by
  have h1 : a * b ≤ 65537 * 65537 := Int.mul_le_mul (by omega) (by omega) hb (by omega)
  exact ⟨Int.mul_nonneg ha hb, by omega⟩

theorem times_at {p a b : Int} (h0 : 0 < p) (hp : p ≤ 65537) (ha : 0 ≤ a) (ha' : a < p) (hb : 0 ≤ b) (hb' : b < p) : field_Times.f p a b = some (a * b % p) := by
  obtain ⟨h1, h2⟩ := mul_small hp ha ha' hb hb'
  unfold field_Times.f field_mul.f
  simp only [u64_small h1 h2, if_neg (show ¬ p = 0 by omega), Option.bind_some, Int.tmod_eq_emod_of_nonneg h1]

theorem ref_mul {p a b : Int} (h0 : 0 < p) (hp : p ≤ 65537) (ha : 0 ≤ a) (ha' : a < p) (hb : 0 ≤ b) (hb' : b < p) : juntoref01_Mul.f p a b = some (a * b % p) := by
  obtain ⟨h1, h2⟩ := mul_small hp ha ha' hb hb'
  unfold juntoref01_Mul.f
  rw [u64_small h1 h2, if_neg (show ¬ p = 0 by omega), Int.tmod_eq_emod_of_nonneg h1]

theorem ref_add {p a b : Int} (h0 : 0 < p) (hp : p ≤ 65537) (ha : 0 ≤ a) (ha' : a < p) (hb : 0 ≤ b) (hb' : b < p) : juntoref01_Add.f p a b = some ((a + b) % p) := by
  unfold juntoref01_Add.f
  rw [u64_small (by omega) (by omega), if_neg (show ¬ p = 0 by omega), Int.tmod_eq_emod_of_nonneg (by omega)]

theorem plus_at {p a b : Int} (h0 : 0 < p) (hp : p ≤ 65537) (ha : 0 ≤ a) (ha' : a < p) (hb : 0 ≤ b) (hb' : b < p) : field_Plus.f p a b = some ((a + b) % p) := by
  unfold field_Plus.f
  rw [u64_small (n := a + b) (by omega) (by omega)]
  by_cases h : a + b ≥ p
  · rw [if_pos h, u64_small (by omega) (by omega)]
    rw [show (a + b) % p = a + b - p by rw [← Int.sub_emod_right, Int.emod_eq_of_lt (by omega) (by omega)]]
  · rw [if_neg h, Int.emod_eq_of_lt (by omega) (by omega)]

end Go.Proofs.Ytjjnfobeeflnhaa.L

/- Polynomials over the residues modulo a prime, as lists of coefficients: sums, products, values, trailing zeros, division, interpolation. Plain Lean, no program in sight. -/
namespace Go.Proofs.Ytjjnfobeeflnhaa.Fld
set_option linter.unusedVariables false
set_option linter.unusedSimpArgs false

section
variable {p : Nat} [NeZero p]

/-! ### sums -/
def sm : Nat → (Nat → Fin p) → Fin p
  | 0, _ => 0
  | n + 1, g => sm n g + g n
theorem sm_succ (n : Nat) (g : Nat → Fin p) : sm (n + 1) g = sm n g + g n := rfl
theorem sm_congr {n : Nat} {g h : Nat → Fin p} (e : ∀ i, i < n → g i = h i) : sm n g = sm n h := by
  induction n with
  | zero => rfl
  | succ n ih => rw [sm_succ, sm_succ, ih (fun i hi => e i (by omega)), e n (by omega)]
theorem sm_zero {n : Nat} {g : Nat → Fin p} (e : ∀ i, i < n → g i = 0) : sm n g = 0 := by
  induction n with
  | zero => rfl
  | succ n ih => rw [sm_succ, ih (fun i hi => e i (by omega)), e n (by omega)]; grind
theorem sm_add (n : Nat) (g h : Nat → Fin p) : sm n (fun i => g i + h i) = sm n g + sm n h := by
  induction n with
  | zero => show (0 : Fin p) = 0 + 0; grind
  | succ n ih => rw [sm_succ, sm_succ, sm_succ, ih]; grind
theorem sm_front (n : Nat) (g : Nat → Fin p) : sm (n + 1) g = g 0 + sm n (fun i => g (i + 1)) := by
  induction n with
  | zero => show 0 + g 0 = g 0 + 0; grind
  | succ n ih => rw [sm_succ, ih, sm_succ]; grind
theorem sm_rev (n : Nat) (g : Nat → Fin p) : sm (n + 1) g = sm (n + 1) (fun i => g (n - i)) := by
  induction n generalizing g with
  | zero => rfl
  | succ n ih =>
    rw [sm_front, ih (fun i => g (i + 1)), sm_succ (n + 1) (fun i => g (n + 1 - i))]
    have : sm (n + 1) (fun i => g (n - i + 1)) = sm (n + 1) (fun i => g (n + 1 - i)) := sm_congr fun i hi => by congr 1; omega
    rw [this, show n + 1 - (n + 1) = 0 by omega]; grind
theorem sm_more {n m : Nat} {g : Nat → Fin p} (h : n ≤ m) (e : ∀ i, n ≤ i → i < m → g i = 0) : sm m g = sm n g := by
  induction m with
  | zero => rw [show n = 0 by omega]
  | succ m ih =>
    by_cases hn : n = m + 1
    · rw [hn]
    · rw [sm_succ, ih (by omega) (fun i h1 h2 => e i h1 (by omega)), e m (by omega) (by omega)]; grind
theorem sm_one {n k : Nat} {g : Nat → Fin p} (hk : k < n) (e : ∀ i, i < n → i ≠ k → g i = 0) : sm n g = g k := by
  induction n with
  | zero => omega
  | succ n ih =>
    rw [sm_succ]
    by_cases h : k = n
    · rw [h, sm_zero (fun i hi => e i (by omega) (by omega))]; grind
    · rw [ih (by omega) (fun i h1 h2 => e i (by omega) h2), e n (by omega) (by omega)]; grind

/-! ### coefficients, values -/
def co (f : List (Fin p)) (i : Nat) : Fin p := f.getD i 0
theorem co_nil (i : Nat) : co ([] : List (Fin p)) i = 0 := by simp [co]
theorem co_cons_zero (a : Fin p) (f : List (Fin p)) : co (a :: f) 0 = a := by simp [co]
theorem co_cons_succ (a : Fin p) (f : List (Fin p)) (i : Nat) : co (a :: f) (i + 1) = co f i := by simp [co]
theorem co_ge {f : List (Fin p)} {i : Nat} (h : f.length ≤ i) : co f i = 0 := by simp [co, List.getD_eq_getElem?_getD, List.getElem?_eq_none h]
theorem co_lt {f : List (Fin p)} {i : Nat} (h : i < f.length) : co f i = f[i] := by simp [co, List.getD_eq_getElem?_getD, h]
/-- Equal as polynomials. -/
def Eqv (f g : List (Fin p)) : Prop := ∀ i, co f i = co g i
theorem Eqv.refl (f : List (Fin p)) : Eqv f f := fun _ => rfl
theorem Eqv.symm {f g : List (Fin p)} (h : Eqv f g) : Eqv g f := fun i => (h i).symm
theorem Eqv.trans {f g k : List (Fin p)} (h : Eqv f g) (h' : Eqv g k) : Eqv f k := fun i => (h i).trans (h' i)
/-! ### trailing zeros -/
def trim (f : List (Fin p)) : List (Fin p) := f.foldr (fun c r => if r = [] ∧ c = 0 then [] else c :: r) []
theorem trim_nil : trim ([] : List (Fin p)) = [] := rfl
theorem trim_cons (a : Fin p) (f : List (Fin p)) : trim (a :: f) = if trim f = [] ∧ a = 0 then [] else a :: trim f := rfl
theorem trim_co (f : List (Fin p)) : Eqv (trim f) f := by
  induction f with
  | nil => exact Eqv.refl _
  | cons a f ih =>
    intro i
    rw [trim_cons]
    split
    · rename_i h
      obtain ⟨h1, rfl⟩ := h
      cases i with
      | zero => rw [co_nil, co_cons_zero]
      | succ i => rw [co_nil, co_cons_succ, ← ih i, h1, co_nil]
    · cases i with
      | zero => rw [co_cons_zero, co_cons_zero]
      | succ i => rw [co_cons_succ, co_cons_succ, ih i]
theorem trim_eq_nil {f : List (Fin p)} (h : ∀ i, co f i = 0) : trim f = [] := by
  induction f with
  | nil => rfl
  | cons a f ih =>
    rw [trim_cons, if_pos ⟨ih (fun i => by rw [← co_cons_succ a, h]), by rw [← co_cons_zero a f, h]⟩]
theorem trim_congr {f g : List (Fin p)} (h : Eqv f g) : trim f = trim g := by
  induction f generalizing g with
  | nil => rw [trim_nil, trim_eq_nil (fun i => by rw [← h i, co_nil])]
  | cons a f ih =>
    cases g with
    | nil => rw [trim_nil, trim_eq_nil (fun i => by rw [h i, co_nil])]
    | cons b g =>
      have h0 : a = b := by have := h 0; rwa [co_cons_zero, co_cons_zero] at this
      have h1 : Eqv f g := fun i => by have := h (i + 1); rwa [co_cons_succ, co_cons_succ] at this
      rw [trim_cons, trim_cons, ih h1, h0]
theorem trim_trim (f : List (Fin p)) : trim (trim f) = trim f := trim_congr (trim_co f)
theorem trim_length_of {f : List (Fin p)} {n : Nat} (h : ∀ i, n ≤ i → co f i = 0) : (trim f).length ≤ n := by
  induction f generalizing n with
  | nil => simp [trim_nil]
  | cons a f ih =>
    rw [trim_cons]
    split
    · simp
    · rename_i hne
      cases n with
      | zero =>
        exfalso; apply hne
        exact ⟨trim_eq_nil fun i => by rw [← co_cons_succ a, h _ (by omega)], by rw [← co_cons_zero a f, h 0 (by omega)]⟩
      | succ n =>
        have := ih (n := n) (fun i hi => by rw [← co_cons_succ a, h _ (by omega)])
        simp; omega
theorem trim_last {f : List (Fin p)} (h : trim f ≠ []) : co f ((trim f).length - 1) ≠ 0 := by
  intro h0
  have hl : 0 < (trim f).length := List.length_pos_iff.2 h
  have := trim_length_of (f := f) (n := (trim f).length - 1) (fun i hi => by
    by_cases e : i = (trim f).length - 1
    · rw [e]; exact h0
    · rw [← trim_co f i]; exact co_ge (by omega))
  omega
/-- Nothing to trim. -/
def Tr (f : List (Fin p)) : Prop := trim f = f
theorem Tr.trim (f : List (Fin p)) : Tr (trim f) := trim_trim f
theorem Tr.last {f : List (Fin p)} (hf : Tr f) (h : f ≠ []) : co f (f.length - 1) ≠ 0 := by
  have := trim_last (f := f) (by rw [hf]; exact h)
  rwa [hf] at this
/-! ### making a list out of its coefficients -/
def mk (n : Nat) (c : Nat → Fin p) : List (Fin p) := (List.range n).map c
end
section
variable {p : Nat}
theorem mk_length (n : Nat) (c : Nat → Fin p) : (mk n c).length = n := by simp [mk]
end
section
variable {p : Nat} [NeZero p]
theorem co_mk (n : Nat) (c : Nat → Fin p) (i : Nat) : co (mk n c) i = if i < n then c i else 0 := by
  by_cases h : i < n
  · rw [co_lt (by rw [mk_length]; exact h), if_pos h]; simp [mk]
  · rw [co_ge (by rw [mk_length]; omega), if_neg h]

/-! ### sums, products -/
def add (f g : List (Fin p)) : List (Fin p) := mk (max f.length g.length) (fun i => co f i + co g i)
def sub (f g : List (Fin p)) : List (Fin p) := mk (max f.length g.length) (fun i => co f i - co g i)
def smul (c : Fin p) (f : List (Fin p)) : List (Fin p) := f.map (c * ·)
theorem co_add (f g : List (Fin p)) (i : Nat) : co (add f g) i = co f i + co g i := by
  unfold add; rw [co_mk]; split
  · rfl
  · rw [co_ge (f := f) (by omega), co_ge (f := g) (by omega)]; grind
theorem co_sub (f g : List (Fin p)) (i : Nat) : co (sub f g) i = co f i - co g i := by
  unfold sub; rw [co_mk]; split
  · rfl
  · rw [co_ge (f := f) (by omega), co_ge (f := g) (by omega)]; grind
theorem co_smul (c : Fin p) (f : List (Fin p)) (i : Nat) : co (smul c f) i = c * co f i := by
  unfold smul
  by_cases h : i < f.length
  · rw [co_lt (by simpa using h), co_lt h]; simp
  · rw [co_ge (by simp; omega), co_ge (by omega)]; grind
end
section
variable {p : Nat} [NeZero p]
/-- A product of coefficients. -/
def cv (c d : Nat → Fin p) (n : Nat) : Fin p := sm (n + 1) (fun i => c i * d (n - i))
theorem cv_congr {c c' d d' : Nat → Fin p} (h : ∀ i, c i = c' i) (h' : ∀ i, d i = d' i) (n : Nat) : cv c d n = cv c' d' n := sm_congr fun i _ => by rw [h, h']
theorem cv_comm (c d : Nat → Fin p) (n : Nat) : cv c d n = cv d c n := by
  unfold cv
  rw [sm_rev]
  exact sm_congr fun i hi => by rw [show n - (n - i) = i by omega]; grind
theorem cv_add (c d d' : Nat → Fin p) (n : Nat) : cv c (fun i => d i + d' i) n = cv c d n + cv c d' n := by
  unfold cv; rw [← sm_add]; exact sm_congr fun i _ => by grind
theorem cv_add' (c c' d : Nat → Fin p) (n : Nat) : cv (fun i => c i + c' i) d n = cv c d n + cv c' d n := by
  unfold cv; rw [← sm_add]; exact sm_congr fun i _ => by grind
/-- A product. -/
def mul : List (Fin p) → List (Fin p) → List (Fin p)
  | [], _ => []
  | a :: f, g => add (smul a g) (0 :: mul f g)
theorem co_mul (f g : List (Fin p)) (n : Nat) : co (mul f g) n = cv (co f) (co g) n := by
  induction f generalizing n with
  | nil => rw [mul, co_nil]; unfold cv; rw [sm_zero]; intro i _; rw [co_nil]; grind
  | cons a f ih =>
    rw [mul, co_add, co_smul]
    unfold cv
    rw [sm_front, co_cons_zero]
    cases n with
    | zero => rw [co_cons_zero]; show a * co g 0 + 0 = a * co g 0 + 0; rfl
    | succ n =>
      rw [co_cons_succ, ih n]
      unfold cv
      congr 1
      exact sm_congr fun i _ => by rw [co_cons_succ, show n + 1 - (i + 1) = n - i by omega]
/-! ### equations between polynomials -/
theorem Eqv.add {f f' g g' : List (Fin p)} (h : Eqv f f') (h' : Eqv g g') : Eqv (add f g) (add f' g') := fun i => by rw [co_add, co_add, h i, h' i]
theorem Eqv.sub {f f' g g' : List (Fin p)} (h : Eqv f f') (h' : Eqv g g') : Eqv (sub f g) (sub f' g') := fun i => by rw [co_sub, co_sub, h i, h' i]
theorem Eqv.mul {f f' g g' : List (Fin p)} (h : Eqv f f') (h' : Eqv g g') : Eqv (mul f g) (mul f' g') := fun i => by rw [co_mul, co_mul, cv_congr h h']
theorem Eqv.smul {f f' : List (Fin p)} (c : Fin p) (h : Eqv f f') : Eqv (smul c f) (smul c f') := fun i => by rw [co_smul, co_smul, h i]
theorem mul_comm (f g : List (Fin p)) : Eqv (mul f g) (mul g f) := fun i => by rw [co_mul, co_mul, cv_comm]
theorem mul_add (f g k : List (Fin p)) : Eqv (mul f (Fld.add g k)) (Fld.add (mul f g) (mul f k)) := fun i => by
  rw [co_mul, co_add, co_mul, co_mul, cv_congr (fun _ => rfl) (co_add g k), cv_add]
theorem add_mul (f g k : List (Fin p)) : Eqv (mul (Fld.add f g) k) (Fld.add (mul f k) (mul g k)) := fun i => by
  rw [co_mul, co_add, co_mul, co_mul, cv_congr (co_add f g) (fun _ => rfl), cv_add']
theorem mul_sub (f g k : List (Fin p)) : Eqv (mul f (Fld.sub g k)) (Fld.sub (mul f g) (mul f k)) := fun i => by
  have h : Eqv (Fld.add (Fld.sub g k) k) g := fun i => by rw [co_add, co_sub]; grind
  have h1 := (mul_add f (Fld.sub g k) k).symm.trans ((Eqv.refl f).mul h) i
  rw [co_add] at h1
  rw [co_sub, ← h1]; grind
theorem sub_mul (f g k : List (Fin p)) : Eqv (mul (Fld.sub f g) k) (Fld.sub (mul f k) (mul g k)) :=
  (mul_comm _ _).trans ((mul_sub k f g).trans ((mul_comm _ _).sub (mul_comm _ _)))
theorem mul_one (f : List (Fin p)) : Eqv (mul f [1]) f := fun i => by
  rw [co_mul, cv_comm]; unfold cv
  rw [sm_one (k := 0) (by omega)]
  · rw [co_cons_zero]; show 1 * co f i = co f i; grind
  · intro j _ hj
    obtain ⟨m, rfl⟩ : ∃ m, j = m + 1 := ⟨j - 1, by omega⟩
    rw [co_cons_succ, co_nil]; grind

/-! ### degrees of products, roots -/
end
end Go.Proofs.Ytjjnfobeeflnhaa.Fld

/- The program's words over the residues modulo a number: numbers, rows of coefficients, sums, products, values. -/
namespace Go.Proofs.Ytjjnfobeeflnhaa.L
open Go.RowKit Go.Proofs.YtjjnfobeeflnhaaW.PrintWords Go.Proofs.Ytjjnfobeeflnhaa.J
set_option linter.unusedVariables false
set_option linter.unusedSimpArgs false

section
variable {q : Nat} [NeZero q]
/-- The number that a residue is. -/
def nI (a : Fin q) : Int := (a.val : Int)
/-- A row of residues as numbers. -/
def oI (f : List (Fin q)) : List Int := f.map nI

theorem q_pos : 0 < q := Nat.pos_of_ne_zero (NeZero.ne q)
end
section
variable {q : Nat}
theorem nI_range (a : Fin q) : 0 ≤ nI a ∧ nI a < (q : Int) := by
  have := a.isLt
  unfold nI; omega
end
section
variable {q : Nat} [NeZero q]
theorem nI_zero : nI (0 : Fin q) = 0 := by simp [nI]
end
section
variable {q : Nat}
theorem nI_of {x : Int} (h0 : 0 ≤ x) (h1 : x < (q : Int)) : ∃ a : Fin q, nI a = x := ⟨⟨x.toNat, by omega⟩, by show ((x.toNat : Nat) : Int) = x; omega⟩
theorem nI_mul (a b : Fin q) : nI (a * b) = nI a * nI b % (q : Int) := by
  unfold nI; rw [Fin.val_mul]; simp
theorem nI_add (a b : Fin q) : nI (a + b) = (nI a + nI b) % (q : Int) := by
  unfold nI; rw [Fin.val_add]; simp
theorem oI_cons (a : Fin q) (f : List (Fin q)) : oI (a :: f) = nI a :: oI f := rfl
theorem oI_append (f g : List (Fin q)) : oI (f ++ g) = oI f ++ oI g := by simp [oI]
theorem oI_length (f : List (Fin q)) : (oI f).length = f.length := by simp [oI]
theorem oI_of : ∀ {l : List Int}, (∀ c ∈ l, 0 ≤ c ∧ c < (q : Int)) → ∃ f : List (Fin q), oI f = l
  | [], _ => ⟨[], rfl⟩
  | a :: l, h => by
    obtain ⟨x, hx⟩ := nI_of (h a (by simp)).1 (h a (by simp)).2
    obtain ⟨f, hf⟩ := oI_of (l := l) (fun c hc => h c (by simp [hc]))
    exact ⟨x :: f, by rw [oI_cons, hx, hf]⟩
theorem oI_range (f : List (Fin q)) : ∀ c ∈ oI f, 0 ≤ c ∧ c < (q : Int) := by
  intro c hc
  obtain ⟨a, _, rfl⟩ := List.mem_map.1 hc
  exact nI_range a
end
section
variable {q : Nat} [NeZero q]
theorem oI_getD (f : List (Fin q)) (i : Nat) : (oI f).getD i 0 = nI (Fld.co f i) := by
  by_cases h : i < f.length
  · rw [Fld.co_lt h]; simp [oI, List.getD_eq_getElem?_getD, h]
  · rw [Fld.co_ge (by omega), nI_zero]; simp [oI, List.getD_eq_getElem?_getD, List.getElem?_eq_none (show f.length ≤ i by omega)]
theorem rd_oI (f : List (Fin q)) (i : Nat) : rd (oI f) (i : Int) = nI (Fld.co f i) := by
  rw [← oI_getD]; simp [rd]
end
section
variable {q : Nat}
theorem oI_set (f : List (Fin q)) (i : Nat) (a : Fin q) : (oI f).set i (nI a) = oI (f.set i a) := by simp [oI, List.map_set]
end
section
variable {q : Nat} [NeZero q]
theorem oI_zeros (n : Nat) : List.replicate n (0 : Int) = oI (List.replicate n (0 : Fin q)) := by simp [oI, nI_zero]
theorem co_set (f : List (Fin q)) (i : Nat) (a : Fin q) (hi : i < f.length) (s : Nat) : Fld.co (f.set i a) s = if s = i then a else Fld.co f s := by
  unfold Fld.co
  rw [List.getD_eq_getElem?_getD, List.getD_eq_getElem?_getD]
  by_cases h : s = i
  · subst h; rw [if_pos rfl, List.getElem?_set_self hi]; rfl
  · rw [if_neg h, List.getElem?_set_ne (by omega)]
/-! what the field's words tell -/
section
variable (hq : q ≤ 65537)
include hq
theorem times_fp (a b : Fin q) : field_Times.f (q : Int) (nI a) (nI b) = some (nI (a * b)) := by
  have hp := q_pos (q := q)
  rw [times_at (by omega) (by omega) (nI_range a).1 (nI_range a).2 (nI_range b).1 (nI_range b).2, nI_mul]
theorem mul_fp (a b : Fin q) : juntoref01_Mul.f (q : Int) (nI a) (nI b) = some (nI (a * b)) := by
  have hp := q_pos (q := q)
  rw [ref_mul (by omega) (by omega) (nI_range a).1 (nI_range a).2 (nI_range b).1 (nI_range b).2, nI_mul]
theorem plus_fp (a b : Fin q) : field_Plus.f (q : Int) (nI a) (nI b) = some (nI (a + b)) := by
  have hp := q_pos (q := q)
  rw [plus_at (by omega) (by omega) (nI_range a).1 (nI_range a).2 (nI_range b).1 (nI_range b).2, nI_add]
theorem add_fp (a b : Fin q) : juntoref01_Add.f (q : Int) (nI a) (nI b) = some (nI (a + b)) := by
  have hp := q_pos (q := q)
  rw [ref_add (by omega) (by omega) (nI_range a).1 (nI_range a).2 (nI_range b).1 (nI_range b).2, nI_add]
end

/-! rows -/
/-- A row that is filled from the front on. -/
def fill (n j : Nat) (F : Nat → Fin q) : List (Fin q) := Fld.mk n (fun i => if i < j then F i else 0)
theorem fill_zero (n : Nat) (F : Nat → Fin q) : fill n 0 F = List.replicate n 0 := by
  apply List.ext_getElem (by simp [fill, Fld.mk])
  intro i h1 h2
  simp [fill, Fld.mk]
theorem fill_length (n j : Nat) (F : Nat → Fin q) : (fill n j F).length = n := Fld.mk_length _ _
theorem fill_set (n j : Nat) (F : Nat → Fin q) : (fill n j F).set j (F j) = fill n (j + 1) F := by
  apply List.ext_getElem (by simp [fill, Fld.mk])
  intro i h1 h2
  simp only [fill, Fld.mk, List.getElem_set, List.getElem_map, List.getElem_range]
  by_cases h : j = i
  · rw [if_pos h, if_pos (by omega), h]
  · rw [if_neg h]
    by_cases h' : i < j
    · rw [if_pos h', if_pos (by omega)]
    · rw [if_neg h', if_neg (by omega)]
theorem fill_all (n : Nat) (F : Nat → Fin q) : fill n n F = Fld.mk n F := by
  apply List.ext_getElem (by simp [fill, Fld.mk])
  intro i h1 h2
  have : i < n := by simpa [fill, Fld.mk] using h1
  simp [fill, Fld.mk, this]

/-! products -/
/-- What the first i rows of a product come to. -/
def part (f g : List (Fin q)) (i s : Nat) : Fin q := Fld.sm i (fun j => if j ≤ s then Fld.co f j * Fld.co g (s - j) else 0)
theorem part_all (f g : List (Fin q)) (n s : Nat) (h : f.length ≤ n) : part f g n s = Fld.co (Fld.mul f g) s := by
  rw [Fld.co_mul]
  unfold part Fld.cv
  have e : Fld.sm (max n (s + 1)) (fun j => if j ≤ s then Fld.co f j * Fld.co g (s - j) else 0) = Fld.sm n (fun j => if j ≤ s then Fld.co f j * Fld.co g (s - j) else 0) := Fld.sm_more (by omega) fun i h1 h2 => by
    rw [Fld.co_ge (f := f) (by omega)]; split <;> grind
  have e' : Fld.sm (max n (s + 1)) (fun j => if j ≤ s then Fld.co f j * Fld.co g (s - j) else 0) = Fld.sm (s + 1) (fun j => if j ≤ s then Fld.co f j * Fld.co g (s - j) else 0) := Fld.sm_more (by omega) fun i h1 h2 => by
    rw [if_neg (by omega)]
  rw [← e, e']
  exact Fld.sm_congr fun i hi => by rw [if_pos (by omega)]

/-- The row h stands at factor i, k of a product. -/
def At2 (f g h : List (Fin q)) (i k : Nat) : Prop := ∀ s, Fld.co h s = part f g i s + (if i ≤ s ∧ s < i + k then Fld.co f i * Fld.co g (s - i) else 0)
theorem At2.next {f g h : List (Fin q)} {i k : Nat} (H : At2 f g h i k) (hk : i + k < h.length) : At2 f g (h.set (i + k) (Fld.co h (i + k) + Fld.co f i * Fld.co g k)) i (k + 1) := fun s => by
  rw [co_set _ _ _ hk]
  by_cases e : s = i + k
  · subst e
    rw [if_pos rfl, H (i + k), if_neg (by omega), if_pos (by omega), show i + k - i = k by omega]; grind
  · rw [if_neg e, H s]
    by_cases e' : i ≤ s ∧ s < i + k
    · rw [if_pos e', if_pos (by omega)]
    · rw [if_neg e', if_neg (by omega)]
theorem At2.round {f g h : List (Fin q)} {i k : Nat} (H : At2 f g h i k) (hk : g.length ≤ k) : At2 f g h (i + 1) 0 := fun s => by
  rw [H s, if_neg (by omega : ¬ (i + 1 ≤ s ∧ s < i + 1 + 0))]
  have e : part f g (i + 1) s = part f g i s + (if i ≤ s then Fld.co f i * Fld.co g (s - i) else 0) := rfl
  rw [e]
  by_cases h1 : i ≤ s
  · by_cases h2 : s < i + k
    · rw [if_pos ⟨h1, h2⟩, if_pos h1]; grind
    · rw [if_neg (by omega), if_pos h1, Fld.co_ge (f := g) (by omega)]; grind
  · rw [if_neg (by omega), if_neg h1]; grind
theorem At2.last {f g h : List (Fin q)} {i : Nat} (H : At2 f g h i 0) (hi : f.length ≤ i) : Fld.trim h = Fld.trim (Fld.mul f g) := Fld.trim_congr fun s => by
  rw [H s, if_neg (by omega), part_all f g i s hi]; grind

/-! inverses -/
end

end Go.Proofs.Ytjjnfobeeflnhaa.L

/- Rows drawn from a tape, rows without noughts at the end, rows compared: what the words tell. -/
namespace Go.Proofs.Ytjjnfobeeflnhaa.L
open Go.RowKit Go.Proofs.YtjjnfobeeflnhaaW.PrintWords Go.Proofs.Ytjjnfobeeflnhaa.J
set_option linter.unusedVariables false
set_option linter.unusedSimpArgs false

/-! rows compared -/
theorem same_loop (a b : List Int) (hl : a.length = b.length) (hs : a.length ≤ maxLen) : ∀ (m i : Nat), i + m = a.length → Ev (fun k => juntoref01_Same.l0 k a b (a.length : Int) (i : Int)) (decide (a.drop i = b.drop i))
  | 0, i, hi => by
    have e : a.drop i = b.drop i := by rw [List.drop_of_length_le (by omega), List.drop_of_length_le (by omega)]
    rw [decide_eq_true e]
    refine Ev.step (f := fun k => some true) (fun k => ?_) (Ev.now _)
    simp only [juntoref01_Same.l0]
    rw [if_neg (by omega)]
  | m + 1, i, hi => by
    have hm : (a.length : Int) ≤ 9223372036854775807 := by simp only [maxLen] at hs; omega
    have h1 : i < a.length := by omega
    have h2 : i < b.length := by omega
    have ra : rd a (i : Int) = a[i] := by simp [rd, List.getD_eq_getElem?_getD, h1]
    have rb : rd b (i : Int) = b[i] := by simp [rd, List.getD_eq_getElem?_getD, h2]
    by_cases e : a[i] = b[i]
    · have e2 : decide (a.drop i = b.drop i) = decide (a.drop (i + 1) = b.drop (i + 1)) := by
        rw [List.drop_eq_getElem_cons h1, List.drop_eq_getElem_cons h2, e]
        exact decide_eq_decide.2 ⟨fun h => (List.cons.inj h).2, fun h => by rw [h]⟩
      rw [e2]
      refine Ev.step (f := fun k => juntoref01_Same.l0 k a b (a.length : Int) ((i + 1 : Nat) : Int)) (fun k => ?_) (same_loop a b hl hs m (i + 1) (by omega))
      conv => lhs; simp only [juntoref01_Same.l0]
      rw [if_pos (by omega), if_pos (by omega), if_pos (by omega), if_pos (by omega), ra, rb, if_pos e, w64_small (by omega) (by omega)]
      rfl
    · have e2 : decide (a.drop i = b.drop i) = false := by
        rw [List.drop_eq_getElem_cons h1, List.drop_eq_getElem_cons h2]
        exact decide_eq_false fun h => e (List.cons.inj h).1
      rw [e2]
      refine Ev.step (f := fun k => some false) (fun k => ?_) (Ev.now _)
      simp only [juntoref01_Same.l0]
      rw [if_pos (by omega), if_pos (by omega), if_pos (by omega), if_pos (by omega), ra, rb, if_neg e]
theorem same_at (a b : List Int) (hs : a.length ≤ maxLen) : Ev (fun k => juntoref01_Same.f k a b) (decide (a = b)) := by
  unfold juntoref01_Same.f
  by_cases h : a.length = b.length
  · have := same_loop a b h hs a.length 0 (by omega)
    rw [List.drop_zero, List.drop_zero] at this
    exact Ev.congr (fun k => if_pos (by omega)) this
  · rw [decide_eq_false (fun e => h (by rw [e]))]
    exact Ev.congr (fun k => if_neg (by omega)) (Ev.now _)
theorem same_self (a : List Int) (hs : a.length ≤ maxLen) : Ev (fun k => juntoref01_Same.f k a a) true := by
  have := same_at a a hs
  rwa [decide_eq_true rfl] at this

/-! rows without noughts at the end -/
section
variable {q : Nat} [NeZero q]
/-! rows drawn from a tape -/
/-- The residue of a number. -/
def resid (q : Nat) [NeZero q] (x : Int) : Fin q := Fin.ofNat q (x % (q : Int)).toNat
/-- The first n numbers of a tape. -/
def drawn (q : Nat) [NeZero q] (tape : List Int) (n : Nat) : List (Fin q) := Fld.mk n (fun i => resid q (tape.getD i 0))
end

end Go.Proofs.Ytjjnfobeeflnhaa.L

/- Small facts about numbers that came in, setups and rows. -/
namespace Go.Proofs.Ytjjnfobeeflnhaa.L
open Go.RowKit Go.Proofs.YtjjnfobeeflnhaaW.PrintWords Go.Proofs.Ytjjnfobeeflnhaa.J

theorem u64_wf {n : Int} (h : (Lit.int .u64 n).wf = true) : 0 ≤ n ∧ n < 18446744073709551616 := by
  simp [Lit.wf, IntKind.min, IntKind.max, IntKind.signed, IntKind.bits] at h
  omega

theorem setupV_two {p n t : Int} (h : setupV p n t ≠ 0) : setupV p n t = 2 := by
  unfold setupV at h ⊢
  split
  · rename_i h'
    rw [if_pos h'] at h
    exact absurd rfl h
  · rfl

theorem belowV_zero {p : Int} {l : List Int} (h : belowV p l = 0) : ∀ x ∈ l, x < p := by
  unfold belowV at h
  split at h
  · assumption
  · cases h

/-- A setup that is one: its numbers. -/
theorem setupV_small {p n t : Int} (h : setupV p n t = 0) : 3 ≤ p ∧ p ≤ 65537 ∧ 1 ≤ n ∧ n ≤ 13 ∧ 0 ≤ t ∧ t ≤ 3 ∧ 4 * t + 1 ≤ n ∧ n < p := by
  obtain ⟨hp, h1, h2, h4, h5, h6⟩ := setupV_ok h
  have hp2 := (isP_iff p).1 hp
  omega

end Go.Proofs.Ytjjnfobeeflnhaa.L

/- Both ways to share a polynomial answer alike, and what they answer. -/
namespace Go.Proofs.Ytjjnfobeeflnhaa.L
open Go.RowKit Go.Proofs.YtjjnfobeeflnhaaW.PrintWords Go.Proofs.Ytjjnfobeeflnhaa.J
set_option linter.unusedVariables false
set_option linter.unusedSimpArgs false

section
variable {q : Nat}
theorem mk_succ (n : Nat) (F : Nat → Fin q) : Fld.mk (n + 1) F = Fld.mk n F ++ [F n] := by
  unfold Fld.mk; rw [List.range_succ]; simp
end
end Go.Proofs.Ytjjnfobeeflnhaa.L

/- Interpolation over the residues modulo a prime: by differences (Newton) and by basis polynomials (Lagrange). Plain Lean, no program in sight. -/
namespace Go.Proofs.Ytjjnfobeeflnhaa.Fld
set_option linter.unusedVariables false
set_option linter.unusedSimpArgs false

section
variable {p : Nat} [NeZero p]

/-- The product of x minus the places from a on, m of them. -/
def wp (x : Nat → Fin p) (a : Nat) : Nat → List (Fin p)
  | 0 => [1]
  | m + 1 => mul [-(x (a + m)), 1] (wp x a m)
/-- The polynomial by differences, from its end on. -/
def hn (x d : Nat → Fin p) (n : Nat) : Nat → List (Fin p)
  | 0 => []
  | m + 1 => trim (add (trim (mul (hn x d n m) [-(x (n - (m + 1))), 1])) [d (n - (m + 1))])
/-! by basis polynomials -/
end
end Go.Proofs.Ytjjnfobeeflnhaa.Fld

/- The statement ShareSetups as plain Lean: both tests of a setup and both tests of a list of corrupted parties answer alike. -/
namespace Go.Proofs.Ytjjnfobeeflnhaa.L
open Go.RowKit Go.Proofs.YtjjnfobeeflnhaaW.PrintWords Go.Proofs.Ytjjnfobeeflnhaa.J
set_option linter.unusedVariables false
set_option linter.unusedSimpArgs false

theorem alive04 : Ev (fun k => juntolaw04_alive.f k) true := Ev.of juntolaw04_alive.mono (k := 60) (by decide +kernel)

end Go.Proofs.Ytjjnfobeeflnhaa.L

/- The statement ShareFits as plain Lean. -/
namespace Go.Proofs.Ytjjnfobeeflnhaa.L
open Go.RowKit Go.Proofs.YtjjnfobeeflnhaaW.PrintWords Go.Proofs.Ytjjnfobeeflnhaa.J
set_option linter.unusedVariables false
set_option linter.unusedSimpArgs false

/-- What both tests of a row of shares answer: 0 or 2. -/
def areV (p n : Int) (l : List Int) : Int := if (l.length : Int) = n then belowV p l else 2
theorem belowV_two {p : Int} {l : List Int} (h : belowV p l ≠ 0) : belowV p l = 2 := by
  unfold belowV at h ⊢
  split
  · rename_i h'
    rw [if_pos h'] at h
    exact absurd rfl h
  · rfl
theorem areV_two {p n : Int} {l : List Int} (h : areV p n l ≠ 0) : areV p n l = 2 := by
  unfold areV at h ⊢
  split
  · rename_i h'
    rw [if_pos h'] at h
    exact belowV_two h
  · rfl
theorem share_are_one (p n t : Int) (l : List Int) (hl : l.length ≤ maxLen) : Ev (fun k => share_are.f k p n t [l]) (areV p n l) := by
  have hr : rd_L3 [l] 0 = l := rfl
  have hw : wrap64 (0 + 1) = 1 := w64_small (by omega) (by omega)
  unfold areV
  by_cases hn : (l.length : Int) = n
  · rw [if_pos hn]
    refine Ev.step (f := fun k => (field_Below.f k p l).bind fun t818 => (if t818 = 0 then (share_are.l0 k [l] 1 1 p n t) else (some 2))) (fun k => ?_) (Ev.bind (field_below p l hl) ?_)
    · unfold share_are.f
      show share_are.l0 (k + 1) [l] 1 0 p n t = _
      simp only [share_are.l0]
      rw [if_pos (by omega), if_pos (by omega), if_pos (by simp), hr, if_pos hn, hw]
    · by_cases hb : belowV p l = 0
      · simp only [hb, if_true]
        refine Ev.step (f := fun k => some 0) (fun k => ?_) (Ev.now _)
        simp only [share_are.l0]
        rw [if_neg (by decide)]
      · simp only [hb, if_false]
        rw [belowV_two hb]
        exact Ev.now _
  · rw [if_neg hn]
    refine Ev.step (f := fun k => some 2) (fun k => ?_) (Ev.now _)
    unfold share_are.f
    show share_are.l0 (k + 1) [l] 1 0 p n t = _
    simp only [share_are.l0]
    rw [if_pos (by omega), if_pos (by omega), if_pos (by simp), hr, if_neg hn]
theorem ref_all (p n t : Int) (l : List Int) (hl : l.length ≤ maxLen) : Ev (fun k => juntoref04_All.f k p n t l) (areV p n l) := by
  unfold juntoref04_All.f areV
  by_cases hn : (l.length : Int) = n
  · simp only [hn, if_true]
    exact Ev.bind (ref_within p l hl) (Ev.now _)
  · simp only [hn, if_false]
    exact Ev.now _

end Go.Proofs.Ytjjnfobeeflnhaa.L

/- The polynomial of high values: both ways to make it answer alike; the values that a mask gives. -/
namespace Go.Proofs.Ytjjnfobeeflnhaa.L
open Go.RowKit Go.Proofs.YtjjnfobeeflnhaaW.PrintWords Go.Proofs.Ytjjnfobeeflnhaa.J
set_option linter.unusedVariables false
set_option linter.unusedSimpArgs false

section
variable {q : Nat}
theorem oO_of : ∀ {l : List (List Int)}, (∀ f ∈ l, ∀ c ∈ f, 0 ≤ c ∧ c < (q : Int)) → ∃ L : List (List (Fin q)), L.map oI = l
  | [], _ => ⟨[], rfl⟩
  | a :: l, h => by
    obtain ⟨f, hf⟩ := oI_of (q := q) (h a (by simp))
    obtain ⟨L, hL⟩ := oO_of (l := l) (fun g hg => h g (by simp [hg]))
    exact ⟨f :: L, by rw [List.map_cons, hf, hL]⟩
end
section
variable {q : Nat} [NeZero q]
/-! what a mask's words tell -/
end
end Go.Proofs.Ytjjnfobeeflnhaa.L

/- What the law's own words ask of an answer. -/
namespace Go.Proofs.Ytjjnfobeeflnhaa.L
open Go.RowKit Go.Proofs.YtjjnfobeeflnhaaW.PrintWords Go.Proofs.Ytjjnfobeeflnhaa.J

theorem is04_same (l : List Int) (hl : l.length ≤ maxLen) : Ev (fun k => juntolaw04_is.f k l 0 l 0) true := by
  unfold juntolaw04_is.f
  simp only [if_true]
  exact Ev.bind (same_self l hl) (Ev.now _)
theorem is04_bad (e : Int) (h : e ≠ 0) : Ev (fun k => juntolaw04_is.f k [] e [] e) true := by
  unfold juntolaw04_is.f
  simp only [h, if_true, if_false]
  exact Ev.now _

end Go.Proofs.Ytjjnfobeeflnhaa.L

/- The statement ShareSums as plain Lean. -/
namespace Go.Proofs.Ytjjnfobeeflnhaa.L
open Go.RowKit Go.Proofs.YtjjnfobeeflnhaaW.PrintWords Go.Proofs.Ytjjnfobeeflnhaa.J
set_option linter.unusedVariables false
set_option linter.unusedSimpArgs false

/-- What the test of many rows of shares answers. -/
def arsV (p n : Int) : List (List Int) → Int
  | [] => 0
  | f :: fs => if areV p n f = 0 then arsV p n fs else 2
theorem arsV_two {p n : Int} : ∀ {l : List (List Int)}, arsV p n l ≠ 0 → arsV p n l = 2
  | [], h => absurd rfl h
  | f :: fs, h => by
    unfold arsV at h ⊢
    split
    · rename_i h'
      rw [if_pos h'] at h
      exact arsV_two h
    · rfl
theorem arsV_zero {p n : Int} : ∀ {l : List (List Int)}, arsV p n l = 0 → ∀ f ∈ l, areV p n f = 0
  | g :: fs, h, f, hf => by
    unfold arsV at h
    split at h
    · rcases List.mem_cons.1 hf with rfl | hf
      · assumption
      · exact arsV_zero h f hf
    · cases h
theorem row_at3 (l : List (List Int)) (i : Nat) (h : i < l.length) : rd_L3 l (i : Int) = l[i] := by simp [rd_L3, List.getD_eq_getElem?_getD, h]
theorem share_ars (p n t : Int) (l : List (List Int)) (hml : l.length ≤ 100000000000000000) (hf : ∀ f ∈ l, f.length ≤ maxLen) (m : Nat) : ∀ i : Nat, i + m = l.length → Ev (fun k => share_are.l0 k l (l.length : Int) (i : Int) p n t) (arsV p n (l.drop i)) := by
  induction m with
  | zero =>
    intro i hi
    rw [List.drop_of_length_le (by omega)]
    refine Ev.step (f := fun k => some 0) (fun k => ?_) (Ev.now _)
    simp only [share_are.l0]
    rw [if_neg (by omega)]
  | succ m ih =>
    intro i hi
    have hlt : i < l.length := by omega
    have hw : wrap64 ((i : Int) + 1) = ((i + 1 : Nat) : Int) := by rw [w64_small (by omega) (by omega)]; omega
    rw [List.drop_eq_getElem_cons hlt]
    unfold arsV areV
    by_cases hn : (l[i].length : Int) = n
    · rw [if_pos hn]
      refine Ev.step (f := fun k => (field_Below.f k p l[i]).bind fun t824 => (if t824 = 0 then (share_are.l0 k l (l.length : Int) ((i + 1 : Nat) : Int) p n t) else (some 2))) (fun k => ?_) (Ev.bind (field_below p _ (hf _ (List.getElem_mem hlt))) ?_)
      · simp only [share_are.l0]
        rw [if_pos (by omega), if_pos (by omega), if_pos (by omega), row_at3 l i hlt, if_pos hn, hw]
      · by_cases hb : belowV p l[i] = 0
        · simp only [hb, if_true]
          exact ih (i + 1) (by omega)
        · simp only [hb, if_false]
          exact Ev.now _
    · rw [if_neg hn, if_neg (by decide)]
      refine Ev.step (f := fun k => some 2) (fun k => ?_) (Ev.now _)
      simp only [share_are.l0]
      rw [if_pos (by omega), if_pos (by omega), if_pos (by omega), row_at3 l i hlt, if_neg hn]
theorem share_ares (p n t : Int) (l : List (List Int)) (hl : l.length ≤ 100000000000000000) (hf : ∀ f ∈ l, f.length ≤ maxLen) : Ev (fun k => share_are.f k p n t l) (arsV p n l) := by
  have h := share_ars p n t l hl hf l.length 0 (by omega)
  rw [List.drop_zero] at h
  exact h

section
variable {q : Nat}
theorem ars_rows {n : Int} {l : List (List Int)} (h : arsV (q : Int) n l = 0) (hu : ∀ f ∈ l, ∀ c ∈ f, 0 ≤ c) : ∃ L : List (List (Fin q)), L.map oI = l ∧ ∀ f ∈ L, (f.length : Int) = n := by
  have h1 := arsV_zero h
  have h2 : ∀ f ∈ l, (f.length : Int) = n ∧ ∀ c ∈ f, c < (q : Int) := fun f hf => by
    have h3 := h1 f hf
    unfold areV at h3
    split at h3
    · exact ⟨by assumption, belowV_zero h3⟩
    · cases h3
  obtain ⟨L, hL⟩ := oO_of (q := q) (l := l) (fun f hf c hc => ⟨hu f hf c hc, (h2 f hf).2 c hc⟩)
  refine ⟨L, hL, fun f hf => ?_⟩
  have := (h2 (oI f) (by rw [← hL]; exact List.mem_map.2 ⟨f, hf, rfl⟩)).1
  rwa [oI_length] at this
end
section
variable {q : Nat} [NeZero q]
/-- A row to which another is added, at its first places. -/
def adding (a r : List (Fin q)) (n j : Nat) : List (Fin q) := Fld.mk n (fun i => if i < j then Fld.co a i + Fld.co r i else Fld.co a i)
theorem adding_zero (a r : List (Fin q)) (n : Nat) (h : a.length = n) : adding a r n 0 = a := by
  apply List.ext_getElem (by rw [adding, Fld.mk_length, h])
  intro i h1 h2
  have := Fld.co_lt h1
  rw [← this, adding, Fld.co_mk, if_pos (by omega), if_neg (by omega), Fld.co_lt h2]
theorem adding_length (a r : List (Fin q)) (n j : Nat) : (adding a r n j).length = n := Fld.mk_length _ _
theorem adding_co (a r : List (Fin q)) (n j : Nat) (h : j < n) : Fld.co (adding a r n j) j = Fld.co a j := by
  rw [adding, Fld.co_mk, if_pos h, if_neg (by omega)]
theorem adding_set (a r : List (Fin q)) (n j : Nat) (h : j < n) : (adding a r n j).set j (Fld.co a j + Fld.co r j) = adding a r n (j + 1) := by
  apply List.ext_getElem (by simp [adding, Fld.mk])
  intro i h1 h2
  rw [← Fld.co_lt h1, ← Fld.co_lt h2, co_set _ _ _ (by rw [adding_length]; exact h)]
  rw [adding_length] at h2
  unfold adding
  rw [Fld.co_mk, Fld.co_mk, if_pos h2, if_pos h2]
  by_cases e : i = j
  · subst e; rw [if_pos rfl, if_pos (by omega)]
  · rw [if_neg e]
    by_cases e2 : i < j
    · rw [if_pos e2, if_pos (by omega)]
    · rw [if_neg e2, if_neg (by omega)]
/-- The sums of rows, place by place. -/
def sumsF (n : Nat) : List (Fin q) → List (List (Fin q)) → List (Fin q)
  | a, [] => a
  | a, r :: rs => sumsF n (adding a r n n) rs
theorem sumsF_length (n : Nat) : ∀ (l : List (List (Fin q))) (a : List (Fin q)), a.length = n → (sumsF n a l).length = n
  | [], a, h => h
  | r :: rs, a, h => sumsF_length n rs _ (adding_length _ _ _ _)
theorem sum_inner (hq : q ≤ 65537) (n t : Int) (L : List (List (Fin q))) (z : Nat) (hz : z ≤ 100) (i : Nat) (a r : List (Fin q)) (hr : r.length = z) {out : List Int × Int}
    (last : Ev (fun k => share_Sum.l0 k (oI (adding a r z z)) (L.map oI) (L.length : Int) ((i + 1 : Nat) : Int) (q : Int) n t) out) (hi : i < 1000000000000000000) (m : Nat) : ∀ j : Nat, j + m = z →
    Ev (fun k => share_Sum.l1 k (oI (adding a r z j)) (L.map oI) (L.length : Int) (i : Int) (oI r) (z : Int) (j : Int) (q : Int) n t) out := by
  induction m with
  | zero =>
    intro j hj
    obtain rfl : j = z := by omega
    have hw : wrap64 ((i : Int) + 1) = ((i + 1 : Nat) : Int) := by rw [w64_small (by omega) (by omega)]; omega
    refine Ev.step (f := fun k => share_Sum.l0 k (oI (adding a r j j)) (L.map oI) (L.length : Int) ((i + 1 : Nat) : Int) (q : Int) n t) (fun k => ?_) last
    conv => lhs; simp only [share_Sum.l1]
    rw [if_neg (by omega), hw]
  | succ m ih =>
    intro j hj
    have hw : wrap64 ((j : Int) + 1) = ((j + 1 : Nat) : Int) := by rw [w64_small (by omega) (by omega)]; omega
    refine Ev.step (f := fun k => share_Sum.l1 k (oI (adding a r z (j + 1))) (L.map oI) (L.length : Int) (i : Int) (oI r) (z : Int) ((j + 1 : Nat) : Int) (q : Int) n t) (fun k => ?_) (ih (j + 1) (by omega))
    conv => lhs; simp only [share_Sum.l1]
    rw [if_pos (by omega), if_pos (by omega), if_pos (by rw [oI_length]; omega), if_pos (by rw [oI_length, adding_length]; omega), rd_oI, rd_oI, adding_co _ _ _ _ (by omega), plus_fp hq, Option.bind_some, Int.toNat_natCast, oI_set, adding_set _ _ _ _ (by omega), hw]
theorem sum_outer (hq : q ≤ 65537) (n t : Int) (L : List (List (Fin q))) (z : Nat) (hz : z ≤ 100) (hl : L.length ≤ 100000000000000000) (hr : ∀ f ∈ L, f.length = z) (m : Nat) : ∀ (i : Nat) (a : List (Fin q)), i + m = L.length → a.length = z →
    Ev (fun k => share_Sum.l0 k (oI a) (L.map oI) (L.length : Int) (i : Int) (q : Int) n t) (oI (sumsF z a (L.drop i)), 0) := by
  induction m with
  | zero =>
    intro i a hi ha
    rw [List.drop_of_length_le (by omega), sumsF]
    refine Ev.step (f := fun k => some (oI a, 0)) (fun k => ?_) (Ev.now _)
    simp only [share_Sum.l0]
    rw [if_neg (by omega)]
  | succ m ih =>
    intro i a hi ha
    have hlt : i < L.length := by omega
    have hrow := hr _ (List.getElem_mem hlt)
    rw [List.drop_eq_getElem_cons hlt, sumsF]
    have hrl : rd_L3 (L.map oI) (i : Int) = oI L[i] := by rw [row_at3 _ _ (by rw [List.length_map]; exact hlt)]; simp
    have h := sum_inner hq n t L z hz i a L[i] hrow (ih (i + 1) _ (by omega) (adding_length _ _ _ _)) (by omega) z 0 (by omega)
    rw [adding_zero _ _ _ ha] at h
    refine Ev.step (f := fun k => share_Sum.l1 k (oI a) (L.map oI) (L.length : Int) (i : Int) (oI L[i]) (z : Int) ((0 : Nat) : Int) (q : Int) n t) (fun k => ?_) h
    conv => lhs; simp only [share_Sum.l0]
    rw [if_pos (by omega), if_pos (by omega), if_pos (by rw [List.length_map]; omega), hrl, oI_length, hrow]
    rfl
theorem rsum_inner (hq : q ≤ 65537) (n t : Int) (L : List (List (Fin q))) (z : Nat) (hz : z ≤ 100) (i : Nat) (a r : List (Fin q)) (hr : r.length = z) {out : List Int}
    (last : Ev (fun k => juntoref04_Sum.l0 k (oI (adding a r z z)) (L.map oI) (L.length : Int) ((i + 1 : Nat) : Int) (q : Int) n t) out) (hi : i < 1000000000000000000) (m : Nat) : ∀ j : Nat, j + m = z →
    Ev (fun k => juntoref04_Sum.l1 k (oI (adding a r z j)) (oI r) (L.map oI) (L.length : Int) (i : Int) (z : Int) (j : Int) (q : Int) n t) out := by
  induction m with
  | zero =>
    intro j hj
    obtain rfl : j = z := by omega
    have hw : wrap64 ((i : Int) + 1) = ((i + 1 : Nat) : Int) := by rw [w64_small (by omega) (by omega)]; omega
    refine Ev.step (f := fun k => juntoref04_Sum.l0 k (oI (adding a r j j)) (L.map oI) (L.length : Int) ((i + 1 : Nat) : Int) (q : Int) n t) (fun k => ?_) last
    conv => lhs; simp only [juntoref04_Sum.l1]
    rw [if_neg (by omega), hw]
  | succ m ih =>
    intro j hj
    have hw : wrap64 ((j : Int) + 1) = ((j + 1 : Nat) : Int) := by rw [w64_small (by omega) (by omega)]; omega
    refine Ev.step (f := fun k => juntoref04_Sum.l1 k (oI (adding a r z (j + 1))) (oI r) (L.map oI) (L.length : Int) (i : Int) (z : Int) ((j + 1 : Nat) : Int) (q : Int) n t) (fun k => ?_) (ih (j + 1) (by omega))
    conv => lhs; simp only [juntoref04_Sum.l1]
    rw [if_pos (by omega), if_pos (by omega), if_pos (by rw [oI_length, adding_length]; omega), if_pos (by rw [oI_length]; omega), rd_oI, rd_oI, adding_co _ _ _ _ (by omega), add_fp hq, Option.bind_some, Int.toNat_natCast, oI_set, adding_set _ _ _ _ (by omega), hw]
theorem rsum_outer (hq : q ≤ 65537) (n t : Int) (L : List (List (Fin q))) (z : Nat) (hz : z ≤ 100) (hl : L.length ≤ 100000000000000000) (hr : ∀ f ∈ L, f.length = z) (m : Nat) : ∀ (i : Nat) (a : List (Fin q)), i + m = L.length → a.length = z →
    Ev (fun k => juntoref04_Sum.l0 k (oI a) (L.map oI) (L.length : Int) (i : Int) (q : Int) n t) (oI (sumsF z a (L.drop i))) := by
  induction m with
  | zero =>
    intro i a hi ha
    rw [List.drop_of_length_le (by omega), sumsF]
    refine Ev.step (f := fun k => some (oI a)) (fun k => ?_) (Ev.now _)
    simp only [juntoref04_Sum.l0]
    rw [if_neg (by omega)]
  | succ m ih =>
    intro i a hi ha
    have hlt : i < L.length := by omega
    have hrow := hr _ (List.getElem_mem hlt)
    rw [List.drop_eq_getElem_cons hlt, sumsF]
    have hrl : rd_L3 (L.map oI) (i : Int) = oI L[i] := by rw [row_at3 _ _ (by rw [List.length_map]; exact hlt)]; simp
    have h := rsum_inner hq n t L z hz i a L[i] hrow (ih (i + 1) _ (by omega) (adding_length _ _ _ _)) (by omega) z 0 (by omega)
    rw [adding_zero _ _ _ ha] at h
    refine Ev.step (f := fun k => juntoref04_Sum.l1 k (oI a) (oI L[i]) (L.map oI) (L.length : Int) (i : Int) (z : Int) ((0 : Nat) : Int) (q : Int) n t) (fun k => ?_) h
    conv => lhs; simp only [juntoref04_Sum.l0]
    rw [if_pos (by omega), if_pos (by omega), if_pos (by rw [List.length_map]; omega), hrl, oI_length, ha]
    rfl
/-- The sums of rows of shares. -/
def sumF (L : List (List (Fin q))) (n : Nat) : List (Fin q) := sumsF n (List.replicate n 0) L
theorem ref_sum (hq : q ≤ 65537) (t : Int) (L : List (List (Fin q))) (n : Nat) (hn : n ≤ 100) (hl : L.length ≤ 100000000000000000) (hr : ∀ f ∈ L, f.length = n) : Ev (fun k => juntoref04_Sum.f k (q : Int) (n : Int) t (L.map oI)) (oI (sumF L n)) := by
  have h := rsum_outer hq (n : Int) t L n hn hl hr L.length 0 (List.replicate n 0) (by omega) (by simp)
  rw [List.drop_zero, ← oI_zeros] at h
  refine Ev.congr (fun k => ?_) h
  unfold juntoref04_Sum.f
  rw [if_pos (by omega), Int.toNat_natCast, if_pos (by omega), List.length_map]
  rfl
theorem share_sum_ok (hq : q ≤ 65537) (t : Int) (L : List (List (Fin q))) (n : Nat) (h0 : setupV (q : Int) (n : Int) t = 0) (ha : arsV (q : Int) (n : Int) (L.map oI) = 0) (hl : L.length ≤ 100000000000000000) (hr : ∀ f ∈ L, f.length = n) : Ev (fun k => share_Sum.f k (q : Int) (n : Int) t (L.map oI)) (oI (sumF L n), 0) := by
  have hh := setupV_small h0
  have h := sum_outer hq (n : Int) t L n (by omega) hl hr L.length 0 (List.replicate n 0) (by omega) (by simp)
  rw [List.drop_zero, ← oI_zeros] at h
  unfold share_Sum.f
  refine Ev.bind (share_setup _ _ _) ?_
  simp only [h0, if_true]
  refine Ev.bind (share_ares _ _ _ _ (by rw [List.length_map]; omega) (fun f hf => ?_)) ?_
  · obtain ⟨g, hg, rfl⟩ := List.mem_map.1 hf
    rw [oI_length, hr g hg]; simp only [maxLen]; omega
  simp only [ha, if_true]
  refine Ev.congr (fun k => ?_) h
  rw [if_pos (by omega), Int.toNat_natCast, if_pos (by omega), List.length_map]
  rfl
theorem scale04_loop (hq : q ≤ 65537) (f : List (Fin q)) (c : Fin q) (n : Nat) (t : Int) (hf : f.length = n) (hn : n ≤ 100) : ∀ m i : Nat, i + m = n → Ev (fun k => share_Scale.l0 k (nI c) (oI (fill n i fun j => Fld.co f j * c)) (oI f) (n : Int) (i : Int) (q : Int) (n : Int) t) (oI (Fld.mk n fun j => Fld.co f j * c), 0) := by
  intro m
  induction m with
  | zero =>
    intro i hi
    obtain rfl : i = n := by omega
    refine Ev.step (f := fun k => some (oI (Fld.mk i fun j => Fld.co f j * c), 0)) (fun k => ?_) (Ev.now _)
    simp only [share_Scale.l0]
    rw [if_neg (by omega), fill_all]
  | succ m ih =>
    intro i hi
    have hw : wrap64 ((i : Int) + 1) = ((i + 1 : Nat) : Int) := by rw [w64_small (by omega) (by omega)]; omega
    refine Ev.step (f := fun k => share_Scale.l0 k (nI c) (oI (fill n (i + 1) fun j => Fld.co f j * c)) (oI f) (n : Int) ((i + 1 : Nat) : Int) (q : Int) (n : Int) t) (fun k => ?_) (ih (i + 1) (by omega))
    conv => lhs; simp only [share_Scale.l0]
    rw [if_pos (by omega), if_pos (by omega), if_pos (by rw [oI_length]; omega), rd_oI, times_fp hq, Option.bind_some, if_pos (by rw [oI_length, fill_length]; omega), Int.toNat_natCast, oI_set, fill_set n i (fun j => Fld.co f j * c), hw]
theorem share_scale_ok (hq : q ≤ 65537) (f : List (Fin q)) (c : Fin q) (n : Nat) (t : Int) (hf : f.length = n) (h0 : setupV (q : Int) (n : Int) t = 0) : Ev (fun k => share_Scale.f k (q : Int) (n : Int) t (oI f) (nI c)) (oI (Fld.mk n fun j => Fld.co f j * c), 0) := by
  have hh := setupV_small h0
  have hm : (oI f).length ≤ maxLen := by rw [oI_length]; simp only [maxLen]; omega
  have ha : areV (q : Int) (n : Int) (oI f) = 0 := by
    unfold areV belowV
    rw [if_pos (by rw [oI_length]; omega), if_pos (fun x hx => (oI_range f x hx).2)]
  have h := scale04_loop hq f c n t hf (by clear ha; omega) n 0 (by omega)
  rw [fill_zero, ← oI_zeros] at h
  unfold share_Scale.f
  refine Ev.bind (share_setup _ _ _) ?_
  simp only [h0, if_true]
  refine Ev.bind (share_are_one _ _ _ _ hm) ?_
  simp only [ha, if_true]
  rw [decide_eq_false (show ¬ nI c ≥ (q : Int) by have := (nI_range c).2; clear ha h0; omega)]
  clear ha h0
  refine Ev.step (f := fun k => share_Scale.l0 k (nI c) (List.replicate n 0) (oI f) (n : Int) ((0 : Nat) : Int) (q : Int) (n : Int) t) (fun k => ?_) h
  simp only [share_Scale.j0, Bool.false_eq_true, if_false]
  rw [if_pos (by omega), Int.toNat_natCast, if_pos (by omega), oI_length, hf]
  rfl
theorem ref_scale04 (hq : q ≤ 65537) (f : List (Fin q)) (c : Fin q) (n : Nat) (t : Int) (hf : f.length = n) (hn : n ≤ 100) : Ev (fun k => juntoref04_Scale.f k (q : Int) (n : Int) t (oI f) (nI c)) (oI (Fld.mk n fun j => Fld.co f j * c)) := by
  have loop : ∀ m i : Nat, i + m = n → Ev (fun k => juntoref04_Scale.l0 k (nI c) (oI (Fld.mk i fun j => Fld.co f j * c)) (oI f) (n : Int) (i : Int) (q : Int) (n : Int) t) (oI (Fld.mk n fun j => Fld.co f j * c)) := by
    intro m
    induction m with
    | zero =>
      intro i hi
      obtain rfl : i = n := by omega
      refine Ev.step (f := fun k => some (oI (Fld.mk i fun j => Fld.co f j * c))) (fun k => ?_) (Ev.now _)
      simp only [juntoref04_Scale.l0]
      rw [if_neg (by omega)]
    | succ m ih =>
      intro i hi
      have hw : wrap64 ((i : Int) + 1) = ((i + 1 : Nat) : Int) := by rw [w64_small (by omega) (by omega)]; omega
      have h := ih (i + 1) (by omega)
      rw [mk_succ i (fun j => Fld.co f j * c), oI_append] at h
      refine Ev.step (f := fun k => juntoref04_Scale.l0 k (nI c) (oI (Fld.mk i fun j => Fld.co f j * c) ++ oI [Fld.co f i * c]) (oI f) (n : Int) ((i + 1 : Nat) : Int) (q : Int) (n : Int) t) (fun k => ?_) h
      conv => lhs; simp only [juntoref04_Scale.l0]
      rw [if_pos (by omega), if_pos (by omega), if_pos (by rw [oI_length]; omega), rd_oI, mul_fp hq, Option.bind_some, if_pos (by rw [oI_length, Fld.mk_length]; omega), hw]
      rfl
  have h := loop n 0 (by omega)
  refine Ev.congr (fun k => ?_) h
  unfold juntoref04_Scale.f
  rw [oI_length, hf]
  rfl
end

theorem share_sum_bad (p n t : Int) (l : List (List Int)) (hl : l.length ≤ 100000000000000000) (hf : ∀ f ∈ l, f.length ≤ maxLen) (h : setupV p n t ≠ 0 ∨ arsV p n l ≠ 0) : Ev (fun k => share_Sum.f k p n t l) ([], 2) := by
  unfold share_Sum.f
  refine Ev.bind (share_setup p n t) ?_
  by_cases h0 : setupV p n t = 0
  · have ha : arsV p n l ≠ 0 := h.resolve_left (fun h => h h0)
    simp only [h0, if_true]
    refine Ev.bind (share_ares p n t l hl hf) ?_
    rw [arsV_two ha]
    exact Ev.now _
  · simp only [h0, if_false]
    rw [setupV_two h0]
    exact Ev.now _
theorem share_scale_bad (p n t c : Int) (l : List Int) (hl : l.length ≤ maxLen) (h : setupV p n t ≠ 0 ∨ areV p n l ≠ 0 ∨ p ≤ c) : Ev (fun k => share_Scale.f k p n t l c) ([], 2) := by
  have out : Ev (fun k => share_Scale.j0 k l c true p n t) (([] : List Int), (2 : Int)) := by
    refine Ev.step (f := fun k => some (([] : List Int), (2 : Int))) (fun k => ?_) (Ev.now _)
    simp only [share_Scale.j0, if_true]
  unfold share_Scale.f
  refine Ev.bind (share_setup p n t) ?_
  by_cases h0 : setupV p n t = 0
  · simp only [h0, if_true]
    refine Ev.bind (share_are_one p n t l hl) ?_
    by_cases ha : areV p n l = 0
    · simp only [ha, if_true]
      rw [decide_eq_true (show c ≥ p by rcases h with h | h | h <;> first | exact absurd h0 h | exact absurd ha h | exact h)]
      exact out
    · simp only [ha, if_false]
      exact out
  · simp only [h0, if_false]
    rw [setupV_two h0]
    exact Ev.now _

theorem sums_bad (l : List Int) (c : Int) (p n t : Int) : Ev (fun k => juntolaw04_ShareSums.j2 k c l [] 2 true p n t) true := by
  refine Ev.step (f := fun k => (juntolaw04_is.f k [] 2 [] 2).bind fun t885 => (if t885 = true then ((juntolaw04_alive.f k).bind fun t886 => (some t886)) else (some false))) (fun k => by simp only [juntolaw04_ShareSums.j2, if_true]) (Ev.bind (is04_bad 2 (by decide)) ?_)
  simp only [if_true]
  exact Ev.bind alive04 (Ev.now _)
theorem sums_bad' (l : List Int) (c : Int) (p n t : Int) : Ev (fun k => juntolaw04_ShareSums.j3 k c l [] 2 true p n t) true := by
  refine Ev.step (f := fun k => (juntolaw04_is.f k [] 2 [] 2).bind fun t885 => (if t885 = true then ((juntolaw04_alive.f k).bind fun t886 => (some t886)) else (some false))) (fun k => by simp only [juntolaw04_ShareSums.j3, if_true]) (Ev.bind (is04_bad 2 (by decide)) ?_)
  simp only [if_true]
  exact Ev.bind alive04 (Ev.now _)
theorem sums_scale (p n t c : Int) (l : List (List Int)) (hf : ∀ f ∈ l, f.length ≤ maxLen) (hu : ∀ f ∈ l, ∀ x ∈ f, 0 ≤ x) (hc : 0 ≤ c) : Ev (fun k => juntolaw04_ShareSums.j1 k l c p n t) true := by
  cases l with
  | nil =>
    have hbad : setupV p n t ≠ 0 ∨ areV p n [] ≠ 0 ∨ p ≤ c := by
      by_cases h0 : setupV p n t = 0
      · have := setupV_small h0
        right; left
        unfold areV
        rw [if_neg (by simp; omega)]
        decide
      · exact .inl h0
    refine Ev.step (fun k => by (conv => lhs; simp only [juntolaw04_ShareSums.j1]; rw [if_neg (by simp)]); first | done | rfl) ?_
    refine Ev.bind (share_scale_bad p n t c [] (by simp) hbad) (Ev.bind (ref_setup p n t) ?_)
    by_cases h0 : setupV p n t = 0
    · simp only [h0, if_true]
      refine Ev.bind (ref_all p n t [] (by simp)) ?_
      by_cases ha : areV p n [] = 0
      · have hpc : p ≤ c := by rcases hbad with h | h | h <;> first | exact absurd h0 h | exact absurd ha h | exact h
        simp only [ha, if_true]
        rw [decide_eq_true (show c ≥ p from hpc)]
        exact sums_bad' _ _ _ _ _
      · simp only [ha, if_false]
        exact sums_bad' _ _ _ _ _
    · simp only [h0, if_false]
      exact sums_bad' _ _ _ _ _
  | cons f fs =>
    have hfm := hf f (by simp)
    have hfu := hu f (by simp)
    have hrd : rd_L3 (f :: fs) 0 = f := rfl
    refine Ev.step (fun k => by (conv => lhs; simp only [juntolaw04_ShareSums.j1]; rw [if_pos (by simp only [List.length_cons]; omega), if_pos (by simp only [List.length_cons]; omega), hrd]); first | done | rfl) ?_
    by_cases hbad : setupV p n t ≠ 0 ∨ areV p n f ≠ 0 ∨ p ≤ c
    · refine Ev.bind (share_scale_bad p n t c f hfm hbad) (Ev.bind (ref_setup p n t) ?_)
      by_cases h0 : setupV p n t = 0
      · simp only [h0, if_true]
        refine Ev.bind (ref_all p n t f hfm) ?_
        by_cases ha : areV p n f = 0
        · have hpc : p ≤ c := by rcases hbad with h | h | h <;> first | exact absurd h0 h | exact absurd ha h | exact h
          simp only [ha, if_true]
          rw [decide_eq_true (show c ≥ p from hpc)]
          exact sums_bad _ _ _ _ _
        · simp only [ha, if_false]
          exact sums_bad _ _ _ _ _
      · simp only [h0, if_false]
        exact sums_bad _ _ _ _ _
    · have h0 : setupV p n t = 0 := Classical.byContradiction fun h => hbad (.inl h)
      have ha : areV p n f = 0 := Classical.byContradiction fun h => hbad (.inr (.inl h))
      have hpc : ¬ p ≤ c := fun h => hbad (.inr (.inr h))
      have hh := setupV_small h0
      have ha2 := ha
      unfold areV at ha2
      have hlen : (f.length : Int) = n := Classical.byContradiction fun h => by rw [if_neg h] at ha2; cases ha2
      rw [if_pos hlen] at ha2
      have hlt := belowV_zero ha2
      obtain ⟨q, rfl⟩ : ∃ q : Nat, p = (q : Int) := ⟨p.toNat, by omega⟩
      have hz : NeZero q := ⟨by omega⟩
      obtain ⟨z, rfl⟩ : ∃ z : Nat, n = (z : Int) := ⟨n.toNat, by omega⟩
      obtain ⟨g, rfl⟩ := oI_of (q := q) (fun x hx => ⟨hfu x hx, hlt x hx⟩)
      obtain ⟨d, rfl⟩ := nI_of (q := q) hc (by omega)
      rw [oI_length] at hlen
      have hq : q ≤ 65537 := by omega
      refine Ev.bind (share_scale_ok hq g d z t (by omega) h0) (Ev.bind (ref_setup _ _ _) ?_)
      simp only [h0, if_true]
      refine Ev.bind (ref_all _ _ _ _ hfm) ?_
      simp only [ha, if_true]
      rw [decide_eq_false (show ¬ nI d ≥ (q : Int) by omega)]
      refine Ev.step (fun k => by (conv => lhs; simp only [juntolaw04_ShareSums.j2, Bool.false_eq_true, if_false]); first | done | rfl) ?_
      refine Ev.bind (ref_scale04 hq g d z t (by omega) (by omega)) (Ev.bind (is04_same _ ?_) (Ev.now _))
      rw [oI_length, Fld.mk_length]; simp only [maxLen]; omega
theorem sums_loop (p n t c : Int) (l : List (List Int)) (hml : l.length ≤ 100000000000000000) (hf : ∀ f ∈ l, f.length ≤ maxLen) (s : List Int) (e : Int) {r : Bool} (m : Nat) : ∀ (i : Nat) (b : Int), i + m = l.length → (b = 0 ∨ b = 2) →
    Ev (fun k => juntolaw04_ShareSums.l0 k l c s e (if b = 0 then arsV p n (l.drop i) else b) l (l.length : Int) (l.length : Int) p n t) r →
    Ev (fun k => juntolaw04_ShareSums.l0 k l c s e b l (l.length : Int) (i : Int) p n t) r := by
  induction m with
  | zero =>
    intro i b hi hb h
    obtain rfl : i = l.length := by omega
    rw [List.drop_length] at h
    have e : (if b = 0 then arsV p n [] else b) = b := by split <;> simp_all [arsV]
    rwa [e] at h
  | succ m ih =>
    intro i b hi hb h
    have hlt : i < l.length := by omega
    have hw : wrap64 ((i : Int) + 1) = ((i + 1 : Nat) : Int) := by rw [w64_small (by omega) (by omega)]; omega
    rw [List.drop_eq_getElem_cons hlt] at h
    by_cases hb0 : b = 0
    · subst hb0
      rw [if_pos rfl] at h
      refine Ev.step (f := fun k => (juntoref04_All.f k p n t l[i]).bind fun t872 => (juntolaw04_ShareSums.l0 k l c s e t872 l (l.length : Int) ((i + 1 : Nat) : Int) p n t)) (fun k => ?_) (Ev.bind (ref_all p n t _ (hf _ (List.getElem_mem hlt))) ?_)
      · conv => lhs; simp only [juntolaw04_ShareSums.l0]
        rw [if_pos (by omega), if_pos (by omega), if_pos (by omega), if_pos trivial, row_at3 l i hlt, hw]
      · by_cases ha : areV p n l[i] = 0
        · rw [ha]
          refine ih (i + 1) 0 (by omega) (.inl rfl) ?_
          rw [if_pos rfl]
          rw [arsV, if_pos ha] at h
          exact h
        · rw [areV_two ha]
          refine ih (i + 1) 2 (by omega) (.inr rfl) ?_
          rw [if_neg (by decide)]
          rw [arsV, if_neg ha] at h
          exact h
    · rw [if_neg hb0] at h
      refine Ev.step (f := fun k => juntolaw04_ShareSums.l0 k l c s e b l (l.length : Int) ((i + 1 : Nat) : Int) p n t) (fun k => ?_) (ih (i + 1) b (by omega) hb ?_)
      · conv => lhs; simp only [juntolaw04_ShareSums.l0]
        rw [if_pos (by omega), if_pos (by omega), if_pos (by omega), if_neg hb0, hw]
      · rw [if_neg hb0]
        exact h

theorem shareSums (x0_0 : Int) (x0_1 : Int) (x0_2 : Int) (x1 : List (List Int)) (x2 : Int) (w0_0 : (Lit.int .u64 x0_0).wf = true) (w0_1 : (Lit.int .i64 x0_1).wf = true) (w0_2 : (Lit.int .i64 x0_2).wf = true)
    (w1 : x1.length ≤ maxLen ∧ x1.length * 24 ≤ 140737488351232 ∧ ∀ x1' ∈ x1, x1'.length ≤ maxLen ∧ x1'.length * 8 ≤ 140737488351232 ∧ ∀ x1'' ∈ x1', (Lit.int .u64 x1'').wf = true) (w2 : (Lit.int .u64 x2).wf = true) : ∃ k, juntolaw04_ShareSums.f k x0_0 x0_1 x0_2 x1 x2 = some true := by
  suffices h : Ev (fun k => juntolaw04_ShareSums.f k x0_0 x0_1 x0_2 x1 x2) true from h.rounds
  have hf : ∀ f ∈ x1, f.length ≤ maxLen := fun f hf => (w1.2.2 f hf).1
  have hu : ∀ f ∈ x1, ∀ c ∈ f, 0 ≤ c := fun f hf c hc => (u64_wf ((w1.2.2 f hf).2.2 c hc)).1
  have hc := (u64_wf w2).1
  have hs := sums_scale x0_0 x0_1 x0_2 x2 x1 hf hu hc
  have hml : x1.length ≤ 100000000000000000 := by have := w1.2.1; omega
  unfold juntolaw04_ShareSums.f
  by_cases h0 : setupV x0_0 x0_1 x0_2 = 0
  · by_cases ha : arsV x0_0 x0_1 x1 = 0
    · have hh := setupV_small h0
      obtain ⟨q, rfl⟩ : ∃ q : Nat, x0_0 = (q : Int) := ⟨x0_0.toNat, by omega⟩
      have hz : NeZero q := ⟨by omega⟩
      obtain ⟨n, rfl⟩ : ∃ n : Nat, x0_1 = (n : Int) := ⟨x0_1.toNat, by omega⟩
      have hq : q ≤ 65537 := by omega
      obtain ⟨L, hL, hr⟩ := ars_rows (q := q) ha hu
      have hr' : ∀ f ∈ L, f.length = n := fun f hf => by have := hr f hf; omega
      have hLl : L.length = x1.length := by rw [← hL, List.length_map]
      have e1 := share_sum_ok hq x0_2 L n h0 (by rw [hL]; exact ha) (by omega) hr'
      have e2 := ref_sum hq x0_2 L n (by omega) (by omega) hr'
      rw [hL] at e1 e2
      refine Ev.bind e1 (Ev.bind (ref_setup _ _ _) ?_)
      rw [h0]
      refine sums_loop _ _ _ _ x1 hml hf _ _ x1.length 0 0 (by omega) (.inl rfl) ?_
      rw [if_pos rfl, List.drop_zero, ha]
      refine Ev.step (fun k => by (conv => lhs; simp only [juntolaw04_ShareSums.l0]; rw [if_neg (by omega), if_pos trivial]); first | done | rfl) ?_
      refine Ev.bind e2 (Ev.bind (is04_same _ ?_) ?_)
      · rw [oI_length, sumF, sumsF_length _ _ _ (by simp)]; simp only [maxLen]; omega
      · simp only [if_true]
        exact hs
    · refine Ev.bind (share_sum_bad _ _ _ _ hml hf (.inr ha)) (Ev.bind (ref_setup _ _ _) ?_)
      rw [h0]
      refine sums_loop _ _ _ _ x1 hml hf _ _ x1.length 0 0 (by omega) (.inl rfl) ?_
      rw [if_pos rfl, List.drop_zero, arsV_two ha]
      refine Ev.step (fun k => by (conv => lhs; simp only [juntolaw04_ShareSums.l0]; rw [if_neg (by omega), if_neg (by decide)]); first | done | rfl) ?_
      refine Ev.bind (is04_bad 2 (by decide)) ?_
      simp only [if_true]
      exact hs
  · refine Ev.bind (share_sum_bad _ _ _ _ hml hf (.inl h0)) (Ev.bind (ref_setup _ _ _) ?_)
    rw [setupV_two h0]
    refine sums_loop _ _ _ _ x1 hml hf _ _ x1.length 0 2 (by omega) (.inr rfl) ?_
    rw [if_neg (by decide)]
    refine Ev.step (fun k => by (conv => lhs; simp only [juntolaw04_ShareSums.l0]; rw [if_neg (by omega), if_neg (by decide)]); first | done | rfl) ?_
    refine Ev.bind (is04_bad 2 (by decide)) ?_
    simp only [if_true]
    exact hs

end Go.Proofs.Ytjjnfobeeflnhaa.L

/- The row of ShareSums: for every input the call returns true and changes nothing; no conditions. Out of the contract of the function and the plain law. -/
namespace Go.Proofs.Ytjjnfobeeflnhaa.shareSums
open Go.ChangeShapes Go.WideShapes Go.ChangeAt Go.RowKit Go.Proofs.YtjjnfobeeflnhaaW.PrintWords Go.Proofs.Ytjjnfobeeflnhaa.J Go.Proofs.Ytjjnfobeeflnhaa.Op
set_option linter.unusedVariables false
theorem own : ownKnob Try.prog.godebug = none := by kernel_rfl
theorem laidOut : laidOutB Try.prog = true := by kernel_rfl
set_option maxRecDepth 100000 in
theorem op0 : Opens Try.prog (Kd.pair (Kd.int .u64) (Kd.pair (Kd.int .i64) (Kd.int .i64))) 24 (fun x => (fun n => (Lit.int .u64 n).wf = true) x.1 ∧ (fun x => (fun n => (Lit.int .i64 n).wf = true) x.1 ∧ (fun n => (Lit.int .i64 n).wf = true) x.2) x.2) := (op_agg Try.underlying24 (opL_cons (by kernel_rfl) (by kernel_rfl) (op_int Try.underlying22) (by kernel_rfl) (opL_cons (by kernel_rfl) (by kernel_rfl) (op_int Try.underlying3) (by kernel_rfl) (opL_one (by kernel_rfl) (by kernel_rfl) (op_int Try.underlying3)))))
set_option maxRecDepth 100000 in
theorem op1 : Opens Try.prog (Kd.slice 31 (Kd.slice 22 (Kd.int .u64))) 25 (fun l => l.length ≤ maxLen ∧ l.length * 24 ≤ 140737488351232 ∧ ∀ a ∈ l, (fun l => l.length ≤ maxLen ∧ l.length * 8 ≤ 140737488351232 ∧ ∀ a ∈ l, (fun n => (Lit.int .u64 n).wf = true) a) a) := (op_slice Try.underlying25 (by kernel_rfl) (by kernel_rfl) (op_slice Try.underlying31 (by kernel_rfl) (by kernel_rfl) (op_int Try.underlying22)))
set_option maxRecDepth 100000 in
theorem op2 : Opens Try.prog (Kd.int .u64) 22 (fun n => (Lit.int .u64 n).wf = true) := (op_int Try.underlying22)
set_option maxRecDepth 100000 in
theorem lifted (os : Os) (started : os.Started) (H : Type) (enc : TypeId × Value → H) :
    ReturnsInHanded {} Try.checked os 17 .any (Rows.shareSumsSpec.pre6 enc Try.prog Try.f17 Rows.shareSumsRow.domain false) (Rows.shareSumsSpec.post enc Try.prog Try.f17 false true false false) := by
  refine returnsInHanded_of_change_sized (C := Try.checked) own started (by kernel_rfl) Try.func17
    (ChangeSpec.witness6 (enc := enc) (C := Try.checked) false ⟨#[], #[.agg #[.int .u64 0, .int .i64 0, .int .i64 0], .slice none 0 0, .int .u64 0], []⟩ 8 (by kernel_rfl) (by kernel_rfl) (by kernel_rfl) (by kernel_rfl)) ?_
  intro W base args ds gs before hval0 hW hcnd hsz0 _
  have hsz : (DataW.weightsEach Try.prog (Try.f17.params.toList ++ Rows.shareSumsSpec.plain.varTypes Try.prog) (ds ++ gs)).all (· ≤ reachBytes) = true := hsz0
  have hval : ∀ (j : Nat) t v, Try.f17.params[j]? = some t → args[j]? = some v → Value.okWide Try.prog W .any base t v := hval0
  have hW' := hW
  obtain ⟨p, q, hA0, hV, rfl, hfz, hnd⟩ := hW
  have hA : DataW.TrodAll enc Try.prog W 0 (fun _ => true) true Try.f17.params.toList args.toList ds p := hA0
  rw [Try.params17] at hA hval hsz
  obtain ⟨v0, vs0, d0, ds0, p0, q0, hargs, rfl, rfl, h0, r0⟩ := trodAll_cons hA
  obtain ⟨v1, vs1, d1, ds1, p1, q1, rfl, rfl, rfl, h1, r1⟩ := trodAll_cons r0
  obtain ⟨v2, vs2, d2, ds2, p2, q2, rfl, rfl, rfl, h2, r2⟩ := trodAll_cons r1
  obtain ⟨rfl, rfl, rfl⟩ := trodAll_nil r2
  obtain rfl : args = #[v0, v1, v2] := by cases args; simp_all
  obtain ⟨rfl, rfl⟩ := trodVars_none hV
  have k0 := h0
  have lt0 : ∀ x ∈ p0, x.block < W.heap.size := by obtain ⟨m, hm⟩ := k0; exact DataW.trod_lt m _ _ _ hm
  obtain ⟨cs0, rfl, hn0⟩ := okWide_agg Try.underlying24 (hval 0 24 v0 rfl rfl)
  obtain ⟨⟨x0_0, x0_1, x0_2⟩, K0, ⟨w0_0, w0_1, w0_2⟩⟩ := arg op0 (by show cs0.toList.length = _; rw [Array.length_toList, hn0]; kernel_rfl) h0 hsz (j := 0) rfl rfl
  obtain ⟨g0_0, rg0_0, qg0_0, l0_0, M0_0⟩ := K0
  have l0_0' : g0_0 = [Value.int .u64 x0_0] := l0_0
  obtain ⟨g0_1, rg0_1, qg0_1, l0_1, M0_1⟩ := M0_0
  have l0_1' : g0_1 = [Value.int .i64 x0_1] := l0_1
  have M0_1' : rg0_1 = [Value.int .i64 x0_2] := M0_1
  obtain rfl : cs0 = #[.int .u64 x0_0, .int .i64 x0_1, .int .i64 x0_2] := by
    apply Array.toList_inj.1
    have z0 : cs0.toList = _ := qg0_0
    rw [z0, l0_0', qg0_1, l0_1', M0_1']
    rfl
  have k1 := h1
  have lt1 : ∀ x ∈ p1, x.block < W.heap.size := by obtain ⟨m, hm⟩ := k1; exact DataW.trod_lt m _ _ _ hm
  obtain ⟨a1, len1, cap1, rfl⟩ := okWide_slice Try.underlying25 (hval 1 25 v1 rfl rfl)
  obtain ⟨x1, ⟨A1, c1, e1, hc1, hr1⟩, w1⟩ := arg op1 rfl h1 hsz (j := 1) rfl rfl
  have e1' : [Value.slice a1 len1 cap1] = [Value.slice A1 x1.length c1] := e1
  obtain ⟨rfl, rfl, rfl⟩ : a1 = A1 ∧ len1 = x1.length ∧ cap1 = c1 := by simpa using e1'
  have k2 := h2
  have lt2 : ∀ x ∈ p2, x.block < W.heap.size := by obtain ⟨m, hm⟩ := k2; exact DataW.trod_lt m _ _ _ hm
  obtain ⟨x2, rfl⟩ := okWide_int Try.underlying22 (hval 2 22 v2 rfl rfl)
  obtain ⟨y2, e2, w2⟩ := arg op2 rfl h2 hsz (j := 2) rfl rfl
  have e2' : [Value.int .u64 x2] = [Value.int .u64 y2] := e2
  obtain rfl : x2 = y2 := by simpa using e2'
  clear hA0 hval0 hsz0 hsz
  obtain ⟨k, h⟩ := L.shareSums x0_0 x0_1 x0_2 x1 x2 w0_0 w0_1 w0_2 w1 w2
  refine (juntolaw04_ShareSums.calls k x0_0 x0_1 x0_2 _ _ x1 x2 true W hr1 hc1 h).mono fun e W' ⟨he, bel⟩ => ?_
  subst he
  exact ⟨_, rfl, _, _, _, [], _, [], hW', trodAll_mk1 (shut_bool Try.underlying4 _), (trodAll_cons_mk (Below.trod laidOut (by kernel_rfl) (of_decide_eq_true (by kernel_rfl)) k0 bel lt0) (trodAll_cons_mk (Below.trod laidOut (by kernel_rfl) (of_decide_eq_true (by kernel_rfl)) k1 bel lt1) (trodAll_cons_mk (Below.trod laidOut (by kernel_rfl) (of_decide_eq_true (by kernel_rfl)) k2 bel lt2) trodAll_mk0))), rfl, bel.frame _, fun h => by cases h⟩
set_option maxRecDepth 100000 in
theorem closed : joinedFacts Try.pinned.checked.prog 17 Try.f17 Rows.shareSumsSpec Rows.shareSumsRow = true := by
  unfold joinedFacts
  repeat' with_reducible refine Bool.and_eq_true_iff.2 ⟨?_, ?_⟩
  all_goals first
    | with_reducible exact Facts.enters
    | (rw [Facts.final]; kernel_rfl)
    | (rw [Facts.made]; kernel_rfl)
    | kernel_rfl
theorem over : Rows.shareSumsRow.holds Try.pinned (OpenSpec.ofChange Rows.shareSumsSpec) :=
  OpenClaim.holds_of_wide 17 Try.f17 rfl rfl rfl rfl rfl rfl rfl ⟨rfl, rfl, rfl, rfl, rfl⟩ rfl rfl rfl rfl rfl (by kernel_rfl) Try.func17 closed
    (of_decide_eq_true (by kernel_rfl)) (by unfold Func.isWrapper; first | (rw [if_pos (by decide +kernel)]; kernel_rfl) | (rw [if_neg (by decide +kernel)]; exact ⟨rfl, rfl⟩))
    (fun os started H enc _ => lifted os started H enc)
theorem proved : Rows.ShareSumsSaid := over
#print axioms proved
end Go.Proofs.Ytjjnfobeeflnhaa.shareSums
namespace Go.Proofs.Ytjjnfobeeflnhaa
/-- The row, under a short name, for the claim. -/
theorem shareSums_holds : Rows.ShareSumsSaid := shareSums.proved
end Go.Proofs.Ytjjnfobeeflnhaa
