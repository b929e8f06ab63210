/- Part 6 of the proof of ShareNothing: what the functions compute as plain Lean functions, that the machine comes to just these answers, and that the answer is true; no conditions. -/
import Derived.Test.YtjjnfobeeflnhaaShareNothingZ0
import Derived.Test.YtjjnfobeeflnhaaShareNothingZ1
import Derived.Test.YtjjnfobeeflnhaaShareNothingZ2
import Derived.Test.YtjjnfobeeflnhaaShareNothingZ3
import Derived.Test.YtjjnfobeeflnhaaShareNothingZ4
import Derived.Test.YtjjnfobeeflnhaaShareNothingZ5
import Derived.Test.YtjjnfobeeflnhaaRows
import Derived.WalkKit
import Derived.ProofKit
import Derived.OpenShut
import Derived.ShutString
import Derived.ChangeOld
import Derived.Below
import Derived.SizedLaws
/- What Go functions of the program compute, as plain Lean functions, and that the machine comes to just these answers (written by a program for this seat). -/
namespace Go.Proofs.Ytjjnfobeeflnhaa.J
open Go.RowKit Go.Proofs.YtjjnfobeeflnhaaW.PrintWords Go.Proofs.YtjjnfobeeflnhaaW.PrintLast Go.Proofs.YtjjnfobeeflnhaaW.PrintMore
attribute [local go_sem] max2_int min2_int max_two min_two max_three min_three max_four min_four   -- for this text's walks alone
set_option linter.unusedVariables false
set_option linter.unusedSimpArgs false

/-! ### juntoref02_Twice: function 98 -/
mutual
def juntoref02_Twice.l0 : Nat → List Int → Int → Int → Option (Bool)
  | 0, _, _, _ => none
  | k + 1, x0, x6, x7 => if x7 < x6 then (juntoref02_Twice.l1 k x0 x7 0 x6 x7) else (some false)
def juntoref02_Twice.l1 : Nat → List Int → Int → Int → Int → Int → Option (Bool)
  | 0, _, _, _, _, _ => none
  | k + 1, x0, x3, x4, x6, x7 => if x4 < x3 then (if 0 ≤ x3 then (if x3 < (x0.length : Int) then (if 0 ≤ x4 then (if x4 < (x0.length : Int) then (if (rd x0 x3) = (rd x0 x4) then (some true) else (juntoref02_Twice.l1 k x0 x3 (wrap64 (x4 + 1)) x6 x7)) else (none)) else (none)) else (none)) else (none)) else (juntoref02_Twice.l0 k x0 x6 (wrap64 (x7 + 1)))
end
def juntoref02_Twice.f (k : Nat) (l0 : List Int) : Option (Bool) := juntoref02_Twice.l0 k l0 (l0.length : Int) 0
theorem juntoref02_Twice.mono_l : ∀ k, (∀ y0 y1 y2, LeO (juntoref02_Twice.l0 k y0 y1 y2) (juntoref02_Twice.l0 (k + 1) y0 y1 y2)) ∧ (∀ y0 y1 y2 y3 y4, LeO (juntoref02_Twice.l1 k y0 y1 y2 y3 y4) (juntoref02_Twice.l1 (k + 1) y0 y1 y2 y3 y4))
  | 0 => ⟨fun _ _ _ r h => by simp [juntoref02_Twice.l0] at h, fun _ _ _ _ _ r h => by simp [juntoref02_Twice.l1] at h⟩
  | k + 1 => by
    obtain ⟨ih0, ih1⟩ := juntoref02_Twice.mono_l k
    refine ⟨?_, ?_⟩
    · intro y0 y1 y2
      unfold juntoref02_Twice.l0
      repeat' first
      | (with_reducible exact ih0 _ _ _)
      | (with_reducible exact ih1 _ _ _ _ _)
      | (with_reducible exact LeO.refl _)
      | (with_reducible exact LeO.none _)
      | (with_reducible refine LeO.ite ?_ ?_)
      | (with_reducible refine LeO.bind ?_ (fun _ => ?_))
      | exact ih0 _ _ _
      | exact ih1 _ _ _ _ _
      | exact LeO.none _
      | refine LeO.ite ?_ ?_
      | refine LeO.bind ?_ (fun _ => ?_)
    · intro y0 y1 y2 y3 y4
      unfold juntoref02_Twice.l1
      repeat' first
      | (with_reducible exact ih0 _ _ _)
      | (with_reducible exact ih1 _ _ _ _ _)
      | (with_reducible exact LeO.refl _)
      | (with_reducible exact LeO.none _)
      | (with_reducible refine LeO.ite ?_ ?_)
      | (with_reducible refine LeO.bind ?_ (fun _ => ?_))
      | exact ih0 _ _ _
      | exact ih1 _ _ _ _ _
      | exact LeO.none _
      | refine LeO.ite ?_ ?_
      | refine LeO.bind ?_ (fun _ => ?_)
theorem juntoref02_Twice.mono : ∀ a0 k, LeO (juntoref02_Twice.f k a0) (juntoref02_Twice.f (k + 1) a0) := by
  intro a0 k
  obtain ⟨ih0, ih1⟩ := juntoref02_Twice.mono_l k
  unfold juntoref02_Twice.f
  repeat' first
      | (with_reducible exact ih0 _ _ _)
      | (with_reducible exact ih1 _ _ _ _ _)
      | (with_reducible exact LeO.refl _)
      | (with_reducible exact LeO.none _)
      | (with_reducible refine LeO.ite ?_ ?_)
      | (with_reducible refine LeO.bind ?_ (fun _ => ?_))
      | exact ih0 _ _ _
      | exact ih1 _ _ _ _ _
      | exact LeO.none _
      | refine LeO.ite ?_ ?_
      | refine LeO.bind ?_ (fun _ => ?_)
set_option maxHeartbeats 8000000 in
set_option maxRecDepth 100000 in
theorem juntoref02_Twice.calls (k : Nat) (A0 : Option Addr) (c0 : Nat) (l0 : List Int) (r : Bool) (w : World) (hr0 : Kd.C (Kd.int .u64) w A0 l0.length l0) (hc0 : l0.length ≤ c0) (h : juntoref02_Twice.f k l0 = some r) :
    Calls Try.prog 98 #[.slice A0 l0.length c0] w fun e w' => e = .returned (.bool r) ∧ Drawn0 w w' := by
  have HR0 := Aside0.mk hr0
  have HC0 := Aside0.mk hc0
  clear hr0 hc0
  have H : (juntoref02_Twice.l0 k l0 (l0.length : Int) 0) = some r := h
  clear h
  have H' := Aside0.mk H
  clear H
  go_enter Try.func98, Try.ntmps98
  go_wp2
  repeat (go_quiet (fail); try go_wp2)
  go_loopg [7] k (fun kq v7 w' => ∃ (x7_1 : Int), v7 = .int .i64 x7_1 ∧ Aside0 (juntoref02_Twice.l0 kq l0 (l0.length : Int) x7_1 = some r) ∧ Aside0 (kq ≤ k) ∧ Drawn0 w w')
  case atStart => exact ⟨(0), (by first | rfl | (simp; done) | (simp [*]; done)), H', ⟨Nat.le_refl _⟩, by repeat (first | exact Drawn0.refl _ | apply Drawn0.step)⟩
  case round =>
    clear H'
    obtain ⟨x7_1, rfl, HA, HK1, ⟨m1, rfl⟩⟩ := hrel
    cases gk with
    | zero => exact absurd HA.out (by simp [juntoref02_Twice.l0])
    | succ k1 =>
      have H := HA.out
      clear HA
      simp only [juntoref02_Twice.l0] at H
      by_cases c2 : x7_1 < (l0.length : Int)
      · rw [if_pos c2] at H
        have c2b0 : decide (x7_1 < (l0.length : Int)) = true := decide_eq_true c2
        clear c2
        have H' := Aside0.mk H
        clear H
        go_wp2
        repeat (go_quiet (fail); try go_wp2)
        go_loopg [4] k1 (fun kq v4 w' => ∃ (x4_2 : Int), v4 = .int .i64 x4_2 ∧ Aside0 (juntoref02_Twice.l1 kq l0 x7_1 x4_2 (l0.length : Int) x7_1 = some r) ∧ Aside0 (kq ≤ k1) ∧ Drawn0 w w')
        case atStart => exact ⟨(0), (by first | rfl | (simp; done) | (simp [*]; done)), H', ⟨Nat.le_refl _⟩, by repeat (first | exact Drawn0.refl _ | apply Drawn0.step)⟩
        case round =>
          clear H'
          try clear c2
          try clear c2b0
          try clear p2
          obtain ⟨x4_2, rfl, HA, HK2, ⟨m2, rfl⟩⟩ := hrel
          cases gk with
          | zero => exact absurd HA.out (by simp [juntoref02_Twice.l1])
          | succ k2 =>
            have H := HA.out
            clear HA
            simp only [juntoref02_Twice.l1] at H
            by_cases c3 : x4_2 < x7_1
            · rw [if_pos c3] at H
              have c3b0 : decide (x4_2 < x7_1) = true := decide_eq_true c3
              clear c3
              by_cases c4 : 0 ≤ x7_1
              · rw [if_pos c4] at H
                have c4b0 : decide (0 ≤ x7_1) = true := decide_eq_true c4
                clear c4
                by_cases c5 : x7_1 < (l0.length : Int)
                · rw [if_pos c5] at H
                  have c5b0 : decide (x7_1 < (l0.length : Int)) = true := decide_eq_true c5
                  clear c5
                  by_cases c6 : 0 ≤ x4_2
                  · rw [if_pos c6] at H
                    have c6b0 : decide (0 ≤ x4_2) = true := decide_eq_true c6
                    clear c6
                    by_cases c7 : x4_2 < (l0.length : Int)
                    · rw [if_pos c7] at H
                      have c7b0 : decide (x4_2 < (l0.length : Int)) = true := decide_eq_true c7
                      clear c7
                      by_cases c8 : (rd l0 x7_1) = (rd l0 x4_2)
                      · rw [if_pos c8] at H
                        have c8b0 : ((rd l0 x7_1) == (rd l0 x4_2)) = true := beq_iff_eq.mpr c8
                        have c8b1 : ((rd l0 x7_1) != (rd l0 x4_2)) = false := bne_eq_false_iff_eq.mpr c8
                        clear c8
                        obtain rfl := Option.some.inj H
                        have p1302 : 0 ≤ (x7_1 : Int) := of_decide_eq_true (by first | (with_reducible assumption) | assumption)
                        have q1302 : x7_1 < (l0.length : Int) := of_decide_eq_true (by first | (with_reducible assumption) | assumption)
                        obtain ⟨ad1302, e1302, hx1302_0⟩ := Kd.at_int HR0.out x7_1 p1302 q1302
                        cases e1302
                        replace p1302 := eq_true p1302
                        replace q1302 := eq_true q1302
                        have p1303 : 0 ≤ (x4_2 : Int) := of_decide_eq_true (by first | (with_reducible assumption) | assumption)
                        have q1303 : x4_2 < (l0.length : Int) := of_decide_eq_true (by first | (with_reducible assumption) | assumption)
                        obtain ⟨ad1303, e1303, hx1303_0⟩ := Kd.at_int HR0.out x4_2 p1303 q1303
                        obtain rfl : ad1302 = ad1303 := (by injection e1303)
                        replace p1303 := eq_true p1303
                        replace q1303 := eq_true q1303
                        go_wp2
                        repeat (go_quiet (fail); try go_wp2)
                        go_ret
                        exact ⟨by first | rfl | (simp; done) | (simp [*]; done), by repeat (first | exact Drawn0.refl _ | apply Drawn0.step)⟩
                      · rw [if_neg c8] at H
                        have c8b0 : ((rd l0 x7_1) == (rd l0 x4_2)) = false := beq_eq_false_iff_ne.mpr c8
                        have c8b1 : ((rd l0 x7_1) != (rd l0 x4_2)) = true := bne_iff_ne.mpr c8
                        have H' := Aside0.mk H
                        clear H
                        have p1302 : 0 ≤ (x7_1 : Int) := of_decide_eq_true (by first | (with_reducible assumption) | assumption)
                        have q1302 : x7_1 < (l0.length : Int) := of_decide_eq_true (by first | (with_reducible assumption) | assumption)
                        obtain ⟨ad1302, e1302, hx1302_0⟩ := Kd.at_int HR0.out x7_1 p1302 q1302
                        cases e1302
                        replace p1302 := eq_true p1302
                        replace q1302 := eq_true q1302
                        have p1303 : 0 ≤ (x4_2 : Int) := of_decide_eq_true (by first | (with_reducible assumption) | assumption)
                        have q1303 : x4_2 < (l0.length : Int) := of_decide_eq_true (by first | (with_reducible assumption) | assumption)
                        obtain ⟨ad1303, e1303, hx1303_0⟩ := Kd.at_int HR0.out x4_2 p1303 q1303
                        obtain rfl : ad1302 = ad1303 := (by injection e1303)
                        replace p1303 := eq_true p1303
                        replace q1303 := eq_true q1303
                        go_wp2
                        repeat (go_quiet (fail); try go_wp2)
                        go_roundg k2
                        case measure => have := HK1.out; have := HK2.out; omega
                        case rel => exact ⟨(wrap64 (x4_2 + 1)), (by first | rfl | (simp; done) | (simp [*]; done)), H', ⟨by have := HK1.out; have := HK2.out; omega⟩, by repeat (first | exact Drawn0.refl _ | apply Drawn0.step)⟩
                    · rw [if_neg c7] at H
                      exact absurd H (by simp)
                  · rw [if_neg c6] at H
                    exact absurd H (by simp)
                · rw [if_neg c5] at H
                  exact absurd H (by simp)
              · rw [if_neg c4] at H
                exact absurd H (by simp)
            · rw [if_neg c3] at H
              have c3b0 : decide (x4_2 < x7_1) = false := decide_eq_false c3
              clear c3
              have H' := Aside0.mk H
              clear H
              go_wp2
              repeat (go_quiet (fail); try go_wp2)
              go_roundg k2
              case measure => have := HK1.out; have := HK2.out; omega
              case rel => exact ⟨(wrap64 (x7_1 + 1)), (by first | rfl | (simp; done) | (simp [*]; done)), H', ⟨by have := HK1.out; have := HK2.out; omega⟩, by repeat (first | exact Drawn0.refl _ | apply Drawn0.step)⟩
      · rw [if_neg c2] at H
        have c2b0 : decide (x7_1 < (l0.length : Int)) = false := decide_eq_false c2
        clear c2
        obtain rfl := Option.some.inj H
        go_wp2
        repeat (go_quiet (fail); try go_wp2)
        go_ret
        exact ⟨by first | rfl | (simp; done) | (simp [*]; done), by repeat (first | exact Drawn0.refl _ | apply Drawn0.step)⟩

end Go.Proofs.Ytjjnfobeeflnhaa.J

/- Whether no two numbers of a row are alike: the program's sort and compaction, and the reference's search, tell the same. -/
namespace Go.Proofs.Ytjjnfobeeflnhaa.L
open Go.RowKit Go.Proofs.YtjjnfobeeflnhaaW.PrintWords Go.Proofs.Ytjjnfobeeflnhaa.J
set_option linter.unusedVariables false
set_option linter.unusedSimpArgs false

/-- An elder place, from j on, holds what place i holds. -/
def tIn (l : List Int) (i j : Nat) : Bool := (List.range i).any fun b => decide (j ≤ b) && decide (l.getD i 0 = l.getD b 0)
/-- From place i on some place has an elder one alike. -/
def tAll (l : List Int) (i : Nat) : Bool := (List.range l.length).any fun a => decide (i ≤ a) && tIn l a 0
theorem tIn_iff (l : List Int) (i j : Nat) : tIn l i j = true ↔ ∃ b, b < i ∧ j ≤ b ∧ l.getD i 0 = l.getD b 0 := by
  unfold tIn
  simp only [List.any_eq_true, List.mem_range, Bool.and_eq_true, decide_eq_true_eq]
theorem tAll_iff (l : List Int) (i : Nat) : tAll l i = true ↔ ∃ a, a < l.length ∧ i ≤ a ∧ tIn l a 0 = true := by
  unfold tAll
  simp only [List.any_eq_true, List.mem_range, Bool.and_eq_true, decide_eq_true_eq]
theorem tIn_step (l : List Int) (i j : Nat) (h : j < i) : tIn l i j = (decide (l.getD i 0 = l.getD j 0) || tIn l i (j + 1)) := by
  rw [Bool.eq_iff_iff, Bool.or_eq_true, tIn_iff, tIn_iff, decide_eq_true_eq]
  constructor
  · rintro ⟨b, h1, h2, h3⟩
    by_cases e : b = j
    · subst e; exact .inl h3
    · exact .inr ⟨b, h1, by omega, h3⟩
  · rintro (h3 | ⟨b, h1, h2, h3⟩)
    · exact ⟨j, h, Nat.le_refl _, h3⟩
    · exact ⟨b, h1, by omega, h3⟩
theorem tIn_end (l : List Int) (i j : Nat) (h : i ≤ j) : tIn l i j = false := by
  rw [Bool.eq_false_iff]
  intro e
  obtain ⟨b, h1, h2, _⟩ := (tIn_iff l i j).1 e
  omega
theorem tAll_step (l : List Int) (i : Nat) (h : i < l.length) : tAll l i = (tIn l i 0 || tAll l (i + 1)) := by
  rw [Bool.eq_iff_iff, Bool.or_eq_true, tAll_iff, tAll_iff]
  constructor
  · rintro ⟨a, h1, h2, h3⟩
    by_cases e : a = i
    · subst e; exact .inl h3
    · exact .inr ⟨a, h1, by omega, h3⟩
  · rintro (h3 | ⟨a, h1, h2, h3⟩)
    · exact ⟨i, h, Nat.le_refl _, h3⟩
    · exact ⟨a, h1, by omega, h3⟩
theorem tAll_end (l : List Int) (i : Nat) (h : l.length ≤ i) : tAll l i = false := by
  rw [Bool.eq_false_iff]
  intro e
  obtain ⟨a, h1, h2, _⟩ := (tAll_iff l i).1 e
  omega
theorem tAll_zero (l : List Int) : tAll l 0 = !decide l.Nodup := by
  rw [Bool.eq_iff_iff, tAll_iff, Bool.not_eq_true', decide_eq_false_iff_not]
  constructor
  · rintro ⟨a, h1, _, h3⟩ hn
    obtain ⟨b, h4, _, h5⟩ := (tIn_iff l a 0).1 h3
    have := List.pairwise_iff_getElem.1 hn b a (by omega) h1 h4
    simp only [List.getD_eq_getElem?_getD, List.getElem?_eq_getElem h1, List.getElem?_eq_getElem (show b < l.length by omega), Option.getD_some] at h5
    exact this h5.symm
  · intro hn
    apply Classical.byContradiction
    intro hc
    refine hn (List.pairwise_iff_getElem.2 fun i j hi hj hij e => hc ⟨j, hj, Nat.zero_le _, (tIn_iff l j 0).2 ⟨i, hij, Nat.zero_le _, ?_⟩⟩)
    simp only [List.getD_eq_getElem?_getD, List.getElem?_eq_getElem hj, List.getElem?_eq_getElem hi, Option.getD_some]
    exact e.symm
theorem twice_inner (l : List Int) (hl : l.length ≤ 17592186044416) (i : Nat) (hi : i < l.length) (next : Ev (fun k => juntoref02_Twice.l0 k l (l.length : Int) ((i + 1 : Nat) : Int)) (tAll l (i + 1))) (m : Nat) : ∀ j : Nat, j + m = i →
    Ev (fun k => juntoref02_Twice.l1 k l (i : Int) (j : Int) (l.length : Int) (i : Int)) (tIn l i j || tAll l (i + 1)) := by
  induction m with
  | zero =>
    intro j hj
    have hw : wrap64 ((i : Int) + 1) = ((i + 1 : Nat) : Int) := by rw [w64_small (by omega) (by omega)]; omega
    rw [tIn_end l i j (by omega), Bool.false_or]
    refine Ev.step (f := fun k => juntoref02_Twice.l0 k l (l.length : Int) ((i + 1 : Nat) : Int)) (fun k => ?_) next
    simp only [juntoref02_Twice.l1]
    rw [if_neg (by omega), hw]
  | succ m ih =>
    intro j hj
    have hw : wrap64 ((j : Int) + 1) = ((j + 1 : Nat) : Int) := by rw [w64_small (by omega) (by omega)]; omega
    rw [tIn_step l i j (by omega)]
    by_cases e : l.getD i 0 = l.getD j 0
    · rw [decide_eq_true e, Bool.true_or, Bool.true_or]
      refine Ev.step (f := fun k => some true) (fun k => ?_) (Ev.now _)
      conv => lhs; simp only [juntoref02_Twice.l1]
      rw [if_pos (by omega), if_pos (by omega), if_pos (by omega), if_pos (by omega), if_pos (by omega), rd_getD, rd_getD, if_pos e]
    · rw [decide_eq_false e, Bool.false_or]
      refine Ev.step (f := fun k => juntoref02_Twice.l1 k l (i : Int) ((j + 1 : Nat) : Int) (l.length : Int) (i : Int)) (fun k => ?_) (ih (j + 1) (by omega))
      conv => lhs; simp only [juntoref02_Twice.l1]
      rw [if_pos (by omega), if_pos (by omega), if_pos (by omega), if_pos (by omega), if_pos (by omega), rd_getD, rd_getD, if_neg e, hw]
theorem twice_outer (l : List Int) (hl : l.length ≤ 17592186044416) (m : Nat) : ∀ i : Nat, i + m = l.length → Ev (fun k => juntoref02_Twice.l0 k l (l.length : Int) (i : Int)) (tAll l i) := by
  induction m with
  | zero =>
    intro i hi
    rw [tAll_end l i (by omega)]
    refine Ev.step (f := fun k => some false) (fun k => ?_) (Ev.now _)
    simp only [juntoref02_Twice.l0]
    rw [if_neg (by omega)]
  | succ m ih =>
    intro i hi
    rw [tAll_step l i (by omega)]
    refine Ev.step (f := fun k => juntoref02_Twice.l1 k l (i : Int) ((0 : Nat) : Int) (l.length : Int) (i : Int)) (fun k => ?_) (twice_inner l hl i (by omega) (ih (i + 1) (by omega)) i 0 (by omega))
    conv => lhs; simp only [juntoref02_Twice.l0]
    rw [if_pos (by omega)]
    rfl
theorem twice_at (l : List Int) (hl : l.length ≤ 17592186044416) : Ev (fun k => juntoref02_Twice.f k l) (!decide l.Nodup) := by
  have h := twice_outer l hl l.length 0 (by omega)
  rw [tAll_zero] at h
  exact h

end Go.Proofs.Ytjjnfobeeflnhaa.L

/- The statement ShareBack as plain Lean. -/
namespace Go.Proofs.Ytjjnfobeeflnhaa.L
open Go.RowKit Go.Proofs.YtjjnfobeeflnhaaW.PrintWords Go.Proofs.Ytjjnfobeeflnhaa.J
set_option linter.unusedVariables false
set_option linter.unusedSimpArgs false

section
variable {q : Nat} [NeZero q]
theorem sharesF_length (F : List (Fin q)) (n : Nat) : (sharesF F n).length = n := Fld.mk_length _ _
end
end Go.Proofs.Ytjjnfobeeflnhaa.L

/- The statement ShareNothing as plain Lean: what it wants, and the law. -/
namespace Go.Proofs.Ytjjnfobeeflnhaa.L
open Go.RowKit Go.Proofs.YtjjnfobeeflnhaaW.PrintWords Go.Proofs.Ytjjnfobeeflnhaa.J
set_option linter.unusedVariables false
set_option linter.unusedSimpArgs false

section
variable {q : Nat} [NeZero q]
/-- The tape of a polynomial: what a sharing draws from it is the polynomial. -/
theorem resid_nI (a : Fin q) : resid q (nI a) = a := by
  apply nI_inj
  rw [nI_resid]
  have := nI_range a
  exact Int.emod_eq_of_lt this.1 this.2
theorem drawn_oI (f : List (Fin q)) : drawn q (oI f) f.length = f := by
  unfold drawn
  have e : Fld.mk f.length (fun i => resid q ((oI f).getD i 0)) = Fld.mk f.length (Fld.co f) := mk_congr fun i hi => by rw [oI_getD, resid_nI]
  rw [e]
  apply List.ext_getElem (by simp [Fld.mk])
  intro i h1 h2
  simp only [Fld.mk, List.getElem_map, List.getElem_range]
  exact Fld.co_lt h2
/-- A row filled up with zeros to a length. -/
def padF (f : List (Fin q)) (n : Nat) : List (Fin q) := (f ++ List.replicate n 0).take n
theorem padF_length (f : List (Fin q)) (n : Nat) : (padF f n).length = n := by simp [padF]
theorem padF_co (f : List (Fin q)) (n i : Nat) (h : f.length ≤ n) : Fld.co (padF f n) i = Fld.co f i := by
  unfold padF
  rw [co_take]
  split
  · rw [co_append]
    split
    · rfl
    · rw [co_zeros, Fld.co_ge (by omega)]
  · rw [Fld.co_ge (by omega)]
/-- The polynomial through the secret at 0 and d shares, cut behind its first number: the tape. -/
theorem nothing_make (L : List (Fin q)) (d : Nat) (hl : L.length ≤ d + 1) (hL : Fld.trim L = L) (s : Fin q) (hs : Fld.ev L 0 = s) : Fld.trim (s :: drawn q (oI ((padF L (d + 1)).drop 1)) d) = L := by
  have h1 : ((padF L (d + 1)).drop 1).length = d := by rw [List.length_drop, padF_length]; omega
  have h2 : drawn q (oI ((padF L (d + 1)).drop 1)) d = (padF L (d + 1)).drop 1 := by
    have := drawn_oI ((padF L (d + 1)).drop 1)
    rwa [h1] at this
  rw [h2]
  have h3 : s = Fld.co (padF L (d + 1)) 0 := by rw [padF_co L _ 0 hl, ← hs, at_first]
  have h4 : s :: (padF L (d + 1)).drop 1 = padF L (d + 1) := by
    have hp := padF_length L (d + 1)
    cases hq : padF L (d + 1) with
    | nil => rw [hq] at hp; simp at hp
    | cons a r => rw [h3, hq, Fld.co_cons_zero]; rfl
  rw [h4]
  conv => rhs; rw [← hL]
  exact Fld.trim_congr fun i => padF_co L (d + 1) i hl
end
section
variable {q : Nat}
theorem pts_succ (X Y : Nat → Fin q) (m : Nat) : ptsF (m + 1) X Y = ptsF m X Y ++ [(⟨nI (X m), nI (Y m)⟩ : S86)] := by
  unfold ptsF
  rw [List.range_succ, List.map_append]
  rfl
end
section
variable {q : Nat} [NeZero q]
/-- The places: 0 and the parties'; the values there: the secret and the shares. -/
def nX (xs : List (Fin q)) (i : Nat) : Fin q := if i = 0 then 0 else Fld.co xs (i - 1)
def nY (s : Fin q) (ys : List (Fin q)) (i : Nat) : Fin q := if i = 0 then s else Fld.co ys (i - 1)
theorem nothing_l1 (n t : Int) (xs ys : List (Fin q)) (hq : q ≤ 65537) (hy : ys.length = xs.length) (hd : xs.length ≤ 100) (s : Fin q) (z a b : Int) {r : Bool}
    (next : Ev (fun k => juntolaw04_ShareNothing.l1 k (xs.length : Int) (nI s) (ptsF (xs.length + 1) (nX xs) (nY s ys)) z (oI xs) (xs.length : Int) (xs.length : Int) a b (q : Int) n t (oI xs) (oI ys)) r) (m : Nat) : ∀ i : Nat, i + m = xs.length →
    Ev (fun k => juntolaw04_ShareNothing.l1 k (xs.length : Int) (nI s) (ptsF (i + 1) (nX xs) (nY s ys)) z (oI xs) (xs.length : Int) (i : Int) a b (q : Int) n t (oI xs) (oI ys)) r := by
  induction m with
  | zero =>
    intro i hi
    obtain rfl : i = xs.length := by omega
    exact next
  | succ m ih =>
    intro i hi
    have hw : wrap64 ((i : Int) + 1) = ((i + 1 : Nat) : Int) := by rw [w64_small (by omega) (by omega)]; omega
    have hr := nI_range (Fld.co xs i)
    refine Ev.step (f := fun k => juntolaw04_ShareNothing.l1 k (xs.length : Int) (nI s) (ptsF (i + 1) (nX xs) (nY s ys) ++ [(⟨IntKind.u64.wrap (rd (oI xs) (i : Int)), rd (oI ys) (i : Int)⟩ : S86)]) z (oI xs) (xs.length : Int) (wrap64 ((i : Int) + 1)) a b (q : Int) n t (oI xs) (oI ys)) (fun k => ?_) ?_
    · conv => lhs; simp only [juntolaw04_ShareNothing.l1]
      rw [if_pos (by omega), if_pos (by omega), if_pos (by rw [oI_length]; omega), if_pos (by rw [oI_length]; omega), if_pos (by rw [ptsF_length]; omega)]
    · have e : ptsF (i + 1) (nX xs) (nY s ys) ++ [(⟨IntKind.u64.wrap (rd (oI xs) (i : Int)), rd (oI ys) (i : Int)⟩ : S86)] = ptsF (i + 1 + 1) (nX xs) (nY s ys) := by
        rw [pts_succ _ _ (i + 1), rd_oI, rd_oI, u64_small (by omega) (by omega)]
        rfl
      rw [hw, e]
      exact ih (i + 1) (by omega)
theorem nothing_l2 (hq : q ≤ 65537) (n : Nat) (t : Int) (hn : n < q) (L xs ys : List (Fin q)) (hx : ∀ c ∈ oI xs, 0 < c ∧ c ≤ (n : Int)) (hy : ys.length = xs.length) (hs : xs.length ≤ 1000) (h : ∀ i, i < xs.length → Fld.ev L (Fld.co xs i) = Fld.co ys i) (z a b : Int) {r : Bool}
    (next : Ev (fun k => juntolaw04_ShareNothing.l0 k (xs.length : Int) (wrap64 (z + 1)) a b (q : Int) (n : Int) t (oI xs) (oI ys)) r) (m : Nat) : ∀ i : Nat, i + m = xs.length →
    Ev (fun k => juntolaw04_ShareNothing.l2 k (xs.length : Int) (oI (sharesF L n)) z (oI xs) (xs.length : Int) (i : Int) a b (q : Int) (n : Int) t (oI xs) (oI ys)) r := by
  induction m with
  | zero =>
    intro i hi
    refine Ev.step (fun k => ?_) next
    conv => lhs; simp only [juntolaw04_ShareNothing.l2]
    rw [if_neg (by omega)]
  | succ m ih =>
    intro i hi
    have hw : wrap64 ((i : Int) + 1) = ((i + 1 : Nat) : Int) := by rw [w64_small (by omega) (by omega)]; omega
    have hm : Fld.co xs i ∈ xs := by rw [Fld.co_lt (by omega)]; exact List.getElem_mem _
    have hc := hx _ (List.mem_map.2 ⟨_, hm, rfl⟩)
    obtain ⟨a', ha⟩ : ∃ a : Nat, nI (Fld.co xs i) = ((a : Nat) : Int) + 1 := ⟨(nI (Fld.co xs i) - 1).toNat, by omega⟩
    have han : a' < n := by omega
    have hpt : pt q a' = Fld.co xs i := nI_inj (by rw [nI_pt (by omega), ha])
    have hv : rd (oI (sharesF L n)) (a' : Int) = nI (Fld.ev L (Fld.co xs i)) := by
      rw [rd_oI, sharesF, Fld.co_mk, if_pos han, hpt]
    have hr : wrap64 (rd (oI xs) (i : Int) - 1) = (a' : Int) := by rw [rd_oI, ha, w64_small (by omega) (by omega)]; omega
    have hl : (oI (sharesF L n)).length = n := by rw [oI_length, sharesF, Fld.mk_length]
    refine Ev.step (f := fun k => juntolaw04_ShareNothing.l2 k (xs.length : Int) (oI (sharesF L n)) z (oI xs) (xs.length : Int) ((i + 1 : Nat) : Int) a b (q : Int) (n : Int) t (oI xs) (oI ys)) (fun k => ?_) (ih (i + 1) (by omega))
    conv => lhs; simp only [juntolaw04_ShareNothing.l2]
    rw [if_pos (by omega), if_pos (by omega), if_pos (by rw [oI_length]; omega), hr, if_pos (by omega), if_pos (by rw [hl]; omega), if_pos (by rw [oI_length]; omega), hv, h i (by omega), rd_oI, if_pos rfl, hw]
theorem nX_inj (xs : List (Fin q)) (hx : ∀ c ∈ oI xs, 0 < c) (hasc : (oI xs).Pairwise (· < ·)) : ∀ i j, i < xs.length + 1 → j < xs.length + 1 → nX xs i = nX xs j → i = j := by
  have pos : ∀ i, i < xs.length → 0 < nI (Fld.co xs i) := fun i hi => hx _ (List.mem_map.2 ⟨_, by rw [Fld.co_lt hi]; exact List.getElem_mem _, rfl⟩)
  have lt : ∀ i j, i < j → j < xs.length → nI (Fld.co xs i) < nI (Fld.co xs j) := fun i j hij hj => by
    have := List.pairwise_iff_getElem.1 hasc i j (by rw [oI_length]; omega) (by rw [oI_length]; omega) hij
    rw [Fld.co_lt (by omega), Fld.co_lt hj]
    simpa [oI] using this
  intro i j hi hj e
  unfold nX at e
  have e' := congrArg nI e
  clear e
  by_cases e1 : i = 0 <;> by_cases e2 : j = 0
  · omega
  · rw [if_pos e1, if_neg e2, nI_zero] at e'
    have := pos (j - 1) (by omega)
    omega
  · rw [if_neg e1, if_pos e2, nI_zero] at e'
    have := pos (i - 1) (by omega)
    omega
  · rw [if_neg e1, if_neg e2] at e'
    rcases Nat.lt_trichotomy (i - 1) (j - 1) with h | h | h
    · have := lt _ _ h (by omega)
      omega
    · omega
    · have := lt _ _ h (by omega)
      omega
set_option maxHeartbeats 2000000 in
theorem nothing_round (hp : Fld.Pr q) (h2 : 2 < q) (hq : q ≤ 65537) (n : Nat) (t : Int) (h0 : setupV (q : Int) (n : Int) t = 0) (xs ys : List (Fin q)) (hd : xs.length < n) (hy : ys.length = xs.length) (hx : ∀ c ∈ oI xs, 0 < c ∧ c ≤ (n : Int)) (hasc : (oI xs).Pairwise (· < ·)) (a b : Int) (z : Nat) (hz : z < 2) (hs0 : 0 ≤ juntolaw04_ShareNothing.pick a b (z : Int))
    (next : Ev (fun k => juntolaw04_ShareNothing.l0 k (xs.length : Int) (wrap64 ((z : Int) + 1)) a b (q : Int) (n : Int) t (oI xs) (oI ys)) true) :
    Ev (fun k => juntolaw04_ShareNothing.l0 k (xs.length : Int) (z : Int) a b (q : Int) (n : Int) t (oI xs) (oI ys)) true := by
  have hh := setupV_small h0
  have H0 := Aside0.mk h0
  clear h0
  have hxp : ∀ c ∈ oI xs, 0 < c := fun c hc => (hx c hc).1
  by_cases hge : juntolaw04_ShareNothing.pick a b (z : Int) ≥ (q : Int)
  · refine Ev.step (f := fun k => (juntolaw04_alive.f k).bind fun t => some t) (fun k => ?_) (Ev.bind alive04 (Ev.now _))
    conv => lhs; simp only [juntolaw04_ShareNothing.l0]
    rw [if_pos (by omega), if_pos (by omega), if_pos hge]
  obtain ⟨s, hs⟩ := nI_of (q := q) hs0 (by omega)
  have inj := nX_inj xs hxp hasc
  obtain ⟨L, hL⟩ : ∃ L, L = Fld.lg (nX xs) (nY s ys) (xs.length + 1) (xs.length + 1) := ⟨_, rfl⟩
  have hll : L.length ≤ xs.length + 1 := by rw [hL]; exact Fld.lg_length _ _ _ _ (Nat.le_refl _)
  have HLT := Aside0.mk (show Fld.trim L = L by rw [hL]; exact Fld.lg_tr _ _ _ _)
  have hat : ∀ k, k < xs.length + 1 → Fld.ev L (nX xs k) = nY s ys k := fun k hk => by
    rw [hL, Fld.lg_at hp _ _ _ inj k hk _ (Nat.le_refl _), if_pos hk]
  have hL0 := Aside0.mk (show Fld.ev L 0 = s from hat 0 (by omega))
  have hLi : ∀ i, i < xs.length → Fld.ev L (Fld.co xs i) = Fld.co ys i := fun i hi => hat (i + 1) (by omega)
  have thr := through_rows h2 hq (xs.length + 1) (by omega) (nX xs) (nY s ys)
  rw [← hL] at thr
  clear hL
  have mk := share_make_ok hq (n : Int) t H0.out s xs.length (by omega) (oI ((padF L (xs.length + 1)).drop 1)) (by rw [oI_length, List.length_drop, padF_length]; omega) (fun c hc => (oI_range _ c hc).1)
  rw [nothing_make L xs.length hll HLT.out s hL0.out] at mk
  have hdrop : (oI ((padF L (xs.length + 1)).drop 1)).drop xs.length = [] := List.drop_of_length_le (by rw [oI_length, List.length_drop, padF_length]; omega)
  rw [hdrop] at mk
  have hw1 : wrap64 ((xs.length : Int) + 1) = ((xs.length + 1 : Nat) : Int) := by rw [w64_small (by omega) (by omega)]; omega
  have start : [(⟨0, nI s⟩ : S86)] = ptsF (0 + 1) (nX xs) (nY s ys) := by
    rw [pts_succ]
    show _ = [(⟨nI (0 : Fin q), nI s⟩ : S86)]
    rw [nI_zero]
  refine Ev.step (f := fun k => juntolaw04_ShareNothing.l1 k (xs.length : Int) (nI s) (ptsF (0 + 1) (nX xs) (nY s ys)) (z : Int) (oI xs) (xs.length : Int) ((0 : Nat) : Int) a b (q : Int) (n : Int) t (oI xs) (oI ys)) (fun k => ?_) ?_
  · conv => lhs; simp only [juntolaw04_ShareNothing.l0]
    rw [if_pos (by omega), if_pos (by omega), if_neg hge, ← hs, start, oI_length]
    rfl
  refine nothing_l1 (n : Int) t xs ys hq hy (by omega) s (z : Int) a b ?_ xs.length 0 (by omega)
  refine Ev.step (f := fun k => juntolaw04_ShareNothing.l1 (k + 1) (xs.length : Int) (nI s) (ptsF (xs.length + 1) (nX xs) (nY s ys)) (z : Int) (oI xs) (xs.length : Int) (xs.length : Int) a b (q : Int) (n : Int) t (oI xs) (oI ys)) (fun k => rfl) ?_
  simp only [juntolaw04_ShareNothing.l1, Int.lt_irrefl, if_false, hw1]
  refine Ev.bind thr ?_
  simp only [oI_length, Int.toNat_natCast, show (0 : Int) ≤ ((xs.length + 1 : Nat) : Int) by omega, show L.length + (xs.length + 1) < 17592186044416 by omega, if_true, Option.bind_some]
  have hpad : (oI L ++ List.replicate (xs.length + 1) 0).take (xs.length + 1) = oI (padF L (xs.length + 1)) := by
    unfold padF
    rw [oI_zeros (q := q), ← oI_append, oI_take]
  simp only [hpad, oI_length, padF_length, oI_drop, List.length_append, List.length_replicate, show ((xs.length + 1 : Nat) : Int) ≤ ((L.length + (xs.length + 1) : Nat) : Int) by omega, show (1 : Int) ≤ ((xs.length + 1 : Nat) : Int) by omega, if_true]
  refine Ev.bind mk ?_
  refine Ev.bind (share_shares_ok hq L (by omega) n t H0.out) ?_
  simp only [if_true, List.length_nil, oI_length, sharesF_length, bne_self_eq_false, Int.ofNat_zero]
  refine Ev.step (f := fun k => juntolaw04_ShareNothing.l2 k (xs.length : Int) (oI (sharesF L n)) (z : Int) (oI xs) (xs.length : Int) ((0 : Nat) : Int) a b (q : Int) (n : Int) t (oI xs) (oI ys)) (fun k => ?_) (nothing_l2 hq n t (by omega) L xs ys hx hy (by omega) hLi (z : Int) a b next xs.length 0 (by omega))
  simp only [juntolaw04_ShareNothing.j3, Bool.false_eq_true, if_false, oI_length]
  rfl
end
theorem rise_asc {n : Int} : ∀ {l : List Int} {prev : Int}, riseV n prev l = true → l.Pairwise (· < ·)
  | [], _, _ => List.Pairwise.nil
  | x :: xs, prev, h => by
    unfold riseV at h
    split at h
    · cases h
    · split at h
      · cases h
      · exact List.pairwise_cons.2 ⟨fun y hy => (rise_mem h y hy).1, rise_asc h⟩
theorem ref_rising (n : Int) (l : List Int) (hs : l.length ≤ maxLen) : Ev (fun k => juntoref04_Rising.f k n l) (riseV n 0 l) := by
  unfold juntoref04_Rising.f
  exact ref_rise n l hs l.length 0 0 (by omega) (by omega) (fun _ => rfl) (fun h => by omega)
theorem nothing_out (d p n t a b : Int) (l m : List Int) : Ev (fun k => juntolaw04_ShareNothing.j0 k d true p n t l m a b) true :=
  Ev.step (f := fun k => (juntolaw04_alive.f k).bind fun t => some t) (fun k => by simp only [juntolaw04_ShareNothing.j0, if_true]) (Ev.bind alive04 (Ev.now _))
theorem shareNothing (x0_0 : Int) (x0_1 : Int) (x0_2 : Int) (x1_0 : List Int) (x1_1 : List Int) (x2_0 : Int) (x2_1 : Int) (w0_0 : (Lit.int .u64 x0_0).wf = true) (w0_1 : (Lit.int .i64 x0_1).wf = true) (w0_2 : (Lit.int .i64 x0_2).wf = true)
    (w1_0 : x1_0.length ≤ maxLen ∧ x1_0.length * 8 ≤ 140737488351232 ∧ ∀ x1_0' ∈ x1_0, (Lit.int .i64 x1_0').wf = true) (w1_1 : x1_1.length ≤ maxLen ∧ x1_1.length * 8 ≤ 140737488351232 ∧ ∀ x1_1' ∈ x1_1, (Lit.int .u64 x1_1').wf = true)
    (w2_0 : (Lit.int .u64 x2_0).wf = true) (w2_1 : (Lit.int .u64 x2_1).wf = true) : ∃ k, juntolaw04_ShareNothing.f k x0_0 x0_1 x0_2 x1_0 x1_1 x2_0 x2_1 = some true := by
  suffices h : Ev (fun k => juntolaw04_ShareNothing.f k x0_0 x0_1 x0_2 x1_0 x1_1 x2_0 x2_1) true from h.rounds
  have ha := (u64_wf w2_0).1
  have hb := (u64_wf w2_1).1
  have hu : ∀ c ∈ x1_1, 0 ≤ c := fun c hc => (u64_wf (w1_1.2.2 c hc)).1
  unfold juntolaw04_ShareNothing.f
  refine Ev.bind (ref_setup _ _ _) ?_
  by_cases h0 : setupV x0_0 x0_1 x0_2 = 0
  rotate_left
  · simp only [h0, if_false]; exact nothing_out _ _ _ _ _ _ _ _
  have hh := setupV_small h0
  have hw : wrap64 (x0_1 - 1) = x0_1 - 1 := w64_small (by omega) (by omega)
  simp only [h0, if_true, hw]
  by_cases h1 : (x1_0.length : Int) > x0_1 - 1
  · simp only [h1, if_true]; exact nothing_out _ _ _ _ _ _ _ _
  simp only [h1, if_false]
  refine Ev.bind (ref_rising _ _ w1_0.1) ?_
  by_cases h2 : riseV x0_1 0 x1_0 = true
  rotate_left
  · simp only [h2, if_false]; exact nothing_out _ _ _ _ _ _ _ _
  simp only [h2, if_true]
  by_cases h3 : (x1_1.length : Int) = (x1_0.length : Int)
  rotate_left
  · simp only [h3, if_false]; exact nothing_out _ _ _ _ _ _ _ _
  simp only [h3, if_true]
  refine Ev.bind (ref_within _ _ w1_1.1) ?_
  by_cases h4 : belowV x0_0 x1_1 = 0
  rotate_left
  · rw [bne_iff_ne.mpr h4]; exact nothing_out _ _ _ _ _ _ _ _
  rw [h4]
  have hp1 := (setupV_ok h0).1
  obtain ⟨q, rfl⟩ : ∃ q : Nat, x0_0 = (q : Int) := ⟨x0_0.toNat, by omega⟩
  have hz : NeZero q := ⟨by omega⟩
  obtain ⟨n, rfl⟩ : ∃ n : Nat, x0_1 = (n : Int) := ⟨x0_1.toNat, by omega⟩
  obtain ⟨xs, hxs, _, hxl⟩ := places_of (q := q) h2 (by omega) (by omega)
  obtain ⟨ys, hys⟩ := oI_of (q := q) (l := x1_1) (fun c hc => ⟨hu c hc, belowV_zero h4 c hc⟩)
  have hm := rise_mem h2
  have hasc := rise_asc h2
  have hyl : ys.length = xs.length := by rw [hxl, ← oI_length ys, hys]; omega
  have hxn : xs.length < n := by rw [hxl]; omega
  rw [← hxs] at hm hasc ⊢
  rw [← hys, oI_length]
  have hpr := pr_of_isP hp1
  have hq3 : 2 < q := by omega
  have hq6 : q ≤ 65537 := by omega
  have w1 : wrap64 (((0 : Nat) : Int) + 1) = ((1 : Nat) : Int) := w64_small (by omega) (by omega)
  have w2 : wrap64 (((1 : Nat) : Int) + 1) = ((2 : Nat) : Int) := w64_small (by omega) (by omega)
  have last : Ev (fun k => juntolaw04_ShareNothing.l0 k (xs.length : Int) ((2 : Nat) : Int) x2_0 x2_1 (q : Int) (n : Int) x0_2 (oI xs) (oI ys)) true := by
    refine Ev.step (f := fun k => (juntolaw04_alive.f k).bind fun t => some t) (fun k => ?_) (Ev.bind alive04 (Ev.now _))
    conv => lhs; simp only [juntolaw04_ShareNothing.l0]
    rw [if_neg (by omega)]
  refine Ev.step (f := fun k => juntolaw04_ShareNothing.l0 k (xs.length : Int) ((0 : Nat) : Int) x2_0 x2_1 (q : Int) (n : Int) x0_2 (oI xs) (oI ys)) (fun k => ?_) ?_
  · simp only [juntolaw04_ShareNothing.j0, bne_self_eq_false, Bool.false_eq_true, if_false]
    rfl
  refine nothing_round hpr hq3 hq6 n x0_2 h0 xs ys hxn hyl hm hasc x2_0 x2_1 0 (by omega) (by simp [juntolaw04_ShareNothing.pick]; exact ha) ?_
  rw [w1]
  refine nothing_round hpr hq3 hq6 n x0_2 h0 xs ys hxn hyl hm hasc x2_0 x2_1 1 (by omega) (by simp [juntolaw04_ShareNothing.pick]; exact hb) ?_
  rw [w2]
  exact last
end Go.Proofs.Ytjjnfobeeflnhaa.L

/- The row of ShareNothing: for every input the call returns true and changes nothing; no conditions. Out of the contract of the function and the plain law. -/
namespace Go.Proofs.Ytjjnfobeeflnhaa.shareNothing
open Go.ChangeShapes Go.WideShapes Go.ChangeAt Go.RowKit Go.Proofs.YtjjnfobeeflnhaaW.PrintWords Go.Proofs.Ytjjnfobeeflnhaa.J Go.Proofs.Ytjjnfobeeflnhaa.Op
set_option linter.unusedVariables false
theorem own : ownKnob Try.prog.godebug = none := by kernel_rfl
theorem laidOut : laidOutB Try.prog = true := by kernel_rfl
set_option maxRecDepth 100000 in
theorem op0 : Opens Try.prog (Kd.pair (Kd.int .u64) (Kd.pair (Kd.int .i64) (Kd.int .i64))) 24 (fun x => (fun n => (Lit.int .u64 n).wf = true) x.1 ∧ (fun x => (fun n => (Lit.int .i64 n).wf = true) x.1 ∧ (fun n => (Lit.int .i64 n).wf = true) x.2) x.2) := (op_agg Try.underlying24 (opL_cons (by kernel_rfl) (by kernel_rfl) (op_int Try.underlying22) (by kernel_rfl) (opL_cons (by kernel_rfl) (by kernel_rfl) (op_int Try.underlying3) (by kernel_rfl) (opL_one (by kernel_rfl) (by kernel_rfl) (op_int Try.underlying3)))))
set_option maxRecDepth 100000 in
theorem op1 : Opens Try.prog (Kd.pair (Kd.slice 3 (Kd.int .i64)) (Kd.slice 22 (Kd.int .u64))) 82 (fun x => (fun l => l.length ≤ maxLen ∧ l.length * 8 ≤ 140737488351232 ∧ ∀ a ∈ l, (fun n => (Lit.int .i64 n).wf = true) a) x.1 ∧ (fun l => l.length ≤ maxLen ∧ l.length * 8 ≤ 140737488351232 ∧ ∀ a ∈ l, (fun n => (Lit.int .u64 n).wf = true) a) x.2) := (op_agg Try.underlying82 (opL_cons (by kernel_rfl) (by kernel_rfl) (op_slice Try.underlying63 (by kernel_rfl) (by kernel_rfl) (op_int Try.underlying3)) (by kernel_rfl) (opL_one (by kernel_rfl) (by kernel_rfl) (op_slice Try.underlying31 (by kernel_rfl) (by kernel_rfl) (op_int Try.underlying22)))))
set_option maxRecDepth 100000 in
theorem op2 : Opens Try.prog (Kd.pair (Kd.int .u64) (Kd.int .u64)) 83 (fun x => (fun n => (Lit.int .u64 n).wf = true) x.1 ∧ (fun n => (Lit.int .u64 n).wf = true) x.2) := (op_array2 Try.underlying83 (by kernel_rfl) (op_int Try.underlying22))
set_option maxRecDepth 100000 in
theorem lifted (os : Os) (started : os.Started) (H : Type) (enc : TypeId × Value → H) :
    ReturnsInHanded {} Try.checked os 14 .any (Rows.shareNothingSpec.pre6 enc Try.prog Try.f14 Rows.shareNothingRow.domain false) (Rows.shareNothingSpec.post enc Try.prog Try.f14 false true false false) := by
  refine returnsInHanded_of_change_sized (C := Try.checked) own started (by kernel_rfl) Try.func14
    (ChangeSpec.witness6 (enc := enc) (C := Try.checked) false ⟨#[], #[.agg #[.int .u64 0, .int .i64 0, .int .i64 0], .agg #[.slice none 0 0, .slice none 0 0], .agg #[.int .u64 0, .int .u64 0]], []⟩ 8 (by kernel_rfl) (by kernel_rfl) (by kernel_rfl) (by kernel_rfl)) ?_
  intro W base args ds gs before hval0 hW hcnd hsz0 _
  have hsz : (DataW.weightsEach Try.prog (Try.f14.params.toList ++ Rows.shareNothingSpec.plain.varTypes Try.prog) (ds ++ gs)).all (· ≤ reachBytes) = true := hsz0
  have hval : ∀ (j : Nat) t v, Try.f14.params[j]? = some t → args[j]? = some v → Value.okWide Try.prog W .any base t v := hval0
  have hW' := hW
  obtain ⟨p, q, hA0, hV, rfl, hfz, hnd⟩ := hW
  have hA : DataW.TrodAll enc Try.prog W 0 (fun _ => true) true Try.f14.params.toList args.toList ds p := hA0
  rw [Try.params14] at hA hval hsz
  obtain ⟨v0, vs0, d0, ds0, p0, q0, hargs, rfl, rfl, h0, r0⟩ := trodAll_cons hA
  obtain ⟨v1, vs1, d1, ds1, p1, q1, rfl, rfl, rfl, h1, r1⟩ := trodAll_cons r0
  obtain ⟨v2, vs2, d2, ds2, p2, q2, rfl, rfl, rfl, h2, r2⟩ := trodAll_cons r1
  obtain ⟨rfl, rfl, rfl⟩ := trodAll_nil r2
  obtain rfl : args = #[v0, v1, v2] := by cases args; simp_all
  obtain ⟨rfl, rfl⟩ := trodVars_none hV
  have k0 := h0
  have lt0 : ∀ x ∈ p0, x.block < W.heap.size := by obtain ⟨m, hm⟩ := k0; exact DataW.trod_lt m _ _ _ hm
  obtain ⟨cs0, rfl, hn0⟩ := okWide_agg Try.underlying24 (hval 0 24 v0 rfl rfl)
  obtain ⟨⟨x0_0, x0_1, x0_2⟩, K0, ⟨w0_0, w0_1, w0_2⟩⟩ := arg op0 (by show cs0.toList.length = _; rw [Array.length_toList, hn0]; kernel_rfl) h0 hsz (j := 0) rfl rfl
  obtain ⟨g0_0, rg0_0, qg0_0, l0_0, M0_0⟩ := K0
  have l0_0' : g0_0 = [Value.int .u64 x0_0] := l0_0
  obtain ⟨g0_1, rg0_1, qg0_1, l0_1, M0_1⟩ := M0_0
  have l0_1' : g0_1 = [Value.int .i64 x0_1] := l0_1
  have M0_1' : rg0_1 = [Value.int .i64 x0_2] := M0_1
  obtain rfl : cs0 = #[.int .u64 x0_0, .int .i64 x0_1, .int .i64 x0_2] := by
    apply Array.toList_inj.1
    have z0 : cs0.toList = _ := qg0_0
    rw [z0, l0_0', qg0_1, l0_1', M0_1']
    rfl
  have k1 := h1
  have lt1 : ∀ x ∈ p1, x.block < W.heap.size := by obtain ⟨m, hm⟩ := k1; exact DataW.trod_lt m _ _ _ hm
  obtain ⟨cs1, rfl, hn1⟩ := okWide_agg Try.underlying82 (hval 1 82 v1 rfl rfl)
  obtain ⟨⟨x1_0, x1_1⟩, K1, ⟨w1_0, w1_1⟩⟩ := arg op1 (by show cs1.toList.length = _; rw [Array.length_toList, hn1]; kernel_rfl) h1 hsz (j := 1) rfl rfl
  obtain ⟨g1_0, rg1_0, qg1_0, l1_0, M1_0⟩ := K1
  obtain ⟨A1_0, c1_0, l1_0', hc1_0, hr1_0⟩ := l1_0
  obtain ⟨A1_1, c1_1, M1_0', hc1_1, hr1_1⟩ := M1_0
  obtain rfl : cs1 = #[.slice A1_0 x1_0.length c1_0, .slice A1_1 x1_1.length c1_1] := by
    apply Array.toList_inj.1
    have z1 : cs1.toList = _ := qg1_0
    rw [z1, l1_0', M1_0']
    rfl
  have k2 := h2
  have lt2 : ∀ x ∈ p2, x.block < W.heap.size := by obtain ⟨m, hm⟩ := k2; exact DataW.trod_lt m _ _ _ hm
  obtain ⟨cs2, rfl, hn2⟩ := okWide_arr Try.underlying83 (hval 2 83 v2 rfl rfl)
  obtain ⟨⟨x2_0, x2_1⟩, K2, ⟨w2_0, w2_1⟩⟩ := arg op2 (by show cs2.toList.length = _; rw [Array.length_toList, hn2]; kernel_rfl) h2 hsz (j := 2) rfl rfl
  obtain ⟨g2_0, rg2_0, qg2_0, l2_0, M2_0⟩ := K2
  have l2_0' : g2_0 = [Value.int .u64 x2_0] := l2_0
  have M2_0' : rg2_0 = [Value.int .u64 x2_1] := M2_0
  obtain rfl : cs2 = #[.int .u64 x2_0, .int .u64 x2_1] := by
    apply Array.toList_inj.1
    have z2 : cs2.toList = _ := qg2_0
    rw [z2, l2_0', M2_0']
    rfl
  clear hA0 hval0 hsz0 hsz
  obtain ⟨k, h⟩ := L.shareNothing x0_0 x0_1 x0_2 x1_0 x1_1 x2_0 x2_1 w0_0 w0_1 w0_2 w1_0 w1_1 w2_0 w2_1
  refine (juntolaw04_ShareNothing.calls k x0_0 x0_1 x0_2 _ _ x1_0 _ _ x1_1 x2_0 x2_1 true W hr1_0 hc1_0 hr1_1 hc1_1 h).mono fun e W' ⟨he, bel⟩ => ?_
  subst he
  exact ⟨_, rfl, _, _, _, [], _, [], hW', trodAll_mk1 (shut_bool Try.underlying4 _), (trodAll_cons_mk (Below.trod laidOut (by kernel_rfl) (of_decide_eq_true (by kernel_rfl)) k0 bel lt0) (trodAll_cons_mk (Below.trod laidOut (by kernel_rfl) (of_decide_eq_true (by kernel_rfl)) k1 bel lt1) (trodAll_cons_mk (Below.trod laidOut (by kernel_rfl) (of_decide_eq_true (by kernel_rfl)) k2 bel lt2) trodAll_mk0))), rfl, bel.frame _, fun h => by cases h⟩
set_option maxRecDepth 100000 in
theorem closed : joinedFacts Try.pinned.checked.prog 14 Try.f14 Rows.shareNothingSpec Rows.shareNothingRow = true := by
  unfold joinedFacts
  repeat' with_reducible refine Bool.and_eq_true_iff.2 ⟨?_, ?_⟩
  all_goals first
    | with_reducible exact Facts.enters
    | (rw [Facts.final]; kernel_rfl)
    | (rw [Facts.made]; kernel_rfl)
    | kernel_rfl
theorem over : Rows.shareNothingRow.holds Try.pinned (OpenSpec.ofChange Rows.shareNothingSpec) :=
  OpenClaim.holds_of_wide 14 Try.f14 rfl rfl rfl rfl rfl rfl rfl ⟨rfl, rfl, rfl, rfl, rfl⟩ rfl rfl rfl rfl rfl (by kernel_rfl) Try.func14 closed
    (of_decide_eq_true (by kernel_rfl)) (by unfold Func.isWrapper; first | (rw [if_pos (by decide +kernel)]; kernel_rfl) | (rw [if_neg (by decide +kernel)]; exact ⟨rfl, rfl⟩))
    (fun os started H enc _ => lifted os started H enc)
theorem proved : Rows.ShareNothingSaid := over
#print axioms proved
end Go.Proofs.Ytjjnfobeeflnhaa.shareNothing
namespace Go.Proofs.Ytjjnfobeeflnhaa
/-- The row, under a short name, for the claim. -/
theorem shareNothing_holds : Rows.ShareNothingSaid := shareNothing.proved
end Go.Proofs.Ytjjnfobeeflnhaa
