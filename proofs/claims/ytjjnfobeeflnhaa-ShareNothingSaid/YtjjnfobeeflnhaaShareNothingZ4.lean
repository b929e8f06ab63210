/- Part 4 of the proof of ShareNothing: what the functions compute as plain Lean functions, that the machine comes to just these answers, and that the answer is true; no conditions. -/
import Derived.Test.YtjjnfobeeflnhaaShareNothingZ0
import Derived.Test.YtjjnfobeeflnhaaShareNothingZ1
import Derived.Test.YtjjnfobeeflnhaaShareNothingZ2
import Derived.Test.YtjjnfobeeflnhaaShareNothingZ3
import Derived.Deep.Slices
import Derived.ChangeArms
import Derived.DataReads
import Derived.SizedLaws
import Derived.WideShapes
import Derived.OpenShut
import Derived.Test.YtjjnfobeeflnhaaRows
import Derived.JoinedOf
import Derived.KernelRfl
import Derived.WalkSmall
/- What Go functions of the program compute, as plain Lean functions, and that the machine comes to just these answers (written by a program for this seat). -/
namespace Go.Proofs.Ytjjnfobeeflnhaa.J
open Go.RowKit Go.Proofs.YtjjnfobeeflnhaaW.PrintWords Go.Proofs.YtjjnfobeeflnhaaW.PrintLast Go.Proofs.YtjjnfobeeflnhaaW.PrintMore
attribute [local go_sem] max2_int min2_int max_two min_two max_three min_three max_four min_four   -- for this text's walks alone
set_option linter.unusedVariables false
set_option linter.unusedSimpArgs false

/-! ### juntolaw04_ShareNothing: function 14 -/
def juntolaw04_ShareNothing.pick (a b i : Int) : Int := if i = 0 then a else b
theorem juntolaw04_ShareNothing.index (a b i : Int) (h0 : 0 ≤ i) (h1 : i < 2) : ∀ w : World, (Instr.index 83 (.agg #[.int .u64 a, .int .u64 b]) (.int .i64 i)).run Try.prog w = .ok (.int .u64 (juntolaw04_ShareNothing.pick a b i)) w := by
  intro w
  have e0 : ∀ w : World, (Instr.index 83 (.agg #[.int .u64 a, .int .u64 b]) (.int .i64 0)).run Try.prog w = .ok (.int .u64 a) w := fun w => by kernel_rfl
  have e1 : ∀ w : World, (Instr.index 83 (.agg #[.int .u64 a, .int .u64 b]) (.int .i64 1)).run Try.prog w = .ok (.int .u64 b) w := fun w => by kernel_rfl
  by_cases h : i = 0
  · subst h
    exact e0 w
  · obtain rfl : i = 1 := by omega
    exact e1 w
mutual
def juntolaw04_ShareNothing.j0 : Nat → Int → Bool → Int → Int → Int → List Int → List Int → Int → Int → Option (Bool)
  | 0, _, _, _, _, _, _, _, _, _ => none
  | k + 1, x7, x56, x779000, x779001, x779002, x780000, x780001, x781000, x781001 => if x56 = true then ((juntolaw04_alive.f k).bind fun t784 => (some t784)) else (juntolaw04_ShareNothing.l0 k x7 0 x781000 x781001 x779000 x779001 x779002 x780000 x780001)
def juntolaw04_ShareNothing.l0 : Nat → Int → Int → Int → Int → Int → Int → Int → List Int → List Int → Option (Bool)
  | 0, _, _, _, _, _, _, _, _, _ => none
  | k + 1, x7, x59, x161, x163, x779000, x779001, x779002, x780000, x780001 => if x59 < 2 then (if 0 ≤ x59 then (if (juntolaw04_ShareNothing.pick x161 x163 x59) ≥ x779000 then ((juntolaw04_alive.f k).bind fun t786 => (some t786)) else (juntolaw04_ShareNothing.l1 k x7 (juntolaw04_ShareNothing.pick x161 x163 x59) (([(⟨0, juntolaw04_ShareNothing.pick x161 x163 x59⟩ : S86)] : List (S86))) x59 x780000 (x780000.length : Int) 0 x161 x163 x779000 x779001 x779002 x780000 x780001)) else (none)) else ((juntolaw04_alive.f k).bind fun t785 => (some t785))
def juntolaw04_ShareNothing.l1 : Nat → Int → Int → List (S86) → Int → List Int → Int → Int → Int → Int → Int → Int → Int → List Int → List Int → Option (Bool)
  | 0, _, _, _, _, _, _, _, _, _, _, _, _, _, _ => none
  | k + 1, x7, x9, x10, x59, x71, x72, x73, x161, x163, x779000, x779001, x779002, x780000, x780001 => if x73 < x72 then (if 0 ≤ x73 then (if x73 < (x71.length : Int) then (if x73 < (x780001.length : Int) then (if x10.length < 8796093022208 then (juntolaw04_ShareNothing.l1 k x7 x9 (x10 ++ [(⟨IntKind.u64.wrap (rd x71 x73), rd x780001 x73⟩ : S86)]) x59 x71 x72 (wrap64 (x73 + 1)) x161 x163 x779000 x779001 x779002 x780000 x780001) else (none)) else (none)) else (none)) else (none)) else ((juntoref02_Through.f k x779000 x10).bind fun t795 => (if 0 ≤ (wrap64 (x7 + 1)) then (if t795.length + (wrap64 (x7 + 1) : Int).toNat < 17592186044416 then ((some (t795 ++ List.replicate (wrap64 (x7 + 1) : Int).toNat 0 : List Int)).bind fun y798 => (if (wrap64 (x7 + 1)) ≤ (y798.length : Int) then ((some (y798.take ((wrap64 (x7 + 1)) : Int).toNat : List Int)).bind fun y801 => (if 1 ≤ (y801.length : Int) then ((share_Make.f k x779000 x779001 x779002 x9 x7 (y801.drop 1)).bind fun bt809 => ((share_Shares.f k x779000 x779001 x779002 bt809.1).bind fun bt816 => (if bt809.2.2 = 0 then (if (bt809.2.1.length : Int) = 0 then (juntolaw04_ShareNothing.j3 k x7 bt816.1 x59 ((bt816.1.length : Int) != x779001) x161 x163 x779000 x779001 x779002 x780000 x780001) else (juntolaw04_ShareNothing.j3 k x7 bt816.1 x59 true x161 x163 x779000 x779001 x779002 x780000 x780001)) else (juntolaw04_ShareNothing.j3 k x7 bt816.1 x59 true x161 x163 x779000 x779001 x779002 x780000 x780001)))) else (none))) else (none))) else (none)) else (none)))
def juntolaw04_ShareNothing.j3 : Nat → Int → List Int → Int → Bool → Int → Int → Int → Int → Int → List Int → List Int → Option (Bool)
  | 0, _, _, _, _, _, _, _, _, _, _, _ => none
  | k + 1, x7, x17, x59, x129, x161, x163, x779000, x779001, x779002, x780000, x780001 => if x129 = true then (some false) else (juntolaw04_ShareNothing.l2 k x7 x17 x59 x780000 (x780000.length : Int) 0 x161 x163 x779000 x779001 x779002 x780000 x780001)
def juntolaw04_ShareNothing.l2 : Nat → Int → List Int → Int → List Int → Int → Int → Int → Int → Int → Int → Int → List Int → List Int → Option (Bool)
  | 0, _, _, _, _, _, _, _, _, _, _, _, _, _ => none
  | k + 1, x7, x17, x59, x131, x132, x133, x161, x163, x779000, x779001, x779002, x780000, x780001 => if x133 < x132 then (if 0 ≤ x133 then (if x133 < (x131.length : Int) then (if 0 ≤ (wrap64 ((rd x131 x133) - 1)) then (if (wrap64 ((rd x131 x133) - 1)) < (x17.length : Int) then (if x133 < (x780001.length : Int) then (if (rd x17 (wrap64 ((rd x131 x133) - 1))) = (rd x780001 x133) then (juntolaw04_ShareNothing.l2 k x7 x17 x59 x131 x132 (wrap64 (x133 + 1)) x161 x163 x779000 x779001 x779002 x780000 x780001) else (some false)) else (none)) else (none)) else (none)) else (none)) else (none)) else (juntolaw04_ShareNothing.l0 k x7 (wrap64 (x59 + 1)) x161 x163 x779000 x779001 x779002 x780000 x780001)
end
def juntolaw04_ShareNothing.f (k : Nat) (a0_0 : Int) (a0_1 : Int) (a0_2 : Int) (l1_0 : List Int) (l1_1 : List Int) (a2_0 : Int) (a2_1 : Int) : Option (Bool) := (juntoref04_Setup.f k a0_0 a0_1 a0_2).bind fun t781 => (if t781 = 0 then (if (l1_0.length : Int) > (wrap64 (a0_1 - 1)) then (juntolaw04_ShareNothing.j0 k (l1_0.length : Int) true a0_0 a0_1 a0_2 l1_0 l1_1 a2_0 a2_1) else ((juntoref04_Rising.f k a0_1 l1_0).bind fun t782 => (if t782 = true then (if (l1_1.length : Int) = (l1_0.length : Int) then ((juntoref01_Within.f k a0_0 l1_1).bind fun t783 => (juntolaw04_ShareNothing.j0 k (l1_0.length : Int) (t783 != 0) a0_0 a0_1 a0_2 l1_0 l1_1 a2_0 a2_1)) else (juntolaw04_ShareNothing.j0 k (l1_0.length : Int) true a0_0 a0_1 a0_2 l1_0 l1_1 a2_0 a2_1)) else (juntolaw04_ShareNothing.j0 k (l1_0.length : Int) true a0_0 a0_1 a0_2 l1_0 l1_1 a2_0 a2_1)))) else (juntolaw04_ShareNothing.j0 k (l1_0.length : Int) true a0_0 a0_1 a0_2 l1_0 l1_1 a2_0 a2_1))
theorem juntolaw04_ShareNothing.mono_l : ∀ k, (∀ y0 y1 y2 y3 y4 y5 y6 y7 y8, LeO (juntolaw04_ShareNothing.j0 k y0 y1 y2 y3 y4 y5 y6 y7 y8) (juntolaw04_ShareNothing.j0 (k + 1) y0 y1 y2 y3 y4 y5 y6 y7 y8)) ∧ (∀ y0 y1 y2 y3 y4 y5 y6 y7 y8, LeO (juntolaw04_ShareNothing.l0 k y0 y1 y2 y3 y4 y5 y6 y7 y8) (juntolaw04_ShareNothing.l0 (k + 1) y0 y1 y2 y3 y4 y5 y6 y7 y8)) ∧ (∀ y0 y1 y2 y3 y4 y5 y6 y7 y8 y9 y10 y11 y12 y13, LeO (juntolaw04_ShareNothing.l1 k y0 y1 y2 y3 y4 y5 y6 y7 y8 y9 y10 y11 y12 y13) (juntolaw04_ShareNothing.l1 (k + 1) y0 y1 y2 y3 y4 y5 y6 y7 y8 y9 y10 y11 y12 y13)) ∧ (∀ y0 y1 y2 y3 y4 y5 y6 y7 y8 y9 y10, LeO (juntolaw04_ShareNothing.j3 k y0 y1 y2 y3 y4 y5 y6 y7 y8 y9 y10) (juntolaw04_ShareNothing.j3 (k + 1) y0 y1 y2 y3 y4 y5 y6 y7 y8 y9 y10)) ∧ (∀ y0 y1 y2 y3 y4 y5 y6 y7 y8 y9 y10 y11 y12, LeO (juntolaw04_ShareNothing.l2 k y0 y1 y2 y3 y4 y5 y6 y7 y8 y9 y10 y11 y12) (juntolaw04_ShareNothing.l2 (k + 1) y0 y1 y2 y3 y4 y5 y6 y7 y8 y9 y10 y11 y12))
  | 0 => ⟨fun _ _ _ _ _ _ _ _ _ r h => by simp [juntolaw04_ShareNothing.j0] at h, fun _ _ _ _ _ _ _ _ _ r h => by simp [juntolaw04_ShareNothing.l0] at h, fun _ _ _ _ _ _ _ _ _ _ _ _ _ _ r h => by simp [juntolaw04_ShareNothing.l1] at h, fun _ _ _ _ _ _ _ _ _ _ _ r h => by simp [juntolaw04_ShareNothing.j3] at h, fun _ _ _ _ _ _ _ _ _ _ _ _ _ r h => by simp [juntolaw04_ShareNothing.l2] at h⟩
  | k + 1 => by
    obtain ⟨ih0, ih1, ih2, ih3, ih4⟩ := juntolaw04_ShareNothing.mono_l k
    refine ⟨?_, ?_, ?_, ?_, ?_⟩
    · intro y0 y1 y2 y3 y4 y5 y6 y7 y8
      unfold juntolaw04_ShareNothing.j0
      repeat' first
      | (with_reducible exact ih0 _ _ _ _ _ _ _ _ _)
      | (with_reducible exact ih1 _ _ _ _ _ _ _ _ _)
      | (with_reducible exact ih2 _ _ _ _ _ _ _ _ _ _ _ _ _ _)
      | (with_reducible exact ih3 _ _ _ _ _ _ _ _ _ _ _)
      | (with_reducible exact ih4 _ _ _ _ _ _ _ _ _ _ _ _ _)
      | (with_reducible exact juntolaw04_alive.mono _)
      | (with_reducible exact juntoref01_Within.mono _ _ _)
      | (with_reducible exact juntoref02_Through.mono _ _ _)
      | (with_reducible exact juntoref04_Rising.mono _ _ _)
      | (with_reducible exact juntoref04_Setup.mono _ _ _ _)
      | (with_reducible exact share_Make.mono _ _ _ _ _ _ _)
      | (with_reducible exact share_Shares.mono _ _ _ _ _)
      | (with_reducible exact LeO.refl _)
      | (with_reducible exact LeO.none _)
      | (with_reducible refine LeO.ite ?_ ?_)
      | (with_reducible refine LeO.bind ?_ (fun _ => ?_))
      | exact ih0 _ _ _ _ _ _ _ _ _
      | exact ih1 _ _ _ _ _ _ _ _ _
      | exact ih2 _ _ _ _ _ _ _ _ _ _ _ _ _ _
      | exact ih3 _ _ _ _ _ _ _ _ _ _ _
      | exact ih4 _ _ _ _ _ _ _ _ _ _ _ _ _
      | exact juntolaw04_alive.mono _
      | exact juntoref01_Within.mono _ _ _
      | exact juntoref02_Through.mono _ _ _
      | exact juntoref04_Rising.mono _ _ _
      | exact juntoref04_Setup.mono _ _ _ _
      | exact share_Make.mono _ _ _ _ _ _ _
      | exact share_Shares.mono _ _ _ _ _
      | exact LeO.none _
      | refine LeO.ite ?_ ?_
      | refine LeO.bind ?_ (fun _ => ?_)
    · intro y0 y1 y2 y3 y4 y5 y6 y7 y8
      unfold juntolaw04_ShareNothing.l0
      repeat' first
      | (with_reducible exact ih0 _ _ _ _ _ _ _ _ _)
      | (with_reducible exact ih1 _ _ _ _ _ _ _ _ _)
      | (with_reducible exact ih2 _ _ _ _ _ _ _ _ _ _ _ _ _ _)
      | (with_reducible exact ih3 _ _ _ _ _ _ _ _ _ _ _)
      | (with_reducible exact ih4 _ _ _ _ _ _ _ _ _ _ _ _ _)
      | (with_reducible exact juntolaw04_alive.mono _)
      | (with_reducible exact juntoref01_Within.mono _ _ _)
      | (with_reducible exact juntoref02_Through.mono _ _ _)
      | (with_reducible exact juntoref04_Rising.mono _ _ _)
      | (with_reducible exact juntoref04_Setup.mono _ _ _ _)
      | (with_reducible exact share_Make.mono _ _ _ _ _ _ _)
      | (with_reducible exact share_Shares.mono _ _ _ _ _)
      | (with_reducible exact LeO.refl _)
      | (with_reducible exact LeO.none _)
      | (with_reducible refine LeO.ite ?_ ?_)
      | (with_reducible refine LeO.bind ?_ (fun _ => ?_))
      | exact ih0 _ _ _ _ _ _ _ _ _
      | exact ih1 _ _ _ _ _ _ _ _ _
      | exact ih2 _ _ _ _ _ _ _ _ _ _ _ _ _ _
      | exact ih3 _ _ _ _ _ _ _ _ _ _ _
      | exact ih4 _ _ _ _ _ _ _ _ _ _ _ _ _
      | exact juntolaw04_alive.mono _
      | exact juntoref01_Within.mono _ _ _
      | exact juntoref02_Through.mono _ _ _
      | exact juntoref04_Rising.mono _ _ _
      | exact juntoref04_Setup.mono _ _ _ _
      | exact share_Make.mono _ _ _ _ _ _ _
      | exact share_Shares.mono _ _ _ _ _
      | exact LeO.none _
      | refine LeO.ite ?_ ?_
      | refine LeO.bind ?_ (fun _ => ?_)
    · intro y0 y1 y2 y3 y4 y5 y6 y7 y8 y9 y10 y11 y12 y13
      unfold juntolaw04_ShareNothing.l1
      repeat' first
      | (with_reducible exact ih0 _ _ _ _ _ _ _ _ _)
      | (with_reducible exact ih1 _ _ _ _ _ _ _ _ _)
      | (with_reducible exact ih2 _ _ _ _ _ _ _ _ _ _ _ _ _ _)
      | (with_reducible exact ih3 _ _ _ _ _ _ _ _ _ _ _)
      | (with_reducible exact ih4 _ _ _ _ _ _ _ _ _ _ _ _ _)
      | (with_reducible exact juntolaw04_alive.mono _)
      | (with_reducible exact juntoref01_Within.mono _ _ _)
      | (with_reducible exact juntoref02_Through.mono _ _ _)
      | (with_reducible exact juntoref04_Rising.mono _ _ _)
      | (with_reducible exact juntoref04_Setup.mono _ _ _ _)
      | (with_reducible exact share_Make.mono _ _ _ _ _ _ _)
      | (with_reducible exact share_Shares.mono _ _ _ _ _)
      | (with_reducible exact LeO.refl _)
      | (with_reducible exact LeO.none _)
      | (with_reducible refine LeO.ite ?_ ?_)
      | (with_reducible refine LeO.bind ?_ (fun _ => ?_))
      | exact ih0 _ _ _ _ _ _ _ _ _
      | exact ih1 _ _ _ _ _ _ _ _ _
      | exact ih2 _ _ _ _ _ _ _ _ _ _ _ _ _ _
      | exact ih3 _ _ _ _ _ _ _ _ _ _ _
      | exact ih4 _ _ _ _ _ _ _ _ _ _ _ _ _
      | exact juntolaw04_alive.mono _
      | exact juntoref01_Within.mono _ _ _
      | exact juntoref02_Through.mono _ _ _
      | exact juntoref04_Rising.mono _ _ _
      | exact juntoref04_Setup.mono _ _ _ _
      | exact share_Make.mono _ _ _ _ _ _ _
      | exact share_Shares.mono _ _ _ _ _
      | exact LeO.none _
      | refine LeO.ite ?_ ?_
      | refine LeO.bind ?_ (fun _ => ?_)
    · intro y0 y1 y2 y3 y4 y5 y6 y7 y8 y9 y10
      unfold juntolaw04_ShareNothing.j3
      repeat' first
      | (with_reducible exact ih0 _ _ _ _ _ _ _ _ _)
      | (with_reducible exact ih1 _ _ _ _ _ _ _ _ _)
      | (with_reducible exact ih2 _ _ _ _ _ _ _ _ _ _ _ _ _ _)
      | (with_reducible exact ih3 _ _ _ _ _ _ _ _ _ _ _)
      | (with_reducible exact ih4 _ _ _ _ _ _ _ _ _ _ _ _ _)
      | (with_reducible exact juntolaw04_alive.mono _)
      | (with_reducible exact juntoref01_Within.mono _ _ _)
      | (with_reducible exact juntoref02_Through.mono _ _ _)
      | (with_reducible exact juntoref04_Rising.mono _ _ _)
      | (with_reducible exact juntoref04_Setup.mono _ _ _ _)
      | (with_reducible exact share_Make.mono _ _ _ _ _ _ _)
      | (with_reducible exact share_Shares.mono _ _ _ _ _)
      | (with_reducible exact LeO.refl _)
      | (with_reducible exact LeO.none _)
      | (with_reducible refine LeO.ite ?_ ?_)
      | (with_reducible refine LeO.bind ?_ (fun _ => ?_))
      | exact ih0 _ _ _ _ _ _ _ _ _
      | exact ih1 _ _ _ _ _ _ _ _ _
      | exact ih2 _ _ _ _ _ _ _ _ _ _ _ _ _ _
      | exact ih3 _ _ _ _ _ _ _ _ _ _ _
      | exact ih4 _ _ _ _ _ _ _ _ _ _ _ _ _
      | exact juntolaw04_alive.mono _
      | exact juntoref01_Within.mono _ _ _
      | exact juntoref02_Through.mono _ _ _
      | exact juntoref04_Rising.mono _ _ _
      | exact juntoref04_Setup.mono _ _ _ _
      | exact share_Make.mono _ _ _ _ _ _ _
      | exact share_Shares.mono _ _ _ _ _
      | exact LeO.none _
      | refine LeO.ite ?_ ?_
      | refine LeO.bind ?_ (fun _ => ?_)
    · intro y0 y1 y2 y3 y4 y5 y6 y7 y8 y9 y10 y11 y12
      unfold juntolaw04_ShareNothing.l2
      repeat' first
      | (with_reducible exact ih0 _ _ _ _ _ _ _ _ _)
      | (with_reducible exact ih1 _ _ _ _ _ _ _ _ _)
      | (with_reducible exact ih2 _ _ _ _ _ _ _ _ _ _ _ _ _ _)
      | (with_reducible exact ih3 _ _ _ _ _ _ _ _ _ _ _)
      | (with_reducible exact ih4 _ _ _ _ _ _ _ _ _ _ _ _ _)
      | (with_reducible exact juntolaw04_alive.mono _)
      | (with_reducible exact juntoref01_Within.mono _ _ _)
      | (with_reducible exact juntoref02_Through.mono _ _ _)
      | (with_reducible exact juntoref04_Rising.mono _ _ _)
      | (with_reducible exact juntoref04_Setup.mono _ _ _ _)
      | (with_reducible exact share_Make.mono _ _ _ _ _ _ _)
      | (with_reducible exact share_Shares.mono _ _ _ _ _)
      | (with_reducible exact LeO.refl _)
      | (with_reducible exact LeO.none _)
      | (with_reducible refine LeO.ite ?_ ?_)
      | (with_reducible refine LeO.bind ?_ (fun _ => ?_))
      | exact ih0 _ _ _ _ _ _ _ _ _
      | exact ih1 _ _ _ _ _ _ _ _ _
      | exact ih2 _ _ _ _ _ _ _ _ _ _ _ _ _ _
      | exact ih3 _ _ _ _ _ _ _ _ _ _ _
      | exact ih4 _ _ _ _ _ _ _ _ _ _ _ _ _
      | exact juntolaw04_alive.mono _
      | exact juntoref01_Within.mono _ _ _
      | exact juntoref02_Through.mono _ _ _
      | exact juntoref04_Rising.mono _ _ _
      | exact juntoref04_Setup.mono _ _ _ _
      | exact share_Make.mono _ _ _ _ _ _ _
      | exact share_Shares.mono _ _ _ _ _
      | exact LeO.none _
      | refine LeO.ite ?_ ?_
      | refine LeO.bind ?_ (fun _ => ?_)
theorem juntolaw04_ShareNothing.mono : ∀ a0 a1 a2 a3 a4 a5 a6 k, LeO (juntolaw04_ShareNothing.f k a0 a1 a2 a3 a4 a5 a6) (juntolaw04_ShareNothing.f (k + 1) a0 a1 a2 a3 a4 a5 a6) := by
  intro a0 a1 a2 a3 a4 a5 a6 k
  obtain ⟨ih0, ih1, ih2, ih3, ih4⟩ := juntolaw04_ShareNothing.mono_l k
  unfold juntolaw04_ShareNothing.f
  repeat' first
      | (with_reducible exact ih0 _ _ _ _ _ _ _ _ _)
      | (with_reducible exact ih1 _ _ _ _ _ _ _ _ _)
      | (with_reducible exact ih2 _ _ _ _ _ _ _ _ _ _ _ _ _ _)
      | (with_reducible exact ih3 _ _ _ _ _ _ _ _ _ _ _)
      | (with_reducible exact ih4 _ _ _ _ _ _ _ _ _ _ _ _ _)
      | (with_reducible exact juntolaw04_alive.mono _)
      | (with_reducible exact juntoref01_Within.mono _ _ _)
      | (with_reducible exact juntoref02_Through.mono _ _ _)
      | (with_reducible exact juntoref04_Rising.mono _ _ _)
      | (with_reducible exact juntoref04_Setup.mono _ _ _ _)
      | (with_reducible exact share_Make.mono _ _ _ _ _ _ _)
      | (with_reducible exact share_Shares.mono _ _ _ _ _)
      | (with_reducible exact LeO.refl _)
      | (with_reducible exact LeO.none _)
      | (with_reducible refine LeO.ite ?_ ?_)
      | (with_reducible refine LeO.bind ?_ (fun _ => ?_))
      | exact ih0 _ _ _ _ _ _ _ _ _
      | exact ih1 _ _ _ _ _ _ _ _ _
      | exact ih2 _ _ _ _ _ _ _ _ _ _ _ _ _ _
      | exact ih3 _ _ _ _ _ _ _ _ _ _ _
      | exact ih4 _ _ _ _ _ _ _ _ _ _ _ _ _
      | exact juntolaw04_alive.mono _
      | exact juntoref01_Within.mono _ _ _
      | exact juntoref02_Through.mono _ _ _
      | exact juntoref04_Rising.mono _ _ _
      | exact juntoref04_Setup.mono _ _ _ _
      | exact share_Make.mono _ _ _ _ _ _ _
      | exact share_Shares.mono _ _ _ _ _
      | exact LeO.none _
      | refine LeO.ite ?_ ?_
      | refine LeO.bind ?_ (fun _ => ?_)
def juntolaw04_ShareNothing.T16 : Bool × List (List Nat × List Nat) := (true, [([], []), ([], []), ([], []), ([], []), ([3], [3]), ([0, 1, 2, 4], [0, 1, 2, 4]), ([5], [5]), ([6], [6]), ([6], [6]), ([6], [6]), ([7, 5, 0, 1, 2, 3, 4, 5, 6, 7], [7]), ([8, 10, 0, 1, 2, 3, 4, 5, 6, 7, 8, 10], [8]), ([9, 11, 0, 1, 2, 3, 4, 5, 6, 7, 8, 9, 10, 11], [9])])
def juntolaw04_ShareNothing.B16 : List Nat := [0, 0, 0, 0, 8, 31, 63, 127, 127, 127, 255, 1535, 4095]
theorem juntolaw04_ShareNothing.tab16 : rtab .any (opsOf Try.f14 16) = juntolaw04_ShareNothing.T16 := by kernel_rfl
theorem juntolaw04_ShareNothing.bits16 : waitsOk juntolaw04_ShareNothing.T16.2 juntolaw04_ShareNothing.B16 = true := by kernel_rfl
def juntolaw04_ShareNothing.T23 : Bool × List (List Nat × List Nat) := (true, [([], []), ([], []), ([1], [1]), ([0, 2], [0, 2]), ([3], [3]), ([], []), ([5], [5]), ([], []), ([6, 7], [6, 7]), ([8], [8]), ([4, 9], [4, 9])])
def juntolaw04_ShareNothing.B23 : List Nat := [0, 0, 2, 7, 15, 0, 32, 0, 224, 480, 1023]
theorem juntolaw04_ShareNothing.tab23 : rtab .any (opsOf Try.f14 23) = juntolaw04_ShareNothing.T23 := by kernel_rfl
theorem juntolaw04_ShareNothing.bits23 : waitsOk juntolaw04_ShareNothing.T23.2 juntolaw04_ShareNothing.B23 = true := by kernel_rfl
theorem juntolaw04_ShareNothing.j3_no {k y0 y1 y2 y4 y5 y6 y7 y8 y9 y10} {r : Bool} (hr : r = true) (h : juntolaw04_ShareNothing.j3 k y0 y1 y2 true y4 y5 y6 y7 y8 y9 y10 = some r) : False := by subst hr; cases k <;> simp [juntolaw04_ShareNothing.j3] at h
set_option maxHeartbeats 8000000 in
set_option maxRecDepth 100000 in
theorem juntolaw04_ShareNothing.calls (k : Nat) (a0_0 : Int) (a0_1 : Int) (a0_2 : Int) (A1_0 : Option Addr) (c1_0 : Nat) (l1_0 : List Int) (A1_1 : Option Addr) (c1_1 : Nat) (l1_1 : List Int) (a2_0 : Int) (a2_1 : Int) (r : Bool) (w : World) (hr1_0 : Kd.C (Kd.int .i64) w A1_0 l1_0.length l1_0) (hc1_0 : l1_0.length ≤ c1_0) (hr1_1 : Kd.C (Kd.int .u64) w A1_1 l1_1.length l1_1) (hc1_1 : l1_1.length ≤ c1_1) (h : juntolaw04_ShareNothing.f k a0_0 a0_1 a0_2 l1_0 l1_1 a2_0 a2_1 = some r) (hrt : r = true := by rfl) :
    Calls Try.prog 14 #[.agg #[.int .u64 a0_0, .int .i64 a0_1, .int .i64 a0_2], .agg #[.slice A1_0 l1_0.length c1_0, .slice A1_1 l1_1.length c1_1], .agg #[.int .u64 a2_0, .int .u64 a2_1]] w fun e w' => e = .returned (.bool r) ∧ Below w.heap.size w w' := by
  have HRT := Aside0.mk hrt
  clear hrt
  have hu24 := Try.underlying24
  have hu82 := Try.underlying82
  have hu86 := Try.underlying86
  have HR1_0 := Aside0.mk hr1_0
  have HC1_0 := Aside0.mk hc1_0
  clear hr1_0 hc1_0
  have HR1_1 := Aside0.mk hr1_1
  have HC1_1 := Aside0.mk hc1_1
  clear hr1_1 hc1_1
  have HB := Aside0.mk (Below.refl w.heap.size w)
  have H : ((juntoref04_Setup.f k a0_0 a0_1 a0_2).bind fun t781 => (if t781 = 0 then (if (l1_0.length : Int) > (wrap64 (a0_1 - 1)) then (juntolaw04_ShareNothing.j0 k (l1_0.length : Int) true a0_0 a0_1 a0_2 l1_0 l1_1 a2_0 a2_1) else ((juntoref04_Rising.f k a0_1 l1_0).bind fun t782 => (if t782 = true then (if (l1_1.length : Int) = (l1_0.length : Int) then ((juntoref01_Within.f k a0_0 l1_1).bind fun t783 => (juntolaw04_ShareNothing.j0 k (l1_0.length : Int) (t783 != 0) a0_0 a0_1 a0_2 l1_0 l1_1 a2_0 a2_1)) else (juntolaw04_ShareNothing.j0 k (l1_0.length : Int) true a0_0 a0_1 a0_2 l1_0 l1_1 a2_0 a2_1)) else (juntolaw04_ShareNothing.j0 k (l1_0.length : Int) true a0_0 a0_1 a0_2 l1_0 l1_1 a2_0 a2_1)))) else (juntolaw04_ShareNothing.j0 k (l1_0.length : Int) true a0_0 a0_1 a0_2 l1_0 l1_1 a2_0 a2_1))) = some r := h
  clear h
  have HC4 := Aside0.mk H
  clear H
  go_enter Try.func14, Try.ntmps14
  go_upto_region 2 with (first | ((with_reducible refine gate_dst (N := 3) rfl ?_); (try (refine gate_guard (by rfl) ?_; dsimp only)); refine box_event ?hg (N := 3) ?hd (cs := #[.int .u64 a0_0, .int .i64 a0_1, .int .i64 a0_2]) (t := 24) ?hr ?_; (case hd => rfl); (case hg => rfl); (case hr => first | (go_simp; done) | (go_simp; rfl)); intro gb778 hg w5 hbox hb; have n0_ := Aside0.mk (below_step (by repeat (first | (with_reducible first | exact HB.out | apply below_alloc | apply pw_below_drewN | apply below_drew1) | exact HB.out)) hb); have n1_ := Aside0.mk (hbox); have n2_ := Aside0.mk ((by rw [hg]; exact (below_size (by repeat (first | (with_reducible first | exact HB.out | apply below_alloc | apply pw_below_drewN | apply below_drew1) | exact HB.out))) : w.heap.size ≤ gb778)); have n3_ := Aside0.mk ((by rw [hg]; exact (below_size (by repeat (first | (with_reducible first | exact HB.out | apply below_alloc | apply pw_below_drewN | apply below_drew1) | exact HB.out))) : w.heap.size ≤ gb778)); clear HB; have HB := n0_; have BK778 := n1_; have GW778 := n2_; have GE778 := n3_; clear n0_ n1_ n2_ n3_; clear hb hbox hg) | ((with_reducible refine gate_dst (N := 4) rfl ?_); (try (refine gate_guard (by rfl) ?_; dsimp only)); refine box_event ?hg (N := 4) ?hd (cs := #[.slice A1_0 l1_0.length c1_0, .slice A1_1 l1_1.length c1_1]) (t := 82) ?hr ?_; (case hd => rfl); (case hg => rfl); (case hr => first | (go_simp; done) | (go_simp; rfl)); intro gb779 hg w6 hbox hb; have n0_ := Aside0.mk (blk_below (g := gb778) (o := .cells #[.int .u64 a0_0, .int .i64 a0_1, .int .i64 a0_2] 24 (0, 0)) (by (with_reducible repeat (first | refine blk_drewN ?_ _ | refine blk_drew ?_ | refine blk_alloc ?_ _)); exact BK778.out) hb); have n1_ := Aside0.mk (below_step (by repeat (first | (with_reducible first | exact HB.out | apply below_alloc | apply pw_below_drewN | apply below_drew1 | refine below_set ?_ GE778.out) | exact HB.out)) hb); have n2_ := Aside0.mk (hbox); have n3_ := Aside0.mk ((by rw [hg]; exact (below_size (by repeat (first | (with_reducible first | exact HB.out | apply below_alloc | apply pw_below_drewN | apply below_drew1 | refine below_set ?_ GE778.out) | exact HB.out))) : w.heap.size ≤ gb779)); have n4_ := Aside0.mk ((by rw [hg]; exact (below_size (by repeat (first | (with_reducible first | exact HB.out | apply below_alloc | apply pw_below_drewN | apply below_drew1 | refine below_set ?_ GE778.out) | exact HB.out))) : w.heap.size ≤ gb779)); have n5_ := Aside0.mk ((by rw [hg]; exact Nat.ne_of_lt (blk_lt (g := gb778) (o := .cells #[.int .u64 a0_0, .int .i64 a0_1, .int .i64 a0_2] 24 (0, 0)) (by (with_reducible repeat (first | refine blk_drewN ?_ _ | refine blk_drew ?_ | refine blk_alloc ?_ _)); exact BK778.out)) : gb778 ≠ gb779)); have n6_ := Aside0.mk ((by rw [hg]; exact Nat.ne_of_gt (blk_lt (g := gb778) (o := .cells #[.int .u64 a0_0, .int .i64 a0_1, .int .i64 a0_2] 24 (0, 0)) (by (with_reducible repeat (first | refine blk_drewN ?_ _ | refine blk_drew ?_ | refine blk_alloc ?_ _)); exact BK778.out)) : gb779 ≠ gb778)); clear BK778; clear HB; have BK778 := n0_; have HB := n1_; have BK779 := n2_; have GW779 := n3_; have GE779 := n4_; have NB778_779 := n5_; have NB779_778 := n6_; clear n0_ n1_ n2_ n3_ n4_ n5_ n6_; clear hb hbox hg) | ((with_reducible refine gate_dst (N := 5) rfl ?_); (try (refine gate_guard (by rfl) ?_; dsimp only)); refine box_event ?hg (N := 5) ?hd (cs := #[.int .u64 a2_0, .int .u64 a2_1]) (t := 83) ?hr ?_; (case hd => rfl); (case hg => rfl); (case hr => first | (go_simp; done) | (go_simp; rfl)); intro gb780 hg w7 hbox hb; have n0_ := Aside0.mk (blk_below (g := gb778) (o := .cells #[.int .u64 a0_0, .int .i64 a0_1, .int .i64 a0_2] 24 (0, 0)) (by (with_reducible repeat (first | refine blk_drewN ?_ _ | refine blk_drew ?_ | refine blk_alloc ?_ _)); exact BK778.out) hb); have n1_ := Aside0.mk (blk_below (g := gb779) (o := .cells #[.slice A1_0 l1_0.length c1_0, .slice A1_1 l1_1.length c1_1] 82 (0, 0)) (by (with_reducible repeat (first | refine blk_drewN ?_ _ | refine blk_drew ?_ | refine blk_alloc ?_ _)); exact BK779.out) hb); have n2_ := Aside0.mk (below_step (by repeat (first | (with_reducible first | exact HB.out | apply below_alloc | apply pw_below_drewN | apply below_drew1 | refine below_set ?_ GE778.out | refine below_set ?_ GE779.out) | exact HB.out)) hb); have n3_ := Aside0.mk (hbox); have n4_ := Aside0.mk ((by rw [hg]; exact (below_size (by repeat (first | (with_reducible first | exact HB.out | apply below_alloc | apply pw_below_drewN | apply below_drew1 | refine below_set ?_ GE778.out | refine below_set ?_ GE779.out) | exact HB.out))) : w.heap.size ≤ gb780)); have n5_ := Aside0.mk ((by rw [hg]; exact (below_size (by repeat (first | (with_reducible first | exact HB.out | apply below_alloc | apply pw_below_drewN | apply below_drew1 | refine below_set ?_ GE778.out | refine below_set ?_ GE779.out) | exact HB.out))) : w.heap.size ≤ gb780)); have n6_ := Aside0.mk ((by rw [hg]; exact Nat.ne_of_lt (blk_lt (g := gb778) (o := .cells #[.int .u64 a0_0, .int .i64 a0_1, .int .i64 a0_2] 24 (0, 0)) (by (with_reducible repeat (first | refine blk_drewN ?_ _ | refine blk_drew ?_ | refine blk_alloc ?_ _)); exact BK778.out)) : gb778 ≠ gb780)); have n7_ := Aside0.mk ((by rw [hg]; exact Nat.ne_of_gt (blk_lt (g := gb778) (o := .cells #[.int .u64 a0_0, .int .i64 a0_1, .int .i64 a0_2] 24 (0, 0)) (by (with_reducible repeat (first | refine blk_drewN ?_ _ | refine blk_drew ?_ | refine blk_alloc ?_ _)); exact BK778.out)) : gb780 ≠ gb778)); have n8_ := Aside0.mk ((by rw [hg]; exact Nat.ne_of_lt (blk_lt (g := gb779) (o := .cells #[.slice A1_0 l1_0.length c1_0, .slice A1_1 l1_1.length c1_1] 82 (0, 0)) (by (with_reducible repeat (first | refine blk_drewN ?_ _ | refine blk_drew ?_ | refine blk_alloc ?_ _)); exact BK779.out)) : gb779 ≠ gb780)); have n9_ := Aside0.mk ((by rw [hg]; exact Nat.ne_of_gt (blk_lt (g := gb779) (o := .cells #[.slice A1_0 l1_0.length c1_0, .slice A1_1 l1_1.length c1_1] 82 (0, 0)) (by (with_reducible repeat (first | refine blk_drewN ?_ _ | refine blk_drew ?_ | refine blk_alloc ?_ _)); exact BK779.out)) : gb780 ≠ gb779)); clear BK778; clear BK779; clear HB; have BK778 := n0_; have BK779 := n1_; have HB := n2_; have BK780 := n3_; have GW780 := n4_; have GE780 := n5_; have NB778_780 := n6_; have NB780_778 := n7_; have NB779_780 := n8_; have NB780_779 := n9_; clear n0_ n1_ n2_ n3_ n4_ n5_ n6_ n7_ n8_ n9_; clear hb hbox hg; have hnb8 := NB779_778.out; have hnc8 := NB778_779.out; have hnb9 := NB779_780.out; have hnc9 := NB780_779.out; have hcz10_0 : w7.cell? ⟨gb779, 0, none⟩ = some (.slice A1_0 l1_0.length c1_0) := (blk_cell BK779.out 0).trans rfl; have hcz10_1 : w7.cell? ⟨gb779, 1, none⟩ = some (.slice A1_1 l1_1.length c1_1) := (blk_cell BK779.out 1).trans rfl; have hfz10_0 := blk_frozen BK779.out 0; have hfz10_1 := blk_frozen BK779.out 1))
  (try simp only [Act.put, List.setIfInBounds_toArray, List.set_cons_zero, List.set_cons_succ])
  go_cut [56] (fun v56 wc => ∃ (kq : Nat) (x56_3 : Bool), v56 = .bool x56_3 ∧ Aside0 (juntolaw04_ShareNothing.j0 kq (l1_0.length : Int) x56_3 a0_0 a0_1 a0_2 l1_0 l1_1 a2_0 a2_1 = some r) ∧ Aside0 (kq ≤ k) ∧ Aside0 (wc.heap[gb778]? = some (.cells #[.int .u64 a0_0, .int .i64 a0_1, .int .i64 a0_2] 24 (0, 0))) ∧ Aside0 (wc.heap[gb779]? = some (.cells #[(.slice A1_0 l1_0.length c1_0), (.slice A1_1 l1_1.length c1_1)] 82 (0, 0))) ∧ Aside0 (wc.heap[gb780]? = some (.cells #[.int .u64 a2_0, .int .u64 a2_1] 83 (0, 0))) ∧ Aside0 (Below w.heap.size w wc))
  case first =>
    have H := HC4.out
    clear HC4
    replace H := Option.bind_eq_some_iff.mp H
    obtain ⟨t781, A110, H⟩ := H
    replace H : (if t781 = 0 then (if (l1_0.length : Int) > (wrap64 (a0_1 - 1)) then (juntolaw04_ShareNothing.j0 k (l1_0.length : Int) true a0_0 a0_1 a0_2 l1_0 l1_1 a2_0 a2_1) else ((juntoref04_Rising.f k a0_1 l1_0).bind fun t782 => (if t782 = true then (if (l1_1.length : Int) = (l1_0.length : Int) then ((juntoref01_Within.f k a0_0 l1_1).bind fun t783 => (juntolaw04_ShareNothing.j0 k (l1_0.length : Int) (t783 != 0) a0_0 a0_1 a0_2 l1_0 l1_1 a2_0 a2_1)) else (juntolaw04_ShareNothing.j0 k (l1_0.length : Int) true a0_0 a0_1 a0_2 l1_0 l1_1 a2_0 a2_1)) else (juntolaw04_ShareNothing.j0 k (l1_0.length : Int) true a0_0 a0_1 a0_2 l1_0 l1_1 a2_0 a2_1)))) else (juntolaw04_ShareNothing.j0 k (l1_0.length : Int) true a0_0 a0_1 a0_2 l1_0 l1_1 a2_0 a2_1)) = some r := H
    have A11 := Aside0.mk A110
    clear A110
    by_cases c12 : t781 = 0
    · rw [if_pos c12] at H
      have c12b0 : (t781 == 0) = true := beq_iff_eq.mpr c12
      have c12b1 : (t781 != 0) = false := bne_eq_false_iff_eq.mpr c12
      clear c12
      (first | rw [c12b0] | (simp only [i64_w, i32_w]; rw [c12b0]) | skip)
      by_cases c13 : (l1_0.length : Int) > (wrap64 (a0_1 - 1))
      · rw [if_pos c13] at H
        have c13b0 : decide ((wrap64 (a0_1 - 1)) < (l1_0.length : Int)) = true := decide_eq_true c13
        clear c13
        have H' := Aside0.mk H
        clear H
        have hnb14 := NB778_779.out
        have hnc14 := NB779_778.out
        have hnb15 := NB778_780.out
        have hnc15 := NB780_778.out
        have hcz16_0 : w7.cell? ⟨gb778, 0, none⟩ = some (.int .u64 a0_0) := (blk_cell BK778.out 0).trans rfl
        have hcz16_1 : w7.cell? ⟨gb778, 1, none⟩ = some (.int .i64 a0_1) := (blk_cell BK778.out 1).trans rfl
        have hcz16_2 : w7.cell? ⟨gb778, 2, none⟩ = some (.int .i64 a0_2) := (blk_cell BK778.out 2).trans rfl
        have hfz16_0 := blk_frozen BK778.out 0
        have hfz16_1 := blk_frozen BK778.out 1
        have hfz16_2 := blk_frozen BK778.out 2
        go_wp2_with (first | ((with_reducible refine gate_callee (f := 42) rfl ?_); refine goesL_ (some 25) rfl rfl Try.func42 (by kernel_rfl) rfl #[.agg #[.int .u64 a0_0, .int .i64 a0_1, .int .i64 a0_2]] rfl (by (try simp only [List.map_toArray, List.map_cons, List.map_nil]); first | done | rfl | (simp only [List.length_drop, List.length_take]; rfl)) ?_; (with_reducible refine (juntoref04_Setup.calls k a0_0 a0_1 a0_2 t781 _ A11.out).mono ?_); rintro e w17 ⟨rfl, hb⟩; refine ⟨_, rfl, ?_⟩; have n0_ := Aside0.mk (blk_below (g := gb778) (o := .cells #[.int .u64 a0_0, .int .i64 a0_1, .int .i64 a0_2] 24 (0, 0)) (by (with_reducible repeat (first | refine blk_drewN ?_ _ | refine blk_drew ?_ | refine blk_alloc ?_ _)); exact BK778.out) hb); have n1_ := Aside0.mk (blk_below (g := gb779) (o := .cells #[.slice A1_0 l1_0.length c1_0, .slice A1_1 l1_1.length c1_1] 82 (0, 0)) (by (with_reducible repeat (first | refine blk_drewN ?_ _ | refine blk_drew ?_ | refine blk_alloc ?_ _)); exact BK779.out) hb); have n2_ := Aside0.mk (blk_below (g := gb780) (o := .cells #[.int .u64 a2_0, .int .u64 a2_1] 83 (0, 0)) (by (with_reducible repeat (first | refine blk_drewN ?_ _ | refine blk_drew ?_ | refine blk_alloc ?_ _)); exact BK780.out) hb); have n3_ := Aside0.mk (below_step (by repeat (first | (with_reducible first | exact HB.out | apply below_alloc | apply pw_below_drewN | apply below_drew1 | refine below_set ?_ GE778.out | refine below_set ?_ GE779.out | refine below_set ?_ GE780.out) | exact HB.out)) hb); clear BK778; clear BK779; clear BK780; clear HB; have BK778 := n0_; have BK779 := n1_; have BK780 := n2_; have HB := n3_; clear n0_ n1_ n2_ n3_; (try clear hb); (try clear hb2); (try clear hk); (try clear hi); have hcz18_0 : w17.cell? ⟨gb778, 0, none⟩ = some (.int .u64 a0_0) := (blk_cell BK778.out 0).trans rfl; have hcz18_1 : w17.cell? ⟨gb778, 1, none⟩ = some (.int .i64 a0_1) := (blk_cell BK778.out 1).trans rfl; have hcz18_2 : w17.cell? ⟨gb778, 2, none⟩ = some (.int .i64 a0_2) := (blk_cell BK778.out 2).trans rfl; have hfz18_0 := blk_frozen BK778.out 0; have hfz18_1 := blk_frozen BK778.out 1; have hfz18_2 := blk_frozen BK778.out 2))
        go_meet
        case rel => exact ⟨_, (true), (by first | rfl | (simp; done) | (simp [*]; done)), H', ⟨by first | omega | exact Nat.le_refl _⟩, ⟨by (with_reducible repeat (first | refine blk_drewN ?_ _ | refine blk_drew ?_ | refine blk_alloc ?_ _)); exact BK778.out⟩, ⟨by (with_reducible repeat (first | refine blk_drewN ?_ _ | refine blk_drew ?_ | refine blk_alloc ?_ _)); exact BK779.out⟩, ⟨by (with_reducible repeat (first | refine blk_drewN ?_ _ | refine blk_drew ?_ | refine blk_alloc ?_ _)); exact BK780.out⟩, ⟨by repeat (first | (with_reducible first | exact HB.out | apply below_alloc | apply pw_below_drewN | apply below_drew1 | refine below_set ?_ GE778.out | refine below_set ?_ GE779.out | refine below_set ?_ GE780.out) | exact HB.out)⟩⟩
      · rw [if_neg c13] at H
        have c13b0 : decide ((wrap64 (a0_1 - 1)) < (l1_0.length : Int)) = false := decide_eq_false c13
        clear c13
        replace H := Option.bind_eq_some_iff.mp H
        obtain ⟨t782, A190, H⟩ := H
        replace H : (if t782 = true then (if (l1_1.length : Int) = (l1_0.length : Int) then ((juntoref01_Within.f k a0_0 l1_1).bind fun t783 => (juntolaw04_ShareNothing.j0 k (l1_0.length : Int) (t783 != 0) a0_0 a0_1 a0_2 l1_0 l1_1 a2_0 a2_1)) else (juntolaw04_ShareNothing.j0 k (l1_0.length : Int) true a0_0 a0_1 a0_2 l1_0 l1_1 a2_0 a2_1)) else (juntolaw04_ShareNothing.j0 k (l1_0.length : Int) true a0_0 a0_1 a0_2 l1_0 l1_1 a2_0 a2_1)) = some r := H
        have A19 := Aside0.mk A190
        clear A190
        by_cases c20 : t782 = true
        · subst c20
          have H1 : (if (l1_1.length : Int) = (l1_0.length : Int) then ((juntoref01_Within.f k a0_0 l1_1).bind fun t783 => (juntolaw04_ShareNothing.j0 k (l1_0.length : Int) (t783 != 0) a0_0 a0_1 a0_2 l1_0 l1_1 a2_0 a2_1)) else (juntolaw04_ShareNothing.j0 k (l1_0.length : Int) true a0_0 a0_1 a0_2 l1_0 l1_1 a2_0 a2_1)) = some r := by rw [if_pos rfl] at H; exact H
          clear H
          have H := H1
          clear H1
          by_cases c21 : (l1_1.length : Int) = (l1_0.length : Int)
          · rw [if_pos c21] at H
            have c21b0 : ((l1_1.length : Int) == (l1_0.length : Int)) = true := beq_iff_eq.mpr c21
            have c21b1 : ((l1_1.length : Int) != (l1_0.length : Int)) = false := bne_eq_false_iff_eq.mpr c21
            have c21b2 : (l1_1.length == l1_0.length) = true := by first | simpa using c21 | (simp at c21 ⊢; omega)
            clear c21
            replace H := Option.bind_eq_some_iff.mp H
            obtain ⟨t783, A220, H⟩ := H
            replace H : (juntolaw04_ShareNothing.j0 k (l1_0.length : Int) (t783 != 0) a0_0 a0_1 a0_2 l1_0 l1_1 a2_0 a2_1) = some r := H
            have A22 := Aside0.mk A220
            clear A220
            have H' := Aside0.mk H
            clear H
            have hnb23 := NB778_779.out
            have hnc23 := NB779_778.out
            have hnb24 := NB778_780.out
            have hnc24 := NB780_778.out
            have hcz25_0 : w7.cell? ⟨gb778, 0, none⟩ = some (.int .u64 a0_0) := (blk_cell BK778.out 0).trans rfl
            have hcz25_1 : w7.cell? ⟨gb778, 1, none⟩ = some (.int .i64 a0_1) := (blk_cell BK778.out 1).trans rfl
            have hcz25_2 : w7.cell? ⟨gb778, 2, none⟩ = some (.int .i64 a0_2) := (blk_cell BK778.out 2).trans rfl
            have hfz25_0 := blk_frozen BK778.out 0
            have hfz25_1 := blk_frozen BK778.out 1
            have hfz25_2 := blk_frozen BK778.out 2
            go_wp2_with (first | ((with_reducible refine gate_callee (f := 42) rfl ?_); refine goesL_ (some 25) rfl rfl Try.func42 (by kernel_rfl) rfl #[.agg #[.int .u64 a0_0, .int .i64 a0_1, .int .i64 a0_2]] rfl (by (try simp only [List.map_toArray, List.map_cons, List.map_nil]); first | done | rfl | (simp only [List.length_drop, List.length_take]; rfl)) ?_; (with_reducible refine (juntoref04_Setup.calls k a0_0 a0_1 a0_2 t781 _ A11.out).mono ?_); rintro e w26 ⟨rfl, hb⟩; refine ⟨_, rfl, ?_⟩; have n0_ := Aside0.mk (blk_below (g := gb778) (o := .cells #[.int .u64 a0_0, .int .i64 a0_1, .int .i64 a0_2] 24 (0, 0)) (by (with_reducible repeat (first | refine blk_drewN ?_ _ | refine blk_drew ?_ | refine blk_alloc ?_ _)); exact BK778.out) hb); have n1_ := Aside0.mk (blk_below (g := gb779) (o := .cells #[.slice A1_0 l1_0.length c1_0, .slice A1_1 l1_1.length c1_1] 82 (0, 0)) (by (with_reducible repeat (first | refine blk_drewN ?_ _ | refine blk_drew ?_ | refine blk_alloc ?_ _)); exact BK779.out) hb); have n2_ := Aside0.mk (blk_below (g := gb780) (o := .cells #[.int .u64 a2_0, .int .u64 a2_1] 83 (0, 0)) (by (with_reducible repeat (first | refine blk_drewN ?_ _ | refine blk_drew ?_ | refine blk_alloc ?_ _)); exact BK780.out) hb); have n3_ := Aside0.mk (below_step (by repeat (first | (with_reducible first | exact HB.out | apply below_alloc | apply pw_below_drewN | apply below_drew1 | refine below_set ?_ GE778.out | refine below_set ?_ GE779.out | refine below_set ?_ GE780.out) | exact HB.out)) hb); clear BK778; clear BK779; clear BK780; clear HB; have BK778 := n0_; have BK779 := n1_; have BK780 := n2_; have HB := n3_; clear n0_ n1_ n2_ n3_; (try clear hb); (try clear hb2); (try clear hk); (try clear hi); have hcz27_0 : w26.cell? ⟨gb778, 0, none⟩ = some (.int .u64 a0_0) := (blk_cell BK778.out 0).trans rfl; have hcz27_1 : w26.cell? ⟨gb778, 1, none⟩ = some (.int .i64 a0_1) := (blk_cell BK778.out 1).trans rfl; have hcz27_2 : w26.cell? ⟨gb778, 2, none⟩ = some (.int .i64 a0_2) := (blk_cell BK778.out 2).trans rfl; have hfz27_0 := blk_frozen BK778.out 0; have hfz27_1 := blk_frozen BK778.out 1; have hfz27_2 := blk_frozen BK778.out 2; have hnb28 := NB779_780.out; have hnc28 := NB780_779.out; have hcz29_0 : w26.cell? ⟨gb779, 0, none⟩ = some (.slice A1_0 l1_0.length c1_0) := (blk_cell BK779.out 0).trans rfl; have hcz29_1 : w26.cell? ⟨gb779, 1, none⟩ = some (.slice A1_1 l1_1.length c1_1) := (blk_cell BK779.out 1).trans rfl; have hfz29_0 := blk_frozen BK779.out 0; have hfz29_1 := blk_frozen BK779.out 1) | (go_at_call 76; (with_reducible refine (juntoref04_Rising.calls k a0_1 _ _ l1_0 true _ ?side1 ?side2 A19.out).mono ?_); (case side1 => repeat (first | exact (Kd.C_below HR1_0.out HB.out) | (with_reducible refine Kd.C_alloc ?_ _) | (with_reducible refine Kd.C_drewN ?_ _) | (with_reducible refine Kd.C_drew ?_))); (case side2 => exact HC1_0.out); rintro e w' ⟨rfl, ⟨nd, rfl⟩⟩) | (go_at_call 54; (with_reducible refine (juntoref01_Within.calls k a0_0 _ _ l1_1 t783 _ ?side1 ?side2 A22.out).mono ?_); (case side1 => repeat (first | exact (Kd.C_below HR1_1.out (by repeat (first | (with_reducible first | exact HB.out | apply below_alloc | apply pw_below_drewN | apply below_drew1 | refine below_set ?_ GE778.out | refine below_set ?_ GE779.out | refine below_set ?_ GE780.out) | exact HB.out))) | (with_reducible refine Kd.C_alloc ?_ _) | (with_reducible refine Kd.C_drewN ?_ _) | (with_reducible refine Kd.C_drew ?_))); (case side2 => exact HC1_1.out); rintro e w' ⟨rfl, ⟨nd, rfl⟩⟩))
            go_meet
            case rel => exact ⟨_, ((t783 != 0)), (by first | rfl | (simp; done) | (simp [*]; done)), H', ⟨by first | omega | exact Nat.le_refl _⟩, ⟨by (with_reducible repeat (first | refine blk_drewN ?_ _ | refine blk_drew ?_ | refine blk_alloc ?_ _)); exact BK778.out⟩, ⟨by (with_reducible repeat (first | refine blk_drewN ?_ _ | refine blk_drew ?_ | refine blk_alloc ?_ _)); exact BK779.out⟩, ⟨by (with_reducible repeat (first | refine blk_drewN ?_ _ | refine blk_drew ?_ | refine blk_alloc ?_ _)); exact BK780.out⟩, ⟨by repeat (first | (with_reducible first | exact HB.out | apply below_alloc | apply pw_below_drewN | apply below_drew1 | refine below_set ?_ GE778.out | refine below_set ?_ GE779.out | refine below_set ?_ GE780.out) | exact HB.out)⟩⟩
          · rw [if_neg c21] at H
            have c21b0 : ((l1_1.length : Int) == (l1_0.length : Int)) = false := beq_eq_false_iff_ne.mpr c21
            have c21b1 : ((l1_1.length : Int) != (l1_0.length : Int)) = true := bne_iff_ne.mpr c21
            have c21b2 : (l1_1.length == l1_0.length) = false := by first | simpa using c21 | (simp at c21 ⊢; omega)
            have H' := Aside0.mk H
            clear H
            have hnb30 := NB778_779.out
            have hnc30 := NB779_778.out
            have hnb31 := NB778_780.out
            have hnc31 := NB780_778.out
            have hcz32_0 : w7.cell? ⟨gb778, 0, none⟩ = some (.int .u64 a0_0) := (blk_cell BK778.out 0).trans rfl
            have hcz32_1 : w7.cell? ⟨gb778, 1, none⟩ = some (.int .i64 a0_1) := (blk_cell BK778.out 1).trans rfl
            have hcz32_2 : w7.cell? ⟨gb778, 2, none⟩ = some (.int .i64 a0_2) := (blk_cell BK778.out 2).trans rfl
            have hfz32_0 := blk_frozen BK778.out 0
            have hfz32_1 := blk_frozen BK778.out 1
            have hfz32_2 := blk_frozen BK778.out 2
            go_wp2_with (first | ((with_reducible refine gate_callee (f := 42) rfl ?_); refine goesL_ (some 25) rfl rfl Try.func42 (by kernel_rfl) rfl #[.agg #[.int .u64 a0_0, .int .i64 a0_1, .int .i64 a0_2]] rfl (by (try simp only [List.map_toArray, List.map_cons, List.map_nil]); first | done | rfl | (simp only [List.length_drop, List.length_take]; rfl)) ?_; (with_reducible refine (juntoref04_Setup.calls k a0_0 a0_1 a0_2 t781 _ A11.out).mono ?_); rintro e w33 ⟨rfl, hb⟩; refine ⟨_, rfl, ?_⟩; have n0_ := Aside0.mk (blk_below (g := gb778) (o := .cells #[.int .u64 a0_0, .int .i64 a0_1, .int .i64 a0_2] 24 (0, 0)) (by (with_reducible repeat (first | refine blk_drewN ?_ _ | refine blk_drew ?_ | refine blk_alloc ?_ _)); exact BK778.out) hb); have n1_ := Aside0.mk (blk_below (g := gb779) (o := .cells #[.slice A1_0 l1_0.length c1_0, .slice A1_1 l1_1.length c1_1] 82 (0, 0)) (by (with_reducible repeat (first | refine blk_drewN ?_ _ | refine blk_drew ?_ | refine blk_alloc ?_ _)); exact BK779.out) hb); have n2_ := Aside0.mk (blk_below (g := gb780) (o := .cells #[.int .u64 a2_0, .int .u64 a2_1] 83 (0, 0)) (by (with_reducible repeat (first | refine blk_drewN ?_ _ | refine blk_drew ?_ | refine blk_alloc ?_ _)); exact BK780.out) hb); have n3_ := Aside0.mk (below_step (by repeat (first | (with_reducible first | exact HB.out | apply below_alloc | apply pw_below_drewN | apply below_drew1 | refine below_set ?_ GE778.out | refine below_set ?_ GE779.out | refine below_set ?_ GE780.out) | exact HB.out)) hb); clear BK778; clear BK779; clear BK780; clear HB; have BK778 := n0_; have BK779 := n1_; have BK780 := n2_; have HB := n3_; clear n0_ n1_ n2_ n3_; (try clear hb); (try clear hb2); (try clear hk); (try clear hi); have hcz34_0 : w33.cell? ⟨gb778, 0, none⟩ = some (.int .u64 a0_0) := (blk_cell BK778.out 0).trans rfl; have hcz34_1 : w33.cell? ⟨gb778, 1, none⟩ = some (.int .i64 a0_1) := (blk_cell BK778.out 1).trans rfl; have hcz34_2 : w33.cell? ⟨gb778, 2, none⟩ = some (.int .i64 a0_2) := (blk_cell BK778.out 2).trans rfl; have hfz34_0 := blk_frozen BK778.out 0; have hfz34_1 := blk_frozen BK778.out 1; have hfz34_2 := blk_frozen BK778.out 2; have hnb35 := NB779_780.out; have hnc35 := NB780_779.out; have hcz36_0 : w33.cell? ⟨gb779, 0, none⟩ = some (.slice A1_0 l1_0.length c1_0) := (blk_cell BK779.out 0).trans rfl; have hcz36_1 : w33.cell? ⟨gb779, 1, none⟩ = some (.slice A1_1 l1_1.length c1_1) := (blk_cell BK779.out 1).trans rfl; have hfz36_0 := blk_frozen BK779.out 0; have hfz36_1 := blk_frozen BK779.out 1) | (go_at_call 76; (with_reducible refine (juntoref04_Rising.calls k a0_1 _ _ l1_0 true _ ?side1 ?side2 A19.out).mono ?_); (case side1 => repeat (first | exact (Kd.C_below HR1_0.out HB.out) | (with_reducible refine Kd.C_alloc ?_ _) | (with_reducible refine Kd.C_drewN ?_ _) | (with_reducible refine Kd.C_drew ?_))); (case side2 => exact HC1_0.out); rintro e w' ⟨rfl, ⟨nd, rfl⟩⟩))
            go_meet
            case rel => exact ⟨_, (true), (by first | rfl | (simp; done) | (simp [*]; done)), H', ⟨by first | omega | exact Nat.le_refl _⟩, ⟨by (with_reducible repeat (first | refine blk_drewN ?_ _ | refine blk_drew ?_ | refine blk_alloc ?_ _)); exact BK778.out⟩, ⟨by (with_reducible repeat (first | refine blk_drewN ?_ _ | refine blk_drew ?_ | refine blk_alloc ?_ _)); exact BK779.out⟩, ⟨by (with_reducible repeat (first | refine blk_drewN ?_ _ | refine blk_drew ?_ | refine blk_alloc ?_ _)); exact BK780.out⟩, ⟨by repeat (first | (with_reducible first | exact HB.out | apply below_alloc | apply pw_below_drewN | apply below_drew1 | refine below_set ?_ GE778.out | refine below_set ?_ GE779.out | refine below_set ?_ GE780.out) | exact HB.out)⟩⟩
        · replace c20 := Bool.eq_false_iff.mpr c20
          subst c20
          have H1 : (juntolaw04_ShareNothing.j0 k (l1_0.length : Int) true a0_0 a0_1 a0_2 l1_0 l1_1 a2_0 a2_1) = some r := by rw [if_neg (show ¬ (false = true) by decide)] at H; exact H
          clear H
          have H := H1
          clear H1
          have H' := Aside0.mk H
          clear H
          have hnb37 := NB778_779.out
          have hnc37 := NB779_778.out
          have hnb38 := NB778_780.out
          have hnc38 := NB780_778.out
          have hcz39_0 : w7.cell? ⟨gb778, 0, none⟩ = some (.int .u64 a0_0) := (blk_cell BK778.out 0).trans rfl
          have hcz39_1 : w7.cell? ⟨gb778, 1, none⟩ = some (.int .i64 a0_1) := (blk_cell BK778.out 1).trans rfl
          have hcz39_2 : w7.cell? ⟨gb778, 2, none⟩ = some (.int .i64 a0_2) := (blk_cell BK778.out 2).trans rfl
          have hfz39_0 := blk_frozen BK778.out 0
          have hfz39_1 := blk_frozen BK778.out 1
          have hfz39_2 := blk_frozen BK778.out 2
          go_wp2_with (first | ((with_reducible refine gate_callee (f := 42) rfl ?_); refine goesL_ (some 25) rfl rfl Try.func42 (by kernel_rfl) rfl #[.agg #[.int .u64 a0_0, .int .i64 a0_1, .int .i64 a0_2]] rfl (by (try simp only [List.map_toArray, List.map_cons, List.map_nil]); first | done | rfl | (simp only [List.length_drop, List.length_take]; rfl)) ?_; (with_reducible refine (juntoref04_Setup.calls k a0_0 a0_1 a0_2 t781 _ A11.out).mono ?_); rintro e w40 ⟨rfl, hb⟩; refine ⟨_, rfl, ?_⟩; have n0_ := Aside0.mk (blk_below (g := gb778) (o := .cells #[.int .u64 a0_0, .int .i64 a0_1, .int .i64 a0_2] 24 (0, 0)) (by (with_reducible repeat (first | refine blk_drewN ?_ _ | refine blk_drew ?_ | refine blk_alloc ?_ _)); exact BK778.out) hb); have n1_ := Aside0.mk (blk_below (g := gb779) (o := .cells #[.slice A1_0 l1_0.length c1_0, .slice A1_1 l1_1.length c1_1] 82 (0, 0)) (by (with_reducible repeat (first | refine blk_drewN ?_ _ | refine blk_drew ?_ | refine blk_alloc ?_ _)); exact BK779.out) hb); have n2_ := Aside0.mk (blk_below (g := gb780) (o := .cells #[.int .u64 a2_0, .int .u64 a2_1] 83 (0, 0)) (by (with_reducible repeat (first | refine blk_drewN ?_ _ | refine blk_drew ?_ | refine blk_alloc ?_ _)); exact BK780.out) hb); have n3_ := Aside0.mk (below_step (by repeat (first | (with_reducible first | exact HB.out | apply below_alloc | apply pw_below_drewN | apply below_drew1 | refine below_set ?_ GE778.out | refine below_set ?_ GE779.out | refine below_set ?_ GE780.out) | exact HB.out)) hb); clear BK778; clear BK779; clear BK780; clear HB; have BK778 := n0_; have BK779 := n1_; have BK780 := n2_; have HB := n3_; clear n0_ n1_ n2_ n3_; (try clear hb); (try clear hb2); (try clear hk); (try clear hi); have hcz41_0 : w40.cell? ⟨gb778, 0, none⟩ = some (.int .u64 a0_0) := (blk_cell BK778.out 0).trans rfl; have hcz41_1 : w40.cell? ⟨gb778, 1, none⟩ = some (.int .i64 a0_1) := (blk_cell BK778.out 1).trans rfl; have hcz41_2 : w40.cell? ⟨gb778, 2, none⟩ = some (.int .i64 a0_2) := (blk_cell BK778.out 2).trans rfl; have hfz41_0 := blk_frozen BK778.out 0; have hfz41_1 := blk_frozen BK778.out 1; have hfz41_2 := blk_frozen BK778.out 2; have hnb42 := NB779_780.out; have hnc42 := NB780_779.out; have hcz43_0 : w40.cell? ⟨gb779, 0, none⟩ = some (.slice A1_0 l1_0.length c1_0) := (blk_cell BK779.out 0).trans rfl; have hcz43_1 : w40.cell? ⟨gb779, 1, none⟩ = some (.slice A1_1 l1_1.length c1_1) := (blk_cell BK779.out 1).trans rfl; have hfz43_0 := blk_frozen BK779.out 0; have hfz43_1 := blk_frozen BK779.out 1) | (go_at_call 76; (with_reducible refine (juntoref04_Rising.calls k a0_1 _ _ l1_0 false _ ?side1 ?side2 A19.out).mono ?_); (case side1 => repeat (first | exact (Kd.C_below HR1_0.out HB.out) | (with_reducible refine Kd.C_alloc ?_ _) | (with_reducible refine Kd.C_drewN ?_ _) | (with_reducible refine Kd.C_drew ?_))); (case side2 => exact HC1_0.out); rintro e w' ⟨rfl, ⟨nd, rfl⟩⟩))
          go_meet
          case rel => exact ⟨_, (true), (by first | rfl | (simp; done) | (simp [*]; done)), H', ⟨by first | omega | exact Nat.le_refl _⟩, ⟨by (with_reducible repeat (first | refine blk_drewN ?_ _ | refine blk_drew ?_ | refine blk_alloc ?_ _)); exact BK778.out⟩, ⟨by (with_reducible repeat (first | refine blk_drewN ?_ _ | refine blk_drew ?_ | refine blk_alloc ?_ _)); exact BK779.out⟩, ⟨by (with_reducible repeat (first | refine blk_drewN ?_ _ | refine blk_drew ?_ | refine blk_alloc ?_ _)); exact BK780.out⟩, ⟨by repeat (first | (with_reducible first | exact HB.out | apply below_alloc | apply pw_below_drewN | apply below_drew1 | refine below_set ?_ GE778.out | refine below_set ?_ GE779.out | refine below_set ?_ GE780.out) | exact HB.out)⟩⟩
    · rw [if_neg c12] at H
      have c12b0 : (t781 == 0) = false := beq_eq_false_iff_ne.mpr c12
      have c12b1 : (t781 != 0) = true := bne_iff_ne.mpr c12
      (first | rw [c12b0] | (simp only [i64_w, i32_w]; rw [c12b0]) | skip)
      have H' := Aside0.mk H
      clear H
      have hnb44 := NB778_779.out
      have hnc44 := NB779_778.out
      have hnb45 := NB778_780.out
      have hnc45 := NB780_778.out
      have hcz46_0 : w7.cell? ⟨gb778, 0, none⟩ = some (.int .u64 a0_0) := (blk_cell BK778.out 0).trans rfl
      have hcz46_1 : w7.cell? ⟨gb778, 1, none⟩ = some (.int .i64 a0_1) := (blk_cell BK778.out 1).trans rfl
      have hcz46_2 : w7.cell? ⟨gb778, 2, none⟩ = some (.int .i64 a0_2) := (blk_cell BK778.out 2).trans rfl
      have hfz46_0 := blk_frozen BK778.out 0
      have hfz46_1 := blk_frozen BK778.out 1
      have hfz46_2 := blk_frozen BK778.out 2
      go_wp2_with (first | ((with_reducible refine gate_callee (f := 42) rfl ?_); refine goesL_ (some 25) rfl rfl Try.func42 (by kernel_rfl) rfl #[.agg #[.int .u64 a0_0, .int .i64 a0_1, .int .i64 a0_2]] rfl (by (try simp only [List.map_toArray, List.map_cons, List.map_nil]); first | done | rfl | (simp only [List.length_drop, List.length_take]; rfl)) ?_; (with_reducible refine (juntoref04_Setup.calls k a0_0 a0_1 a0_2 t781 _ A11.out).mono ?_); rintro e w47 ⟨rfl, hb⟩; refine ⟨_, rfl, ?_⟩; have n0_ := Aside0.mk (blk_below (g := gb778) (o := .cells #[.int .u64 a0_0, .int .i64 a0_1, .int .i64 a0_2] 24 (0, 0)) (by (with_reducible repeat (first | refine blk_drewN ?_ _ | refine blk_drew ?_ | refine blk_alloc ?_ _)); exact BK778.out) hb); have n1_ := Aside0.mk (blk_below (g := gb779) (o := .cells #[.slice A1_0 l1_0.length c1_0, .slice A1_1 l1_1.length c1_1] 82 (0, 0)) (by (with_reducible repeat (first | refine blk_drewN ?_ _ | refine blk_drew ?_ | refine blk_alloc ?_ _)); exact BK779.out) hb); have n2_ := Aside0.mk (blk_below (g := gb780) (o := .cells #[.int .u64 a2_0, .int .u64 a2_1] 83 (0, 0)) (by (with_reducible repeat (first | refine blk_drewN ?_ _ | refine blk_drew ?_ | refine blk_alloc ?_ _)); exact BK780.out) hb); have n3_ := Aside0.mk (below_step (by repeat (first | (with_reducible first | exact HB.out | apply below_alloc | apply pw_below_drewN | apply below_drew1 | refine below_set ?_ GE778.out | refine below_set ?_ GE779.out | refine below_set ?_ GE780.out) | exact HB.out)) hb); clear BK778; clear BK779; clear BK780; clear HB; have BK778 := n0_; have BK779 := n1_; have BK780 := n2_; have HB := n3_; clear n0_ n1_ n2_ n3_; (try clear hb); (try clear hb2); (try clear hk); (try clear hi)))
      go_meet
      case rel => exact ⟨_, (true), (by first | rfl | (simp; done) | (simp [*]; done)), H', ⟨by first | omega | exact Nat.le_refl _⟩, ⟨by (with_reducible repeat (first | refine blk_drewN ?_ _ | refine blk_drew ?_ | refine blk_alloc ?_ _)); exact BK778.out⟩, ⟨by (with_reducible repeat (first | refine blk_drewN ?_ _ | refine blk_drew ?_ | refine blk_alloc ?_ _)); exact BK779.out⟩, ⟨by (with_reducible repeat (first | refine blk_drewN ?_ _ | refine blk_drew ?_ | refine blk_alloc ?_ _)); exact BK780.out⟩, ⟨by repeat (first | (with_reducible first | exact HB.out | apply below_alloc | apply pw_below_drewN | apply below_drew1 | refine below_set ?_ GE778.out | refine below_set ?_ GE779.out | refine below_set ?_ GE780.out) | exact HB.out)⟩⟩
  case rest =>
    clear HC4
    try clear c1
    try clear c2
    try clear p2
    try clear c3
    try clear c4
    try clear p6
    try clear c8
    try clear c9
    try clear c12
    try clear c12b0
    try clear c12b1
    try clear c13
    try clear c13b0
    try clear c14
    try clear c15
    try clear c20
    try clear c21
    try clear c21b0
    try clear c21b1
    try clear c21b2
    try clear c23
    try clear c24
    try clear c28
    try clear c30
    try clear c31
    try clear c35
    try clear c37
    try clear c38
    try clear c42
    try clear c44
    try clear c45
    try clear hcz10_0
    try clear hcz10_1
    try clear hcz16_0
    try clear hcz16_1
    try clear hcz16_2
    try clear hcz18_0
    try clear hcz18_1
    try clear hcz18_2
    try clear hcz25_0
    try clear hcz25_1
    try clear hcz25_2
    try clear hcz27_0
    try clear hcz27_1
    try clear hcz27_2
    try clear hcz29_0
    try clear hcz29_1
    try clear hcz32_0
    try clear hcz32_1
    try clear hcz32_2
    try clear hcz34_0
    try clear hcz34_1
    try clear hcz34_2
    try clear hcz36_0
    try clear hcz36_1
    try clear hcz39_0
    try clear hcz39_1
    try clear hcz39_2
    try clear hcz41_0
    try clear hcz41_1
    try clear hcz41_2
    try clear hcz43_0
    try clear hcz43_1
    try clear hcz46_0
    try clear hcz46_1
    try clear hcz46_2
    try clear hfz10_0
    try clear hfz10_1
    try clear hfz16_0
    try clear hfz16_1
    try clear hfz16_2
    try clear hfz18_0
    try clear hfz18_1
    try clear hfz18_2
    try clear hfz25_0
    try clear hfz25_1
    try clear hfz25_2
    try clear hfz27_0
    try clear hfz27_1
    try clear hfz27_2
    try clear hfz29_0
    try clear hfz29_1
    try clear hfz32_0
    try clear hfz32_1
    try clear hfz32_2
    try clear hfz34_0
    try clear hfz34_1
    try clear hfz34_2
    try clear hfz36_0
    try clear hfz36_1
    try clear hfz39_0
    try clear hfz39_1
    try clear hfz39_2
    try clear hfz41_0
    try clear hfz41_1
    try clear hfz41_2
    try clear hfz43_0
    try clear hfz43_1
    try clear hfz46_0
    try clear hfz46_1
    try clear hfz46_2
    obtain ⟨kq, x56_3, rfl, HA, HJ3, BK778, BK779, BK780, HB⟩ := hcut
    cases kq with
    | zero => exact absurd HA.out (by simp [juntolaw04_ShareNothing.j0])
    | succ kj3 =>
      have H := HA.out
      clear HA
      simp only [juntolaw04_ShareNothing.j0] at H
      by_cases c48 : x56_3 = true
      · subst c48
        have H1 : ((juntolaw04_alive.f kj3).bind fun t784 => (some t784)) = some r := by rw [if_pos rfl] at H; exact H
        clear H
        have H := H1
        clear H1
        replace H := Option.bind_eq_some_iff.mp H
        obtain ⟨t784, A490, H⟩ := H
        replace H : (some t784) = some r := H
        have A49 := Aside0.mk A490
        clear A490
        obtain rfl := Option.some.inj H
        go_wp2_with (first | ((with_reducible refine gate_callee (f := 67) rfl ?_); refine goesL_ (some 57) rfl rfl Try.func67 (by kernel_rfl) rfl #[] rfl (by (try simp only [List.map_toArray, List.map_cons, List.map_nil]); first | done | rfl | (simp only [List.length_drop, List.length_take]; rfl)) ?_; (with_reducible refine (juntolaw04_alive.calls kj3  t784 _ A49.out (by first | rfl | exact HRT.out)).mono ?_); rintro e w50 ⟨rfl, hb⟩; refine ⟨_, rfl, ?_⟩; have n0_ := Aside0.mk (blk_below (g := gb778) (o := .cells #[.int .u64 a0_0, .int .i64 a0_1, .int .i64 a0_2] 24 (0, 0)) (by (with_reducible repeat (first | refine blk_drewN ?_ _ | refine blk_drew ?_ | refine blk_alloc ?_ _)); exact BK778.out) hb); have n1_ := Aside0.mk (blk_below (g := gb779) (o := .cells #[.slice A1_0 l1_0.length c1_0, .slice A1_1 l1_1.length c1_1] 82 (0, 0)) (by (with_reducible repeat (first | refine blk_drewN ?_ _ | refine blk_drew ?_ | refine blk_alloc ?_ _)); exact BK779.out) hb); have n2_ := Aside0.mk (blk_below (g := gb780) (o := .cells #[.int .u64 a2_0, .int .u64 a2_1] 83 (0, 0)) (by (with_reducible repeat (first | refine blk_drewN ?_ _ | refine blk_drew ?_ | refine blk_alloc ?_ _)); exact BK780.out) hb); have n3_ := Aside0.mk (below_step (by repeat (first | (with_reducible first | exact HB.out | apply below_alloc | apply pw_below_drewN | apply below_drew1 | refine below_set ?_ GE778.out | refine below_set ?_ GE779.out | refine below_set ?_ GE780.out) | exact HB.out)) hb); clear BK778; clear BK779; clear BK780; clear HB; have BK778 := n0_; have BK779 := n1_; have BK780 := n2_; have HB := n3_; clear n0_ n1_ n2_ n3_; (try clear hb); (try clear hb2); (try clear hk); (try clear hi)))
        go_ret
        exact ⟨by first | rfl | (simp [errW_none, errW_some] <;> rfl) | (simp [*, errW_none, errW_some] <;> rfl), by repeat (first | (with_reducible first | exact HB.out | apply below_alloc | apply pw_below_drewN | apply below_drew1 | refine below_set ?_ GE778.out | refine below_set ?_ GE779.out | refine below_set ?_ GE780.out) | exact HB.out)⟩
      · replace c48 := Bool.eq_false_iff.mpr c48
        subst c48
        have H1 : (juntolaw04_ShareNothing.l0 kj3 (l1_0.length : Int) 0 a2_0 a2_1 a0_0 a0_1 a0_2 l1_0 l1_1) = some r := by rw [if_neg (show ¬ (false = true) by decide)] at H; exact H
        clear H
        have H := H1
        clear H1
        have H' := Aside0.mk H
        clear H
        have hnb51 := NB780_778.out
        have hnc51 := NB778_780.out
        have hnb52 := NB780_779.out
        have hnc52 := NB779_780.out
        have hcz53_0 : wc.cell? ⟨gb780, 0, none⟩ = some (.int .u64 a2_0) := (blk_cell BK780.out 0).trans rfl
        have hcz53_1 : wc.cell? ⟨gb780, 1, none⟩ = some (.int .u64 a2_1) := (blk_cell BK780.out 1).trans rfl
        have hfz53_0 := blk_frozen BK780.out 0
        have hfz53_1 := blk_frozen BK780.out 1
        go_wp2
        go_loopg [59] kj3 (fun kq v59 w' => ∃ (x59_2 : Int), v59 = .int .i64 x59_2 ∧ Aside0 (juntolaw04_ShareNothing.l0 kq (l1_0.length : Int) x59_2 a2_0 a2_1 a0_0 a0_1 a0_2 l1_0 l1_1 = some r) ∧ Aside0 (kq ≤ kj3) ∧ Aside0 (w'.heap[gb778]? = some (.cells #[.int .u64 a0_0, .int .i64 a0_1, .int .i64 a0_2] 24 (0, 0))) ∧ Aside0 (w'.heap[gb779]? = some (.cells #[(.slice A1_0 l1_0.length c1_0), (.slice A1_1 l1_1.length c1_1)] 82 (0, 0))) ∧ Aside0 (w'.heap[gb780]? = some (.cells #[.int .u64 a2_0, .int .u64 a2_1] 83 (0, 0))) ∧ Aside0 (Below w.heap.size w w'))
        case atStart => exact ⟨(0), (by first | rfl | (simp; done) | (simp [*]; done)), H', ⟨Nat.le_refl _⟩, ⟨by (with_reducible repeat (first | refine blk_drewN ?_ _ | refine blk_drew ?_ | refine blk_alloc ?_ _)); exact BK778.out⟩, ⟨by (with_reducible repeat (first | refine blk_drewN ?_ _ | refine blk_drew ?_ | refine blk_alloc ?_ _)); exact BK779.out⟩, ⟨by (with_reducible repeat (first | refine blk_drewN ?_ _ | refine blk_drew ?_ | refine blk_alloc ?_ _)); exact BK780.out⟩, ⟨by repeat (first | (with_reducible first | exact HB.out | apply below_alloc | apply pw_below_drewN | apply below_drew1 | refine below_set ?_ GE778.out | refine below_set ?_ GE779.out | refine below_set ?_ GE780.out) | exact HB.out)⟩⟩
        case round =>
          clear H'
          try clear c1
          try clear c2
          try clear p2
          try clear c3
          try clear c4
          try clear c5
          try clear c6
          try clear p6
          try clear c8
          try clear c9
          try clear c12
          try clear c12b0
          try clear c12b1
          try clear c13
          try clear c13b0
          try clear c14
          try clear c15
          try clear c20
          try clear c21
          try clear c21b0
          try clear c21b1
          try clear c21b2
          try clear c23
          try clear c24
          try clear c28
          try clear c30
          try clear c31
          try clear c35
          try clear c37
          try clear c38
          try clear c42
          try clear c44
          try clear c45
          try clear c48
          try clear c51
          try clear c52
          try clear hcz10_0
          try clear hcz10_1
          try clear hcz16_0
          try clear hcz16_1
          try clear hcz16_2
          try clear hcz18_0
          try clear hcz18_1
          try clear hcz18_2
          try clear hcz25_0
          try clear hcz25_1
          try clear hcz25_2
          try clear hcz27_0
          try clear hcz27_1
          try clear hcz27_2
          try clear hcz29_0
          try clear hcz29_1
          try clear hcz32_0
          try clear hcz32_1
          try clear hcz32_2
          try clear hcz34_0
          try clear hcz34_1
          try clear hcz34_2
          try clear hcz36_0
          try clear hcz36_1
          try clear hcz39_0
          try clear hcz39_1
          try clear hcz39_2
          try clear hcz41_0
          try clear hcz41_1
          try clear hcz41_2
          try clear hcz43_0
          try clear hcz43_1
          try clear hcz46_0
          try clear hcz46_1
          try clear hcz46_2
          try clear hcz53_0
          try clear hcz53_1
          try clear hfz10_0
          try clear hfz10_1
          try clear hfz16_0
          try clear hfz16_1
          try clear hfz16_2
          try clear hfz18_0
          try clear hfz18_1
          try clear hfz18_2
          try clear hfz25_0
          try clear hfz25_1
          try clear hfz25_2
          try clear hfz27_0
          try clear hfz27_1
          try clear hfz27_2
          try clear hfz29_0
          try clear hfz29_1
          try clear hfz32_0
          try clear hfz32_1
          try clear hfz32_2
          try clear hfz34_0
          try clear hfz34_1
          try clear hfz34_2
          try clear hfz36_0
          try clear hfz36_1
          try clear hfz39_0
          try clear hfz39_1
          try clear hfz39_2
          try clear hfz41_0
          try clear hfz41_1
          try clear hfz41_2
          try clear hfz43_0
          try clear hfz43_1
          try clear hfz46_0
          try clear hfz46_1
          try clear hfz46_2
          try clear hfz53_0
          try clear hfz53_1
          try clear p2
          try clear p6
          obtain ⟨x59_2, rfl, HA, HK2, BK778, BK779, BK780, HB⟩ := hrel
          cases gk with
          | zero => exact absurd HA.out (by simp [juntolaw04_ShareNothing.l0])
          | succ k2 =>
            have H := HA.out
            clear HA
            simp only [juntolaw04_ShareNothing.l0] at H
            by_cases c54 : x59_2 < 2
            · rw [if_pos c54] at H
              have c54b0 : decide (x59_2 < 2) = true := decide_eq_true c54
              clear c54
              by_cases c55 : 0 ≤ x59_2
              · rw [if_pos c55] at H
                have c55b0 := eq_true c55
                have c55b1 : decide (0 ≤ x59_2) = true := decide_eq_true c55
                clear c55
                have c56b0 := eq_true (of_decide_eq_true (by first | (with_reducible assumption) | assumption) : x59_2 < 2)
                by_cases c57 : (juntolaw04_ShareNothing.pick a2_0 a2_1 x59_2) ≥ a0_0
                · rw [if_pos c57] at H
                  have c57b0 : decide (a0_0 ≤ (juntolaw04_ShareNothing.pick a2_0 a2_1 x59_2)) = true := decide_eq_true c57
                  have hix : ∀ w : World, (Instr.index 83 (.agg #[.int .u64 a2_0, .int .u64 a2_1]) (.int .i64 x59_2)).run Try.prog w = .ok (.int .u64 (juntolaw04_ShareNothing.pick a2_0 a2_1 x59_2)) w := juntolaw04_ShareNothing.index a2_0 a2_1 x59_2 (of_eq_true (by assumption : (0 ≤ x59_2) = True)) (of_eq_true (by assumption : (x59_2 < 2) = True))
                  clear c57
                  replace H := Option.bind_eq_some_iff.mp H
                  obtain ⟨t786, A580, H⟩ := H
                  replace H : (some t786) = some r := H
                  have A58 := Aside0.mk A580
                  clear A580
                  obtain rfl := Option.some.inj H
                  have hnb59 := NB778_779.out
                  have hnc59 := NB779_778.out
                  have hnb60 := NB778_780.out
                  have hnc60 := NB780_778.out
                  have hcz61_0 : wr.cell? ⟨gb778, 0, none⟩ = some (.int .u64 a0_0) := (blk_cell BK778.out 0).trans rfl
                  have hcz61_1 : wr.cell? ⟨gb778, 1, none⟩ = some (.int .i64 a0_1) := (blk_cell BK778.out 1).trans rfl
                  have hcz61_2 : wr.cell? ⟨gb778, 2, none⟩ = some (.int .i64 a0_2) := (blk_cell BK778.out 2).trans rfl
                  have hfz61_0 := blk_frozen BK778.out 0
                  have hfz61_1 := blk_frozen BK778.out 1
                  have hfz61_2 := blk_frozen BK778.out 2
                  go_wp2_with (first | ((with_reducible refine gate_callee (f := 67) rfl ?_); refine goesL_ (some 66) rfl rfl Try.func67 (by kernel_rfl) rfl #[] rfl (by (try simp only [List.map_toArray, List.map_cons, List.map_nil]); first | done | rfl | (simp only [List.length_drop, List.length_take]; rfl)) ?_; (with_reducible refine (juntolaw04_alive.calls k2  t786 _ A58.out (by first | rfl | exact HRT.out)).mono ?_); rintro e w62 ⟨rfl, hb⟩; refine ⟨_, rfl, ?_⟩; have n0_ := Aside0.mk (blk_below (g := gb778) (o := .cells #[.int .u64 a0_0, .int .i64 a0_1, .int .i64 a0_2] 24 (0, 0)) (by (with_reducible repeat (first | refine blk_drewN ?_ _ | refine blk_drew ?_ | refine blk_alloc ?_ _)); exact BK778.out) hb); have n1_ := Aside0.mk (blk_below (g := gb779) (o := .cells #[.slice A1_0 l1_0.length c1_0, .slice A1_1 l1_1.length c1_1] 82 (0, 0)) (by (with_reducible repeat (first | refine blk_drewN ?_ _ | refine blk_drew ?_ | refine blk_alloc ?_ _)); exact BK779.out) hb); have n2_ := Aside0.mk (blk_below (g := gb780) (o := .cells #[.int .u64 a2_0, .int .u64 a2_1] 83 (0, 0)) (by (with_reducible repeat (first | refine blk_drewN ?_ _ | refine blk_drew ?_ | refine blk_alloc ?_ _)); exact BK780.out) hb); have n3_ := Aside0.mk (below_step (by repeat (first | (with_reducible first | exact HB.out | apply below_alloc | apply pw_below_drewN | apply below_drew1 | refine below_set ?_ GE778.out | refine below_set ?_ GE779.out | refine below_set ?_ GE780.out) | exact HB.out)) hb); clear BK778; clear BK779; clear BK780; clear HB; have BK778 := n0_; have BK779 := n1_; have BK780 := n2_; have HB := n3_; clear n0_ n1_ n2_ n3_; (try clear hb); (try clear hb2); (try clear hk); (try clear hi)))
                  go_ret
                  exact ⟨by first | rfl | (simp [errW_none, errW_some] <;> rfl) | (simp [*, errW_none, errW_some] <;> rfl), by repeat (first | (with_reducible first | exact HB.out | apply below_alloc | apply pw_below_drewN | apply below_drew1 | refine below_set ?_ GE778.out | refine below_set ?_ GE779.out | refine below_set ?_ GE780.out) | exact HB.out)⟩
                · rw [if_neg c57] at H
                  have c57b0 : decide (a0_0 ≤ (juntolaw04_ShareNothing.pick a2_0 a2_1 x59_2)) = false := decide_eq_false c57
                  have hix : ∀ w : World, (Instr.index 83 (.agg #[.int .u64 a2_0, .int .u64 a2_1]) (.int .i64 x59_2)).run Try.prog w = .ok (.int .u64 (juntolaw04_ShareNothing.pick a2_0 a2_1 x59_2)) w := juntolaw04_ShareNothing.index a2_0 a2_1 x59_2 (of_eq_true (by assumption : (0 ≤ x59_2) = True)) (of_eq_true (by assumption : (x59_2 < 2) = True))
                  clear c57
                  obtain ⟨y787, hy787⟩ : ∃ y_ : List (S86), y_ = (([(⟨0, juntolaw04_ShareNothing.pick a2_0 a2_1 x59_2⟩ : S86)] : List (S86))) := ⟨_, rfl⟩
                  replace H : (juntolaw04_ShareNothing.l1 k2 (l1_0.length : Int) (juntolaw04_ShareNothing.pick a2_0 a2_1 x59_2) y787 x59_2 l1_0 (l1_0.length : Int) 0 a2_0 a2_1 a0_0 a0_1 a0_2 l1_0 l1_1) = some r := by first | (rw [hy787]; with_reducible exact H) | (have H2_ := (Option.bind_some _ _).symm.trans H; rw [hy787]; with_reducible exact H2_) | (have H2_ := (Option.bind_some _ _).symm.trans H; with_reducible exact H2_) | with_reducible exact H | (rw [hy787]; exact H) | exact H
                  have Ny787 := Aside0.mk hy787
                  clear hy787
                  have H' := Aside0.mk H
                  clear H
                  have hnb63 := NB778_779.out
                  have hnc63 := NB779_778.out
                  have hnb64 := NB778_780.out
                  have hnc64 := NB780_778.out
                  have hcz65_0 : wr.cell? ⟨gb778, 0, none⟩ = some (.int .u64 a0_0) := (blk_cell BK778.out 0).trans rfl
                  have hcz65_1 : wr.cell? ⟨gb778, 1, none⟩ = some (.int .i64 a0_1) := (blk_cell BK778.out 1).trans rfl
                  have hcz65_2 : wr.cell? ⟨gb778, 2, none⟩ = some (.int .i64 a0_2) := (blk_cell BK778.out 2).trans rfl
                  have hfz65_0 := blk_frozen BK778.out 0
                  have hfz65_1 := blk_frozen BK778.out 1
                  have hfz65_2 := blk_frozen BK778.out 2
                  go_wp2_with (first | ((with_reducible refine gate_dst (N := 69) rfl ?_); (try (refine gate_guard (by rfl) ?_; dsimp only)); refine Kd.R_lit k86 _ 86 ?hg (N := 69) ?hd (xs := ([(⟨0, juntolaw04_ShareNothing.pick a2_0 a2_1 x59_2⟩ : S86)] : List (S86))) (inner := [.int .u64 0, .int .u64 (juntolaw04_ShareNothing.pick a2_0 a2_1 x59_2)]) (ok := fun _ => True) (okp := fun _ => True) ?hr ?hp (fun _ hk => hk) trivial (Below.refl _ _) (Nat.le_refl _) (by simp) ?_; (case hd => rfl); (case hg => rfl); (case hr => first | (go_simp; done) | (go_simp; rfl)); (case hp => exact (Reps.c2 (show Kd.M k86 _ _ _ (⟨0, juntolaw04_ShareNothing.pick a2_0 a2_1 x59_2⟩ : S86) [.int .u64 0, .int .u64 (juntolaw04_ShareNothing.pick a2_0 a2_1 x59_2)] from (k86_mkM _ _ _ (⟨0, juntolaw04_ShareNothing.pick a2_0 a2_1 x59_2⟩ : S86) )) (Reps.none _ _))); intro v788 w66 ho67 hb hg_ hnew_; clear hg_ hnew_; (first | rw [← Ny787.out] at ho67 | (simp only [Int.reduceToNat] at ho67; rw [← Ny787.out] at ho67)); have n0_ := Aside0.mk (Kd.R_lower ho67 (below_size (by repeat (first | (with_reducible first | exact HB.out | apply below_alloc | apply pw_below_drewN | apply below_drew1 | refine below_set ?_ GE778.out | refine below_set ?_ GE779.out | refine below_set ?_ GE780.out) | exact HB.out)))); have n1_ := Aside0.mk (blk_below (g := gb778) (o := .cells #[.int .u64 a0_0, .int .i64 a0_1, .int .i64 a0_2] 24 (0, 0)) (by (with_reducible repeat (first | refine blk_drewN ?_ _ | refine blk_drew ?_ | refine blk_alloc ?_ _)); exact BK778.out) hb); have n2_ := Aside0.mk (blk_below (g := gb779) (o := .cells #[.slice A1_0 l1_0.length c1_0, .slice A1_1 l1_1.length c1_1] 82 (0, 0)) (by (with_reducible repeat (first | refine blk_drewN ?_ _ | refine blk_drew ?_ | refine blk_alloc ?_ _)); exact BK779.out) hb); have n3_ := Aside0.mk (blk_below (g := gb780) (o := .cells #[.int .u64 a2_0, .int .u64 a2_1] 83 (0, 0)) (by (with_reducible repeat (first | refine blk_drewN ?_ _ | refine blk_drew ?_ | refine blk_alloc ?_ _)); exact BK780.out) hb); have n4_ := Aside0.mk (below_step (by repeat (first | (with_reducible first | exact HB.out | apply below_alloc | apply pw_below_drewN | apply below_drew1 | refine below_set ?_ GE778.out | refine below_set ?_ GE779.out | refine below_set ?_ GE780.out) | exact HB.out)) hb); clear BK778; clear BK779; clear BK780; clear HB; have HO789 := n0_; have BK778 := n1_; have BK779 := n2_; have BK780 := n3_; have HB := n4_; clear n0_ n1_ n2_ n3_ n4_; clear hb ho67; have hnb68 := NB779_780.out; have hnc68 := NB780_779.out; have hcz69_0 : w66.cell? ⟨gb779, 0, none⟩ = some (.slice A1_0 l1_0.length c1_0) := (blk_cell BK779.out 0).trans rfl; have hcz69_1 : w66.cell? ⟨gb779, 1, none⟩ = some (.slice A1_1 l1_1.length c1_1) := (blk_cell BK779.out 1).trans rfl; have hfz69_0 := blk_frozen BK779.out 0; have hfz69_1 := blk_frozen BK779.out 1))
                  go_loopg [10, 73] k2 (fun kq v10 v73 w' => ∃ (x10_3 : List (S86)) (x73_3 : Int), v73 = .int .i64 x73_3 ∧ Aside0 (juntolaw04_ShareNothing.l1 kq (l1_0.length : Int) (juntolaw04_ShareNothing.pick a2_0 a2_1 x59_2) x10_3 x59_2 l1_0 (l1_0.length : Int) x73_3 a2_0 a2_1 a0_0 a0_1 a0_2 l1_0 l1_1 = some r) ∧ Aside0 (kq ≤ k2) ∧ Aside0 (Kd.R k86 86 w' w.heap.size (fun _ => True) v10 x10_3) ∧ Aside0 (w'.heap[gb778]? = some (.cells #[.int .u64 a0_0, .int .i64 a0_1, .int .i64 a0_2] 24 (0, 0))) ∧ Aside0 (w'.heap[gb779]? = some (.cells #[(.slice A1_0 l1_0.length c1_0), (.slice A1_1 l1_1.length c1_1)] 82 (0, 0))) ∧ Aside0 (w'.heap[gb780]? = some (.cells #[.int .u64 a2_0, .int .u64 a2_1] 83 (0, 0))) ∧ Aside0 (Below w.heap.size w w'))
                  case atStart => exact ⟨(y787), (0), (by first | rfl | (simp; done) | (simp [*]; done)), H', ⟨Nat.le_refl _⟩, ⟨by (with_reducible repeat (first | apply Kd.R_alloc | apply Kd.R_drewN | apply Kd.R_drew)); exact HO789.out⟩, ⟨by (with_reducible repeat (first | refine blk_drewN ?_ _ | refine blk_drew ?_ | refine blk_alloc ?_ _)); exact BK778.out⟩, ⟨by (with_reducible repeat (first | refine blk_drewN ?_ _ | refine blk_drew ?_ | refine blk_alloc ?_ _)); exact BK779.out⟩, ⟨by (with_reducible repeat (first | refine blk_drewN ?_ _ | refine blk_drew ?_ | refine blk_alloc ?_ _)); exact BK780.out⟩, ⟨by repeat (first | (with_reducible first | exact HB.out | apply below_alloc | apply pw_below_drewN | apply below_drew1 | refine below_set ?_ GE778.out | refine below_set ?_ GE779.out | refine below_set ?_ GE780.out) | exact HB.out)⟩⟩
                  case round =>
                    clear H'
                    try clear c1
                    try clear c2
                    try clear p2
                    try clear c3
                    try clear c4
                    try clear c5
                    try clear c6
                    try clear p6
                    try clear c8
                    try clear c9
                    try clear c12
                    try clear c12b0
                    try clear c12b1
                    try clear c13
                    try clear c13b0
                    try clear c14
                    try clear c15
                    try clear c20
                    try clear c21
                    try clear c21b0
                    try clear c21b1
                    try clear c21b2
                    try clear c23
                    try clear c24
                    try clear c28
                    try clear c30
                    try clear c31
                    try clear c35
                    try clear c37
                    try clear c38
                    try clear c42
                    try clear c44
                    try clear c45
                    try clear c48
                    try clear c51
                    try clear c52
                    try clear c54
                    try clear c54b0
                    try clear c55
                    try clear c55b0
                    try clear c55b1
                    try clear c56
                    try clear c56b0
                    try clear c57
                    try clear c57b0
                    try clear c59
                    try clear c60
                    try clear c63
                    try clear c64
                    try clear p64
                    try clear c67
                    try clear c68
                    try clear hcz10_0
                    try clear hcz10_1
                    try clear hcz16_0
                    try clear hcz16_1
                    try clear hcz16_2
                    try clear hcz18_0
                    try clear hcz18_1
                    try clear hcz18_2
                    try clear hcz25_0
                    try clear hcz25_1
                    try clear hcz25_2
                    try clear hcz27_0
                    try clear hcz27_1
                    try clear hcz27_2
                    try clear hcz29_0
                    try clear hcz29_1
                    try clear hcz32_0
                    try clear hcz32_1
                    try clear hcz32_2
                    try clear hcz34_0
                    try clear hcz34_1
                    try clear hcz34_2
                    try clear hcz36_0
                    try clear hcz36_1
                    try clear hcz39_0
                    try clear hcz39_1
                    try clear hcz39_2
                    try clear hcz41_0
                    try clear hcz41_1
                    try clear hcz41_2
                    try clear hcz43_0
                    try clear hcz43_1
                    try clear hcz46_0
                    try clear hcz46_1
                    try clear hcz46_2
                    try clear hcz53_0
                    try clear hcz53_1
                    try clear hcz61_0
                    try clear hcz61_1
                    try clear hcz61_2
                    try clear hcz65_0
                    try clear hcz65_1
                    try clear hcz65_2
                    try clear hcz69_0
                    try clear hcz69_1
                    try clear hfz10_0
                    try clear hfz10_1
                    try clear hfz16_0
                    try clear hfz16_1
                    try clear hfz16_2
                    try clear hfz18_0
                    try clear hfz18_1
                    try clear hfz18_2
                    try clear hfz25_0
                    try clear hfz25_1
                    try clear hfz25_2
                    try clear hfz27_0
                    try clear hfz27_1
                    try clear hfz27_2
                    try clear hfz29_0
                    try clear hfz29_1
                    try clear hfz32_0
                    try clear hfz32_1
                    try clear hfz32_2
                    try clear hfz34_0
                    try clear hfz34_1
                    try clear hfz34_2
                    try clear hfz36_0
                    try clear hfz36_1
                    try clear hfz39_0
                    try clear hfz39_1
                    try clear hfz39_2
                    try clear hfz41_0
                    try clear hfz41_1
                    try clear hfz41_2
                    try clear hfz43_0
                    try clear hfz43_1
                    try clear hfz46_0
                    try clear hfz46_1
                    try clear hfz46_2
                    try clear hfz53_0
                    try clear hfz53_1
                    try clear hfz61_0
                    try clear hfz61_1
                    try clear hfz61_2
                    try clear hfz65_0
                    try clear hfz65_1
                    try clear hfz65_2
                    try clear hfz69_0
                    try clear hfz69_1
                    try clear p2
                    try clear p6
                    obtain ⟨x10_3, x73_3, rfl, HA, HK3, HO_10, BK778, BK779, BK780, HB⟩ := hrel
                    cases gk with
                    | zero => exact absurd HA.out (by simp [juntolaw04_ShareNothing.l1])
                    | succ k3 =>
                      have H := HA.out
                      clear HA
                      simp only [juntolaw04_ShareNothing.l1] at H
                      by_cases c70 : x73_3 < (l1_0.length : Int)
                      · rw [if_pos c70] at H
                        have c70b0 : decide (x73_3 < (l1_0.length : Int)) = true := decide_eq_true c70
                        clear c70
                        by_cases c71 : 0 ≤ x73_3
                        · rw [if_pos c71] at H
                          have c71b0 : decide (0 ≤ x73_3) = true := decide_eq_true c71
                          clear c71
                          by_cases c72 : x73_3 < (l1_0.length : Int)
                          · rw [if_pos c72] at H
                            have c72b0 : decide (x73_3 < (l1_0.length : Int)) = true := decide_eq_true c72
                            clear c72
                            by_cases c73 : x73_3 < (l1_1.length : Int)
                            · rw [if_pos c73] at H
                              have c73b0 : decide (x73_3 < (l1_1.length : Int)) = true := decide_eq_true c73
                              clear c73
                              by_cases c74 : x10_3.length < 8796093022208
                              · rw [if_pos c74] at H
                                have LMc74 := Aside0.mk c74
                                clear c74
                                obtain ⟨y792, hy792⟩ : ∃ y_ : List (S86), y_ = (x10_3 ++ [(⟨IntKind.u64.wrap (rd l1_0 x73_3), rd l1_1 x73_3⟩ : S86)]) := ⟨_, rfl⟩
                                replace H : (juntolaw04_ShareNothing.l1 k3 (l1_0.length : Int) (juntolaw04_ShareNothing.pick a2_0 a2_1 x59_2) y792 x59_2 l1_0 (l1_0.length : Int) (wrap64 (x73_3 + 1)) a2_0 a2_1 a0_0 a0_1 a0_2 l1_0 l1_1) = some r := by first | (rw [hy792]; with_reducible exact H) | (have H2_ := (Option.bind_some _ _).symm.trans H; rw [hy792]; with_reducible exact H2_) | (have H2_ := (Option.bind_some _ _).symm.trans H; with_reducible exact H2_) | with_reducible exact H | (rw [hy792]; exact H) | exact H
                                have Ny792 := Aside0.mk hy792
                                clear hy792
                                have H' := Aside0.mk H
                                clear H
                                have p790 : 0 ≤ (x73_3 : Int) := of_decide_eq_true (by first | (with_reducible assumption) | assumption)
                                have q790 : x73_3 < (l1_0.length : Int) := of_decide_eq_true (by first | (with_reducible assumption) | assumption)
                                obtain ⟨ad790, e790, hx790_0⟩ := Kd.at_int HR1_0.out x73_3 p790 q790
                                cases e790
                                replace hx790_0 := (HB.out.cell (World.block_lt_of_cell? w _ hx790_0)).trans hx790_0
                                replace p790 := eq_true p790
                                replace q790 := eq_true q790
                                have hnb75 := NB779_778.out
                                have hnc75 := NB778_779.out
                                have hnb76 := NB779_780.out
                                have hnc76 := NB780_779.out
                                have hcz77_0 : wr.cell? ⟨gb779, 0, none⟩ = some (.slice (some ad790) l1_0.length c1_0) := (blk_cell BK779.out 0).trans rfl
                                have hcz77_1 : wr.cell? ⟨gb779, 1, none⟩ = some (.slice A1_1 l1_1.length c1_1) := (blk_cell BK779.out 1).trans rfl
                                have hfz77_0 := blk_frozen BK779.out 0
                                have hfz77_1 := blk_frozen BK779.out 1
                                have p791 : 0 ≤ (x73_3 : Int) := of_decide_eq_true (by first | (with_reducible assumption) | assumption)
                                have q791 : x73_3 < (l1_1.length : Int) := of_decide_eq_true (by first | (with_reducible assumption) | assumption)
                                obtain ⟨ad791, e791, hx791_0⟩ := Kd.at_int HR1_1.out x73_3 p791 q791
                                cases e791
                                replace hx791_0 := (HB.out.cell (World.block_lt_of_cell? w _ hx791_0)).trans hx791_0
                                replace p791 := eq_true p791
                                replace q791 := eq_true q791
                                go_wp2_with (first | ((with_reducible refine gate_builtin (b := .append) (xs := #[.tmp 78, .tmp 87]) rfl ?_); (try (refine gate_guard (by rfl) ?_; dsimp only)); at_builtin; refine Kd.R_append k86 (w0 := w) w.heap.size rfl (.tmp 78) (.tmp 87) 87 86 (.agg #[(.int .u64 0), (.int .u64 0)]) 16 rfl Try.underlying87 info86 rfl (by decide) (by omega) u10 x10_3 (⟨IntKind.u64.wrap (rd l1_0 x73_3), rd l1_1 x73_3⟩ : S86) [.int .u64 (IntKind.u64.wrap (rd l1_0 x73_3)), .int .u64 (rd l1_1 x73_3)] (fun _ => True) (fun _ => False) rfl rfl ?aP (fun _ hk => hk.elim) ?aF ?aO ?aB ?aS ?aL ?_; (case aP => exact k86_mkM _ _ _ (⟨IntKind.u64.wrap (rd l1_0 x73_3), rd l1_1 x73_3⟩ : S86)); (case aB => exact (by repeat (first | (with_reducible first | exact HB.out | apply below_alloc | apply pw_below_drewN | apply below_drew1 | refine below_set ?_ GE778.out | refine below_set ?_ GE779.out | refine below_set ?_ GE780.out) | exact HB.out))); (case aF => exact (fun _ _ => trivial)); (case aO => exact (by (with_reducible repeat (first | apply Kd.R_alloc | apply Kd.R_drewN | apply Kd.R_drew)); exact HO_10.out)); (case aS => exact (below_size (by repeat (first | (with_reducible first | exact HB.out | apply below_alloc | apply pw_below_drewN | apply below_drew1 | refine below_set ?_ GE778.out | refine below_set ?_ GE779.out | refine below_set ?_ GE780.out) | exact HB.out)))); (case aL => have := LMc74.out; omega); intro v793 w78 ho hb hg hat; rw [← Ny792.out] at ho; have n0_ := Aside0.mk (blk_grown (g := gb778) (o := .cells #[.int .u64 a0_0, .int .i64 a0_1, .int .i64 a0_2] 24 (0, 0)) (by (with_reducible repeat (first | refine blk_drewN ?_ _ | refine blk_drew ?_ | refine blk_alloc ?_ _)); exact BK778.out) hg (Kd.R_ne HO_10.out BK778.out (by decide))); have n1_ := Aside0.mk (blk_grown (g := gb779) (o := .cells #[.slice (some ad790) l1_0.length c1_0, .slice (some ad791) l1_1.length c1_1] 82 (0, 0)) (by (with_reducible repeat (first | refine blk_drewN ?_ _ | refine blk_drew ?_ | refine blk_alloc ?_ _)); exact BK779.out) hg (Kd.R_ne HO_10.out BK779.out (by decide))); have n2_ := Aside0.mk (blk_grown (g := gb780) (o := .cells #[.int .u64 a2_0, .int .u64 a2_1] 83 (0, 0)) (by (with_reducible repeat (first | refine blk_drewN ?_ _ | refine blk_drew ?_ | refine blk_alloc ?_ _)); exact BK780.out) hg (Kd.R_ne HO_10.out BK780.out (by decide))); have n3_ := Aside0.mk (hb); have n4_ := Aside0.mk (ho); clear BK778; clear BK779; clear BK780; clear HB; clear HO_10; have BK778 := n0_; have BK779 := n1_; have BK780 := n2_; have HB := n3_; have HO794 := n4_; clear n0_ n1_ n2_ n3_ n4_; clear ho hb hg hat))
                                go_roundg k3
                                case measure => have := HJ3.out; have := HK2.out; have := HK3.out; omega
                                case rel => exact ⟨(y792), (wrap64 (x73_3 + 1)), (by first | rfl | (simp; done) | (simp [*]; done)), H', ⟨by have := HJ3.out; have := HK2.out; have := HK3.out; omega⟩, ⟨by (with_reducible repeat (first | apply Kd.R_alloc | apply Kd.R_drewN | apply Kd.R_drew)); exact HO794.out⟩, ⟨by (with_reducible repeat (first | refine blk_drewN ?_ _ | refine blk_drew ?_ | refine blk_alloc ?_ _)); exact BK778.out⟩, ⟨by (with_reducible repeat (first | refine blk_drewN ?_ _ | refine blk_drew ?_ | refine blk_alloc ?_ _)); exact BK779.out⟩, ⟨by (with_reducible repeat (first | refine blk_drewN ?_ _ | refine blk_drew ?_ | refine blk_alloc ?_ _)); exact BK780.out⟩, ⟨by repeat (first | (with_reducible first | exact HB.out | apply below_alloc | apply pw_below_drewN | apply below_drew1 | refine below_set ?_ GE778.out | refine below_set ?_ GE779.out | refine below_set ?_ GE780.out) | exact HB.out)⟩⟩
                              · rw [if_neg c74] at H
                                exact absurd H (by simp)
                            · rw [if_neg c73] at H
                              exact absurd H (by simp)
                          · rw [if_neg c72] at H
                            exact absurd H (by simp)
                        · rw [if_neg c71] at H
                          exact absurd H (by simp)
                      · rw [if_neg c70] at H
                        have c70b0 : decide (x73_3 < (l1_0.length : Int)) = false := decide_eq_false c70
                        clear c70
                        replace H := Option.bind_eq_some_iff.mp H
                        obtain ⟨t795, A790, H⟩ := H
                        replace H : (if 0 ≤ (wrap64 ((l1_0.length : Int) + 1)) then (if t795.length + (wrap64 ((l1_0.length : Int) + 1) : Int).toNat < 17592186044416 then ((some (t795 ++ List.replicate (wrap64 ((l1_0.length : Int) + 1) : Int).toNat 0 : List Int)).bind fun y798 => (if (wrap64 ((l1_0.length : Int) + 1)) ≤ (y798.length : Int) then ((some (y798.take ((wrap64 ((l1_0.length : Int) + 1)) : Int).toNat : List Int)).bind fun y801 => (if 1 ≤ (y801.length : Int) then ((share_Make.f k3 a0_0 a0_1 a0_2 (juntolaw04_ShareNothing.pick a2_0 a2_1 x59_2) (l1_0.length : Int) (y801.drop 1)).bind fun bt809 => ((share_Shares.f k3 a0_0 a0_1 a0_2 bt809.1).bind fun bt816 => (if bt809.2.2 = 0 then (if (bt809.2.1.length : Int) = 0 then (juntolaw04_ShareNothing.j3 k3 (l1_0.length : Int) bt816.1 x59_2 ((bt816.1.length : Int) != a0_1) a2_0 a2_1 a0_0 a0_1 a0_2 l1_0 l1_1) else (juntolaw04_ShareNothing.j3 k3 (l1_0.length : Int) bt816.1 x59_2 true a2_0 a2_1 a0_0 a0_1 a0_2 l1_0 l1_1)) else (juntolaw04_ShareNothing.j3 k3 (l1_0.length : Int) bt816.1 x59_2 true a2_0 a2_1 a0_0 a0_1 a0_2 l1_0 l1_1)))) else (none))) else (none))) else (none)) else (none)) = some r := H
                        have A79 := Aside0.mk A790
                        clear A790
                        obtain ⟨ji80, hji80⟩ : ∃ j_ : Int, (wrap64 ((l1_0.length : Int) + 1)) = j_ := ⟨_, rfl⟩
                        replace H : (if 0 ≤ (ji80) then (if t795.length + (ji80 : Int).toNat < 17592186044416 then ((some (t795 ++ List.replicate (ji80 : Int).toNat 0 : List Int)).bind fun y798 => (if (ji80) ≤ (y798.length : Int) then ((some (y798.take ((ji80) : Int).toNat : List Int)).bind fun y801 => (if 1 ≤ (y801.length : Int) then ((share_Make.f k3 a0_0 a0_1 a0_2 (juntolaw04_ShareNothing.pick a2_0 a2_1 x59_2) (l1_0.length : Int) (y801.drop 1)).bind fun bt809 => ((share_Shares.f k3 a0_0 a0_1 a0_2 bt809.1).bind fun bt816 => (if bt809.2.2 = 0 then (if (bt809.2.1.length : Int) = 0 then (juntolaw04_ShareNothing.j3 k3 (l1_0.length : Int) bt816.1 x59_2 ((bt816.1.length : Int) != a0_1) a2_0 a2_1 a0_0 a0_1 a0_2 l1_0 l1_1) else (juntolaw04_ShareNothing.j3 k3 (l1_0.length : Int) bt816.1 x59_2 true a2_0 a2_1 a0_0 a0_1 a0_2 l1_0 l1_1)) else (juntolaw04_ShareNothing.j3 k3 (l1_0.length : Int) bt816.1 x59_2 true a2_0 a2_1 a0_0 a0_1 a0_2 l1_0 l1_1)))) else (none))) else (none))) else (none)) else (none)) = some r := by first | (rw [hji80] at H; exact H) | (simp only [hji80] at H ⊢; exact H)
                        (try rw [hji80] at A79)
                        have hji80w : (IntKind.i64.wrap ((l1_0.length : Int) + 1)) = ji80 := (i64_w _).trans hji80
                        by_cases c81 : 0 ≤ (ji80)
                        · rw [if_pos c81] at H
                          have c81b0 := eq_true c81
                          have c81b1 : decide (0 ≤ (ji80)) = true := decide_eq_true c81
                          clear c81
                          by_cases c82 : t795.length + (ji80 : Int).toNat < 17592186044416
                          · rw [if_pos c82] at H
                            have LMc82 := Aside0.mk c82
                            clear c82
                            obtain ⟨y798, hy798⟩ : ∃ y_ : List Int, y_ = (t795 ++ List.replicate (ji80 : Int).toNat 0) := ⟨_, rfl⟩
                            replace H : (if (ji80) ≤ (y798.length : Int) then ((some (y798.take ((ji80) : Int).toNat : List Int)).bind fun y801 => (if 1 ≤ (y801.length : Int) then ((share_Make.f k3 a0_0 a0_1 a0_2 (juntolaw04_ShareNothing.pick a2_0 a2_1 x59_2) (l1_0.length : Int) (y801.drop 1)).bind fun bt809 => ((share_Shares.f k3 a0_0 a0_1 a0_2 bt809.1).bind fun bt816 => (if bt809.2.2 = 0 then (if (bt809.2.1.length : Int) = 0 then (juntolaw04_ShareNothing.j3 k3 (l1_0.length : Int) bt816.1 x59_2 ((bt816.1.length : Int) != a0_1) a2_0 a2_1 a0_0 a0_1 a0_2 l1_0 l1_1) else (juntolaw04_ShareNothing.j3 k3 (l1_0.length : Int) bt816.1 x59_2 true a2_0 a2_1 a0_0 a0_1 a0_2 l1_0 l1_1)) else (juntolaw04_ShareNothing.j3 k3 (l1_0.length : Int) bt816.1 x59_2 true a2_0 a2_1 a0_0 a0_1 a0_2 l1_0 l1_1)))) else (none))) else (none)) = some r := by first | (rw [hy798]; with_reducible exact H) | (have H2_ := (Option.bind_some _ _).symm.trans H; rw [hy798]; with_reducible exact H2_) | (have H2_ := (Option.bind_some _ _).symm.trans H; with_reducible exact H2_) | with_reducible exact H | (rw [hy798]; exact H) | exact H
                            have Ny798 := Aside0.mk hy798
                            clear hy798
                            have c83b0 := eq_true (of_decide_eq_true (by first | (with_reducible assumption) | assumption) : 0 ≤ (ji80))
                            by_cases c84 : (ji80) ≤ (y798.length : Int)
                            · rw [if_pos c84] at H
                              have c84b0 := eq_true c84
                              have c84b1 : decide ((ji80) ≤ (y798.length : Int)) = true := decide_eq_true c84
                              clear c84
                              obtain ⟨y801, hy801⟩ : ∃ y_ : List Int, y_ = (y798.take ((ji80) : Int).toNat) := ⟨_, rfl⟩
                              replace H : (if 1 ≤ (y801.length : Int) then ((share_Make.f k3 a0_0 a0_1 a0_2 (juntolaw04_ShareNothing.pick a2_0 a2_1 x59_2) (l1_0.length : Int) (y801.drop 1)).bind fun bt809 => ((share_Shares.f k3 a0_0 a0_1 a0_2 bt809.1).bind fun bt816 => (if bt809.2.2 = 0 then (if (bt809.2.1.length : Int) = 0 then (juntolaw04_ShareNothing.j3 k3 (l1_0.length : Int) bt816.1 x59_2 ((bt816.1.length : Int) != a0_1) a2_0 a2_1 a0_0 a0_1 a0_2 l1_0 l1_1) else (juntolaw04_ShareNothing.j3 k3 (l1_0.length : Int) bt816.1 x59_2 true a2_0 a2_1 a0_0 a0_1 a0_2 l1_0 l1_1)) else (juntolaw04_ShareNothing.j3 k3 (l1_0.length : Int) bt816.1 x59_2 true a2_0 a2_1 a0_0 a0_1 a0_2 l1_0 l1_1)))) else (none)) = some r := by first | (rw [hy801]; with_reducible exact H) | (have H2_ := (Option.bind_some _ _).symm.trans H; rw [hy801]; with_reducible exact H2_) | (have H2_ := (Option.bind_some _ _).symm.trans H; with_reducible exact H2_) | with_reducible exact H | (rw [hy801]; exact H) | exact H
                              have Ny801 := Aside0.mk hy801
                              clear hy801
                              by_cases c85 : 1 ≤ (y801.length : Int)
                              · rw [if_pos c85] at H
                                have c85b0 := eq_true c85
                                have c85b1 : decide (1 ≤ (y801.length : Int)) = true := decide_eq_true c85
                                clear c85
                                obtain ⟨y805, hy805⟩ : ∃ y_ : List Int, y_ = (y801.drop 1) := ⟨_, rfl⟩
                                replace H : ((share_Make.f k3 a0_0 a0_1 a0_2 (juntolaw04_ShareNothing.pick a2_0 a2_1 x59_2) (l1_0.length : Int) y805).bind fun bt809 => ((share_Shares.f k3 a0_0 a0_1 a0_2 bt809.1).bind fun bt816 => (if bt809.2.2 = 0 then (if (bt809.2.1.length : Int) = 0 then (juntolaw04_ShareNothing.j3 k3 (l1_0.length : Int) bt816.1 x59_2 ((bt816.1.length : Int) != a0_1) a2_0 a2_1 a0_0 a0_1 a0_2 l1_0 l1_1) else (juntolaw04_ShareNothing.j3 k3 (l1_0.length : Int) bt816.1 x59_2 true a2_0 a2_1 a0_0 a0_1 a0_2 l1_0 l1_1)) else (juntolaw04_ShareNothing.j3 k3 (l1_0.length : Int) bt816.1 x59_2 true a2_0 a2_1 a0_0 a0_1 a0_2 l1_0 l1_1)))) = some r := by first | (rw [hy805]; with_reducible exact H) | (have H2_ := (Option.bind_some _ _).symm.trans H; rw [hy805]; with_reducible exact H2_) | (have H2_ := (Option.bind_some _ _).symm.trans H; with_reducible exact H2_) | with_reducible exact H | (rw [hy805]; exact H) | exact H
                                have Ny805 := Aside0.mk hy805
                                clear hy805
                                replace H := Option.bind_eq_some_iff.mp H
                                obtain ⟨⟨t809, t812, t815⟩, A860, H⟩ := H
                                replace H : ((share_Shares.f k3 a0_0 a0_1 a0_2 t809).bind fun bt816 => (if t815 = 0 then (if (t812.length : Int) = 0 then (juntolaw04_ShareNothing.j3 k3 (l1_0.length : Int) bt816.1 x59_2 ((bt816.1.length : Int) != a0_1) a2_0 a2_1 a0_0 a0_1 a0_2 l1_0 l1_1) else (juntolaw04_ShareNothing.j3 k3 (l1_0.length : Int) bt816.1 x59_2 true a2_0 a2_1 a0_0 a0_1 a0_2 l1_0 l1_1)) else (juntolaw04_ShareNothing.j3 k3 (l1_0.length : Int) bt816.1 x59_2 true a2_0 a2_1 a0_0 a0_1 a0_2 l1_0 l1_1))) = some r := H
                                have A86 := Aside0.mk A860
                                clear A860
                                replace H := Option.bind_eq_some_iff.mp H
                                obtain ⟨⟨t816, t819⟩, A870, H⟩ := H
                                replace H : (if t815 = 0 then (if (t812.length : Int) = 0 then (juntolaw04_ShareNothing.j3 k3 (l1_0.length : Int) t816 x59_2 ((t816.length : Int) != a0_1) a2_0 a2_1 a0_0 a0_1 a0_2 l1_0 l1_1) else (juntolaw04_ShareNothing.j3 k3 (l1_0.length : Int) t816 x59_2 true a2_0 a2_1 a0_0 a0_1 a0_2 l1_0 l1_1)) else (juntolaw04_ShareNothing.j3 k3 (l1_0.length : Int) t816 x59_2 true a2_0 a2_1 a0_0 a0_1 a0_2 l1_0 l1_1)) = some r := H
                                have A87 := Aside0.mk A870
                                clear A870
                                have HC88 := Aside0.mk H
                                clear H
                                have hnb89 := NB778_779.out
                                have hnc89 := NB779_778.out
                                have hnb90 := NB778_780.out
                                have hnc90 := NB780_778.out
                                have hcz91_0 : wr.cell? ⟨gb778, 0, none⟩ = some (.int .u64 a0_0) := (blk_cell BK778.out 0).trans rfl
                                have hcz91_1 : wr.cell? ⟨gb778, 1, none⟩ = some (.int .i64 a0_1) := (blk_cell BK778.out 1).trans rfl
                                have hcz91_2 : wr.cell? ⟨gb778, 2, none⟩ = some (.int .i64 a0_2) := (blk_cell BK778.out 2).trans rfl
                                have hfz91_0 := blk_frozen BK778.out 0
                                have hfz91_1 := blk_frozen BK778.out 1
                                have hfz91_2 := blk_frozen BK778.out 2
                                obtain ⟨Ao92, co92, eo92⟩ := Kd.R_slice HO_10.out
                                subst eo92
                                try go_wp2_with (first | ((with_reducible refine gate_callee (f := 77) rfl ?_); refine goesL_ (some 93) rfl rfl Try.func77 (by kernel_rfl) rfl #[.int .u64 a0_0, .slice Ao92 x10_3.length co92] rfl (by (try simp only [List.map_toArray, List.map_cons, List.map_nil]); first | done | rfl | (simp only [List.length_drop, List.length_take]; rfl)) ?_; (with_reducible refine (juntoref02_Through.calls k3 a0_0 _ _ x10_3 t795 _ ?side1 ?side2 A79.out).mono ?_); (case side1 => repeat (first | exact (Kd.R_reads' HO_10.out).2.2 | (with_reducible refine Kd.C_alloc ?_ _) | (with_reducible refine Kd.C_drewN ?_ _) | (with_reducible refine Kd.C_drew ?_))); (case side2 => exact (Kd.R_reads' HO_10.out).2.1); rintro e w93 ⟨v796, rfl, ho0, hb⟩; refine ⟨_, rfl, ?_⟩; have n0_ := Aside0.mk (Kd.R_below (by (with_reducible repeat (first | apply Kd.R_alloc | apply Kd.R_drewN | apply Kd.R_drew)); exact HO_10.out) hb); have n1_ := Aside0.mk (Kd.R_lower ho0 (below_size (by repeat (first | (with_reducible first | exact HB.out | apply below_alloc | apply pw_below_drewN | apply below_drew1 | refine below_set ?_ GE778.out | refine below_set ?_ GE779.out | refine below_set ?_ GE780.out) | exact HB.out)))); have n2_ := Aside0.mk (blk_below (g := gb778) (o := .cells #[.int .u64 a0_0, .int .i64 a0_1, .int .i64 a0_2] 24 (0, 0)) (by (with_reducible repeat (first | refine blk_drewN ?_ _ | refine blk_drew ?_ | refine blk_alloc ?_ _)); exact BK778.out) hb); have n3_ := Aside0.mk (blk_below (g := gb779) (o := .cells #[.slice A1_0 l1_0.length c1_0, .slice A1_1 l1_1.length c1_1] 82 (0, 0)) (by (with_reducible repeat (first | refine blk_drewN ?_ _ | refine blk_drew ?_ | refine blk_alloc ?_ _)); exact BK779.out) hb); have n4_ := Aside0.mk (blk_below (g := gb780) (o := .cells #[.int .u64 a2_0, .int .u64 a2_1] 83 (0, 0)) (by (with_reducible repeat (first | refine blk_drewN ?_ _ | refine blk_drew ?_ | refine blk_alloc ?_ _)); exact BK780.out) hb); have n5_ := Aside0.mk (below_step (by repeat (first | (with_reducible first | exact HB.out | apply below_alloc | apply pw_below_drewN | apply below_drew1 | refine below_set ?_ GE778.out | refine below_set ?_ GE779.out | refine below_set ?_ GE780.out) | exact HB.out)) hb); clear HO_10; clear BK778; clear BK779; clear BK780; clear HB; have HO_10 := n0_; have HO797 := n1_; have BK778 := n2_; have BK779 := n3_; have BK780 := n4_; have HB := n5_; clear n0_ n1_ n2_ n3_ n4_ n5_; (try clear hb); (try clear hb2); (try clear hk); (try clear hi); (try clear ho0)) | (at_builtin; refine Kd.R_append_zeros (Kd.int .u64) (w0 := w) w.heap.size rfl (.tmp 93) (.tmp 95) 31 3 22 (.int .u64 0) 8 rfl Try.underlying31 Try.underlying3 info22 rfl (by decide) (by omega) v796 t795 0 (ji80 : Int) (fun _ => True) rfl rfl rfl ?aF ?aO (of_decide_eq_true (by first | (with_reducible assumption) | assumption)) ?aB ?aS ?aL ?_; (case aB => exact (by repeat (first | (with_reducible first | exact HB.out | apply below_alloc | apply pw_below_drewN | apply below_drew1 | refine below_set ?_ GE778.out | refine below_set ?_ GE779.out | refine below_set ?_ GE780.out) | exact HB.out))); (case aF => exact (fun _ _ => trivial)); (case aO => exact (by (with_reducible repeat (first | apply Kd.R_alloc | apply Kd.R_drewN | apply Kd.R_drew)); exact HO797.out)); (case aS => exact (below_size (by repeat (first | (with_reducible first | exact HB.out | apply below_alloc | apply pw_below_drewN | apply below_drew1 | refine below_set ?_ GE778.out | refine below_set ?_ GE779.out | refine below_set ?_ GE780.out) | exact HB.out)))); (case aL => have := LMc82.out; omega); intro v799 w94 ho hb hg hat; rw [← Ny798.out] at ho; have n0_ := Aside0.mk (Kd.R_over' (by (with_reducible repeat (first | apply Kd.R_alloc | apply Kd.R_drewN | apply Kd.R_drew)); exact HO_10.out) (Kd.R_typed (by (with_reducible repeat (first | apply Kd.R_alloc | apply Kd.R_drewN | apply Kd.R_drew)); exact HO797.out)) (by decide) hg); have n1_ := Aside0.mk (blk_grown (g := gb778) (o := .cells #[.int .u64 a0_0, .int .i64 a0_1, .int .i64 a0_2] 24 (0, 0)) (by (with_reducible repeat (first | refine blk_drewN ?_ _ | refine blk_drew ?_ | refine blk_alloc ?_ _)); exact BK778.out) hg (Kd.R_ne HO797.out BK778.out (by decide))); have n2_ := Aside0.mk (blk_grown (g := gb779) (o := .cells #[.slice A1_0 l1_0.length c1_0, .slice A1_1 l1_1.length c1_1] 82 (0, 0)) (by (with_reducible repeat (first | refine blk_drewN ?_ _ | refine blk_drew ?_ | refine blk_alloc ?_ _)); exact BK779.out) hg (Kd.R_ne HO797.out BK779.out (by decide))); have n3_ := Aside0.mk (blk_grown (g := gb780) (o := .cells #[.int .u64 a2_0, .int .u64 a2_1] 83 (0, 0)) (by (with_reducible repeat (first | refine blk_drewN ?_ _ | refine blk_drew ?_ | refine blk_alloc ?_ _)); exact BK780.out) hg (Kd.R_ne HO797.out BK780.out (by decide))); have n4_ := Aside0.mk (hb); have n5_ := Aside0.mk (ho); clear HO_10; clear BK778; clear BK779; clear BK780; clear HB; clear HO797; have HO_10 := n0_; have BK778 := n1_; have BK779 := n2_; have BK780 := n3_; have HB := n4_; have HO800 := n5_; clear n0_ n1_ n2_ n3_ n4_ n5_; clear ho hb hg hat; obtain ⟨Ao96, co96, eo96⟩ := Kd.R_slice HO800.out; subst eo96; have q95 : ((ji80) : Int) ≤ ((y798.length : Int) : Int) := of_decide_eq_true (by first | (with_reducible assumption) | assumption); obtain ⟨i095, hi095, _, hsz95, _⟩ := info_parts info22; have hroom95 : y798.length ≤ co96 := (Kd.R_reads' HO800.out).2.1; have hC95 : Kd.C (Kd.int .u64) _ Ao96 y798.length y798 := (Kd.R_reads' HO800.out).2.2; have hcut95 := cut_to (P := Try.prog) 31 22 .i64 Try.underlying31 hi095 Ao96 y798.length co96 (ji80) (of_decide_eq_true (by first | (with_reducible assumption) | assumption)) q95 hroom95; have hr95 := Kd.C_take (m := ((ji80) : Int).toNat) hC95 (by omega); have hy95 : y801.length = ((ji80) : Int).toNat := (by rw [Ny801.out, List.length_take]; omega); rw [← Ny801.out] at hr95; rw [← hy95] at hcut95; have HR804 := Aside0.mk hr95; have HC804 := Aside0.mk (show y801.length ≤ co96 from by omega); clear hr95 hC95 hroom95 hi095 hsz95; have KY95 := Aside0.mk hy95; clear hy95; have KL95 := Aside0.mk (show ((ji80) : Int).toNat ≤ y798.length from by omega); replace q95 := eq_true q95))
                                have n0_ := Aside0.mk (Kd.R_drew HO_10.out)
                                have n1_ := Aside0.mk (Kd.R_drew HO800.out)
                                have n2_ := Aside0.mk (blk_drew BK778.out)
                                have n3_ := Aside0.mk (blk_drew BK779.out)
                                have n4_ := Aside0.mk (blk_drew BK780.out)
                                have n5_ := Aside0.mk (Kd.C_drew HR804.out)
                                have n6_ := Aside0.mk (below_drew1 HB.out)
                                clear HO_10
                                clear HO800
                                clear BK778
                                clear BK779
                                clear BK780
                                clear HR804
                                clear HB
                                have HO_10 := n0_
                                have HO800 := n1_
                                have BK778 := n2_
                                have BK779 := n3_
                                have BK780 := n4_
                                have HR804 := n5_
                                have HB := n6_
                                clear n0_ n1_ n2_ n3_ n4_ n5_ n6_
                                have q98 : (1 : Int) ≤ ((y801.length : Int) : Int) := of_decide_eq_true (by first | (with_reducible assumption) | assumption)
                                obtain ⟨i098, hi098, _, hsz98, _⟩ := info_parts info22
                                have hroom98 : y801.length ≤ co96 := HC804.out
                                have hC98 : Kd.C (Kd.int .u64) _ Ao96 y801.length y801 := (by repeat (first | (with_reducible exact HR804.out) | (with_reducible refine Kd.C_alloc ?_ _) | (with_reducible refine Kd.C_drewN ?_ _) | (with_reducible refine Kd.C_drew ?_) | exact HR804.out))
                                have hcut98 := cut_from (P := Try.prog) 31 22 .i64 Try.underlying31 hi098 1 hsz98 Ao96 y801.length co96 1 (by omega) q98
                                have hr98 := Kd.C_drop (m := (1 : Int).toNat) (c := co96) hC98 (by omega) hroom98
                                obtain ⟨A98, hA98⟩ : ∃ A1, A1 = (if co96 = (1 : Int).toNat then Ao96 else (Ao96 : Option Addr).map (·.add ((1 : Int).toNat * 1))) := ⟨_, rfl⟩
                                obtain ⟨c98, hc98⟩ : ∃ c1, c1 = co96 - (1 : Int).toNat := ⟨_, rfl⟩
                                have hy98 : y805.length = y801.length - (1 : Int).toNat := (by rw [Ny805.out, List.length_drop] <;> omega)
                                rw [show (y801).drop (1 : Int).toNat = y805 from Ny805.out.symm] at hr98
                                replace hr98 : Kd.C (Kd.int .u64) _ A98 y805.length y805 := (by rw [hA98]; exact hr98)
                                rw [← hy98, ← hA98, ← hc98] at hcut98
                                have HR808 := Aside0.mk hr98
                                have HC808 := Aside0.mk (show y805.length ≤ c98 from by rw [hy98, hc98]; exact Nat.sub_le_sub_right hroom98 _)
                                clear hr98 hC98 hroom98 hi098 hsz98 hc98
                                have KY98 := Aside0.mk hy98
                                have KA98 := Aside0.mk hA98
                                clear hy98 hA98
                                replace q98 := eq_true q98
                                refine start_ (n := 13) (S := fun w' => w'.cell? ⟨gb778, 0, none⟩ = some (.int .u64 a0_0) ∧ w'.cell? ⟨gb778, 1, none⟩ = some (.int .i64 a0_1) ∧ w'.cell? ⟨gb778, 2, none⟩ = some (.int .i64 a0_2)) (ds := []) #[false, false, false, false, false, false, false, false, false, false, false, false, false] (by kernel_rfl) rfl rfl ⟨(blk_cell BK778.out 0).trans rfl, (blk_cell BK778.out 1).trans rfl, (blk_cell BK778.out 2).trans rfl⟩ (fun hHeld => ?_); refine with_tabW juntolaw04_ShareNothing.tab16 juntolaw04_ShareNothing.bits16 (fun HT_ HW_ => ?_)
                                generalize w94.drew = w97 at HO_10 HO800 BK778 BK779 BK780 HR804 HB HR808 hHeld ⊢
                                refine pure_ (i := 1) (N := some 102) (v := ?_) (a' := ?_) #[false, true, false, false, false, false, false, false, false, false, false, false, false] rfl rfl (any_of HT_.out (by kernel_rfl)) (fun _ _ _ h => h) (Or.inl ⟨by rfl, ?_⟩) ?_ ?_
                                rotate_left
                                · intro w'
                                  go_simp
                                  with_reducible rfl
                                rotate_left
                                · simp only [Act.put, List.setIfInBounds_toArray, List.set_cons_zero, List.set_cons_succ, i64_w, i32_w]
                                  rfl
                                refine pure_ (i := 2) (N := some 103) (v := ?_) (a' := ?_) #[false, true, true, false, false, false, false, false, false, false, false, false, false] rfl rfl (any_of HT_.out (by kernel_rfl)) (fun _ _ _ h => h) (Or.inl ⟨by rfl, ?_⟩) ?_ ?_
                                rotate_left
                                · intro w'
                                  go_simp
                                  with_reducible rfl
                                rotate_left
                                · simp only [Act.put, List.setIfInBounds_toArray, List.set_cons_zero, List.set_cons_succ, i64_w, i32_w]
                                  rfl
                                refine pure_ (i := 3) (N := some 104) (v := ?_) (a' := ?_) #[false, true, true, true, false, false, false, false, false, false, false, false, false] rfl rfl (any_of HT_.out (by kernel_rfl)) (fun _ _ _ h => h) (Or.inl ⟨by rfl, ?_⟩) ?_ ?_
                                rotate_left
                                · intro w'
                                  go_simp
                                  with_reducible rfl
                                rotate_left
                                · simp only [Act.put, List.setIfInBounds_toArray, List.set_cons_zero, List.set_cons_succ, i64_w, i32_w]
                                  rfl
                                refine pure_ (i := 4) (N := some 105) (v := ?_) (a' := ?_) #[false, true, true, true, true, false, false, false, false, false, false, false, false] rfl rfl (any_of HT_.out (by kernel_rfl)) (fun _ _ _ h => h) (Or.inl ⟨by rfl, ?_⟩) ?_ ?_
                                rotate_left
                                · intro w'
                                  go_simp
                                  with_reducible rfl
                                rotate_left
                                · simp only [Act.put, List.setIfInBounds_toArray, List.set_cons_zero, List.set_cons_succ, i64_w, i32_w]
                                  rfl
                                refine take_ (i := 0) (N := some 101) (v := ?_) (a' := ?_) #[true, true, true, true, true, false, false, false, false, false, false, false, false] rfl rfl (take_ofW HT_.out HW_.out (by kernel_rfl)) (fun _ _ _ h => h) (Or.inl ⟨by rfl, ?_⟩) hHeld ?_ ?_
                                rotate_left
                                · rintro w' ⟨s0, s1, s2⟩
                                  go_simp
                                  with_reducible rfl
                                rotate_left
                                · simp only [Act.put, List.setIfInBounds_toArray, List.set_cons_zero, List.set_cons_succ, i64_w, i32_w]
                                  rfl
                                refine one_ (i := 5) (N := some 106) #[true, true, true, true, true, true, false, false, false, false, false, false, false] rfl rfl (one_of HT_.out (by kernel_rfl)) (by decide) (fun K hK => ?_)
                                refine goes_ Try.func68 (by kernel_rfl) rfl #[.agg #[.int .u64 a0_0, .int .i64 a0_1, .int .i64 a0_2], .int .u64 (juntolaw04_ShareNothing.pick a2_0 a2_1 x59_2), .int .i64 (l1_0.length : Int), .slice A98 y805.length c98] (by rfl) rfl rfl (by (try simp only [List.map_toArray, List.map_cons, List.map_nil]); first | done | rfl | (simp only [List.length_drop, List.length_take]; rfl)) ?_
                                with_reducible refine (share_Make.calls k3 a0_0 a0_1 a0_2 (juntolaw04_ShareNothing.pick a2_0 a2_1 x59_2) (l1_0.length : Int) _ _ y805 t809 t812 t815 _ ?side1 ?side2 A86.out).mono ?_
                                (case side1 => repeat (first | exact (by repeat (first | (with_reducible exact HR808.out) | (with_reducible refine Kd.C_alloc ?_ _) | (with_reducible refine Kd.C_drewN ?_ _) | (with_reducible refine Kd.C_drew ?_) | exact HR808.out)) | (with_reducible refine Kd.C_alloc ?_ _) | (with_reducible refine Kd.C_drewN ?_ _) | (with_reducible refine Kd.C_drew ?_)))
                                (case side2 => exact HC808.out)
                                rintro e w99 ⟨v810, v813, rfl, ho0, ho1, hb⟩
                                refine ⟨_, rfl, ?_⟩
                                have n0_ := Aside0.mk (Kd.R_below (by (with_reducible repeat (first | apply Kd.R_alloc | apply Kd.R_drewN | apply Kd.R_drew)); exact HO_10.out) hb)
                                have n1_ := Aside0.mk (Kd.R_mono (Kd.R_told (Kd.R_told (Kd.R_old (by (with_reducible repeat (first | apply Kd.R_alloc | apply Kd.R_drewN | apply Kd.R_drew)); exact HO800.out) hb) (Kd.R_base ho0)) (Kd.R_base ho1)) (fun _ h_ => h_.1))
                                have n2_ := Aside0.mk (Kd.R_lower (Kd.R_new' ho0 (Kd.R_lt (by (with_reducible repeat (first | apply Kd.R_alloc | apply Kd.R_drewN | apply Kd.R_drew)); exact HO800.out))) (below_size (by repeat (first | (with_reducible first | exact HB.out | apply below_alloc | apply pw_below_drewN | apply below_drew1 | refine below_set ?_ GE778.out | refine below_set ?_ GE779.out | refine below_set ?_ GE780.out) | exact HB.out))))
                                have n3_ := Aside0.mk (Kd.R_lower (Kd.R_new' ho1 (Kd.R_lt (by (with_reducible repeat (first | apply Kd.R_alloc | apply Kd.R_drewN | apply Kd.R_drew)); exact HO800.out))) (below_size (by repeat (first | (with_reducible first | exact HB.out | apply below_alloc | apply pw_below_drewN | apply below_drew1 | refine below_set ?_ GE778.out | refine below_set ?_ GE779.out | refine below_set ?_ GE780.out) | exact HB.out))))
                                have n4_ := Aside0.mk (blk_below (g := gb778) (o := .cells #[.int .u64 a0_0, .int .i64 a0_1, .int .i64 a0_2] 24 (0, 0)) (by (with_reducible repeat (first | refine blk_drewN ?_ _ | refine blk_drew ?_ | refine blk_alloc ?_ _)); exact BK778.out) hb)
                                have n5_ := Aside0.mk (blk_below (g := gb779) (o := .cells #[.slice A1_0 l1_0.length c1_0, .slice A1_1 l1_1.length c1_1] 82 (0, 0)) (by (with_reducible repeat (first | refine blk_drewN ?_ _ | refine blk_drew ?_ | refine blk_alloc ?_ _)); exact BK779.out) hb)
                                have n6_ := Aside0.mk (blk_below (g := gb780) (o := .cells #[.int .u64 a2_0, .int .u64 a2_1] 83 (0, 0)) (by (with_reducible repeat (first | refine blk_drewN ?_ _ | refine blk_drew ?_ | refine blk_alloc ?_ _)); exact BK780.out) hb)
                                have n7_ := Aside0.mk (Kd.C_below (by repeat (first | (with_reducible exact HR804.out) | (with_reducible refine Kd.C_alloc ?_ _) | (with_reducible refine Kd.C_drewN ?_ _) | (with_reducible refine Kd.C_drew ?_) | exact HR804.out)) hb)
                                have n8_ := Aside0.mk (Kd.C_below (by repeat (first | (with_reducible exact HR808.out) | (with_reducible refine Kd.C_alloc ?_ _) | (with_reducible refine Kd.C_drewN ?_ _) | (with_reducible refine Kd.C_drew ?_) | exact HR808.out)) hb)
                                have n9_ := Aside0.mk (below_step (by repeat (first | (with_reducible first | exact HB.out | apply below_alloc | apply pw_below_drewN | apply below_drew1 | refine below_set ?_ GE778.out | refine below_set ?_ GE779.out | refine below_set ?_ GE780.out) | exact HB.out)) hb)
                                clear HO_10
                                clear HO800
                                clear BK778
                                clear BK779
                                clear BK780
                                clear HR804
                                clear HR808
                                clear HB
                                have HO_10 := n0_
                                have HO800 := n1_
                                have HO811 := n2_
                                have HO814 := n3_
                                have BK778 := n4_
                                have BK779 := n5_
                                have BK780 := n6_
                                have HR804 := n7_
                                have HR808 := n8_
                                have HB := n9_
                                clear n0_ n1_ n2_ n3_ n4_ n5_ n6_ n7_ n8_ n9_
                                (try clear hb)
                                (try clear hb2)
                                (try clear hk)
                                (try clear hi)
                                (try clear ho0)
                                (try clear ho1)
                                refine hK.out _ _ ⟨(blk_cell BK778.out 0).trans rfl, (blk_cell BK778.out 1).trans rfl, (blk_cell BK778.out 2).trans rfl⟩ (fun hHeld => ?_)
                                clear hK K
                                refine norm_ (a' := ?_) ?_ ?_
                                rotate_left
                                · show Act.put _ (some 106) _ = _
                                  simp only [Act.put, List.setIfInBounds_toArray, List.set_cons_zero, List.set_cons_succ, i64_w, i32_w]
                                  rfl
                                refine pure_ (i := 6) (N := some 100) (v := ?_) (a' := ?_) #[true, true, true, true, true, true, true, false, false, false, false, false, false] rfl rfl (any_of HT_.out (by kernel_rfl)) (fun _ _ _ h => h) (Or.inl ⟨by rfl, ?_⟩) ?_ ?_
                                rotate_left
                                · intro w'
                                  go_simp
                                  with_reducible rfl
                                rotate_left
                                · simp only [Act.put, List.setIfInBounds_toArray, List.set_cons_zero, List.set_cons_succ, i64_w, i32_w]
                                  rfl
                                refine pure_ (i := 7) (N := some 107) (v := ?_) (a' := ?_) #[true, true, true, true, true, true, true, true, false, false, false, false, false] rfl rfl (any_of HT_.out (by kernel_rfl)) (fun _ _ _ h => h) (Or.inl ⟨by rfl, ?_⟩) ?_ ?_
                                rotate_left
                                · intro w'
                                  go_simp
                                  with_reducible rfl
                                rotate_left
                                · simp only [Act.put, List.setIfInBounds_toArray, List.set_cons_zero, List.set_cons_succ, i64_w, i32_w]
                                  rfl
                                refine pure_ (i := 8) (N := some 108) (v := ?_) (a' := ?_) #[true, true, true, true, true, true, true, true, true, false, false, false, false] rfl rfl (any_of HT_.out (by kernel_rfl)) (fun _ _ _ h => h) (Or.inl ⟨by rfl, ?_⟩) ?_ ?_
                                rotate_left
                                · intro w'
                                  go_simp
                                  with_reducible rfl
                                rotate_left
                                · simp only [Act.put, List.setIfInBounds_toArray, List.set_cons_zero, List.set_cons_succ, i64_w, i32_w]
                                  rfl
                                refine pure_ (i := 9) (N := some 109) (v := ?_) (a' := ?_) #[true, true, true, true, true, true, true, true, true, true, false, false, false] rfl rfl (any_of HT_.out (by kernel_rfl)) (fun _ _ _ h => h) (Or.inl ⟨by rfl, ?_⟩) ?_ ?_
                                rotate_left
                                · intro w'
                                  go_simp
                                  with_reducible rfl
                                rotate_left
                                · simp only [Act.put, List.setIfInBounds_toArray, List.set_cons_zero, List.set_cons_succ, i64_w, i32_w]
                                  rfl
                                refine pure_ (i := 10) (N := some 14) (v := ?_) (a' := ?_) #[true, true, true, true, true, true, true, true, true, true, true, false, false] rfl rfl (any_of HT_.out (by kernel_rfl)) (fun _ _ _ h => h) (Or.inl ⟨by rfl, ?_⟩) ?_ ?_
                                rotate_left
                                · intro w'
                                  go_simp
                                  with_reducible rfl
                                rotate_left
                                · simp only [Act.put, List.setIfInBounds_toArray, List.set_cons_zero, List.set_cons_succ, i64_w, i32_w]
                                  rfl
                                refine pure_ (i := 11) (N := some 15) (v := ?_) (a' := ?_) #[true, true, true, true, true, true, true, true, true, true, true, true, false] rfl rfl (any_of HT_.out (by kernel_rfl)) (fun _ _ _ h => h) (Or.inl ⟨by rfl, ?_⟩) ?_ ?_
                                rotate_left
                                · intro w'
                                  go_simp
                                  with_reducible rfl
                                rotate_left
                                · simp only [Act.put, List.setIfInBounds_toArray, List.set_cons_zero, List.set_cons_succ, i64_w, i32_w]
                                  rfl
                                refine pure_ (i := 12) (N := some 16) (v := ?_) (a' := ?_) #[true, true, true, true, true, true, true, true, true, true, true, true, true] rfl rfl (any_of HT_.out (by kernel_rfl)) (fun _ _ _ h => h) (Or.inl ⟨by rfl, ?_⟩) ?_ ?_
                                rotate_left
                                · intro w'
                                  go_simp
                                  with_reducible rfl
                                rotate_left
                                · simp only [Act.put, List.setIfInBounds_toArray, List.set_cons_zero, List.set_cons_succ, i64_w, i32_w]
                                  rfl
                                refine done_ (done_of HT_.out (by kernel_rfl)) ?_
                                have hcz100_0 : w99.cell? ⟨gb778, 0, none⟩ = some (.int .u64 a0_0) := (blk_cell BK778.out 0).trans rfl
                                have hcz100_1 : w99.cell? ⟨gb778, 1, none⟩ = some (.int .i64 a0_1) := (blk_cell BK778.out 1).trans rfl
                                have hcz100_2 : w99.cell? ⟨gb778, 2, none⟩ = some (.int .i64 a0_2) := (blk_cell BK778.out 2).trans rfl
                                have hfz100_0 := blk_frozen BK778.out 0
                                have hfz100_1 := blk_frozen BK778.out 1
                                have hfz100_2 := blk_frozen BK778.out 2
                                obtain ⟨Ao101, co101, eo101⟩ := Kd.R_slice HO811.out
                                subst eo101
                                go_upto_region 18 with (first | ((with_reducible refine gate_callee (f := 71) rfl ?_); refine goesL_ (some 113) rfl rfl Try.func71 (by kernel_rfl) rfl #[.agg #[.int .u64 a0_0, .int .i64 a0_1, .int .i64 a0_2], .slice Ao101 t809.length co101] rfl (by (try simp only [List.map_toArray, List.map_cons, List.map_nil]); first | done | rfl | (simp only [List.length_drop, List.length_take]; rfl)) ?_; (with_reducible refine (share_Shares.calls k3 a0_0 a0_1 a0_2 (fun k_ => some k_ = (.slice Ao101 t809.length co101 : Value).ownBlock) _ _ t809 t816 t819 _ ?side1 A87.out).mono ?_); (case side1 => exact Kd.R_V (Kd.R_tight rfl (Kd.R_types (Kd.R_types (Kd.R_types (Kd.R_apart' (HO811.out) (Kd.R_typed HO_10.out) (by decide)) BK778.out (by decide)) BK779.out (by decide)) BK780.out (by decide)))); rintro e w102 ⟨v817, rfl, ho0, hb⟩; refine ⟨_, rfl, ?_⟩; have n0_ := Aside0.mk (Kd.R_below (by (with_reducible repeat (first | apply Kd.R_alloc | apply Kd.R_drewN | apply Kd.R_drew)); exact HO_10.out) hb); have n1_ := Aside0.mk (Kd.R_elder' (by (with_reducible repeat (first | apply Kd.R_alloc | apply Kd.R_drewN | apply Kd.R_drew)); exact HO800.out) (Kd.R_base ho0) hb); have n2_ := Aside0.mk (Kd.R_elder' (by (with_reducible repeat (first | apply Kd.R_alloc | apply Kd.R_drewN | apply Kd.R_drew)); exact HO811.out) (Kd.R_base ho0) hb); have n3_ := Aside0.mk (Kd.R_elder' (by (with_reducible repeat (first | apply Kd.R_alloc | apply Kd.R_drewN | apply Kd.R_drew)); exact HO814.out) (Kd.R_base ho0) hb); have n4_ := Aside0.mk (Kd.R_lower (Kd.R_new' (Kd.R_new' (Kd.R_new' (Kd.R_mono (ok' := fun k_ => True) ho0 (fun _ hk_ => trivial)) (Kd.R_lt (by (with_reducible repeat (first | apply Kd.R_alloc | apply Kd.R_drewN | apply Kd.R_drew)); exact HO800.out))) (Kd.R_lt (by (with_reducible repeat (first | apply Kd.R_alloc | apply Kd.R_drewN | apply Kd.R_drew)); exact HO811.out))) (Kd.R_lt (by (with_reducible repeat (first | apply Kd.R_alloc | apply Kd.R_drewN | apply Kd.R_drew)); exact HO814.out))) (below_size (by repeat (first | (with_reducible first | exact HB.out | apply below_alloc | apply pw_below_drewN | apply below_drew1 | refine below_set ?_ GE778.out | refine below_set ?_ GE779.out | refine below_set ?_ GE780.out) | exact HB.out)))); have n5_ := Aside0.mk (blk_below (g := gb778) (o := .cells #[.int .u64 a0_0, .int .i64 a0_1, .int .i64 a0_2] 24 (0, 0)) (by (with_reducible repeat (first | refine blk_drewN ?_ _ | refine blk_drew ?_ | refine blk_alloc ?_ _)); exact BK778.out) hb); have n6_ := Aside0.mk (blk_below (g := gb779) (o := .cells #[.slice A1_0 l1_0.length c1_0, .slice A1_1 l1_1.length c1_1] 82 (0, 0)) (by (with_reducible repeat (first | refine blk_drewN ?_ _ | refine blk_drew ?_ | refine blk_alloc ?_ _)); exact BK779.out) hb); have n7_ := Aside0.mk (blk_below (g := gb780) (o := .cells #[.int .u64 a2_0, .int .u64 a2_1] 83 (0, 0)) (by (with_reducible repeat (first | refine blk_drewN ?_ _ | refine blk_drew ?_ | refine blk_alloc ?_ _)); exact BK780.out) hb); have n8_ := Aside0.mk (Kd.C_below (by repeat (first | (with_reducible exact HR804.out) | (with_reducible refine Kd.C_alloc ?_ _) | (with_reducible refine Kd.C_drewN ?_ _) | (with_reducible refine Kd.C_drew ?_) | exact HR804.out)) hb); have n9_ := Aside0.mk (Kd.C_below (by repeat (first | (with_reducible exact HR808.out) | (with_reducible refine Kd.C_alloc ?_ _) | (with_reducible refine Kd.C_drewN ?_ _) | (with_reducible refine Kd.C_drew ?_) | exact HR808.out)) hb); have n10_ := Aside0.mk (below_step (by repeat (first | (with_reducible first | exact HB.out | apply below_alloc | apply pw_below_drewN | apply below_drew1 | refine below_set ?_ GE778.out | refine below_set ?_ GE779.out | refine below_set ?_ GE780.out) | exact HB.out)) hb); clear HO_10; clear HO800; clear HO811; clear HO814; clear BK778; clear BK779; clear BK780; clear HR804; clear HR808; clear HB; have HO_10 := n0_; have HO800 := n1_; have HO811 := n2_; have HO814 := n3_; have HO818 := n4_; have BK778 := n5_; have BK779 := n6_; have BK780 := n7_; have HR804 := n8_; have HR808 := n9_; have HB := n10_; clear n0_ n1_ n2_ n3_ n4_ n5_ n6_ n7_ n8_ n9_ n10_; (try clear hb); (try clear hb2); (try clear hk); (try clear hi); (try clear ho0)))
                                (try simp only [Act.put, List.setIfInBounds_toArray, List.set_cons_zero, List.set_cons_succ])
                                go_cut [129] (fun v129 wc => ∃ (kq : Nat) (x129_87 : Bool), v129 = .bool x129_87 ∧ Aside0 (juntolaw04_ShareNothing.j3 kq (l1_0.length : Int) t816 x59_2 x129_87 a2_0 a2_1 a0_0 a0_1 a0_2 l1_0 l1_1 = some r) ∧ Aside0 (kq ≤ k3) ∧ Aside0 (Kd.R (Kd.int .u64) 22 wc w.heap.size (fun _ => True) v817 t816) ∧ Aside0 (wc.heap[gb778]? = some (.cells #[.int .u64 a0_0, .int .i64 a0_1, .int .i64 a0_2] 24 (0, 0))) ∧ Aside0 (wc.heap[gb779]? = some (.cells #[(.slice A1_0 l1_0.length c1_0), (.slice A1_1 l1_1.length c1_1)] 82 (0, 0))) ∧ Aside0 (wc.heap[gb780]? = some (.cells #[.int .u64 a2_0, .int .u64 a2_1] 83 (0, 0))) ∧ Aside0 (Below w.heap.size w wc))
                                case first =>
                                  have H := HC88.out
                                  clear HC88
                                  by_cases c103 : t815 = 0
                                  · rw [if_pos c103] at H
                                    have c103b0 : (t815 == 0) = true := beq_iff_eq.mpr c103
                                    have c103b1 : (t815 != 0) = false := bne_eq_false_iff_eq.mpr c103
                                    clear c103
                                    (first | rw [c103b0] | (simp only [i64_w, i32_w]; rw [c103b0]) | skip)
                                    by_cases c104 : (t812.length : Int) = 0
                                    · rw [if_pos c104] at H
                                      have c104b0 : ((t812.length : Int) == 0) = true := beq_iff_eq.mpr c104
                                      have c104b1 : ((t812.length : Int) != 0) = false := bne_eq_false_iff_eq.mpr c104
                                      clear c104
                                      have H' := Aside0.mk H
                                      clear H
                                      obtain ⟨Ao105, co105, eo105⟩ := Kd.R_slice HO814.out
                                      subst eo105
                                      obtain ⟨Ao106, co106, eo106⟩ := Kd.R_slice HO818.out
                                      subst eo106
                                      have hnb107 := NB778_779.out
                                      have hnc107 := NB779_778.out
                                      have hnb108 := NB778_780.out
                                      have hnc108 := NB780_778.out
                                      have hcz109_0 : w102.cell? ⟨gb778, 0, none⟩ = some (.int .u64 a0_0) := (blk_cell BK778.out 0).trans rfl
                                      have hcz109_1 : w102.cell? ⟨gb778, 1, none⟩ = some (.int .i64 a0_1) := (blk_cell BK778.out 1).trans rfl
                                      have hcz109_2 : w102.cell? ⟨gb778, 2, none⟩ = some (.int .i64 a0_2) := (blk_cell BK778.out 2).trans rfl
                                      have hfz109_0 := blk_frozen BK778.out 0
                                      have hfz109_1 := blk_frozen BK778.out 1
                                      have hfz109_2 := blk_frozen BK778.out 2
                                      go_wp2
                                      go_meet
                                      case rel => exact ⟨_, (((t816.length : Int) != a0_1)), (by first | rfl | (simp; done) | (simp [*]; done)), H', ⟨by have := HJ3.out; have := HK2.out; have := HK3.out; first | omega | exact Nat.le_refl _⟩, ⟨by (with_reducible repeat (first | apply Kd.R_alloc | apply Kd.R_drewN | apply Kd.R_drew)); exact Kd.R_mono HO818.out (fun _ hk => trivial)⟩, ⟨by (with_reducible repeat (first | refine blk_drewN ?_ _ | refine blk_drew ?_ | refine blk_alloc ?_ _)); exact BK778.out⟩, ⟨by (with_reducible repeat (first | refine blk_drewN ?_ _ | refine blk_drew ?_ | refine blk_alloc ?_ _)); exact BK779.out⟩, ⟨by (with_reducible repeat (first | refine blk_drewN ?_ _ | refine blk_drew ?_ | refine blk_alloc ?_ _)); exact BK780.out⟩, ⟨by repeat (first | (with_reducible first | exact HB.out | apply below_alloc | apply pw_below_drewN | apply below_drew1 | refine below_set ?_ GE778.out | refine below_set ?_ GE779.out | refine below_set ?_ GE780.out) | exact HB.out)⟩⟩
                                    · rw [if_neg c104] at H
                                      have c104b0 : ((t812.length : Int) == 0) = false := beq_eq_false_iff_ne.mpr c104
                                      have c104b1 : ((t812.length : Int) != 0) = true := bne_iff_ne.mpr c104
                                      have c104b2 : ¬ (t812 = []) := fun h_ => c104 (by rw [h_]; rfl)
                                      exact (juntolaw04_ShareNothing.j3_no HRT.out H).elim
                                  · rw [if_neg c103] at H
                                    have c103b0 : (t815 == 0) = false := beq_eq_false_iff_ne.mpr c103
                                    have c103b1 : (t815 != 0) = true := bne_iff_ne.mpr c103
                                    (first | rw [c103b0] | (simp only [i64_w, i32_w]; rw [c103b0]) | skip)
                                    exact (juntolaw04_ShareNothing.j3_no HRT.out H).elim
                                case rest =>
                                  clear HC88
                                  try clear c1
                                  try clear c2
                                  try clear p2
                                  try clear c3
                                  try clear c4
                                  try clear c5
                                  try clear c6
                                  try clear p6
                                  try clear c7
                                  try clear p7
                                  try clear q7
                                  try clear hx7
                                  try clear c8
                                  try clear c9
                                  try clear q9
                                  try clear c10
                                  try clear c12
                                  try clear c12b0
                                  try clear c12b1
                                  try clear c13
                                  try clear c13b0
                                  try clear c14
                                  try clear c15
                                  try clear c20
                                  try clear c21
                                  try clear c21b0
                                  try clear c21b1
                                  try clear c21b2
                                  try clear c23
                                  try clear c24
                                  try clear c28
                                  try clear c30
                                  try clear c31
                                  try clear c35
                                  try clear c37
                                  try clear c38
                                  try clear c42
                                  try clear c44
                                  try clear c45
                                  try clear c48
                                  try clear c51
                                  try clear c52
                                  try clear c54
                                  try clear c54b0
                                  try clear c55
                                  try clear c55b0
                                  try clear c55b1
                                  try clear c56
                                  try clear c56b0
                                  try clear c57
                                  try clear c57b0
                                  try clear c59
                                  try clear c60
                                  try clear c63
                                  try clear c64
                                  try clear p64
                                  try clear c67
                                  try clear c68
                                  try clear c70
                                  try clear c70b0
                                  try clear c71
                                  try clear c71b0
                                  try clear c72
                                  try clear c72b0
                                  try clear c73
                                  try clear c73b0
                                  try clear c74
                                  try clear c75
                                  try clear c76
                                  try clear c77
                                  try clear p79
                                  try clear q79
                                  try clear hx79
                                  try clear c81
                                  try clear c81b0
                                  try clear c81b1
                                  try clear c82
                                  try clear c83
                                  try clear c83b0
                                  try clear c84
                                  try clear c84b0
                                  try clear c84b1
                                  try clear c85
                                  try clear c85b0
                                  try clear c85b1
                                  try clear c89
                                  try clear c90
                                  try clear q95
                                  try clear c98
                                  try clear q98
                                  try clear c103
                                  try clear c103b0
                                  try clear c103b1
                                  try clear c104
                                  try clear c104b0
                                  try clear c104b1
                                  try clear c104b2
                                  try clear c107
                                  try clear c108
                                  try clear hcz100_0
                                  try clear hcz100_1
                                  try clear hcz100_2
                                  try clear hcz109_0
                                  try clear hcz109_1
                                  try clear hcz109_2
                                  try clear hcz10_0
                                  try clear hcz10_1
                                  try clear hcz16_0
                                  try clear hcz16_1
                                  try clear hcz16_2
                                  try clear hcz18_0
                                  try clear hcz18_1
                                  try clear hcz18_2
                                  try clear hcz25_0
                                  try clear hcz25_1
                                  try clear hcz25_2
                                  try clear hcz27_0
                                  try clear hcz27_1
                                  try clear hcz27_2
                                  try clear hcz29_0
                                  try clear hcz29_1
                                  try clear hcz32_0
                                  try clear hcz32_1
                                  try clear hcz32_2
                                  try clear hcz34_0
                                  try clear hcz34_1
                                  try clear hcz34_2
                                  try clear hcz36_0
                                  try clear hcz36_1
                                  try clear hcz39_0
                                  try clear hcz39_1
                                  try clear hcz39_2
                                  try clear hcz41_0
                                  try clear hcz41_1
                                  try clear hcz41_2
                                  try clear hcz43_0
                                  try clear hcz43_1
                                  try clear hcz46_0
                                  try clear hcz46_1
                                  try clear hcz46_2
                                  try clear hcz53_0
                                  try clear hcz53_1
                                  try clear hcz61_0
                                  try clear hcz61_1
                                  try clear hcz61_2
                                  try clear hcz65_0
                                  try clear hcz65_1
                                  try clear hcz65_2
                                  try clear hcz69_0
                                  try clear hcz69_1
                                  try clear hcz77_0
                                  try clear hcz77_1
                                  try clear hcz91_0
                                  try clear hcz91_1
                                  try clear hcz91_2
                                  try clear hfz100_0
                                  try clear hfz100_1
                                  try clear hfz100_2
                                  try clear hfz109_0
                                  try clear hfz109_1
                                  try clear hfz109_2
                                  try clear hfz10_0
                                  try clear hfz10_1
                                  try clear hfz16_0
                                  try clear hfz16_1
                                  try clear hfz16_2
                                  try clear hfz18_0
                                  try clear hfz18_1
                                  try clear hfz18_2
                                  try clear hfz25_0
                                  try clear hfz25_1
                                  try clear hfz25_2
                                  try clear hfz27_0
                                  try clear hfz27_1
                                  try clear hfz27_2
                                  try clear hfz29_0
                                  try clear hfz29_1
                                  try clear hfz32_0
                                  try clear hfz32_1
                                  try clear hfz32_2
                                  try clear hfz34_0
                                  try clear hfz34_1
                                  try clear hfz34_2
                                  try clear hfz36_0
                                  try clear hfz36_1
                                  try clear hfz39_0
                                  try clear hfz39_1
                                  try clear hfz39_2
                                  try clear hfz41_0
                                  try clear hfz41_1
                                  try clear hfz41_2
                                  try clear hfz43_0
                                  try clear hfz43_1
                                  try clear hfz46_0
                                  try clear hfz46_1
                                  try clear hfz46_2
                                  try clear hfz53_0
                                  try clear hfz53_1
                                  try clear hfz61_0
                                  try clear hfz61_1
                                  try clear hfz61_2
                                  try clear hfz65_0
                                  try clear hfz65_1
                                  try clear hfz65_2
                                  try clear hfz69_0
                                  try clear hfz69_1
                                  try clear hfz77_0
                                  try clear hfz77_1
                                  try clear hfz91_0
                                  try clear hfz91_1
                                  try clear hfz91_2
                                  try clear hx790_0
                                  try clear hx791_0
                                  try clear p2
                                  try clear p6
                                  try clear p64
                                  try clear p790
                                  try clear p791
                                  try clear q790
                                  try clear q791
                                  try clear q95
                                  try clear q98
                                  obtain ⟨kq, x129_87, rfl, HA, HJ87, HO_17, BK778, BK779, BK780, HB⟩ := hcut
                                  cases kq with
                                  | zero => exact absurd HA.out (by simp [juntolaw04_ShareNothing.j3])
                                  | succ kj87 =>
                                    have H := HA.out
                                    clear HA
                                    simp only [juntolaw04_ShareNothing.j3] at H
                                    by_cases c111 : x129_87 = true
                                    · subst c111
                                      have H1 : (some false) = some r := by rw [if_pos rfl] at H; exact H
                                      clear H
                                      have H := H1
                                      clear H1
                                      exact absurd ((Option.some.inj H).trans HRT.out) (by decide)
                                    · replace c111 := Bool.eq_false_iff.mpr c111
                                      subst c111
                                      have H1 : (juntolaw04_ShareNothing.l2 kj87 (l1_0.length : Int) t816 x59_2 l1_0 (l1_0.length : Int) 0 a2_0 a2_1 a0_0 a0_1 a0_2 l1_0 l1_1) = some r := by rw [if_neg (show ¬ (false = true) by decide)] at H; exact H
                                      clear H
                                      have H := H1
                                      clear H1
                                      have H' := Aside0.mk H
                                      clear H
                                      have hnb112 := NB779_778.out
                                      have hnc112 := NB778_779.out
                                      have hnb113 := NB779_780.out
                                      have hnc113 := NB780_779.out
                                      have hcz114_0 : wc.cell? ⟨gb779, 0, none⟩ = some (.slice A1_0 l1_0.length c1_0) := (blk_cell BK779.out 0).trans rfl
                                      have hcz114_1 : wc.cell? ⟨gb779, 1, none⟩ = some (.slice A1_1 l1_1.length c1_1) := (blk_cell BK779.out 1).trans rfl
                                      have hfz114_0 := blk_frozen BK779.out 0
                                      have hfz114_1 := blk_frozen BK779.out 1
                                      go_wp2
                                      go_loopg [133] kj87 (fun kq v133 w' => ∃ (x133_5 : Int), v133 = .int .i64 x133_5 ∧ Aside0 (juntolaw04_ShareNothing.l2 kq (l1_0.length : Int) t816 x59_2 l1_0 (l1_0.length : Int) x133_5 a2_0 a2_1 a0_0 a0_1 a0_2 l1_0 l1_1 = some r) ∧ Aside0 (kq ≤ kj87) ∧ Aside0 (Kd.R (Kd.int .u64) 22 w' w.heap.size (fun _ => True) v817 t816) ∧ Aside0 (w'.heap[gb778]? = some (.cells #[.int .u64 a0_0, .int .i64 a0_1, .int .i64 a0_2] 24 (0, 0))) ∧ Aside0 (w'.heap[gb779]? = some (.cells #[(.slice A1_0 l1_0.length c1_0), (.slice A1_1 l1_1.length c1_1)] 82 (0, 0))) ∧ Aside0 (w'.heap[gb780]? = some (.cells #[.int .u64 a2_0, .int .u64 a2_1] 83 (0, 0))) ∧ Aside0 (Below w.heap.size w w'))
                                      case atStart => exact ⟨(0), (by first | rfl | (simp; done) | (simp [*]; done)), H', ⟨Nat.le_refl _⟩, ⟨by (with_reducible repeat (first | apply Kd.R_alloc | apply Kd.R_drewN | apply Kd.R_drew)); exact HO_17.out⟩, ⟨by (with_reducible repeat (first | refine blk_drewN ?_ _ | refine blk_drew ?_ | refine blk_alloc ?_ _)); exact BK778.out⟩, ⟨by (with_reducible repeat (first | refine blk_drewN ?_ _ | refine blk_drew ?_ | refine blk_alloc ?_ _)); exact BK779.out⟩, ⟨by (with_reducible repeat (first | refine blk_drewN ?_ _ | refine blk_drew ?_ | refine blk_alloc ?_ _)); exact BK780.out⟩, ⟨by repeat (first | (with_reducible first | exact HB.out | apply below_alloc | apply pw_below_drewN | apply below_drew1 | refine below_set ?_ GE778.out | refine below_set ?_ GE779.out | refine below_set ?_ GE780.out) | exact HB.out)⟩⟩
                                      case round =>
                                        clear H'
                                        try clear c1
                                        try clear c2
                                        try clear p2
                                        try clear c3
                                        try clear c4
                                        try clear c5
                                        try clear c6
                                        try clear p6
                                        try clear c7
                                        try clear p7
                                        try clear q7
                                        try clear hx7
                                        try clear c8
                                        try clear c9
                                        try clear q9
                                        try clear c10
                                        try clear c11
                                        try clear c12
                                        try clear c12b0
                                        try clear c12b1
                                        try clear c13
                                        try clear c13b0
                                        try clear c14
                                        try clear c15
                                        try clear c20
                                        try clear c21
                                        try clear c21b0
                                        try clear c21b1
                                        try clear c21b2
                                        try clear c23
                                        try clear c24
                                        try clear c28
                                        try clear c30
                                        try clear c31
                                        try clear c35
                                        try clear c37
                                        try clear c38
                                        try clear c42
                                        try clear c44
                                        try clear c45
                                        try clear c48
                                        try clear c51
                                        try clear c52
                                        try clear c54
                                        try clear c54b0
                                        try clear c55
                                        try clear c55b0
                                        try clear c55b1
                                        try clear c56
                                        try clear c56b0
                                        try clear c57
                                        try clear c57b0
                                        try clear c59
                                        try clear c60
                                        try clear c63
                                        try clear c64
                                        try clear p64
                                        try clear c67
                                        try clear c68
                                        try clear c70
                                        try clear c70b0
                                        try clear c71
                                        try clear c71b0
                                        try clear c72
                                        try clear c72b0
                                        try clear c73
                                        try clear c73b0
                                        try clear c74
                                        try clear c75
                                        try clear c76
                                        try clear c77
                                        try clear p79
                                        try clear q79
                                        try clear hx79
                                        try clear c81
                                        try clear c81b0
                                        try clear c81b1
                                        try clear c82
                                        try clear c83
                                        try clear c83b0
                                        try clear c84
                                        try clear c84b0
                                        try clear c84b1
                                        try clear c85
                                        try clear c85b0
                                        try clear c85b1
                                        try clear c89
                                        try clear c90
                                        try clear q95
                                        try clear c98
                                        try clear q98
                                        try clear c103
                                        try clear c103b0
                                        try clear c103b1
                                        try clear c104
                                        try clear c104b0
                                        try clear c104b1
                                        try clear c104b2
                                        try clear c107
                                        try clear c108
                                        try clear c111
                                        try clear c112
                                        try clear c113
                                        try clear hcz100_0
                                        try clear hcz100_1
                                        try clear hcz100_2
                                        try clear hcz109_0
                                        try clear hcz109_1
                                        try clear hcz109_2
                                        try clear hcz10_0
                                        try clear hcz10_1
                                        try clear hcz114_0
                                        try clear hcz114_1
                                        try clear hcz16_0
                                        try clear hcz16_1
                                        try clear hcz16_2
                                        try clear hcz18_0
                                        try clear hcz18_1
                                        try clear hcz18_2
                                        try clear hcz25_0
                                        try clear hcz25_1
                                        try clear hcz25_2
                                        try clear hcz27_0
                                        try clear hcz27_1
                                        try clear hcz27_2
                                        try clear hcz29_0
                                        try clear hcz29_1
                                        try clear hcz32_0
                                        try clear hcz32_1
                                        try clear hcz32_2
                                        try clear hcz34_0
                                        try clear hcz34_1
                                        try clear hcz34_2
                                        try clear hcz36_0
                                        try clear hcz36_1
                                        try clear hcz39_0
                                        try clear hcz39_1
                                        try clear hcz39_2
                                        try clear hcz41_0
                                        try clear hcz41_1
                                        try clear hcz41_2
                                        try clear hcz43_0
                                        try clear hcz43_1
                                        try clear hcz46_0
                                        try clear hcz46_1
                                        try clear hcz46_2
                                        try clear hcz53_0
                                        try clear hcz53_1
                                        try clear hcz61_0
                                        try clear hcz61_1
                                        try clear hcz61_2
                                        try clear hcz65_0
                                        try clear hcz65_1
                                        try clear hcz65_2
                                        try clear hcz69_0
                                        try clear hcz69_1
                                        try clear hcz77_0
                                        try clear hcz77_1
                                        try clear hcz91_0
                                        try clear hcz91_1
                                        try clear hcz91_2
                                        try clear hfz100_0
                                        try clear hfz100_1
                                        try clear hfz100_2
                                        try clear hfz109_0
                                        try clear hfz109_1
                                        try clear hfz109_2
                                        try clear hfz10_0
                                        try clear hfz10_1
                                        try clear hfz114_0
                                        try clear hfz114_1
                                        try clear hfz16_0
                                        try clear hfz16_1
                                        try clear hfz16_2
                                        try clear hfz18_0
                                        try clear hfz18_1
                                        try clear hfz18_2
                                        try clear hfz25_0
                                        try clear hfz25_1
                                        try clear hfz25_2
                                        try clear hfz27_0
                                        try clear hfz27_1
                                        try clear hfz27_2
                                        try clear hfz29_0
                                        try clear hfz29_1
                                        try clear hfz32_0
                                        try clear hfz32_1
                                        try clear hfz32_2
                                        try clear hfz34_0
                                        try clear hfz34_1
                                        try clear hfz34_2
                                        try clear hfz36_0
                                        try clear hfz36_1
                                        try clear hfz39_0
                                        try clear hfz39_1
                                        try clear hfz39_2
                                        try clear hfz41_0
                                        try clear hfz41_1
                                        try clear hfz41_2
                                        try clear hfz43_0
                                        try clear hfz43_1
                                        try clear hfz46_0
                                        try clear hfz46_1
                                        try clear hfz46_2
                                        try clear hfz53_0
                                        try clear hfz53_1
                                        try clear hfz61_0
                                        try clear hfz61_1
                                        try clear hfz61_2
                                        try clear hfz65_0
                                        try clear hfz65_1
                                        try clear hfz65_2
                                        try clear hfz69_0
                                        try clear hfz69_1
                                        try clear hfz77_0
                                        try clear hfz77_1
                                        try clear hfz91_0
                                        try clear hfz91_1
                                        try clear hfz91_2
                                        try clear hx790_0
                                        try clear hx791_0
                                        try clear p2
                                        try clear p6
                                        try clear p64
                                        try clear p7
                                        try clear p79
                                        try clear p790
                                        try clear p791
                                        try clear q7
                                        try clear q79
                                        try clear q790
                                        try clear q791
                                        try clear q9
                                        try clear q95
                                        try clear q98
                                        obtain ⟨x133_5, rfl, HA, HK5, HO_17, BK778, BK779, BK780, HB⟩ := hrel
                                        cases gk with
                                        | zero => exact absurd HA.out (by simp [juntolaw04_ShareNothing.l2])
                                        | succ k5 =>
                                          have H := HA.out
                                          clear HA
                                          simp only [juntolaw04_ShareNothing.l2] at H
                                          by_cases c115 : x133_5 < (l1_0.length : Int)
                                          · rw [if_pos c115] at H
                                            have c115b0 : decide (x133_5 < (l1_0.length : Int)) = true := decide_eq_true c115
                                            clear c115
                                            by_cases c116 : 0 ≤ x133_5
                                            · rw [if_pos c116] at H
                                              have c116b0 : decide (0 ≤ x133_5) = true := decide_eq_true c116
                                              clear c116
                                              by_cases c117 : x133_5 < (l1_0.length : Int)
                                              · rw [if_pos c117] at H
                                                have c117b0 : decide (x133_5 < (l1_0.length : Int)) = true := decide_eq_true c117
                                                clear c117
                                                obtain ⟨ji118, hji118⟩ : ∃ j_ : Int, (wrap64 ((rd l1_0 x133_5) - 1)) = j_ := ⟨_, rfl⟩
                                                replace H : (if 0 ≤ (ji118) then (if (ji118) < (t816.length : Int) then (if x133_5 < (l1_1.length : Int) then (if (rd t816 (ji118)) = (rd l1_1 x133_5) then (juntolaw04_ShareNothing.l2 k5 (l1_0.length : Int) t816 x59_2 l1_0 (l1_0.length : Int) (wrap64 (x133_5 + 1)) a2_0 a2_1 a0_0 a0_1 a0_2 l1_0 l1_1) else (some false)) else (none)) else (none)) else (none)) = some r := by first | (rw [hji118] at H; exact H) | (simp only [hji118] at H ⊢; exact H)
                                                have hji118w : (IntKind.i64.wrap ((rd l1_0 x133_5) - 1)) = ji118 := (i64_w _).trans hji118
                                                by_cases c119 : 0 ≤ (ji118)
                                                · rw [if_pos c119] at H
                                                  have c119b0 : decide (0 ≤ (ji118)) = true := decide_eq_true c119
                                                  clear c119
                                                  by_cases c120 : (ji118) < (t816.length : Int)
                                                  · rw [if_pos c120] at H
                                                    have c120b0 : decide ((ji118) < (t816.length : Int)) = true := decide_eq_true c120
                                                    clear c120
                                                    by_cases c121 : x133_5 < (l1_1.length : Int)
                                                    · rw [if_pos c121] at H
                                                      have c121b0 : decide (x133_5 < (l1_1.length : Int)) = true := decide_eq_true c121
                                                      clear c121
                                                      by_cases c122 : (rd t816 (ji118)) = (rd l1_1 x133_5)
                                                      · rw [if_pos c122] at H
                                                        have c122b0 : ((rd t816 (ji118)) == (rd l1_1 x133_5)) = true := beq_iff_eq.mpr c122
                                                        have c122b1 : ((rd t816 (ji118)) != (rd l1_1 x133_5)) = false := bne_eq_false_iff_eq.mpr c122
                                                        clear c122
                                                        have H' := Aside0.mk H
                                                        clear H
                                                        have p820 : 0 ≤ (x133_5 : Int) := of_decide_eq_true (by first | (with_reducible assumption) | assumption)
                                                        have q820 : x133_5 < (l1_0.length : Int) := of_decide_eq_true (by first | (with_reducible assumption) | assumption)
                                                        obtain ⟨ad820, e820, hx820_0⟩ := Kd.at_int HR1_0.out x133_5 p820 q820
                                                        cases e820
                                                        replace hx820_0 := (HB.out.cell (World.block_lt_of_cell? w _ hx820_0)).trans hx820_0
                                                        replace p820 := eq_true p820
                                                        replace q820 := eq_true q820
                                                        try go_wp2
                                                        have n0_ := Aside0.mk (Kd.R_drew HO_17.out)
                                                        have n1_ := Aside0.mk (blk_drew BK778.out)
                                                        have n2_ := Aside0.mk (blk_drew BK779.out)
                                                        have n3_ := Aside0.mk (blk_drew BK780.out)
                                                        have n4_ := Aside0.mk True.intro
                                                        have n5_ := Aside0.mk True.intro
                                                        have n6_ := Aside0.mk (below_drew1 HB.out)
                                                        clear HO_17
                                                        clear BK778
                                                        clear BK779
                                                        clear BK780
                                                        try clear HR804
                                                        try clear HR808
                                                        clear HB
                                                        have HO_17 := n0_
                                                        have BK778 := n1_
                                                        have BK779 := n2_
                                                        have BK780 := n3_
                                                        have HR804 := n4_
                                                        have HR808 := n5_
                                                        have HB := n6_
                                                        clear n0_ n1_ n2_ n3_ n4_ n5_ n6_
                                                        obtain ⟨Ao124, co124, eo124⟩ := Kd.R_slice HO_17.out
                                                        (first | subst eo124 | (injection eo124 with f1_ f2_ f3_; have f4_ := f1_.symm; have f5_ := f3_.symm; clear f1_ f2_ f3_; subst f4_; subst f5_))
                                                        have p821 : 0 ≤ ((ji118) : Int) := of_decide_eq_true (by first | (with_reducible assumption) | assumption)
                                                        have q821 : (ji118) < (t816.length : Int) := of_decide_eq_true (by first | (with_reducible assumption) | assumption)
                                                        obtain ⟨ad821, e821, hx821_0⟩ := Kd.at_int (Kd.R_reads' HO_17.out).2.2 (ji118) p821 q821
                                                        cases e821
                                                        replace p821 := eq_true p821
                                                        replace q821 := eq_true q821
                                                        have p822 : 0 ≤ (x133_5 : Int) := of_decide_eq_true (by first | (with_reducible assumption) | assumption)
                                                        have q822 : x133_5 < (l1_1.length : Int) := of_decide_eq_true (by first | (with_reducible assumption) | assumption)
                                                        obtain ⟨ad822, e822, hx822_0⟩ := Kd.at_int HR1_1.out x133_5 p822 q822
                                                        have hw822_0 := hx822_0
                                                        cases e822
                                                        replace hx822_0 := (HB.out.cell (World.block_lt_of_cell? w _ hx822_0)).trans hx822_0
                                                        replace p822 := eq_true p822
                                                        replace q822 := eq_true q822
                                                        refine start_ (n := 11) (S := fun w' => w'.cell? ⟨gb779, 0, none⟩ = some (.slice (some ad820) l1_0.length c1_0) ∧ w'.cell? ⟨gb779, 1, none⟩ = some (.slice (some ad822) l1_1.length c1_1) ∧ w'.cell? (ad821.add ((ji118)).toNat) = some (.int .u64 (rd t816 (ji118))) ∧ w'.cell? (ad822.add (x133_5).toNat) = some (.int .u64 (rd l1_1 x133_5))) (ds := []) #[false, false, false, false, false, false, false, false, false, false, false] (by kernel_rfl) rfl rfl ⟨(blk_cell BK779.out 0).trans rfl, (blk_cell BK779.out 1).trans rfl, hx821_0, ((HB.out.cell (World.block_lt_of_cell? w _ hw822_0)).trans hw822_0)⟩ (fun hHeld => ?_); refine with_tabW juntolaw04_ShareNothing.tab23 juntolaw04_ShareNothing.bits23 (fun HT_ HW_ => ?_)
                                                        generalize wr.drew = w123 at HO_17 BK778 BK779 BK780 HB hx821_0 hx822_0 hHeld ⊢
                                                        refine pure_ (i := 0) (N := some 138) (v := ?_) (a' := ?_) #[true, false, false, false, false, false, false, false, false, false, false] rfl rfl (any_of HT_.out (by kernel_rfl)) (fun _ _ _ h => h) (Or.inl ⟨by rfl, ?_⟩) ?_ ?_
                                                        rotate_left
                                                        · intro w'
                                                          go_simp
                                                          with_reducible rfl
                                                        rotate_left
                                                        · simp only [Act.put, List.setIfInBounds_toArray, List.set_cons_zero, List.set_cons_succ, i64_w, i32_w]
                                                          rfl
                                                        refine pure_ (i := 1) (N := some 139) (v := ?_) (a' := ?_) #[true, true, false, false, false, false, false, false, false, false, false] rfl rfl (any_of HT_.out (by kernel_rfl)) (fun _ _ _ h => h) (Or.inl ⟨by rfl, ?_⟩) ?_ ?_
                                                        rotate_left
                                                        · intro w'
                                                          go_simp
                                                          with_reducible rfl
                                                        rotate_left
                                                        · simp only [Act.put, List.setIfInBounds_toArray, List.set_cons_zero, List.set_cons_succ, i64_w, i32_w]
                                                          rfl
                                                        refine pure_ (i := 2) (N := some 140) (v := ?_) (a' := ?_) #[true, true, true, false, false, false, false, false, false, false, false] rfl rfl (any_of HT_.out (by kernel_rfl)) (fun _ _ _ h => h) (Or.inl ⟨by rfl, ?_⟩) ?_ ?_
                                                        rotate_left
                                                        · intro w'
                                                          go_simp
                                                          with_reducible rfl
                                                        rotate_left
                                                        · simp only [Act.put, List.setIfInBounds_toArray, List.set_cons_zero, List.set_cons_succ, i64_w, i32_w]
                                                          rfl
                                                        refine pure_ (i := 3) (N := some 141) (v := ?_) (a' := ?_) #[true, true, true, true, false, false, false, false, false, false, false] rfl rfl (any_of HT_.out (by kernel_rfl)) (fun _ _ _ h => h) (Or.inl ⟨by rfl, ?_⟩) ?_ ?_
                                                        rotate_left
                                                        · intro w'
                                                          go_simp
                                                          with_reducible rfl
                                                        rotate_left
                                                        · simp only [Act.put, List.setIfInBounds_toArray, List.set_cons_zero, List.set_cons_succ, i64_w, i32_w]
                                                          rfl
                                                        refine pure_ (i := 5) (N := some 143) (v := ?_) (a' := ?_) #[true, true, true, true, false, true, false, false, false, false, false] rfl rfl (any_of HT_.out (by kernel_rfl)) (fun _ _ _ h => h) (Or.inl ⟨by rfl, ?_⟩) ?_ ?_
                                                        rotate_left
                                                        · intro w'
                                                          go_simp
                                                          with_reducible rfl
                                                        rotate_left
                                                        · simp only [Act.put, List.setIfInBounds_toArray, List.set_cons_zero, List.set_cons_succ, i64_w, i32_w]
                                                          rfl
                                                        refine pure_ (i := 7) (N := some 145) (v := ?_) (a' := ?_) #[true, true, true, true, false, true, false, true, false, false, false] rfl rfl (any_of HT_.out (by kernel_rfl)) (fun _ _ _ h => h) (Or.inl ⟨by rfl, ?_⟩) ?_ ?_
                                                        rotate_left
                                                        · intro w'
                                                          go_simp
                                                          with_reducible rfl
                                                        rotate_left
                                                        · simp only [Act.put, List.setIfInBounds_toArray, List.set_cons_zero, List.set_cons_succ, i64_w, i32_w]
                                                          rfl
                                                        refine take_ (i := 4) (N := some 142) (v := ?_) (a' := ?_) #[true, true, true, true, true, true, false, true, false, false, false] rfl rfl (take_ofW HT_.out HW_.out (by kernel_rfl)) (fun _ _ _ h => h) (Or.inl ⟨by rfl, ?_⟩) hHeld ?_ ?_
                                                        rotate_left
                                                        · rintro w' ⟨s0, s1, s2, s3⟩
                                                          go_simp
                                                          with_reducible rfl
                                                        rotate_left
                                                        · simp only [Act.put, List.setIfInBounds_toArray, List.set_cons_zero, List.set_cons_succ, i64_w, i32_w]
                                                          rfl
                                                        refine take_ (i := 6) (N := some 144) (v := ?_) (a' := ?_) #[true, true, true, true, true, true, true, true, false, false, false] rfl rfl (take_ofW HT_.out HW_.out (by kernel_rfl)) (fun _ _ _ h => h) (Or.inl ⟨by rfl, ?_⟩) hHeld ?_ ?_
                                                        rotate_left
                                                        · rintro w' ⟨s0, s1, s2, s3⟩
                                                          go_simp
                                                          with_reducible rfl
                                                        rotate_left
                                                        · simp only [Act.put, List.setIfInBounds_toArray, List.set_cons_zero, List.set_cons_succ, i64_w, i32_w]
                                                          rfl
                                                        refine pure_ (i := 8) (N := some 146) (v := ?_) (a' := ?_) #[true, true, true, true, true, true, true, true, true, false, false] rfl rfl (any_of HT_.out (by kernel_rfl)) (fun _ _ _ h => h) (Or.inl ⟨by rfl, ?_⟩) ?_ ?_
                                                        rotate_left
                                                        · intro w'
                                                          go_simp
                                                          with_reducible rfl
                                                        rotate_left
                                                        · simp only [Act.put, List.setIfInBounds_toArray, List.set_cons_zero, List.set_cons_succ, i64_w, i32_w]
                                                          rfl
                                                        refine take_ (i := 9) (N := some 147) (v := ?_) (a' := ?_) #[true, true, true, true, true, true, true, true, true, true, false] rfl rfl (take_ofW HT_.out HW_.out (by kernel_rfl)) (fun _ _ _ h => h) (Or.inl ⟨by rfl, ?_⟩) hHeld ?_ ?_
                                                        rotate_left
                                                        · rintro w' ⟨s0, s1, s2, s3⟩
                                                          go_simp
                                                          with_reducible rfl
                                                        rotate_left
                                                        · simp only [Act.put, List.setIfInBounds_toArray, List.set_cons_zero, List.set_cons_succ, i64_w, i32_w]
                                                          rfl
                                                        refine pure_ (i := 10) (N := some 148) (v := ?_) (a' := ?_) #[true, true, true, true, true, true, true, true, true, true, true] rfl rfl (any_of HT_.out (by kernel_rfl)) (fun _ _ _ h => h) (Or.inl ⟨by rfl, ?_⟩) ?_ ?_
                                                        rotate_left
                                                        · intro w'
                                                          go_simp
                                                          with_reducible rfl
                                                        rotate_left
                                                        · simp only [Act.put, List.setIfInBounds_toArray, List.set_cons_zero, List.set_cons_succ, i64_w, i32_w]
                                                          rfl
                                                        refine done_ (done_of HT_.out (by kernel_rfl)) ?_
                                                        try go_wp2
                                                        go_roundg k5
                                                        case measure => have := HJ3.out; have := HK2.out; have := HK3.out; have := HJ87.out; have := HK5.out; omega
                                                        case rel => exact ⟨(wrap64 (x133_5 + 1)), (by first | rfl | (simp; done) | (simp [*]; done)), H', ⟨by have := HJ3.out; have := HK2.out; have := HK3.out; have := HJ87.out; have := HK5.out; omega⟩, ⟨by (with_reducible repeat (first | apply Kd.R_alloc | apply Kd.R_drewN | apply Kd.R_drew)); exact HO_17.out⟩, ⟨by (with_reducible repeat (first | refine blk_drewN ?_ _ | refine blk_drew ?_ | refine blk_alloc ?_ _)); exact BK778.out⟩, ⟨by (with_reducible repeat (first | refine blk_drewN ?_ _ | refine blk_drew ?_ | refine blk_alloc ?_ _)); exact BK779.out⟩, ⟨by (with_reducible repeat (first | refine blk_drewN ?_ _ | refine blk_drew ?_ | refine blk_alloc ?_ _)); exact BK780.out⟩, ⟨by repeat (first | (with_reducible first | exact HB.out | apply below_alloc | apply pw_below_drewN | apply below_drew1 | refine below_set ?_ GE778.out | refine below_set ?_ GE779.out | refine below_set ?_ GE780.out) | exact HB.out)⟩⟩
                                                      · rw [if_neg c122] at H
                                                        have c122b0 : ((rd t816 (ji118)) == (rd l1_1 x133_5)) = false := beq_eq_false_iff_ne.mpr c122
                                                        have c122b1 : ((rd t816 (ji118)) != (rd l1_1 x133_5)) = true := bne_iff_ne.mpr c122
                                                        exact absurd ((Option.some.inj H).trans HRT.out) (by decide)
                                                    · rw [if_neg c121] at H
                                                      exact absurd H (by simp)
                                                  · rw [if_neg c120] at H
                                                    exact absurd H (by simp)
                                                · rw [if_neg c119] at H
                                                  exact absurd H (by simp)
                                              · rw [if_neg c117] at H
                                                exact absurd H (by simp)
                                            · rw [if_neg c116] at H
                                              exact absurd H (by simp)
                                          · rw [if_neg c115] at H
                                            have c115b0 : decide (x133_5 < (l1_0.length : Int)) = false := decide_eq_false c115
                                            clear c115
                                            have H' := Aside0.mk H
                                            clear H
                                            go_wp2
                                            go_roundg k5
                                            case measure => have := HJ3.out; have := HK2.out; have := HK3.out; have := HJ87.out; have := HK5.out; omega
                                            case rel => exact ⟨(wrap64 (x59_2 + 1)), (by first | rfl | (simp; done) | (simp [*]; done)), H', ⟨by have := HJ3.out; have := HK2.out; have := HK3.out; have := HJ87.out; have := HK5.out; omega⟩, ⟨by (with_reducible repeat (first | refine blk_drewN ?_ _ | refine blk_drew ?_ | refine blk_alloc ?_ _)); exact BK778.out⟩, ⟨by (with_reducible repeat (first | refine blk_drewN ?_ _ | refine blk_drew ?_ | refine blk_alloc ?_ _)); exact BK779.out⟩, ⟨by (with_reducible repeat (first | refine blk_drewN ?_ _ | refine blk_drew ?_ | refine blk_alloc ?_ _)); exact BK780.out⟩, ⟨by repeat (first | (with_reducible first | exact HB.out | apply below_alloc | apply pw_below_drewN | apply below_drew1 | refine below_set ?_ GE778.out | refine below_set ?_ GE779.out | refine below_set ?_ GE780.out) | exact HB.out)⟩⟩
                              · rw [if_neg c85] at H
                                exact absurd H (by simp)
                            · rw [if_neg c84] at H
                              exact absurd H (by simp)
                          · rw [if_neg c82] at H
                            exact absurd H (by simp)
                        · rw [if_neg c81] at H
                          exact absurd H (by simp)
              · rw [if_neg c55] at H
                exact absurd H (by simp)
            · rw [if_neg c54] at H
              have c54b0 : decide (x59_2 < 2) = false := decide_eq_false c54
              clear c54
              replace H := Option.bind_eq_some_iff.mp H
              obtain ⟨t785, A1250, H⟩ := H
              replace H : (some t785) = some r := H
              have A125 := Aside0.mk A1250
              clear A1250
              obtain rfl := Option.some.inj H
              go_wp2_with (first | ((with_reducible refine gate_callee (f := 67) rfl ?_); refine goesL_ (some 151) rfl rfl Try.func67 (by kernel_rfl) rfl #[] rfl (by (try simp only [List.map_toArray, List.map_cons, List.map_nil]); first | done | rfl | (simp only [List.length_drop, List.length_take]; rfl)) ?_; (with_reducible refine (juntolaw04_alive.calls k2  t785 _ A125.out (by first | rfl | exact HRT.out)).mono ?_); rintro e w126 ⟨rfl, hb⟩; refine ⟨_, rfl, ?_⟩; have n0_ := Aside0.mk (blk_below (g := gb778) (o := .cells #[.int .u64 a0_0, .int .i64 a0_1, .int .i64 a0_2] 24 (0, 0)) (by (with_reducible repeat (first | refine blk_drewN ?_ _ | refine blk_drew ?_ | refine blk_alloc ?_ _)); exact BK778.out) hb); have n1_ := Aside0.mk (blk_below (g := gb779) (o := .cells #[.slice A1_0 l1_0.length c1_0, .slice A1_1 l1_1.length c1_1] 82 (0, 0)) (by (with_reducible repeat (first | refine blk_drewN ?_ _ | refine blk_drew ?_ | refine blk_alloc ?_ _)); exact BK779.out) hb); have n2_ := Aside0.mk (blk_below (g := gb780) (o := .cells #[.int .u64 a2_0, .int .u64 a2_1] 83 (0, 0)) (by (with_reducible repeat (first | refine blk_drewN ?_ _ | refine blk_drew ?_ | refine blk_alloc ?_ _)); exact BK780.out) hb); have n3_ := Aside0.mk (below_step (by repeat (first | (with_reducible first | exact HB.out | apply below_alloc | apply pw_below_drewN | apply below_drew1 | refine below_set ?_ GE778.out | refine below_set ?_ GE779.out | refine below_set ?_ GE780.out) | exact HB.out)) hb); clear BK778; clear BK779; clear BK780; clear HB; have BK778 := n0_; have BK779 := n1_; have BK780 := n2_; have HB := n3_; clear n0_ n1_ n2_ n3_; (try clear hb); (try clear hb2); (try clear hk); (try clear hi)))
              go_ret
              exact ⟨by first | rfl | (simp [errW_none, errW_some] <;> rfl) | (simp [*, errW_none, errW_some] <;> rfl), by repeat (first | (with_reducible first | exact HB.out | apply below_alloc | apply pw_below_drewN | apply below_drew1 | refine below_set ?_ GE778.out | refine below_set ?_ GE779.out | refine below_set ?_ GE780.out) | exact HB.out)⟩

end Go.Proofs.Ytjjnfobeeflnhaa.J

/- What comes in laid out as a type says is a value of a kind, within the bounds that its weights leave: once for every type. -/
namespace Go.Proofs.Ytjjnfobeeflnhaa.Op
open Go.RowKit Go.Proofs.YtjjnfobeeflnhaaW.PrintWords Go.Proofs.YtjjnfobeeflnhaaW.PrintLast Go.Proofs.YtjjnfobeeflnhaaW.PrintMore

def Opens {α : Type} (P : Program) (d : Kd α) (t : TypeId) (wf : α → Prop) : Prop :=
  ∀ (H : Type) (enc : TypeId × Value → H) (w : World) (base fuel : Nat) (spare : Nat → Bool) (held : Bool) (cs : List Value) (x : DataW H × List MemPlace), cs.length = d.sz →
    DataW.trod enc P w base spare held fuel t cs = some x → (x.1.weights P t).all (· ≤ reachBytes) = true → ∃ a, d.K w a cs ∧ wf a

theorem op_int {P : Program} {t : TypeId} {k : IntKind} (ht : P.underlying t = some (.int k)) : Opens P (Kd.int k) t (fun n => (Lit.int k n).wf = true) := by
  intro H enc w base fuel spare held cs x _ h _
  obtain ⟨n, rfl, _, hw⟩ := DataW.trod_int ht h
  exact ⟨n, rfl, hw⟩

theorem op_bool {P : Program} {t : TypeId} (ht : P.underlying t = some .bool) : Opens P Kd.bool t (fun _ => True) := by
  intro H enc w base fuel spare held cs x _ h _
  obtain ⟨n, rfl, _⟩ := DataW.trod_bool ht h
  exact ⟨n, rfl, trivial⟩

theorem all_weights {H : Type} {P : Program} {e : TypeId} {p : Nat → Bool} : ∀ (ds : List (DataW H)), (DataW.weightsAll P e ds).all p = true → ∀ d ∈ ds, (d.weights P e).all p = true
  | [], _, d, hd => by simp at hd
  | a :: r, h, d, hd => by
    unfold DataW.weightsAll at h
    rw [List.all_append, Bool.and_eq_true] at h
    rcases List.mem_cons.1 hd with rfl | hd
    · exact h.1
    · exact all_weights r h.2 d hd

theorem add_add_ (a : Addr) (i j : Nat) : a.add (i + j) = (a.add i).add j := by
  cases a
  unfold Addr.add
  rcases Nat.eq_zero_or_pos i with hi | hi <;> rcases Nat.eq_zero_or_pos j with hj | hj
  · simp [hi, hj]
  · simp [hi, show j ≠ 0 by omega]
  · simp [hj, show i ≠ 0 by omega]
  · simp [show i ≠ 0 by omega, show j ≠ 0 by omega, Nat.add_assoc]

theorem pick {β : Type} {p : Nat → β → Prop} : ∀ n, (∀ i : Nat, i < n → ∃ q, p i q) → ∃ l : List β, l.length = n ∧ ∀ (i : Nat) (q : β), l[i]? = some q → p i q
  | 0, _ => ⟨[], rfl, fun i q h => by simp at h⟩
  | n + 1, h => by
    obtain ⟨l, hl, hp⟩ := pick n (fun i hi => h i (by omega))
    obtain ⟨q, hq⟩ := h n (by omega)
    refine ⟨l ++ [q], by simp [hl], fun i r hr => ?_⟩
    rcases Nat.lt_or_ge i l.length with hi | hi
    · rw [List.getElem?_append_left hi] at hr
      exact hp i r hr
    · rw [List.getElem?_append_right hi] at hr
      have h0 : i - l.length = 0 := by
        rcases Nat.eq_zero_or_pos (i - l.length) with h' | h'
        · exact h'
        · rw [List.getElem?_eq_none (by simp; omega)] at hr; cases hr
      rw [h0] at hr
      obtain rfl : q = r := by simpa using hr
      have : i = n := by omega
      rw [this]; exact hq

theorem weights_at {H : Type} {P : Program} {p : Nat → Bool} : ∀ (ts : List TypeId) (ds : List (DataW H)) (j : Nat) {t : TypeId} {d : DataW H}, (DataW.weightsEach P ts ds).all p = true → ts[j]? = some t → ds[j]? = some d → (d.weights P t).all p = true
  | [], _, _, _, _, _, ht, _ => by simp at ht
  | _ :: _, [], _, _, _, _, _, hd => by simp at hd
  | t :: ts, d :: ds, j, t', d', h, ht, hd => by
    unfold DataW.weightsEach at h
    rw [List.all_append, Bool.and_eq_true] at h
    match j, ht, hd with
    | 0, ht, hd =>
      obtain rfl : t = t' := by simpa using ht
      obtain rfl : d = d' := by simpa using hd
      exact h.1
    | j + 1, ht, hd => exact weights_at ts ds j h.2 (by simpa using ht) (by simpa using hd)

theorem op_slice {α : Type} {P : Program} {d : Kd α} {t e : TypeId} {B : Nat} {wf : α → Prop} (ht : P.underlying t = some (.slice e)) (hB : P.bytesOf e = B) (hsz : P.cellsOf e = d.sz) (he : Opens P d e wf) :
    Opens P (Kd.slice e d) t (fun l => l.length ≤ maxLen ∧ l.length * B ≤ 140737488351232 ∧ ∀ a ∈ l, wf a) := by
  intro H enc w base fuel spare held cs x _ h hw
  rcases Go.Deep.open_slice ht h with ⟨rfl, _⟩ | ⟨a, len, cap, m, n, D, Pl, rfl, hb, hl, hm, hmm, rfl, hx⟩
  · exact ⟨[], ⟨none, 0, rfl, Nat.le_refl _, rfl, Nat.zero_le _, fun h0 => absurd h0 (by simp)⟩, by simp, by simp, fun a ha => by simp at ha⟩
  · have hlm : len ≤ m := by rw [hmm]; split <;> omega
    simp only [DataW.weights, ht, List.all_cons, List.all_append, Bool.and_eq_true, List.length_map, List.length_range] at hw
    obtain ⟨hw0, hw1, _⟩ := hw
    have each : ∀ i : Nat, i < len → ∃ q : α, wf q ∧ ∃ c : List Value, c.length = d.sz ∧ d.K w q c ∧ ∀ j u, c[j]? = some u → w.cell? (a.add (i * d.sz + j)) = some u := by
      intro i hi
      obtain ⟨cs', h1, h2⟩ := hx i (by omega)
      rw [hsz] at h1
      obtain ⟨_, hlen, hcell⟩ := World.cells?_some h1
      obtain ⟨y, hK, hwf⟩ := he H enc w base n spare held cs' _ hlen h2 (all_weights _ hw1 _ (List.mem_map.2 ⟨i, List.mem_range.2 hi, rfl⟩))
      refine ⟨y, hwf, cs', hlen, hK, fun j u hu => ?_⟩
      have hj : j < d.sz := by
        rw [← hlen]
        rcases Nat.lt_or_ge j cs'.length with h' | h'
        · exact h'
        · rw [List.getElem?_eq_none h'] at hu; cases hu
      have := hcell j hj
      rw [hu] at this
      rw [show a.add (i * d.sz + j) = (a.add (i * d.sz)).add j from add_add_ _ _ _]
      exact this
    obtain ⟨l, rfl, hl2⟩ := pick len each
    refine ⟨l, ⟨some a, cap, rfl, hl, rfl, Nat.le_trans hl hm, fun _ => ⟨a, rfl, fun j p hj => (hl2 j p hj).2⟩⟩, Nat.le_trans hl hm, ?_, ?_⟩
    · have hw2 := of_decide_eq_true hw0
      rw [hB] at hw2
      exact Nat.le_trans (Nat.mul_le_mul_right _ (by omega)) hw2
    · intro y hy
      obtain ⟨j, hj⟩ := List.mem_iff_getElem?.1 hy
      exact (hl2 j y hj).1

/-- Fields in line, from the place o on. -/
def OpL {β : Type} (P : Program) (d : Kd β) (fs : List Field) (o : Nat) (wf : β → Prop) : Prop :=
  ∀ (H : Type) (enc : TypeId × Value → H) (w : World) (base n : Nat) (spare : Nat → Bool) (held : Bool) (cs : List Value) (xs : List (DataW H × List MemPlace)), cs.length = d.sz → xs.length = fs.length →
    (∀ (i : Nat) (f : Field), fs[i]? = some f → DataW.trod enc P w base spare held n f.type ((cs.drop (f.offset - o)).take (P.cellsOf f.type)) = xs[i]?) →
    (DataW.weightsEach P (fs.map (·.type)) (xs.map (·.1))).all (· ≤ reachBytes) = true → ∃ a, d.K w a cs ∧ wf a

theorem opL_one {β : Type} {P : Program} {d : Kd β} {f : Field} {o : Nat} {wf : β → Prop} (ho : f.offset = o) (hc : P.cellsOf f.type = d.sz) (h : Opens P d f.type wf) : OpL P d [f] o wf := by
  intro H enc w base n spare held cs xs hl hx hf hw
  match xs, hx with
  | [y], _ =>
    have h0 := hf 0 f rfl
    rw [ho, Nat.sub_self, List.drop_zero, hc, ← hl, List.take_length] at h0
    simp only [List.map_cons, List.map_nil, DataW.weightsEach, List.append_nil] at hw
    exact h H enc w base n spare held cs y hl h0 hw

theorem opL_cons {α β : Type} {P : Program} {d1 : Kd α} {d : Kd β} {f : Field} {fs : List Field} {o : Nat} {wf1 : α → Prop} {wf : β → Prop} (ho : f.offset = o) (hc : P.cellsOf f.type = d1.sz) (h1 : Opens P d1 f.type wf1)
    (hfs0 : (fs.all fun g => decide (o + d1.sz ≤ g.offset)) = true) (h : OpL P d fs (o + d1.sz) wf) : OpL P (Kd.pair d1 d) (f :: fs) o (fun x => wf1 x.1 ∧ wf x.2) := by
  have hfs : ∀ g ∈ fs, o + d1.sz ≤ g.offset := fun g hg => of_decide_eq_true (List.all_eq_true.1 hfs0 g hg)
  intro H enc w base n spare held cs xs hl hx hf hw
  have hl' : cs.length = d1.sz + d.sz := hl
  match xs, hx with
  | y :: ys, hx =>
    have h0 := hf 0 f rfl
    rw [ho, Nat.sub_self, List.drop_zero, hc] at h0
    simp only [List.map_cons, DataW.weightsEach, List.all_append, Bool.and_eq_true] at hw
    obtain ⟨a, ka, wa⟩ := h1 H enc w base n spare held (cs.take d1.sz) y (by rw [List.length_take]; omega) h0 hw.1
    obtain ⟨b, kb, wb⟩ := h H enc w base n spare held (cs.drop d1.sz) ys (by rw [List.length_drop]; omega) (by simpa using hx) (fun i g hg => by
      have := hf (i + 1) g (by simpa using hg)
      rw [List.drop_drop]
      have hg2 := hfs g (List.mem_of_getElem? hg)
      rw [show d1.sz + (g.offset - (o + d1.sz)) = g.offset - o by omega, this]
      simp) hw.2
    exact ⟨(a, b), ⟨cs.take d1.sz, cs.drop d1.sz, (List.take_append_drop _ _).symm, ka, kb⟩, wa, wb⟩

theorem op_struct {α β : Type} {P : Program} {d : Kd α} {t : TypeId} {fs : Array Field} {wf : α → Prop} {p : β → α} (g : α → β) (hg : ∀ a, p (g a) = a) (ht : P.underlying t = some (.struct fs)) (h : OpL P d fs.toList 0 wf) :
    Opens P (Kd.iso d p) t (fun b => wf (p b)) := by
  intro H enc w base fuel spare held cs x hl hx hw
  obtain ⟨xs, n, rfl, rfl, _, hxl, hf⟩ := DataW.trod_struct ht hx
  simp only [DataW.weights, ht] at hw
  obtain ⟨a, ka, wa⟩ := h H enc w base n spare held cs xs hl (by simpa using hxl) (fun i f hi => by
    rw [Nat.sub_zero]
    exact hf i f (by simpa using hi)) hw
  refine ⟨g a, ?_, ?_⟩
  · show d.K w (p (g a)) cs
    rw [hg]; exact ka
  · show wf (p (g a))
    rw [hg]; exact wa

theorem op_agg {α : Type} {P : Program} {d : Kd α} {t : TypeId} {fs : Array Field} {wf : α → Prop} (ht : P.underlying t = some (.struct fs)) (h : OpL P d fs.toList 0 wf) : Opens P d t wf :=
  op_struct (d := d) (p := fun a => a) (fun a => a) (fun _ => rfl) ht h

/-- An array of two. -/
theorem op_array2 {α : Type} {P : Program} {d : Kd α} {t e : TypeId} {wf : α → Prop} (ht : P.underlying t = some (.array 2 e)) (hc : P.cellsOf e = d.sz) (h : Opens P d e wf) : Opens P (Kd.pair d d) t (fun x => wf x.1 ∧ wf x.2) := by
  intro H enc w base fuel spare held cs x hl hx hw
  obtain ⟨xs, m, rfl, rfl, _, hxl, hf⟩ := DataW.trod_array ht hx
  simp only [DataW.weights, ht] at hw
  have hl' : cs.length = d.sz + d.sz := hl
  match xs, hxl with
  | [y, z], _ =>
    have h0 := hf 0 (by omega)
    have h1 := hf 1 (by omega)
    rw [Nat.zero_mul, List.drop_zero, hc] at h0
    rw [Nat.one_mul, hc, List.take_of_length_le (by rw [List.length_drop]; omega)] at h1
    simp only [List.map_cons, List.map_nil, DataW.weightsAll, List.all_append, Bool.and_eq_true] at hw
    obtain ⟨a, ka, wa⟩ := h H enc w base m spare held (cs.take d.sz) y (by rw [List.length_take]; omega) h0 hw.1
    obtain ⟨b, kb, wb⟩ := h H enc w base m spare held (cs.drop d.sz) z (by rw [List.length_drop]; omega) h1 hw.2.1
    exact ⟨(a, b), ⟨cs.take d.sz, cs.drop d.sz, (List.take_append_drop _ _).symm, ka, kb⟩, wa, wb⟩

theorem okWide_arr {P : Program} {W : World} {r : Reach} {b0 : Nat} {t e : TypeId} {n : Nat} {v : Value} (ht : P.underlying t = some (.array n e)) (h : Value.okWide P W r b0 t v) : ∃ cs, v = .agg cs ∧ cs.size = P.cellsOf t := by
  simp only [Value.okWide, ht] at h
  obtain ⟨cs, h1, h2, _⟩ := h
  exact ⟨cs, h1, h2⟩

theorem okWide_agg {P : Program} {W : World} {r : Reach} {b0 : Nat} {t : TypeId} {fs : Array Field} {v : Value} (ht : P.underlying t = some (.struct fs)) (h : Value.okWide P W r b0 t v) : ∃ cs, v = .agg cs ∧ cs.size = P.cellsOf t := by
  simp only [Value.okWide, ht] at h
  obtain ⟨cs, h1, h2, _⟩ := h
  exact ⟨cs, h1, h2⟩

/-- One argument. -/
theorem arg {α H : Type} {enc : TypeId × Value → H} {P : Program} {d : Kd α} {t : TypeId} {wf : α → Prop} (h : Opens P d t wf) {w : World} {base : Nat} {spare : Nat → Bool} {held : Bool} {v : Value} {x : DataW H} {ps : List MemPlace}
    (hl : v.cells.toList.length = d.sz) (hv : DataW.Trod enc P w base spare held t v x ps) {ts : List TypeId} {ds : List (DataW H)} {j : Nat} (hsz : (DataW.weightsEach P ts ds).all (· ≤ reachBytes) = true) (ht : ts[j]? = some t) (hd : ds[j]? = some x) :
    ∃ a, d.K w a v.cells.toList ∧ wf a := by
  obtain ⟨fuel, hf⟩ := hv
  exact h H enc w base fuel spare held _ _ hl hf (weights_at ts ds j hsz ht hd)

end Go.Proofs.Ytjjnfobeeflnhaa.Op

/- Three closed facts over the whole program, with its header's words as numbers. -/
namespace Go.Proofs.Ytjjnfobeeflnhaa.Facts
theorem toList_of (s : String) (l : List Char) (h : s = String.ofList l) : s.toList = l := by rw [h, String.toList_ofList]
def glue : List (List Char) → List Char
  | [] => []
  | [w] => w
  | w :: v :: r => w ++ Char.ofNat 32 :: glue (v :: r)
theorem signs_space (r : List Char) : wordsSigns (Char.ofNat 32 :: r) = [] :: wordsSigns r := rfl
theorem signs_cons (c : Char) (r : List Char) (h : c ≠ Char.ofNat 32) (w : List Char) (ws : List (List Char)) (e : wordsSigns r = w :: ws) : wordsSigns (c :: r) = (c :: w) :: ws := by
  rw [wordsSigns]
  · rw [e]
  · exact h
theorem signs_one : ∀ (w : List Char), (∀ c ∈ w, c ≠ Char.ofNat 32) → wordsSigns w = [w]
  | [], _ => rfl
  | c :: w, h => signs_cons c w (h c (List.mem_cons_self ..)) _ _ (signs_one w (fun d hd => h d (List.mem_cons_of_mem _ hd)))
theorem signs_more (r : List Char) : ∀ (w : List Char), (∀ c ∈ w, c ≠ Char.ofNat 32) → wordsSigns (w ++ Char.ofNat 32 :: r) = w :: wordsSigns r
  | [], _ => signs_space r
  | c :: w, h => signs_cons c _ (h c (List.mem_cons_self ..)) _ _ (signs_more r w (fun d hd => h d (List.mem_cons_of_mem _ hd)))
theorem signs_glue : ∀ (ws : List (List Char)), ws ≠ [] → (∀ w ∈ ws, ∀ c ∈ w, c ≠ Char.ofNat 32) → wordsSigns (glue ws) = ws
  | [], h, _ => absurd rfl h
  | [w], _, h => signs_one w (h w (List.mem_cons_self ..))
  | w :: v :: r, _, h => by
    rw [glue, signs_more _ w (h w (List.mem_cons_self ..)), signs_glue (v :: r) (by simp) (fun u hu => h u (List.mem_cons_of_mem _ hu))]
def W : List (List Char) := (List.map (List.map Char.ofNat) [[104, 97, 114, 110, 101, 115, 115],
  [56, 98, 98, 99, 100, 53, 56, 100, 55, 50, 48, 97, 53, 56, 100, 57, 52, 98, 55, 57, 101, 52, 50, 101, 52, 51, 102, 99, 99, 49, 53, 53, 57, 54, 97, 50, 97, 48, 101, 99, 97, 98, 49, 48, 54, 55, 52, 48, 102, 55, 97, 48, 53, 52, 57, 55, 52, 100, 97, 52, 102, 54, 100, 56],
  [99, 117, 116],
  [97, 116],
  [106, 117, 110, 116, 111, 47, 106, 117, 110, 116, 111, 108, 97, 119, 48, 55, 46, 84, 119, 105, 99, 101, 67, 104, 101, 99, 107, 115],
  [106, 117, 110, 116, 111, 47, 106, 117, 110, 116, 111, 108, 97, 119, 48, 55, 46, 84, 119, 105, 99, 101, 77, 97, 107, 101, 115],
  [106, 117, 110, 116, 111, 47, 106, 117, 110, 116, 111, 108, 97, 119, 48, 55, 46, 84, 119, 105, 99, 101, 86, 97, 108, 117, 101, 115],
  [106, 117, 110, 116, 111, 47, 106, 117, 110, 116, 111, 108, 97, 119, 48, 55, 46, 84, 119, 105, 99, 101, 80, 114, 111, 100, 117, 99, 116],
  [106, 117, 110, 116, 111, 47, 106, 117, 110, 116, 111, 108, 97, 119, 48, 55, 46, 84, 119, 105, 99, 101, 74, 111, 105, 110, 115],
  [106, 117, 110, 116, 111, 47, 106, 117, 110, 116, 111, 108, 97, 119, 48, 55, 46, 84, 119, 105, 99, 101, 79, 110, 101],
  [106, 117, 110, 116, 111, 47, 106, 117, 110, 116, 111, 108, 97, 119, 48, 55, 46, 84, 119, 105, 99, 101, 77, 111, 118, 101, 115],
  [106, 117, 110, 116, 111, 47, 106, 117, 110, 116, 111, 108, 97, 119, 48, 52, 46, 83, 104, 97, 114, 101, 83, 101, 116, 117, 112, 115],
  [106, 117, 110, 116, 111, 47, 106, 117, 110, 116, 111, 108, 97, 119, 48, 52, 46, 83, 104, 97, 114, 101, 77, 97, 107, 101, 115],
  [106, 117, 110, 116, 111, 47, 106, 117, 110, 116, 111, 108, 97, 119, 48, 52, 46, 83, 104, 97, 114, 101, 86, 97, 108, 117, 101, 115],
  [106, 117, 110, 116, 111, 47, 106, 117, 110, 116, 111, 108, 97, 119, 48, 52, 46, 83, 104, 97, 114, 101, 77, 111, 118, 101, 115],
  [106, 117, 110, 116, 111, 47, 106, 117, 110, 116, 111, 108, 97, 119, 48, 52, 46, 83, 104, 97, 114, 101, 78, 111, 116, 104, 105, 110, 103],
  [106, 117, 110, 116, 111, 47, 106, 117, 110, 116, 111, 108, 97, 119, 48, 52, 46, 83, 104, 97, 114, 101, 79, 110, 108, 121],
  [106, 117, 110, 116, 111, 47, 106, 117, 110, 116, 111, 108, 97, 119, 48, 52, 46, 83, 104, 97, 114, 101, 84, 104, 101, 114, 101],
  [106, 117, 110, 116, 111, 47, 106, 117, 110, 116, 111, 108, 97, 119, 48, 52, 46, 83, 104, 97, 114, 101, 83, 117, 109, 115],
  [106, 117, 110, 116, 111, 47, 106, 117, 110, 116, 111, 108, 97, 119, 48, 52, 46, 83, 104, 97, 114, 101, 70, 105, 116, 115],
  [106, 117, 110, 116, 111, 47, 106, 117, 110, 116, 111, 108, 97, 119, 48, 55, 46, 84, 119, 105, 99, 101, 67, 117, 116, 115],
  [106, 117, 110, 116, 111, 47, 106, 117, 110, 116, 111, 108, 97, 119, 48, 55, 46, 84, 119, 105, 99, 101, 77, 111, 118, 101, 100],
  [106, 117, 110, 116, 111, 47, 106, 117, 110, 116, 111, 108, 97, 119, 48, 50, 46, 80, 111, 108, 121, 84, 104, 114, 111, 117, 103, 104],
  [106, 117, 110, 116, 111, 47, 106, 117, 110, 116, 111, 108, 97, 119, 48, 50, 46, 80, 111, 108, 121, 87, 101, 105, 103, 104, 116, 115],
  [106, 117, 110, 116, 111, 47, 106, 117, 110, 116, 111, 108, 97, 119, 48, 50, 46, 80, 111, 108, 121, 65, 119, 97, 121],
  [106, 117, 110, 116, 111, 47, 106, 117, 110, 116, 111, 108, 97, 119, 48, 50, 46, 80, 111, 108, 121, 83, 108, 111, 112, 101, 115],
  [106, 117, 110, 116, 111, 47, 106, 117, 110, 116, 111, 108, 97, 119, 48, 50, 46, 80, 111, 108, 121, 80, 114, 111, 100, 117, 99, 116, 115],
  [106, 117, 110, 116, 111, 47, 106, 117, 110, 116, 111, 108, 97, 119, 48, 50, 46, 80, 111, 108, 121, 83, 117, 109, 115],
  [106, 117, 110, 116, 111, 47, 106, 117, 110, 116, 111, 108, 97, 119, 48, 50, 46, 80, 111, 108, 121, 66, 97, 99, 107],
  [106, 117, 110, 116, 111, 47, 106, 117, 110, 116, 111, 108, 97, 119, 48, 50, 46, 80, 111, 108, 121, 86, 97, 108, 117, 101, 115],
  [106, 117, 110, 116, 111, 47, 106, 117, 110, 116, 111, 108, 97, 119, 48, 50, 46, 80, 111, 108, 121, 82, 111, 111, 116, 115],
  [106, 117, 110, 116, 111, 47, 106, 117, 110, 116, 111, 108, 97, 119, 48, 50, 46, 80, 111, 108, 121, 70, 101, 119],
  [106, 117, 110, 116, 111, 47, 106, 117, 110, 116, 111, 108, 97, 119, 48, 50, 46, 80, 111, 108, 121, 86, 97, 108, 117, 101, 100],
  [106, 117, 110, 116, 111, 47, 106, 117, 110, 116, 111, 108, 97, 119, 48, 50, 46, 80, 111, 108, 121, 81, 117, 111, 116, 105, 101, 110, 116, 115],
  [106, 117, 110, 116, 111, 47, 106, 117, 110, 116, 111, 108, 97, 119, 48, 50, 46, 80, 111, 108, 121, 65, 112, 97, 114, 116],
  [106, 117, 110, 116, 111, 47, 106, 117, 110, 116, 111, 108, 97, 119, 48, 52, 46, 83, 104, 97, 114, 101, 83, 101, 99, 114, 101, 116, 115],
  [106, 117, 110, 116, 111, 47, 106, 117, 110, 116, 111, 108, 97, 119, 48, 52, 46, 83, 104, 97, 114, 101, 66, 97, 99, 107]])
set_option maxRecDepth 100000 in
theorem head : Try.pinned.checked.prog.initOrder.toList = glue W := toList_of _ _ (by kernel_rfl)
theorem plain : (W.all fun w => w.all fun c => c.toNat != 32) = true := by kernel_rfl
theorem signs : wordsSigns Try.pinned.checked.prog.initOrder.toList = W := by
  rw [head]
  refine signs_glue W (by simp [W]) fun w hw c hc e => ?_
  have h := List.all_eq_true.1 (List.all_eq_true.1 plain w hw) c hc
  rw [e] at h
  cases h
theorem words : behindMainWord (wordsSigns Try.pinned.checked.prog.initOrder.toList) = W.drop 2 := by
  rw [signs]
  kernel_rfl
theorem lifts : Try.pinned.checked.prog.headLifts = [] := by
  unfold Program.headLifts
  rw [words]
  kernel_rfl
theorem final : Try.pinned.checked.prog.liftsFinal = false := by
  unfold Program.liftsFinal
  rw [words, lifts]
  kernel_rfl
theorem made_of (P : Program) (rest : List (List Char)) (h : behindMainWord (wordsSigns P.initOrder.toList) = [Char.ofNat 99, Char.ofNat 117, Char.ofNat 116] :: rest) : P.make = some .cut := by
  unfold Program.make
  rw [h]
  kernel_rfl
theorem enters_of (P : Program) (rest : List (List Char)) (h : behindMainWord (wordsSigns P.initOrder.toList) = [Char.ofNat 99, Char.ofNat 117, Char.ofNat 116] :: rest) (hl : P.laysLater = false) (hb : P.bearsReflect = false) (hd : P.doorFits [] = true)
    (hs : stripLifts liftWords ([Char.ofNat 99, Char.ofNat 117, Char.ofNat 116] :: rest) = ([], [Char.ofNat 99, Char.ofNat 117, Char.ofNat 116] :: rest)) : P.mayEnter = true := by
  unfold Program.mayEnter
  rw [h]
  simp only [hs, hl, hb, hd]
  kernel_rfl
theorem made : Try.pinned.checked.prog.make = some .cut := made_of _ (W.drop 3) (words.trans (by kernel_rfl))
theorem enters : Try.pinned.checked.prog.mayEnter = true := enters_of _ (W.drop 3) (words.trans (by kernel_rfl)) (by kernel_rfl) (by kernel_rfl) (by kernel_rfl) (by kernel_rfl)
end Go.Proofs.Ytjjnfobeeflnhaa.Facts

/- Both tests of a prime and both tests of a setup answer alike, and what they answer. -/
namespace Go.Proofs.Ytjjnfobeeflnhaa.L
open Go.RowKit Go.Proofs.YtjjnfobeeflnhaaW.PrintWords Go.Proofs.Ytjjnfobeeflnhaa.J
set_option linter.unusedVariables false
set_option linter.unusedSimpArgs false

theorem u64_small {n : Int} (h0 : 0 ≤ n) (h1 : n < 18446744073709551616) : IntKind.u64.wrap n = n := by
  simp [IntKind.wrap, IntKind.signed, IntKind.bits]
  omega
theorem w64_small {n : Int} (h0 : -9223372036854775808 ≤ n) (h1 : n < 9223372036854775808) : wrap64 n = n := by
  unfold wrap64
  omega

/-- No divisor from 2 on whose square is at most a. -/
def free (a : Int) : Prop := ∀ y : Fin 257, 2 ≤ y.val → ((y.val : Int) * (y.val : Int)) ≤ a → a % (y.val : Int) ≠ 0
def isP (a : Int) : Bool := decide (3 ≤ a ∧ a ≤ 65537 ∧ ∀ y : Fin 257, 2 ≤ y.val → ((y.val : Int) * (y.val : Int)) ≤ a → a % (y.val : Int) ≠ 0)
theorem free_of {a : Int} (h : a ≤ 65537) (hf : ∀ y : Fin 257, 2 ≤ y.val → ((y.val : Int) * (y.val : Int)) ≤ a → a % (y.val : Int) ≠ 0) (y : Int) (h2 : 2 ≤ y) (hy : y * y ≤ a) : a % y ≠ 0 := by
  have hb : y < 257 := by
    rcases Int.lt_or_le y 257 with h' | h'
    · exact h'
    · have : 257 * 257 ≤ y * y := Int.mul_le_mul h' h' (by omega) (by omega)
      omega
  have := hf ⟨y.toNat, by omega⟩ (show 2 ≤ y.toNat by omega)
  simp only at this
  rw [show ((y.toNat : Nat) : Int) = y by omega] at this
  exact this hy
theorem isP_iff (a : Int) : isP a = true ↔ 3 ≤ a ∧ a ≤ 65537 ∧ ∀ y : Int, 2 ≤ y → y * y ≤ a → a % y ≠ 0 := by
  unfold isP
  rw [decide_eq_true_iff]
  constructor
  · rintro ⟨h1, h2, h3⟩
    exact ⟨h1, h2, fun y hy => free_of h2 h3 y hy⟩
  · rintro ⟨h1, h2, h3⟩
    exact ⟨h1, h2, fun y hy hq => h3 y.val (by omega) hq⟩

theorem sq_small {x : Int} (h0 : 0 ≤ x) (h1 : x ≤ 300) : 0 ≤ x * x ∧ x * x ≤ 90000 :=
  ⟨Int.mul_nonneg h0 h0, Int.mul_le_mul h1 h1 h0 (by omega)⟩

theorem ref_loop (a : Int) (h3 : 3 ≤ a) (ha : a ≤ 65537) : ∀ (m : Nat) (x : Int), 2 ≤ x → x + m = 258 → (∀ y : Int, 2 ≤ y → y < x → y * y ≤ a → a % y ≠ 0) → Ev (fun k => juntoref01_Is.l0 k a x) (isP a)
  | 0, x, h2, hx, hy => by
    have hb : isP a = true := (isP_iff a).2 ⟨h3, ha, fun y y2 yq => hy y y2 (by
      rcases Int.lt_or_le y x with h' | h'
      · exact h'
      · have : 257 * 257 ≤ y * y := Int.mul_le_mul (by omega) (by omega) (by omega) (by omega)
        omega) yq⟩
    rw [hb]
    refine Ev.step (f := fun k => some true) (fun k => ?_) (Ev.now _)
    have hq := sq_small (x := x) (by omega) (by omega)
    have : ¬ (x * x ≤ a) := by
      have : 257 * 257 ≤ x * x := Int.mul_le_mul (by omega) (by omega) (by omega) (by omega)
      omega
    simp only [juntoref01_Is.l0]
    rw [u64_small hq.1 (by omega), if_neg this]
  | m + 1, x, h2, hx, hy => by
    have hq := sq_small (x := x) (by omega) (by omega)
    by_cases hle : x * x ≤ a
    · by_cases hd : a % x = 0
      · have hb : isP a = false := by
          rw [Bool.eq_false_iff]
          intro h'
          exact ((isP_iff a).1 h').2.2 x h2 hle hd
        rw [hb]
        refine Ev.step (f := fun k => some false) (fun k => ?_) (Ev.now _)
        simp only [juntoref01_Is.l0]
        rw [u64_small hq.1 (by omega), if_pos hle, if_neg (show ¬ x = 0 by omega), if_pos (by rw [Int.tmod_eq_emod_of_nonneg (by omega)]; exact hd)]
      · refine Ev.step (f := fun k => juntoref01_Is.l0 k a (x + 1)) (fun k => ?_) (ref_loop a h3 ha m (x + 1) (by omega) (by omega) fun y y2 yx yq => ?_)
        · conv => lhs; simp only [juntoref01_Is.l0]
          rw [u64_small hq.1 (by omega), if_pos hle, if_neg (show ¬ x = 0 by omega), if_neg (by rw [Int.tmod_eq_emod_of_nonneg (by omega)]; exact hd), u64_small (show 0 ≤ x + 1 by omega) (by omega)]
        · rcases Int.lt_or_le y x with h' | h'
          · exact hy y y2 h' yq
          · obtain rfl : y = x := by omega
            exact hd
    · have hb : isP a = true := (isP_iff a).2 ⟨h3, ha, fun y y2 yq => hy y y2 (by
        rcases Int.lt_or_le y x with h' | h'
        · exact h'
        · have : x * x ≤ y * y := Int.mul_le_mul h' h' (by omega) (by omega)
          omega) yq⟩
      rw [hb]
      refine Ev.step (f := fun k => some true) (fun k => ?_) (Ev.now _)
      simp only [juntoref01_Is.l0]
      rw [u64_small hq.1 (by omega), if_neg hle]

theorem odd_loop (a : Int) (h3 : 3 ≤ a) (ha : a ≤ 65537) (hodd : a % 2 = 1) : ∀ (m : Nat) (x : Int), 3 ≤ x → x % 2 = 1 → x + 2 * m = 259 → (∀ y : Int, 2 ≤ y → y < x → y * y ≤ a → a % y ≠ 0) → Ev (fun k => field_Is.l0 k a x) (isP a)
  | 0, x, h2, hxo, hx, hy => by
    have hb : isP a = true := (isP_iff a).2 ⟨h3, ha, fun y y2 yq => hy y y2 (by
      rcases Int.lt_or_le y x with h' | h'
      · exact h'
      · have : 257 * 257 ≤ y * y := Int.mul_le_mul (by omega) (by omega) (by omega) (by omega)
        omega) yq⟩
    rw [hb]
    refine Ev.step (f := fun k => some true) (fun k => ?_) (Ev.now _)
    have hq := sq_small (x := x) (by omega) (by omega)
    have : ¬ (x * x ≤ a) := by
      have : 257 * 257 ≤ x * x := Int.mul_le_mul (by omega) (by omega) (by omega) (by omega)
      omega
    simp only [field_Is.l0]
    rw [u64_small hq.1 (by omega), if_neg this]
  | m + 1, x, h2, hxo, hx, hy => by
    have hq := sq_small (x := x) (by omega) (by omega)
    by_cases hle : x * x ≤ a
    · by_cases hd : a % x = 0
      · have hb : isP a = false := by
          rw [Bool.eq_false_iff]
          intro h'
          exact ((isP_iff a).1 h').2.2 x (by omega) hle hd
        rw [hb]
        refine Ev.step (f := fun k => some false) (fun k => ?_) (Ev.now _)
        simp only [field_Is.l0]
        rw [u64_small hq.1 (by omega), if_pos hle, if_neg (show ¬ x = 0 by omega), if_pos (by rw [Int.tmod_eq_emod_of_nonneg (by omega)]; exact hd)]
      · refine Ev.step (f := fun k => field_Is.l0 k a (x + 2)) (fun k => ?_) (odd_loop a h3 ha hodd m (x + 2) (by omega) (by omega) (by omega) fun y y2 yx yq => ?_)
        · conv => lhs; simp only [field_Is.l0]
          rw [u64_small hq.1 (by omega), if_pos hle, if_neg (show ¬ x = 0 by omega), if_neg (by rw [Int.tmod_eq_emod_of_nonneg (by omega)]; exact hd), u64_small (show 0 ≤ x + 2 by omega) (by omega)]
        · rcases Int.lt_or_le y x with h' | h'
          · exact hy y y2 h' yq
          · rcases Int.lt_or_le x y with h'' | h''
            · obtain rfl : y = x + 1 := by omega
              intro h0
              have h1 : (2 : Int) ∣ a := Int.dvd_trans (Int.dvd_of_emod_eq_zero (by omega)) (Int.dvd_of_emod_eq_zero h0)
              have := Int.emod_eq_zero_of_dvd h1
              omega
            · obtain rfl : y = x := by omega
              exact hd
    · have hb : isP a = true := (isP_iff a).2 ⟨h3, ha, fun y y2 yq => hy y y2 (by
        rcases Int.lt_or_le y x with h' | h'
        · exact h'
        · have : x * x ≤ y * y := Int.mul_le_mul h' h' (by omega) (by omega)
          omega) yq⟩
      rw [hb]
      refine Ev.step (f := fun k => some true) (fun k => ?_) (Ev.now _)
      simp only [field_Is.l0]
      rw [u64_small hq.1 (by omega), if_neg hle]

theorem not_isP {a : Int} (h : ¬ (3 ≤ a ∧ a ≤ 65537)) : isP a = false := by
  rw [Bool.eq_false_iff]
  intro h'
  have := (isP_iff a).1 h'
  exact h ⟨this.1, this.2.1⟩

theorem ref_is (a : Int) : Ev (fun k => juntoref01_Is.f k a) (isP a) := by
  by_cases h3 : a < 3
  · rw [not_isP (by omega)]
    refine Ev.step (f := fun k => some false) (fun k => ?_) (Ev.now _)
    simp [juntoref01_Is.f, juntoref01_Is.j0, h3]
  · by_cases hb : a > 65537
    · rw [not_isP (by omega)]
      refine Ev.step (f := fun k => some false) (fun k => ?_) (Ev.now _)
      simp [juntoref01_Is.f, juntoref01_Is.j0, h3, hb]
    · refine Ev.step (f := fun k => juntoref01_Is.l0 k a 2) (fun k => ?_) (ref_loop a (by omega) (by omega) 256 2 (by omega) (by omega) fun y y2 yx => by omega)
      simp [juntoref01_Is.f, juntoref01_Is.j0, h3, hb]

theorem field_is (a : Int) : Ev (fun k => field_Is.f k a) (isP a) := by
  by_cases h3 : a < 3
  · rw [not_isP (by omega)]
    refine Ev.step (f := fun k => some false) (fun k => ?_) (Ev.now _)
    simp [field_Is.f, field_Is.j0, h3]
  · by_cases hb : a > 65537
    · rw [not_isP (by omega)]
      refine Ev.step (f := fun k => some false) (fun k => ?_) (Ev.now _)
      simp [field_Is.f, field_Is.j0, h3, hb]
    · by_cases ho : a % 2 = 0
      · have hp : isP a = false := by
          rw [Bool.eq_false_iff]
          intro h'
          exact ((isP_iff a).1 h').2.2 2 (by omega) (by omega) ho
        rw [hp]
        refine Ev.step (f := fun k => some false) (fun k => ?_) (Ev.now _)
        have ht : Int.tmod a 2 = 0 := by rw [Int.tmod_eq_emod_of_nonneg (by omega)]; exact ho
        simp [field_Is.f, field_Is.j0, h3, hb, ht]
      · refine Ev.step (f := fun k => field_Is.l0 k a 3) (fun k => ?_) (odd_loop a (by omega) (by omega) (by omega) 128 3 (by omega) (by omega) (by omega) fun y y2 yx yq => ?_)
        · have ht : ¬ Int.tmod a 2 = 0 := by rw [Int.tmod_eq_emod_of_nonneg (by omega)]; exact ho
          simp [field_Is.f, field_Is.j0, h3, hb, ht]
        · obtain rfl : y = 2 := by omega
          exact ho

/-- What both tests of a setup answer: 0 or 2. -/
def setupV (p n t : Int) : Int := if isP p = true ∧ 1 ≤ n ∧ n ≤ 13 ∧ 0 ≤ t ∧ 4 * t + 1 ≤ n ∧ n < p then 0 else 2

theorem setupV_ok {p n t : Int} (h : setupV p n t = 0) : isP p = true ∧ 1 ≤ n ∧ n ≤ 13 ∧ 0 ≤ t ∧ 4 * t + 1 ≤ n ∧ n < p := by
  unfold setupV at h
  split at h
  · assumption
  · cases h

theorem share_setup (p n t : Int) : Ev (fun k => share_Setup.f k p n t) (setupV p n t) := by
  unfold share_Setup.f
  refine Ev.bind (field_is p) ?_
  unfold setupV
  by_cases hp : isP p = true
  · have h3 := ((isP_iff p).1 hp)
    simp only [hp, if_true, true_and]
    by_cases h1 : n < 1
    · rw [if_pos h1, if_neg (by omega)]; exact Ev.now _
    rw [if_neg h1]
    by_cases h2 : n > 13
    · rw [if_pos h2, if_neg (by omega)]; exact Ev.now _
    rw [if_neg h2]
    by_cases h4 : t < 0
    · rw [if_pos h4, if_neg (by omega)]; exact Ev.now _
    rw [if_neg h4]
    by_cases h5 : t > n
    · rw [if_pos h5, if_neg (by omega)]; exact Ev.now _
    rw [if_neg h5, w64_small (n := 4 * t) (by omega) (by omega), w64_small (by omega) (by omega)]
    by_cases h6 : 4 * t + 1 > n
    · rw [if_pos h6, if_neg (by omega)]; exact Ev.now _
    rw [if_neg h6, u64_small (by omega) (by omega)]
    by_cases h7 : p ≤ n
    · rw [if_pos h7, if_neg (by omega)]; exact Ev.now _
    · rw [if_neg h7, if_pos (by omega)]; exact Ev.now _
  · rw [if_neg hp, if_neg (fun h => hp h.1)]
    exact Ev.now _

theorem ref_setup (p n t : Int) : Ev (fun k => juntoref04_Setup.f k p n t) (setupV p n t) := by
  unfold juntoref04_Setup.f
  refine Ev.bind (ref_is p) ?_
  unfold setupV
  by_cases hp : isP p = true
  · have h3 := ((isP_iff p).1 hp)
    simp only [hp, if_true, true_and]
    by_cases h1 : n < 1
    · rw [if_pos h1, if_neg (by omega)]; exact Ev.now _
    rw [if_neg h1]
    by_cases h2 : n > 13
    · rw [if_pos h2, if_neg (by omega)]; exact Ev.now _
    rw [if_neg h2]
    by_cases h4 : t < 0
    · rw [if_pos h4, if_neg (by omega)]; exact Ev.now _
    rw [if_neg h4]
    by_cases h5 : t > 13
    · rw [if_pos h5, if_neg (by omega)]; exact Ev.now _
    rw [if_neg h5, w64_small (n := 4 * t) (by omega) (by omega), w64_small (by omega) (by omega)]
    by_cases h6 : n < 4 * t + 1
    · rw [if_pos h6, if_neg (by omega)]; exact Ev.now _
    rw [if_neg h6, u64_small (by omega) (by omega)]
    by_cases h7 : p ≤ n
    · rw [if_pos h7, if_neg (by omega)]; exact Ev.now _
    · rw [if_neg h7, if_pos (by omega)]; exact Ev.now _
  · rw [if_neg hp, if_neg (fun h => hp h.1)]
    exact Ev.now _

/-- What the tests of a row answer: 0 or 2. -/
def belowV (p : Int) (l : List Int) : Int := if ∀ x ∈ l, x < p then 0 else 2

theorem below_loop (p : Int) (l : List Int) (hl : l.length ≤ maxLen) : ∀ (m i : Nat), i + m = l.length → (∀ x ∈ l.take i, x < p) → Ev (fun k => field_Below.l0 k p l (l.length : Int) (i : Int)) (belowV p l)
  | 0, i, hi, hx => by
    have hv : belowV p l = 0 := by
      unfold belowV
      rw [if_pos]
      rw [List.take_of_length_le (by omega)] at hx
      exact hx
    rw [hv]
    refine Ev.step (f := fun k => some 0) (fun k => ?_) (Ev.now _)
    simp only [field_Below.l0]
    rw [if_neg (by omega)]
  | m + 1, i, hi, hx => by
    have hm : (l.length : Int) ≤ 9223372036854775807 := by simp only [maxLen] at hl; omega
    have hlt : i < l.length := by omega
    have hr : rd l (i : Int) = l[i] := by simp [rd, List.getD_eq_getElem?_getD, hlt]
    by_cases hge : l[i] ≥ p
    · have hv : belowV p l = 2 := by
        unfold belowV
        rw [if_neg]
        intro h'
        have := h' _ (List.getElem_mem hlt)
        omega
      rw [hv]
      refine Ev.step (f := fun k => some 2) (fun k => ?_) (Ev.now _)
      simp only [field_Below.l0]
      rw [if_pos (by omega), if_pos (by omega), if_pos (by omega), if_pos (by rw [hr]; exact hge)]
    · refine Ev.step (f := fun k => field_Below.l0 k p l (l.length : Int) ((i + 1 : Nat) : Int)) (fun k => ?_) (below_loop p l hl m (i + 1) (by omega) fun x hx' => ?_)
      · conv => lhs; simp only [field_Below.l0]
        rw [if_pos (by omega), if_pos (by omega), if_pos (by omega), if_neg (by rw [hr]; exact hge), w64_small (by omega) (by omega)]
        rfl
      · rw [List.take_add_one, List.mem_append] at hx'
        rcases hx' with h' | h'
        · exact hx x h'
        · rw [List.getElem?_eq_getElem hlt] at h'
          simp only [Option.toList_some, List.mem_singleton] at h'
          rw [h']; omega

theorem field_below (p : Int) (l : List Int) (hl : l.length ≤ maxLen) : Ev (fun k => field_Below.f k p l) (belowV p l) :=
  below_loop p l hl l.length 0 (by omega) (fun x hx => by simp at hx)

theorem within_eq : ∀ k a b c d, juntoref01_Within.l0 k a b c d = field_Below.l0 k a b c d
  | 0, _, _, _, _ => rfl
  | k + 1, a, b, c, d => by
    simp only [juntoref01_Within.l0, field_Below.l0, within_eq k]

theorem ref_within (p : Int) (l : List Int) (hl : l.length ≤ maxLen) : Ev (fun k => juntoref01_Within.f k p l) (belowV p l) := by
  refine Ev.congr (fun k => ?_) (field_below p l hl)
  exact within_eq _ _ _ _ _

end Go.Proofs.Ytjjnfobeeflnhaa.L

/- Both ways to evaluate a polynomial answer alike, and what they answer. -/
namespace Go.Proofs.Ytjjnfobeeflnhaa.L
open Go.RowKit Go.Proofs.YtjjnfobeeflnhaaW.PrintWords Go.Proofs.Ytjjnfobeeflnhaa.J
set_option linter.unusedVariables false
set_option linter.unusedSimpArgs false

theorem mul_small {p a b : Int} (hp : p ≤ 65537) (ha : 0 ≤ a) (ha' : a < p) (hb : 0 ≤ b) (hb' : b < p) : 0 ≤ a * b ∧ a * b < 18446744073709551616 := by
  have h1 : a * b ≤ 65537 * 65537 := Int.mul_le_mul (by omega) (by omega) hb (by omega)
  exact ⟨Int.mul_nonneg ha hb, by omega⟩

theorem times_at {p a b : Int} (h0 : 0 < p) (hp : p ≤ 65537) (ha : 0 ≤ a) (ha' : a < p) (hb : 0 ≤ b) (hb' : b < p) : field_Times.f p a b = some (a * b % p) := by
  obtain ⟨h1, h2⟩ := mul_small hp ha ha' hb hb'
  unfold field_Times.f field_mul.f
  simp only [u64_small h1 h2, if_neg (show ¬ p = 0 by omega), Option.bind_some, Int.tmod_eq_emod_of_nonneg h1]

theorem ref_mul {p a b : Int} (h0 : 0 < p) (hp : p ≤ 65537) (ha : 0 ≤ a) (ha' : a < p) (hb : 0 ≤ b) (hb' : b < p) : juntoref01_Mul.f p a b = some (a * b % p) := by
  obtain ⟨h1, h2⟩ := mul_small hp ha ha' hb hb'
  unfold juntoref01_Mul.f
  rw [u64_small h1 h2, if_neg (show ¬ p = 0 by omega), Int.tmod_eq_emod_of_nonneg h1]

theorem ref_add {p a b : Int} (h0 : 0 < p) (hp : p ≤ 65537) (ha : 0 ≤ a) (ha' : a < p) (hb : 0 ≤ b) (hb' : b < p) : juntoref01_Add.f p a b = some ((a + b) % p) := by
  unfold juntoref01_Add.f
  rw [u64_small (by omega) (by omega), if_neg (show ¬ p = 0 by omega), Int.tmod_eq_emod_of_nonneg (by omega)]

theorem plus_at {p a b : Int} (h0 : 0 < p) (hp : p ≤ 65537) (ha : 0 ≤ a) (ha' : a < p) (hb : 0 ≤ b) (hb' : b < p) : field_Plus.f p a b = some ((a + b) % p) := by
  unfold field_Plus.f
  rw [u64_small (n := a + b) (by omega) (by omega)]
  by_cases h : a + b ≥ p
  · rw [if_pos h, u64_small (by omega) (by omega)]
    rw [show (a + b) % p = a + b - p by rw [← Int.sub_emod_right, Int.emod_eq_of_lt (by omega) (by omega)]]
  · rw [if_neg h, Int.emod_eq_of_lt (by omega) (by omega)]

/-- The value of a row of coefficients at x. -/
def valV (p x : Int) : List Int → Int
  | [] => 0
  | c :: cs => (valV p x cs * x % p + c) % p

theorem valV_range {p : Int} (h0 : 0 < p) (x : Int) : ∀ l, 0 ≤ valV p x l ∧ valV p x l < p
  | [] => ⟨Int.le_refl _, h0⟩
  | _ :: _ => ⟨Int.emod_nonneg _ (by omega), Int.emod_lt_of_pos _ h0⟩

theorem at_run {p x : Int} (h0 : 0 < p) (hp : p ≤ 65537) (hx : 0 ≤ x) (hx' : x < p) : ∀ (l : List Int), (∀ c ∈ l, 0 ≤ c ∧ c < p) → poly_At.run p x l.reverse (some 0) = some (valV p x l)
  | [], _ => rfl
  | c :: cs, h => by
    rw [List.reverse_cons, poly_At.run_snoc, at_run h0 hp hx hx' cs (fun d hd => h d (List.mem_cons_of_mem _ hd))]
    have hc := h c (List.mem_cons_self ..)
    have hv := valV_range h0 x cs
    show poly_At.step p x (valV p x cs) c = _
    unfold poly_At.step
    rw [times_at h0 hp hv.1 hv.2 hx hx']
    exact plus_at h0 hp (Int.emod_nonneg _ (by omega)) (Int.emod_lt_of_pos _ h0) hc.1 hc.2

theorem poly_at {p x : Int} (h0 : 0 < p) (hp : p ≤ 65537) (hx : 0 ≤ x) (hx' : x < p) (l : List Int) (h : ∀ c ∈ l, 0 ≤ c ∧ c < p) : poly_At.f p l x = some (valV p x l) := at_run h0 hp hx hx' l h

end Go.Proofs.Ytjjnfobeeflnhaa.L

/- The field of the residues modulo a prime: primes by trial division, no zero divisors, Fermat. Plain Lean, no program in sight. -/
namespace Go.Proofs.Ytjjnfobeeflnhaa.Fld

/-- A prime. -/
def Pr (p : Nat) : Prop := 2 ≤ p ∧ ∀ d, d ∣ p → d = 1 ∨ d = p

theorem Pr.dvd_mul {p a b : Nat} (hp : Pr p) (h : p ∣ a * b) : p ∣ a ∨ p ∣ b := by
  by_cases ha : p ∣ a
  · exact .inl ha
  · right
    have hc : Nat.Coprime p a := by
      rcases hp.2 _ (Nat.gcd_dvd_left p a) with h' | h'
      · exact h'
      · exact absurd (h' ▸ Nat.gcd_dvd_right p a) ha
    exact hc.dvd_of_dvd_mul_left h

/-- Trial division up to the root is enough. -/
theorem pr_of_trial {p : Nat} (h2 : 2 ≤ p) (h : ∀ d, 2 ≤ d → d * d ≤ p → p % d ≠ 0) : Pr p := by
  refine ⟨h2, fun d hd => ?_⟩
  obtain ⟨e, he⟩ := hd
  by_cases h1 : d = 1
  · exact .inl h1
  by_cases h3 : e = 1
  · right; rw [he, h3, Nat.mul_one]
  exfalso
  have hd0 : d ≠ 0 := by rintro rfl; omega
  have he0 : e ≠ 0 := by rintro rfl; omega
  by_cases hle : d ≤ e
  · refine h d (by omega) ?_ (Nat.mod_eq_zero_of_dvd ⟨e, he⟩)
    rw [he]; exact Nat.mul_le_mul_left d hle
  · refine h e (by omega) ?_ (Nat.mod_eq_zero_of_dvd ⟨d, by rw [he, Nat.mul_comm]⟩)
    rw [he]; exact Nat.mul_le_mul_right e (by omega)

set_option linter.unusedVariables false
set_option linter.unusedSimpArgs false

section
variable {p : Nat} [NeZero p]

theorem mul_eq_zero (hp : Pr p) {a b : Fin p} (h : a * b = 0) : a = 0 ∨ b = 0 := by
  have h1 : (a.val * b.val) % p = 0 := by have := congrArg Fin.val h; simpa [Fin.val_mul] using this
  rcases hp.dvd_mul (Nat.dvd_of_mod_eq_zero h1) with h | h
  · left; apply Fin.ext; exact Nat.eq_zero_of_dvd_of_lt h a.isLt
  · right; apply Fin.ext; exact Nat.eq_zero_of_dvd_of_lt h b.isLt

theorem one_ne_zero (hp : Pr p) : (1 : Fin p) ≠ 0 := by
  intro h
  have := congrArg Fin.val h
  have h2 := hp.1
  have h1 : ((1 : Fin p) : Nat) = 1 % p := rfl
  rw [h1, Nat.mod_eq_of_lt (by omega)] at this
  simp at this

theorem mul_cancel (hp : Pr p) {a b c : Fin p} (ha : a ≠ 0) (h : a * b = a * c) : b = c := by
  have : a * (b - c) = 0 := by grind
  rcases mul_eq_zero hp this with h | h
  · exact absurd h ha
  · grind

/-- The product of a list. -/
def pr (l : List (Fin p)) : Fin p := l.foldr (· * ·) 1
theorem pr_cons (a : Fin p) (l : List (Fin p)) : pr (a :: l) = a * pr l := rfl
theorem pr_perm {l l' : List (Fin p)} (h : l.Perm l') : pr l = pr l' := by
  induction h with
  | nil => rfl
  | cons x _ ih => rw [pr_cons, pr_cons, ih]
  | swap x y l => simp only [pr_cons]; grind
  | trans _ _ ih1 ih2 => exact ih1.trans ih2
theorem pr_ne_zero (hp : Pr p) {l : List (Fin p)} (h : ∀ a, a ∈ l → a ≠ 0) : pr l ≠ 0 := by
  induction l with
  | nil => exact one_ne_zero hp
  | cons a l ih =>
    intro h'
    rcases mul_eq_zero hp (pr_cons a l ▸ h') with h0 | h0
    · exact h a (by simp) h0
    · exact ih (fun b hb => h b (by simp [hb])) h0
theorem pr_map_mul (a : Fin p) (l : List (Fin p)) : pr (l.map (a * ·)) = a ^ l.length * pr l := by
  induction l with
  | nil => simp only [List.map_nil, List.length_nil]; show (1 : Fin p) = a ^ 0 * 1; grind
  | cons b l ih => rw [List.map_cons, pr_cons, pr_cons, ih, List.length_cons]; grind

theorem perm_of_subset {α : Type} [BEq α] [LawfulBEq α] : ∀ (l l' : List α), l.Nodup → (∀ a, a ∈ l → a ∈ l') → l'.length ≤ l.length → l.Perm l'
  | [], l', _, _, h => by
    have : l' = [] := List.eq_nil_of_length_eq_zero (by simpa using h)
    rw [this]
  | a :: l, l', hn, hs, h => by
    have ha := hs a (by simp)
    have hp := List.perm_cons_erase ha
    have hlen : (l'.erase a).length + 1 = l'.length := by have := hp.length_eq; simpa using this.symm
    obtain ⟨hna, hn⟩ := List.nodup_cons.1 hn
    refine List.Perm.trans ?_ hp.symm
    refine List.Perm.cons a (perm_of_subset l (l'.erase a) hn ?_ (by simp at h; omega))
    intro b hb
    have hne : b ≠ a := by rintro rfl; exact hna hb
    exact (List.mem_erase_of_ne hne).2 (hs b (by simp [hb]))

/-- The elements that are not 0. -/
def units (p : Nat) [NeZero p] : List (Fin p) := (List.range (p - 1)).map fun i => Fin.ofNat p (i + 1)
theorem units_length : (units p).length = p - 1 := by simp [units]
theorem units_ne {a : Fin p} (h : a ∈ units p) : a ≠ 0 := by
  obtain ⟨i, hi, rfl⟩ := List.mem_map.1 h
  have hi := List.mem_range.1 hi
  intro h
  have := congrArg Fin.val h
  simp only [Fin.ofNat, Fin.val_zero] at this
  rw [Nat.mod_eq_of_lt (by omega)] at this
  omega
theorem mem_units {a : Fin p} (h : a ≠ 0) : a ∈ units p := by
  have h0 : a.val ≠ 0 := fun h' => h (Fin.ext h')
  refine List.mem_map.2 ⟨a.val - 1, List.mem_range.2 (by have := a.isLt; omega), ?_⟩
  apply Fin.ext
  simp only [Fin.ofNat]
  rw [Nat.mod_eq_of_lt (by have := a.isLt; omega)]
  omega
theorem units_nodup : (units p).Nodup := by
  unfold units List.Nodup
  rw [List.pairwise_map]
  refine List.Pairwise.imp_of_mem ?_ List.nodup_range
  intro i j hi hj hne h
  have hi := List.mem_range.1 hi
  have hj := List.mem_range.1 hj
  have := congrArg Fin.val h
  simp only [Fin.ofNat] at this
  rw [Nat.mod_eq_of_lt (by omega), Nat.mod_eq_of_lt (by omega)] at this
  omega

theorem fermat (hp : Pr p) {a : Fin p} (ha : a ≠ 0) : a ^ (p - 1) = 1 := by
  have hperm : ((units p).map (a * ·)).Perm (units p) := by
    refine perm_of_subset _ _ ?_ ?_ (by simp)
    · unfold List.Nodup
      rw [List.pairwise_map]
      refine List.Pairwise.imp ?_ (units_nodup (p := p))
      intro x y hne h
      exact hne (mul_cancel hp ha h)
    · intro x hx
      obtain ⟨y, hy, rfl⟩ := List.mem_map.1 hx
      refine mem_units fun h => ?_
      rcases mul_eq_zero hp h with h | h
      · exact ha h
      · exact units_ne hy h
  have h1 := pr_perm hperm
  rw [pr_map_mul, units_length] at h1
  have h2 : pr (units p) ≠ 0 := pr_ne_zero hp fun a h => units_ne h
  exact mul_cancel hp (a := pr (units p)) h2 (by grind)

/-- The inverse, as a power. -/
def inv (a : Fin p) : Fin p := a ^ (p - 2)
theorem inv_mul (hp : Pr p) {a : Fin p} (ha : a ≠ 0) : inv a * a = 1 := by
  have h := fermat hp ha
  have h2 := hp.1
  have : p - 1 = (p - 2) + 1 := by omega
  rw [this] at h
  unfold inv
  grind
theorem mul_inv (hp : Pr p) {a : Fin p} (ha : a ≠ 0) : a * inv a = 1 := by have := inv_mul hp ha; grind
end
end Go.Proofs.Ytjjnfobeeflnhaa.Fld

/- Polynomials over the residues modulo a prime, as lists of coefficients: sums, products, values, trailing zeros, division, interpolation. Plain Lean, no program in sight. -/
namespace Go.Proofs.Ytjjnfobeeflnhaa.Fld
set_option linter.unusedVariables false
set_option linter.unusedSimpArgs false

section
variable {p : Nat} [NeZero p]

/-! ### sums -/
def sm : Nat → (Nat → Fin p) → Fin p
  | 0, _ => 0
  | n + 1, g => sm n g + g n
theorem sm_succ (n : Nat) (g : Nat → Fin p) : sm (n + 1) g = sm n g + g n := rfl
theorem sm_congr {n : Nat} {g h : Nat → Fin p} (e : ∀ i, i < n → g i = h i) : sm n g = sm n h := by
  induction n with
  | zero => rfl
  | succ n ih => rw [sm_succ, sm_succ, ih (fun i hi => e i (by omega)), e n (by omega)]
theorem sm_zero {n : Nat} {g : Nat → Fin p} (e : ∀ i, i < n → g i = 0) : sm n g = 0 := by
  induction n with
  | zero => rfl
  | succ n ih => rw [sm_succ, ih (fun i hi => e i (by omega)), e n (by omega)]; grind
theorem sm_add (n : Nat) (g h : Nat → Fin p) : sm n (fun i => g i + h i) = sm n g + sm n h := by
  induction n with
  | zero => show (0 : Fin p) = 0 + 0; grind
  | succ n ih => rw [sm_succ, sm_succ, sm_succ, ih]; grind
theorem sm_mul (n : Nat) (c : Fin p) (g : Nat → Fin p) : sm n (fun i => c * g i) = c * sm n g := by
  induction n with
  | zero => show (0 : Fin p) = c * 0; grind
  | succ n ih => rw [sm_succ, sm_succ, ih]; grind
theorem sm_mul' (n : Nat) (c : Fin p) (g : Nat → Fin p) : sm n (fun i => g i * c) = sm n g * c := by
  induction n with
  | zero => show (0 : Fin p) = 0 * c; grind
  | succ n ih => rw [sm_succ, sm_succ, ih]; grind
theorem sm_front (n : Nat) (g : Nat → Fin p) : sm (n + 1) g = g 0 + sm n (fun i => g (i + 1)) := by
  induction n with
  | zero => show 0 + g 0 = g 0 + 0; grind
  | succ n ih => rw [sm_succ, ih, sm_succ]; grind
theorem sm_rev (n : Nat) (g : Nat → Fin p) : sm (n + 1) g = sm (n + 1) (fun i => g (n - i)) := by
  induction n generalizing g with
  | zero => rfl
  | succ n ih =>
    rw [sm_front, ih (fun i => g (i + 1)), sm_succ (n + 1) (fun i => g (n + 1 - i))]
    have : sm (n + 1) (fun i => g (n - i + 1)) = sm (n + 1) (fun i => g (n + 1 - i)) := sm_congr fun i hi => by congr 1; omega
    rw [this, show n + 1 - (n + 1) = 0 by omega]; grind
theorem sm_more {n m : Nat} {g : Nat → Fin p} (h : n ≤ m) (e : ∀ i, n ≤ i → i < m → g i = 0) : sm m g = sm n g := by
  induction m with
  | zero => rw [show n = 0 by omega]
  | succ m ih =>
    by_cases hn : n = m + 1
    · rw [hn]
    · rw [sm_succ, ih (by omega) (fun i h1 h2 => e i h1 (by omega)), e m (by omega) (by omega)]; grind
theorem sm_one {n k : Nat} {g : Nat → Fin p} (hk : k < n) (e : ∀ i, i < n → i ≠ k → g i = 0) : sm n g = g k := by
  induction n with
  | zero => omega
  | succ n ih =>
    rw [sm_succ]
    by_cases h : k = n
    · rw [h, sm_zero (fun i hi => e i (by omega) (by omega))]; grind
    · rw [ih (by omega) (fun i h1 h2 => e i (by omega) h2), e n (by omega) (by omega)]; grind

/-! ### coefficients, values -/
def co (f : List (Fin p)) (i : Nat) : Fin p := f.getD i 0
theorem co_nil (i : Nat) : co ([] : List (Fin p)) i = 0 := by simp [co]
theorem co_cons_zero (a : Fin p) (f : List (Fin p)) : co (a :: f) 0 = a := by simp [co]
theorem co_cons_succ (a : Fin p) (f : List (Fin p)) (i : Nat) : co (a :: f) (i + 1) = co f i := by simp [co]
theorem co_ge {f : List (Fin p)} {i : Nat} (h : f.length ≤ i) : co f i = 0 := by simp [co, List.getD_eq_getElem?_getD, List.getElem?_eq_none h]
theorem co_lt {f : List (Fin p)} {i : Nat} (h : i < f.length) : co f i = f[i] := by simp [co, List.getD_eq_getElem?_getD, h]
/-- The value at a place (Horner). -/
def ev (f : List (Fin p)) (x : Fin p) : Fin p := f.foldr (fun c v => v * x + c) 0
theorem ev_nil (x : Fin p) : ev [] x = 0 := rfl
theorem ev_cons (a : Fin p) (f : List (Fin p)) (x : Fin p) : ev (a :: f) x = ev f x * x + a := rfl
theorem ev_sm (f : List (Fin p)) (x : Fin p) : ∀ n, f.length ≤ n → ev f x = sm n (fun i => co f i * x ^ i) := by
  induction f with
  | nil => intro n _; rw [ev_nil, sm_zero]; intro i _; rw [co_nil]; grind
  | cons a f ih =>
    intro n hn
    obtain ⟨m, rfl⟩ : ∃ m, n = m + 1 := ⟨n - 1, by simp at hn; omega⟩
    rw [ev_cons, sm_front, ih m (by simp at hn; omega), co_cons_zero]
    have : sm m (fun i => co (a :: f) (i + 1) * x ^ (i + 1)) = sm m (fun i => co f i * x ^ i * x) := sm_congr fun i _ => by rw [co_cons_succ]; grind
    rw [this, sm_mul']; grind
/-- Equal as polynomials. -/
def Eqv (f g : List (Fin p)) : Prop := ∀ i, co f i = co g i
theorem Eqv.refl (f : List (Fin p)) : Eqv f f := fun _ => rfl
theorem Eqv.symm {f g : List (Fin p)} (h : Eqv f g) : Eqv g f := fun i => (h i).symm
theorem Eqv.trans {f g k : List (Fin p)} (h : Eqv f g) (h' : Eqv g k) : Eqv f k := fun i => (h i).trans (h' i)
theorem Eqv.ev {f g : List (Fin p)} (h : Eqv f g) (x : Fin p) : ev f x = ev g x := by
  rw [ev_sm f x (max f.length g.length) (by omega), ev_sm g x (max f.length g.length) (by omega)]
  exact sm_congr fun i _ => by rw [h i]

/-! ### trailing zeros -/
def trim (f : List (Fin p)) : List (Fin p) := f.foldr (fun c r => if r = [] ∧ c = 0 then [] else c :: r) []
theorem trim_nil : trim ([] : List (Fin p)) = [] := rfl
theorem trim_cons (a : Fin p) (f : List (Fin p)) : trim (a :: f) = if trim f = [] ∧ a = 0 then [] else a :: trim f := rfl
theorem trim_co (f : List (Fin p)) : Eqv (trim f) f := by
  induction f with
  | nil => exact Eqv.refl _
  | cons a f ih =>
    intro i
    rw [trim_cons]
    split
    · rename_i h
      obtain ⟨h1, rfl⟩ := h
      cases i with
      | zero => rw [co_nil, co_cons_zero]
      | succ i => rw [co_nil, co_cons_succ, ← ih i, h1, co_nil]
    · cases i with
      | zero => rw [co_cons_zero, co_cons_zero]
      | succ i => rw [co_cons_succ, co_cons_succ, ih i]
theorem trim_eq_nil {f : List (Fin p)} (h : ∀ i, co f i = 0) : trim f = [] := by
  induction f with
  | nil => rfl
  | cons a f ih =>
    rw [trim_cons, if_pos ⟨ih (fun i => by rw [← co_cons_succ a, h]), by rw [← co_cons_zero a f, h]⟩]
theorem trim_congr {f g : List (Fin p)} (h : Eqv f g) : trim f = trim g := by
  induction f generalizing g with
  | nil => rw [trim_nil, trim_eq_nil (fun i => by rw [← h i, co_nil])]
  | cons a f ih =>
    cases g with
    | nil => rw [trim_nil, trim_eq_nil (fun i => by rw [h i, co_nil])]
    | cons b g =>
      have h0 : a = b := by have := h 0; rwa [co_cons_zero, co_cons_zero] at this
      have h1 : Eqv f g := fun i => by have := h (i + 1); rwa [co_cons_succ, co_cons_succ] at this
      rw [trim_cons, trim_cons, ih h1, h0]
theorem trim_trim (f : List (Fin p)) : trim (trim f) = trim f := trim_congr (trim_co f)
theorem trim_length_le (f : List (Fin p)) : (trim f).length ≤ f.length := by
  induction f with
  | nil => simp [trim_nil]
  | cons a f ih => rw [trim_cons]; split <;> simp <;> omega
theorem trim_length_of {f : List (Fin p)} {n : Nat} (h : ∀ i, n ≤ i → co f i = 0) : (trim f).length ≤ n := by
  induction f generalizing n with
  | nil => simp [trim_nil]
  | cons a f ih =>
    rw [trim_cons]
    split
    · simp
    · rename_i hne
      cases n with
      | zero =>
        exfalso; apply hne
        exact ⟨trim_eq_nil fun i => by rw [← co_cons_succ a, h _ (by omega)], by rw [← co_cons_zero a f, h 0 (by omega)]⟩
      | succ n =>
        have := ih (n := n) (fun i hi => by rw [← co_cons_succ a, h _ (by omega)])
        simp; omega
theorem trim_last {f : List (Fin p)} (h : trim f ≠ []) : co f ((trim f).length - 1) ≠ 0 := by
  intro h0
  have hl : 0 < (trim f).length := List.length_pos_iff.2 h
  have := trim_length_of (f := f) (n := (trim f).length - 1) (fun i hi => by
    by_cases e : i = (trim f).length - 1
    · rw [e]; exact h0
    · rw [← trim_co f i]; exact co_ge (by omega))
  omega
/-- Nothing to trim. -/
def Tr (f : List (Fin p)) : Prop := trim f = f
theorem Tr.trim (f : List (Fin p)) : Tr (trim f) := trim_trim f
theorem Tr.ext {f g : List (Fin p)} (hf : Tr f) (hg : Tr g) (h : Eqv f g) : f = g := by rw [← hf, ← hg, trim_congr h]
theorem Tr.last {f : List (Fin p)} (hf : Tr f) (h : f ≠ []) : co f (f.length - 1) ≠ 0 := by
  have := trim_last (f := f) (by rw [hf]; exact h)
  rwa [hf] at this
/-! ### making a list out of its coefficients -/
def mk (n : Nat) (c : Nat → Fin p) : List (Fin p) := (List.range n).map c
end
section
variable {p : Nat}
theorem mk_length (n : Nat) (c : Nat → Fin p) : (mk n c).length = n := by simp [mk]
end
section
variable {p : Nat} [NeZero p]
theorem co_mk (n : Nat) (c : Nat → Fin p) (i : Nat) : co (mk n c) i = if i < n then c i else 0 := by
  by_cases h : i < n
  · rw [co_lt (by rw [mk_length]; exact h), if_pos h]; simp [mk]
  · rw [co_ge (by rw [mk_length]; omega), if_neg h]

/-! ### sums, products -/
def add (f g : List (Fin p)) : List (Fin p) := mk (max f.length g.length) (fun i => co f i + co g i)
def sub (f g : List (Fin p)) : List (Fin p) := mk (max f.length g.length) (fun i => co f i - co g i)
def smul (c : Fin p) (f : List (Fin p)) : List (Fin p) := f.map (c * ·)
theorem co_add (f g : List (Fin p)) (i : Nat) : co (add f g) i = co f i + co g i := by
  unfold add; rw [co_mk]; split
  · rfl
  · rw [co_ge (f := f) (by omega), co_ge (f := g) (by omega)]; grind
theorem co_sub (f g : List (Fin p)) (i : Nat) : co (sub f g) i = co f i - co g i := by
  unfold sub; rw [co_mk]; split
  · rfl
  · rw [co_ge (f := f) (by omega), co_ge (f := g) (by omega)]; grind
theorem co_smul (c : Fin p) (f : List (Fin p)) (i : Nat) : co (smul c f) i = c * co f i := by
  unfold smul
  by_cases h : i < f.length
  · rw [co_lt (by simpa using h), co_lt h]; simp
  · rw [co_ge (by simp; omega), co_ge (by omega)]; grind
end
section
variable {p : Nat}
theorem smul_length (c : Fin p) (f : List (Fin p)) : (smul c f).length = f.length := by simp [smul]
end
section
variable {p : Nat} [NeZero p]
theorem add_length (f g : List (Fin p)) : (add f g).length = max f.length g.length := mk_length _ _
theorem ev_add (f g : List (Fin p)) (x : Fin p) : ev (add f g) x = ev f x + ev g x := by
  rw [ev_sm (add f g) x (max f.length g.length) (by rw [add_length]; omega), ev_sm f x (max f.length g.length) (by omega), ev_sm g x (max f.length g.length) (by omega), ← sm_add]
  exact sm_congr fun i _ => by rw [co_add]; grind
theorem ev_smul (c : Fin p) (f : List (Fin p)) (x : Fin p) : ev (smul c f) x = c * ev f x := by
  rw [ev_sm (smul c f) x f.length (by rw [smul_length]; omega), ev_sm f x f.length (by omega), ← sm_mul]
  exact sm_congr fun i _ => by rw [co_smul]; grind

/-- A product of coefficients. -/
def cv (c d : Nat → Fin p) (n : Nat) : Fin p := sm (n + 1) (fun i => c i * d (n - i))
theorem cv_congr {c c' d d' : Nat → Fin p} (h : ∀ i, c i = c' i) (h' : ∀ i, d i = d' i) (n : Nat) : cv c d n = cv c' d' n := sm_congr fun i _ => by rw [h, h']
theorem cv_comm (c d : Nat → Fin p) (n : Nat) : cv c d n = cv d c n := by
  unfold cv
  rw [sm_rev]
  exact sm_congr fun i hi => by rw [show n - (n - i) = i by omega]; grind
theorem cv_add (c d d' : Nat → Fin p) (n : Nat) : cv c (fun i => d i + d' i) n = cv c d n + cv c d' n := by
  unfold cv; rw [← sm_add]; exact sm_congr fun i _ => by grind
theorem cv_add' (c c' d : Nat → Fin p) (n : Nat) : cv (fun i => c i + c' i) d n = cv c d n + cv c' d n := by
  unfold cv; rw [← sm_add]; exact sm_congr fun i _ => by grind
/-- A product. -/
def mul : List (Fin p) → List (Fin p) → List (Fin p)
  | [], _ => []
  | a :: f, g => add (smul a g) (0 :: mul f g)
theorem co_mul (f g : List (Fin p)) (n : Nat) : co (mul f g) n = cv (co f) (co g) n := by
  induction f generalizing n with
  | nil => rw [mul, co_nil]; unfold cv; rw [sm_zero]; intro i _; rw [co_nil]; grind
  | cons a f ih =>
    rw [mul, co_add, co_smul]
    unfold cv
    rw [sm_front, co_cons_zero]
    cases n with
    | zero => rw [co_cons_zero]; show a * co g 0 + 0 = a * co g 0 + 0; rfl
    | succ n =>
      rw [co_cons_succ, ih n]
      unfold cv
      congr 1
      exact sm_congr fun i _ => by rw [co_cons_succ, show n + 1 - (i + 1) = n - i by omega]
theorem ev_mul (f g : List (Fin p)) (x : Fin p) : ev (mul f g) x = ev f x * ev g x := by
  induction f with
  | nil => rw [mul, ev_nil]; grind
  | cons a f ih => rw [mul, ev_add, ev_smul, ev_cons, ih, ev_cons]; grind
theorem co_mul_ge {f g : List (Fin p)} {n : Nat} (h : f.length + g.length ≤ n + 1) : co (mul f g) n = 0 := by
  rw [co_mul]; unfold cv
  refine sm_zero fun i hi => ?_
  by_cases h1 : f.length ≤ i
  · rw [co_ge h1]; grind
  · rw [co_ge (f := g) (by omega)]; grind
/-! ### equations between polynomials -/
theorem Eqv.add {f f' g g' : List (Fin p)} (h : Eqv f f') (h' : Eqv g g') : Eqv (add f g) (add f' g') := fun i => by rw [co_add, co_add, h i, h' i]
theorem Eqv.sub {f f' g g' : List (Fin p)} (h : Eqv f f') (h' : Eqv g g') : Eqv (sub f g) (sub f' g') := fun i => by rw [co_sub, co_sub, h i, h' i]
theorem Eqv.mul {f f' g g' : List (Fin p)} (h : Eqv f f') (h' : Eqv g g') : Eqv (mul f g) (mul f' g') := fun i => by rw [co_mul, co_mul, cv_congr h h']
theorem Eqv.smul {f f' : List (Fin p)} (c : Fin p) (h : Eqv f f') : Eqv (smul c f) (smul c f') := fun i => by rw [co_smul, co_smul, h i]
theorem mul_comm (f g : List (Fin p)) : Eqv (mul f g) (mul g f) := fun i => by rw [co_mul, co_mul, cv_comm]
theorem mul_add (f g k : List (Fin p)) : Eqv (mul f (Fld.add g k)) (Fld.add (mul f g) (mul f k)) := fun i => by
  rw [co_mul, co_add, co_mul, co_mul, cv_congr (fun _ => rfl) (co_add g k), cv_add]
theorem add_mul (f g k : List (Fin p)) : Eqv (mul (Fld.add f g) k) (Fld.add (mul f k) (mul g k)) := fun i => by
  rw [co_mul, co_add, co_mul, co_mul, cv_congr (co_add f g) (fun _ => rfl), cv_add']
theorem mul_sub (f g k : List (Fin p)) : Eqv (mul f (Fld.sub g k)) (Fld.sub (mul f g) (mul f k)) := fun i => by
  have h : Eqv (Fld.add (Fld.sub g k) k) g := fun i => by rw [co_add, co_sub]; grind
  have h1 := (mul_add f (Fld.sub g k) k).symm.trans ((Eqv.refl f).mul h) i
  rw [co_add] at h1
  rw [co_sub, ← h1]; grind
theorem sub_mul (f g k : List (Fin p)) : Eqv (mul (Fld.sub f g) k) (Fld.sub (mul f k) (mul g k)) :=
  (mul_comm _ _).trans ((mul_sub k f g).trans ((mul_comm _ _).sub (mul_comm _ _)))
theorem mul_one (f : List (Fin p)) : Eqv (mul f [1]) f := fun i => by
  rw [co_mul, cv_comm]; unfold cv
  rw [sm_one (k := 0) (by omega)]
  · rw [co_cons_zero]; show 1 * co f i = co f i; grind
  · intro j _ hj
    obtain ⟨m, rfl⟩ : ∃ m, j = m + 1 := ⟨j - 1, by omega⟩
    rw [co_cons_succ, co_nil]; grind

/-! ### degrees of products, roots -/
theorem trim_mul_le (f g : List (Fin p)) : (trim (mul f g)).length ≤ f.length + g.length - 1 := trim_length_of fun i hi => co_mul_ge (by omega)
end
end Go.Proofs.Ytjjnfobeeflnhaa.Fld

/- The program's words over the residues modulo a number: numbers, rows of coefficients, sums, products, values. -/
namespace Go.Proofs.Ytjjnfobeeflnhaa.L
open Go.RowKit Go.Proofs.YtjjnfobeeflnhaaW.PrintWords Go.Proofs.Ytjjnfobeeflnhaa.J
set_option linter.unusedVariables false
set_option linter.unusedSimpArgs false

section
variable {q : Nat} [NeZero q]
/-- The number that a residue is. -/
def nI (a : Fin q) : Int := (a.val : Int)
/-- A row of residues as numbers. -/
def oI (f : List (Fin q)) : List Int := f.map nI

theorem q_pos : 0 < q := Nat.pos_of_ne_zero (NeZero.ne q)
end
section
variable {q : Nat}
theorem nI_range (a : Fin q) : 0 ≤ nI a ∧ nI a < (q : Int) := by
  have := a.isLt
  unfold nI; omega
theorem nI_inj {a b : Fin q} (h : nI a = nI b) : a = b := Fin.ext (by unfold nI at h; omega)
end
section
variable {q : Nat} [NeZero q]
theorem nI_zero : nI (0 : Fin q) = 0 := by simp [nI]
theorem nI_eq_zero {a : Fin q} : nI a = 0 ↔ a = 0 := ⟨fun h => nI_inj (h.trans nI_zero.symm), fun h => by rw [h, nI_zero]⟩
theorem nI_one (h : 1 < q) : nI (1 : Fin q) = 1 := by
  have : ((1 : Fin q) : Nat) = 1 % q := rfl
  unfold nI; rw [this, Nat.mod_eq_of_lt h]; rfl
end
section
variable {q : Nat}
theorem nI_of {x : Int} (h0 : 0 ≤ x) (h1 : x < (q : Int)) : ∃ a : Fin q, nI a = x := ⟨⟨x.toNat, by omega⟩, by show ((x.toNat : Nat) : Int) = x; omega⟩
theorem nI_mul (a b : Fin q) : nI (a * b) = nI a * nI b % (q : Int) := by
  unfold nI; rw [Fin.val_mul]; simp
theorem nI_add (a b : Fin q) : nI (a + b) = (nI a + nI b) % (q : Int) := by
  unfold nI; rw [Fin.val_add]; simp
theorem nI_sub (a b : Fin q) : nI (a - b) = (nI a + (q : Int) - nI b) % (q : Int) := by
  have hb := b.isLt
  have e : (a - b).val = (q - b.val + a.val) % q := by rw [Fin.sub_def]
  unfold nI; rw [e]
  have : (a.val : Int) + (q : Int) - (b.val : Int) = ((q - b.val + a.val : Nat) : Int) := by omega
  rw [this]; simp

theorem oI_nil : oI ([] : List (Fin q)) = [] := rfl
theorem oI_cons (a : Fin q) (f : List (Fin q)) : oI (a :: f) = nI a :: oI f := rfl
theorem oI_append (f g : List (Fin q)) : oI (f ++ g) = oI f ++ oI g := by simp [oI]
theorem oI_length (f : List (Fin q)) : (oI f).length = f.length := by simp [oI]
theorem oI_of : ∀ {l : List Int}, (∀ c ∈ l, 0 ≤ c ∧ c < (q : Int)) → ∃ f : List (Fin q), oI f = l
  | [], _ => ⟨[], rfl⟩
  | a :: l, h => by
    obtain ⟨x, hx⟩ := nI_of (h a (by simp)).1 (h a (by simp)).2
    obtain ⟨f, hf⟩ := oI_of (l := l) (fun c hc => h c (by simp [hc]))
    exact ⟨x :: f, by rw [oI_cons, hx, hf]⟩
theorem oI_inj : ∀ {f g : List (Fin q)}, oI f = oI g → f = g
  | [], [], _ => rfl
  | [], _ :: _, h => by cases h
  | _ :: _, [], h => by cases h
  | a :: f, b :: g, h => by
    rw [oI_cons, oI_cons] at h
    injection h with h1 h2
    rw [nI_inj h1, oI_inj h2]
theorem oI_range (f : List (Fin q)) : ∀ c ∈ oI f, 0 ≤ c ∧ c < (q : Int) := by
  intro c hc
  obtain ⟨a, _, rfl⟩ := List.mem_map.1 hc
  exact nI_range a
end
section
variable {q : Nat} [NeZero q]
theorem oI_getD (f : List (Fin q)) (i : Nat) : (oI f).getD i 0 = nI (Fld.co f i) := by
  by_cases h : i < f.length
  · rw [Fld.co_lt h]; simp [oI, List.getD_eq_getElem?_getD, h]
  · rw [Fld.co_ge (by omega), nI_zero]; simp [oI, List.getD_eq_getElem?_getD, List.getElem?_eq_none (show f.length ≤ i by omega)]
theorem rd_oI (f : List (Fin q)) (i : Nat) : rd (oI f) (i : Int) = nI (Fld.co f i) := by
  rw [← oI_getD]; simp [rd]
end
section
variable {q : Nat}
theorem oI_take (f : List (Fin q)) (i : Nat) : (oI f).take i = oI (f.take i) := by simp [oI, List.map_take]
theorem oI_drop (f : List (Fin q)) (i : Nat) : (oI f).drop i = oI (f.drop i) := by simp [oI, List.map_drop]
theorem oI_set (f : List (Fin q)) (i : Nat) (a : Fin q) : (oI f).set i (nI a) = oI (f.set i a) := by simp [oI, List.map_set]
end
section
variable {q : Nat} [NeZero q]
theorem oI_zeros (n : Nat) : List.replicate n (0 : Int) = oI (List.replicate n (0 : Fin q)) := by simp [oI, nI_zero]
theorem short_oI (f : List (Fin q)) : shortI (oI f) = oI (Fld.trim f) := by
  induction f with
  | nil => rfl
  | cons a f ih =>
    have e : shortI (oI (a :: f)) = if shortI (oI f) = [] ∧ nI a = 0 then [] else nI a :: shortI (oI f) := rfl
    rw [e, ih, Fld.trim_cons]
    by_cases h : Fld.trim f = [] ∧ a = 0
    · rw [if_pos h, if_pos (by rw [h.1, h.2]; exact ⟨rfl, nI_zero⟩)]; rfl
    · rw [if_neg h, if_neg (fun h' => h ⟨oI_inj (h'.1.trans oI_nil.symm), nI_eq_zero.1 h'.2⟩)]; rfl

theorem co_set (f : List (Fin q)) (i : Nat) (a : Fin q) (hi : i < f.length) (s : Nat) : Fld.co (f.set i a) s = if s = i then a else Fld.co f s := by
  unfold Fld.co
  rw [List.getD_eq_getElem?_getD, List.getD_eq_getElem?_getD]
  by_cases h : s = i
  · subst h; rw [if_pos rfl, List.getElem?_set_self hi]; rfl
  · rw [if_neg h, List.getElem?_set_ne (by omega)]
theorem co_zeros (n s : Nat) : Fld.co (List.replicate n (0 : Fin q)) s = 0 := by
  unfold Fld.co
  rw [List.getD_eq_getElem?_getD, List.getElem?_replicate]
  split <;> rfl
theorem co_append (f g : List (Fin q)) (s : Nat) : Fld.co (f ++ g) s = if s < f.length then Fld.co f s else Fld.co g (s - f.length) := by
  unfold Fld.co
  rw [List.getD_eq_getElem?_getD, List.getD_eq_getElem?_getD, List.getD_eq_getElem?_getD]
  by_cases h : s < f.length
  · rw [if_pos h, List.getElem?_append_left h]
  · rw [if_neg h, List.getElem?_append_right (by omega)]
theorem co_take (f : List (Fin q)) (n s : Nat) : Fld.co (f.take n) s = if s < n then Fld.co f s else 0 := by
  unfold Fld.co
  rw [List.getD_eq_getElem?_getD, List.getD_eq_getElem?_getD]
  by_cases h : s < n
  · rw [if_pos h, List.getElem?_take_of_lt h]
  · rw [if_neg h, List.getElem?_eq_none (by simp; omega)]; rfl

/-! what the field's words tell -/
section
variable (hq : q ≤ 65537)
include hq
theorem mul_fp (a b : Fin q) : juntoref01_Mul.f (q : Int) (nI a) (nI b) = some (nI (a * b)) := by
  have hp := q_pos (q := q)
  rw [ref_mul (by omega) (by omega) (nI_range a).1 (nI_range a).2 (nI_range b).1 (nI_range b).2, nI_mul]
theorem add_fp (a b : Fin q) : juntoref01_Add.f (q : Int) (nI a) (nI b) = some (nI (a + b)) := by
  have hp := q_pos (q := q)
  rw [ref_add (by omega) (by omega) (nI_range a).1 (nI_range a).2 (nI_range b).1 (nI_range b).2, nI_add]
end

/-! rows -/
theorem short_fp (f : List (Fin q)) (hl : f.length ≤ 1000000000) : Ev (fun k => poly_Short.f k (oI f)) (oI (Fld.trim f)) := by
  rw [← short_oI]
  exact ⟨f.length + 1, fun k hk => short_spec (oI f) (by rw [oI_length]; omega) k (by rw [oI_length]; omega)⟩
theorem at_fp (hq : q ≤ 65537) (f : List (Fin q)) (x : Fin q) : valV (q : Int) (nI x) (oI f) = nI (Fld.ev f x) := by
  induction f with
  | nil => exact nI_zero.symm
  | cons a f ih =>
    rw [Fld.ev_cons, nI_add, nI_mul, ← ih]; rfl
theorem at_rows (hq : q ≤ 65537) (f : List (Fin q)) (x : Fin q) : poly_At.f (q : Int) (oI f) (nI x) = some (nI (Fld.ev f x)) := by
  have hp := q_pos (q := q)
  rw [poly_at (by omega) (by omega) (nI_range x).1 (nI_range x).2 (oI f) (oI_range f), at_fp hq]
/-- A row that is filled from the front on. -/
def fill (n j : Nat) (F : Nat → Fin q) : List (Fin q) := Fld.mk n (fun i => if i < j then F i else 0)
theorem fill_zero (n : Nat) (F : Nat → Fin q) : fill n 0 F = List.replicate n 0 := by
  apply List.ext_getElem (by simp [fill, Fld.mk])
  intro i h1 h2
  simp [fill, Fld.mk]
theorem fill_length (n j : Nat) (F : Nat → Fin q) : (fill n j F).length = n := Fld.mk_length _ _
theorem fill_set (n j : Nat) (F : Nat → Fin q) : (fill n j F).set j (F j) = fill n (j + 1) F := by
  apply List.ext_getElem (by simp [fill, Fld.mk])
  intro i h1 h2
  simp only [fill, Fld.mk, List.getElem_set, List.getElem_map, List.getElem_range]
  by_cases h : j = i
  · rw [if_pos h, if_pos (by omega), h]
  · rw [if_neg h]
    by_cases h' : i < j
    · rw [if_pos h', if_pos (by omega)]
    · rw [if_neg h', if_neg (by omega)]
theorem fill_all (n : Nat) (F : Nat → Fin q) : fill n n F = Fld.mk n F := by
  apply List.ext_getElem (by simp [fill, Fld.mk])
  intro i h1 h2
  have : i < n := by simpa [fill, Fld.mk] using h1
  simp [fill, Fld.mk, this]

/-! products -/
/-- What the first i rows of a product come to. -/
def part (f g : List (Fin q)) (i s : Nat) : Fin q := Fld.sm i (fun j => if j ≤ s then Fld.co f j * Fld.co g (s - j) else 0)
theorem part_all (f g : List (Fin q)) (n s : Nat) (h : f.length ≤ n) : part f g n s = Fld.co (Fld.mul f g) s := by
  rw [Fld.co_mul]
  unfold part Fld.cv
  have e : Fld.sm (max n (s + 1)) (fun j => if j ≤ s then Fld.co f j * Fld.co g (s - j) else 0) = Fld.sm n (fun j => if j ≤ s then Fld.co f j * Fld.co g (s - j) else 0) := Fld.sm_more (by omega) fun i h1 h2 => by
    rw [Fld.co_ge (f := f) (by omega)]; split <;> grind
  have e' : Fld.sm (max n (s + 1)) (fun j => if j ≤ s then Fld.co f j * Fld.co g (s - j) else 0) = Fld.sm (s + 1) (fun j => if j ≤ s then Fld.co f j * Fld.co g (s - j) else 0) := Fld.sm_more (by omega) fun i h1 h2 => by
    rw [if_neg (by omega)]
  rw [← e, e']
  exact Fld.sm_congr fun i hi => by rw [if_pos (by omega)]

/-- The row h stands at factor i, k of a product. -/
def At2 (f g h : List (Fin q)) (i k : Nat) : Prop := ∀ s, Fld.co h s = part f g i s + (if i ≤ s ∧ s < i + k then Fld.co f i * Fld.co g (s - i) else 0)
theorem At2.start (f g : List (Fin q)) (n : Nat) : At2 f g (List.replicate n 0) 0 0 := fun s => by
  rw [co_zeros, if_neg (by omega)]; show (0 : Fin q) = 0 + 0; grind
theorem At2.next {f g h : List (Fin q)} {i k : Nat} (H : At2 f g h i k) (hk : i + k < h.length) : At2 f g (h.set (i + k) (Fld.co h (i + k) + Fld.co f i * Fld.co g k)) i (k + 1) := fun s => by
  rw [co_set _ _ _ hk]
  by_cases e : s = i + k
  · subst e
    rw [if_pos rfl, H (i + k), if_neg (by omega), if_pos (by omega), show i + k - i = k by omega]; grind
  · rw [if_neg e, H s]
    by_cases e' : i ≤ s ∧ s < i + k
    · rw [if_pos e', if_pos (by omega)]
    · rw [if_neg e', if_neg (by omega)]
theorem At2.round {f g h : List (Fin q)} {i k : Nat} (H : At2 f g h i k) (hk : g.length ≤ k) : At2 f g h (i + 1) 0 := fun s => by
  rw [H s, if_neg (by omega : ¬ (i + 1 ≤ s ∧ s < i + 1 + 0))]
  have e : part f g (i + 1) s = part f g i s + (if i ≤ s then Fld.co f i * Fld.co g (s - i) else 0) := rfl
  rw [e]
  by_cases h1 : i ≤ s
  · by_cases h2 : s < i + k
    · rw [if_pos ⟨h1, h2⟩, if_pos h1]; grind
    · rw [if_neg (by omega), if_pos h1, Fld.co_ge (f := g) (by omega)]; grind
  · rw [if_neg (by omega), if_neg h1]; grind
theorem At2.last {f g h : List (Fin q)} {i : Nat} (H : At2 f g h i 0) (hi : f.length ≤ i) : Fld.trim h = Fld.trim (Fld.mul f g) := Fld.trim_congr fun s => by
  rw [H s, if_neg (by omega), part_all f g i s hi]; grind

/-! inverses -/
end

end Go.Proofs.Ytjjnfobeeflnhaa.L

/- Rows drawn from a tape, rows without noughts at the end, rows compared: what the words tell. -/
namespace Go.Proofs.Ytjjnfobeeflnhaa.L
open Go.RowKit Go.Proofs.YtjjnfobeeflnhaaW.PrintWords Go.Proofs.Ytjjnfobeeflnhaa.J
set_option linter.unusedVariables false
set_option linter.unusedSimpArgs false

/-! rows compared -/
theorem rd_getD (l : List Int) (i : Nat) : rd l (i : Int) = l.getD i 0 := by simp [rd]
/-! rows without noughts at the end -/
theorem trim_loop (l : List Int) (hl : l.length < 17592186044416) : ∀ (n : Nat), n ≤ l.length → Ev (fun k => juntoref02_Trim.l0 k l (n : Int)) (shortI (l.take n))
  | 0, _ => by
    refine Ev.step (f := fun k => some []) (fun k => ?_) (Ev.now _)
    simp only [juntoref02_Trim.l0]
    rw [if_neg (by omega)]
    simp
  | n + 1, hn => by
    have hw : wrap64 (((n + 1 : Nat) : Int) - 1) = (n : Int) := by unfold wrap64; omega
    have hr : rd l (n : Int) = l[n] := by simp [rd, List.getD_eq_getElem?_getD, show n < l.length by omega]
    rw [List.take_succ_eq_append_getElem (by omega), shortI_snoc]
    by_cases hz : l[n] = 0
    · rw [if_pos hz]
      refine Ev.step (f := fun k => juntoref02_Trim.l0 k l (n : Int)) (fun k => ?_) (trim_loop l hl n (by omega))
      conv => lhs; simp only [juntoref02_Trim.l0]
      rw [hw, if_pos (by omega), if_pos (by omega), if_pos (by omega), hr, if_pos hz]
    · rw [if_neg hz]
      refine Ev.step (f := fun k => some (l.take n ++ [l[n]])) (fun k => ?_) (Ev.now _)
      conv => lhs; simp only [juntoref02_Trim.l0]
      rw [hw, if_pos (by omega), if_pos (by omega), if_pos (by omega), hr, if_neg hz, Option.bind_some, if_pos (by omega), if_pos (by omega)]
      rw [show (((n + 1 : Nat) : Int)).toNat = n + 1 by omega, List.take_succ_eq_append_getElem (by omega)]
      rw [if_pos (by simp; omega)]; rfl
theorem trim_at (l : List Int) (hl : l.length < 17592186044416) : Ev (fun k => juntoref02_Trim.f k l) (shortI l) := by
  have := trim_loop l hl l.length (Nat.le_refl _)
  rw [List.take_length] at this
  exact this
section
variable {q : Nat} [NeZero q]
theorem trim_fp (f : List (Fin q)) (hl : f.length ≤ 1000000000) : Ev (fun k => juntoref02_Trim.f k (oI f)) (oI (Fld.trim f)) := by
  rw [← short_oI]
  exact trim_at _ (by rw [oI_length]; omega)

/-! rows drawn from a tape -/
/-- The residue of a number. -/
def resid (q : Nat) [NeZero q] (x : Int) : Fin q := Fin.ofNat q (x % (q : Int)).toNat
theorem nI_resid (x : Int) : nI (resid q x) = x % (q : Int) := by
  have hp := q_pos (q := q)
  have h0 : 0 ≤ x % (q : Int) := Int.emod_nonneg _ (by omega)
  have h1 : x % (q : Int) < (q : Int) := Int.emod_lt_of_pos _ (by omega)
  unfold nI resid
  simp only [Fin.ofNat]
  rw [Nat.mod_eq_of_lt (by omega)]
  omega
theorem resid_zero : resid q 0 = 0 := nI_inj (by rw [nI_resid, nI_zero]; simp)
/-- The first n numbers of a tape. -/
def drawn (q : Nat) [NeZero q] (tape : List Int) (n : Nat) : List (Fin q) := Fld.mk n (fun i => resid q (tape.getD i 0))
theorem fill_skip {n j : Nat} {F : Nat → Fin q} (h : F j = 0) : fill n j F = fill n (j + 1) F := by
  unfold fill Fld.mk
  apply List.map_congr_left
  intro i _
  by_cases e : i = j
  · subst e; rw [if_neg (by omega), if_pos (by omega), h]
  · by_cases e' : i < j
    · rw [if_pos e', if_pos (by omega)]
    · rw [if_neg e', if_neg (by omega)]
theorem take_loop (hq : q ≤ 65537) (tape : List Int) (hs : tape.length ≤ 17592186044415) (hu : ∀ c ∈ tape, 0 ≤ c) (n : Nat) (hn : n ≤ 1000000000) : ∀ (m i : Nat), i + m = n →
    Ev (fun k => field_Take.l0 k (q : Int) tape (n : Int) (oI (fill n i fun j => resid q (tape.getD j 0))) (n : Int) (i : Int)) (oI (drawn q tape n), tape.drop n)
  | 0, i, hi => by
    obtain rfl : i = n := by omega
    have hp := q_pos (q := q)
    have e : fill i i (fun j => resid q (tape.getD j 0)) = drawn q tape i := fill_all _ _
    rw [e]
    refine Ev.step (f := fun k => some (oI (drawn q tape i), tape.drop i)) (fun k => ?_) (Ev.now _)
    have hd : tape.drop (mn (i : Int) (tape.length : Int)).toNat = tape.drop i := by
      by_cases h : i ≤ tape.length
      · have : (mn (i : Int) (tape.length : Int)).toNat = i := by unfold mn; split <;> omega
        rw [this]
      · have : (mn (i : Int) (tape.length : Int)).toNat = tape.length := by unfold mn; split <;> omega
        rw [this, List.drop_of_length_le (Nat.le_refl _), List.drop_of_length_le (by omega)]
    have h0 : 0 ≤ mn (i : Int) (tape.length : Int) := by unfold mn; split <;> omega
    have h1 : mn (i : Int) (tape.length : Int) ≤ (tape.length : Int) := by unfold mn; split <;> omega
    simp only [field_Take.l0]
    rw [if_neg (by omega), Option.bind_some, if_pos h0, if_pos h1, hd, if_pos (by simp; omega)]
    rfl
  | m + 1, i, hi => by
    have hp := q_pos (q := q)
    refine Ev.step (f := fun k => field_Take.l0 k (q : Int) tape (n : Int) (oI (fill n (i + 1) fun j => resid q (tape.getD j 0))) (n : Int) ((i + 1 : Nat) : Int)) (fun k => ?_) (take_loop hq tape hs hu n hn m (i + 1) (by omega))
    conv => lhs; simp only [field_Take.l0]
    rw [if_pos (by omega), w64_small (n := (i : Int) + 1) (by omega) (by omega)]
    by_cases h : i < tape.length
    · have h0 : 0 ≤ tape.getD i 0 := by
        rw [List.getD_eq_getElem?_getD, List.getElem?_eq_getElem h]; exact hu _ (List.getElem_mem h)
      rw [if_pos (by omega), if_pos (by omega), if_neg (by omega), if_pos (by rw [oI_length, fill_length]; omega), rd_getD, Int.tmod_eq_emod_of_nonneg h0, ← nI_resid, Int.toNat_natCast, oI_set, fill_set n i (fun j => resid q (tape.getD j 0))]
      rfl
    · have e : resid q (tape.getD i 0) = 0 := by
        rw [List.getD_eq_getElem?_getD, List.getElem?_eq_none (by omega)]; exact resid_zero
      rw [if_neg (by omega), fill_skip (F := fun j => resid q (tape.getD j 0)) e]
      rfl
theorem take_fp (hq : q ≤ 65537) (tape : List Int) (hs : tape.length ≤ 17592186044415) (hu : ∀ c ∈ tape, 0 ≤ c) (n : Nat) (hn : n ≤ 1000000000) : Ev (fun k => field_Take.f k (q : Int) tape (n : Int)) (oI (drawn q tape n), tape.drop n) := by
  have h := take_loop hq tape hs hu n hn n 0 (by omega)
  rw [fill_zero, ← oI_zeros] at h
  refine Ev.congr (fun k => ?_) h
  unfold field_Take.f
  rw [if_pos (by omega), Int.toNat_natCast, if_pos (by omega), Option.bind_some]
  simp
end

end Go.Proofs.Ytjjnfobeeflnhaa.L

/- The reference's words over the residues modulo a prime: sums, differences, products, inverses. -/
namespace Go.Proofs.Ytjjnfobeeflnhaa.L
open Go.RowKit Go.Proofs.YtjjnfobeeflnhaaW.PrintWords Go.Proofs.Ytjjnfobeeflnhaa.J
set_option linter.unusedVariables false
set_option linter.unusedSimpArgs false

section
variable {q : Nat} [NeZero q]
theorem cof_fp (f : List (Fin q)) (i : Nat) : juntoref02_at.f (oI f) (i : Int) = some (nI (Fld.co f i)) := by
  unfold juntoref02_at.f
  rw [oI_length]
  by_cases h : i < f.length
  · rw [if_pos (by omega), if_pos (by omega), rd_oI]
  · rw [if_neg (by omega), Fld.co_ge (by omega), nI_zero]
theorem add_loop (hq : q ≤ 65537) (f g : List (Fin q)) (n : Nat) (hn : n ≤ 1000000000) : ∀ (m i : Nat), i + m = n →
    Ev (fun k => juntoref02_Add.l0 k (q : Int) (oI f) (oI g) (oI (fill n i fun j => Fld.co f j + Fld.co g j)) (n : Int) (i : Int)) (oI (Fld.trim (Fld.mk n fun j => Fld.co f j + Fld.co g j)))
  | 0, i, hi => by
    obtain rfl : i = n := by omega
    refine Ev.step (f := fun k => (juntoref02_Trim.f k (oI (Fld.mk i fun j => Fld.co f j + Fld.co g j))).bind fun t => some t) (fun k => ?_) (Ev.bind (trim_fp _ (by rw [Fld.mk_length]; exact hn)) (Ev.now _))
    simp only [juntoref02_Add.l0]
    rw [if_neg (by omega), fill_all]
  | m + 1, i, hi => by
    refine Ev.step (f := fun k => juntoref02_Add.l0 k (q : Int) (oI f) (oI g) (oI (fill n (i + 1) fun j => Fld.co f j + Fld.co g j)) (n : Int) ((i + 1 : Nat) : Int)) (fun k => ?_) (add_loop hq f g n hn m (i + 1) (by omega))
    conv => lhs; simp only [juntoref02_Add.l0]
    rw [if_pos (by omega), cof_fp, Option.bind_some, cof_fp, Option.bind_some, add_fp hq, Option.bind_some, if_pos (by omega), if_pos (by rw [oI_length, fill_length]; omega), Int.toNat_natCast, oI_set, fill_set n i (fun j => Fld.co f j + Fld.co g j), w64_small (by omega) (by omega)]
    rfl
theorem add_rows (hq : q ≤ 65537) (f g : List (Fin q)) (hf : f.length ≤ 1000000000) (hg : g.length ≤ 1000000000) : Ev (fun k => juntoref02_Add.f k (q : Int) (oI f) (oI g)) (oI (Fld.trim (Fld.add f g))) := by
  have h := add_loop hq f g (max f.length g.length) (by omega) (max f.length g.length) 0 (by omega)
  rw [fill_zero, ← oI_zeros] at h
  refine Ev.congr (fun k => ?_) h
  have e : mx ((oI f).length : Int) ((oI g).length : Int) = ((max f.length g.length : Nat) : Int) := by
    rw [oI_length, oI_length]; unfold mx; split <;> omega
  unfold juntoref02_Add.f
  rw [e, if_pos (by omega), Int.toNat_natCast, if_pos (by omega), Option.bind_some]
  simp
theorem scale_loop (hq : q ≤ 65537) (f : List (Fin q)) (c : Fin q) (hf : f.length ≤ 1000000000) : ∀ (m i : Nat), i + m = f.length →
    Ev (fun k => juntoref02_Scale.l0 k (q : Int) (oI f) (nI c) (oI (fill f.length i fun j => Fld.co f j * c)) (f.length : Int) (i : Int)) (oI (Fld.trim (Fld.mk f.length fun j => Fld.co f j * c)))
  | 0, i, hi => by
    obtain rfl : i = f.length := by omega
    refine Ev.step (f := fun k => (juntoref02_Trim.f k (oI (Fld.mk f.length fun j => Fld.co f j * c))).bind fun t => some t) (fun k => ?_) (Ev.bind (trim_fp _ (by rw [Fld.mk_length]; exact hf)) (Ev.now _))
    simp only [juntoref02_Scale.l0]
    rw [if_neg (by omega), fill_all]
  | m + 1, i, hi => by
    refine Ev.step (f := fun k => juntoref02_Scale.l0 k (q : Int) (oI f) (nI c) (oI (fill f.length (i + 1) fun j => Fld.co f j * c)) (f.length : Int) ((i + 1 : Nat) : Int)) (fun k => ?_) (scale_loop hq f c hf m (i + 1) (by omega))
    conv => lhs; simp only [juntoref02_Scale.l0]
    rw [if_pos (by omega), if_pos (by omega), if_pos (by rw [oI_length]; omega), rd_oI, mul_fp hq, Option.bind_some, if_pos (by rw [oI_length, fill_length]; omega), Int.toNat_natCast, oI_set, fill_set f.length i (fun j => Fld.co f j * c), w64_small (by omega) (by omega)]
    rfl
theorem scale_rows (hq : q ≤ 65537) (f : List (Fin q)) (c : Fin q) (hf : f.length ≤ 1000000000) : Ev (fun k => juntoref02_Scale.f k (q : Int) (oI f) (nI c)) (oI (Fld.trim (Fld.smul c f))) := by
  have e : Fld.Eqv (Fld.mk f.length fun j => Fld.co f j * c) (Fld.smul c f) := fun i => by
    rw [Fld.co_mk, Fld.co_smul]
    split
    · grind
    · rw [Fld.co_ge (f := f) (by omega)]; grind
  rw [← Fld.trim_congr e]
  have h := scale_loop hq f c hf f.length 0 (by omega)
  rw [fill_zero, ← oI_zeros] at h
  refine Ev.congr (fun k => ?_) h
  unfold juntoref02_Scale.f
  rw [oI_length, if_pos (by omega), if_pos (by omega), Int.toNat_natCast]
  rfl
theorem rmul_inner (hq : q ≤ 65537) (f g : List (Fin q)) (i : Nat) (hi : i < f.length) (hf : f.length ≤ 1000000) (hg : g.length ≤ 1000000) {r : List Int} (next : ∀ h : List (Fin q), h.length = f.length + g.length → At2 f g h (i + 1) 0 → Ev (fun k => juntoref02_Mul.l0 k (q : Int) (oI f) (oI g) (oI h) (f.length : Int) ((i + 1 : Nat) : Int)) r) : ∀ (m j : Nat) (h : List (Fin q)), j + m = g.length → h.length = f.length + g.length → At2 f g h i j →
    Ev (fun k => juntoref02_Mul.l1 k (q : Int) (oI f) (oI g) (oI h) (i : Int) (f.length : Int) (i : Int) (g.length : Int) (j : Int)) r
  | 0, j, h, hj, hh, H => by
    refine Ev.step (f := fun k => juntoref02_Mul.l0 k (q : Int) (oI f) (oI g) (oI h) (f.length : Int) ((i + 1 : Nat) : Int)) (fun k => ?_) (next h hh (H.round (by omega)))
    conv => lhs; simp only [juntoref02_Mul.l1]
    rw [if_neg (by omega), w64_small (by omega) (by omega)]
    rfl
  | m + 1, j, h, hj, hh, H => by
    refine Ev.step (f := fun k => juntoref02_Mul.l1 k (q : Int) (oI f) (oI g) (oI (h.set (i + j) (Fld.co h (i + j) + Fld.co f i * Fld.co g j))) (i : Int) (f.length : Int) (i : Int) (g.length : Int) ((j + 1 : Nat) : Int)) (fun k => ?_) (rmul_inner hq f g i hi hf hg next m (j + 1) _ (by omega) (by rw [List.length_set]; exact hh) (H.next (by omega)))
    conv => lhs; simp only [juntoref02_Mul.l1]
    have hw : wrap64 ((i : Int) + (j : Int)) = ((i + j : Nat) : Int) := by rw [w64_small (by omega) (by omega)]; omega
    rw [if_pos (by omega), hw, if_pos (by omega), if_pos (by rw [oI_length]; omega), if_pos (by omega), if_pos (by rw [oI_length]; omega), if_pos (by omega), if_pos (by rw [oI_length]; omega), rd_oI, rd_oI, rd_oI, mul_fp hq, Option.bind_some, add_fp hq, Option.bind_some, Int.toNat_natCast, oI_set, w64_small (by omega) (by omega)]
    rfl
theorem rmul_outer (hq : q ≤ 65537) (f g : List (Fin q)) (hf : f.length ≤ 1000000) (hg : g.length ≤ 1000000) : ∀ (m i : Nat) (h : List (Fin q)), i + m = f.length → h.length = f.length + g.length → At2 f g h i 0 →
    Ev (fun k => juntoref02_Mul.l0 k (q : Int) (oI f) (oI g) (oI h) (f.length : Int) (i : Int)) (oI (Fld.trim (Fld.mul f g)))
  | 0, i, h, hi, hh, H => by
    rw [← H.last (by omega)]
    refine Ev.step (f := fun k => (juntoref02_Trim.f k (oI h)).bind fun t => some t) (fun k => ?_) (Ev.bind (trim_fp _ (by omega)) (Ev.now _))
    simp only [juntoref02_Mul.l0]
    rw [if_neg (by omega)]
  | m + 1, i, h, hi, hh, H => by
    refine Ev.step (f := fun k => juntoref02_Mul.l1 k (q : Int) (oI f) (oI g) (oI h) (i : Int) (f.length : Int) (i : Int) (g.length : Int) ((0 : Nat) : Int)) (fun k => ?_) (rmul_inner hq f g i (by omega) hf hg (fun h' hh' H' => rmul_outer hq f g hf hg m (i + 1) h' (by omega) hh' H') g.length 0 h (by omega) hh H)
    conv => lhs; simp only [juntoref02_Mul.l0]
    rw [if_pos (by omega), oI_length]
    rfl
theorem rmul_rows (hq : q ≤ 65537) (f g : List (Fin q)) (hf : f.length ≤ 1000000) (hg : g.length ≤ 1000000) : Ev (fun k => juntoref02_Mul.f k (q : Int) (oI f) (oI g)) (oI (Fld.trim (Fld.mul f g))) := by
  refine Ev.congr (fun k => ?_) (rmul_outer hq f g hf hg f.length 0 (List.replicate (f.length + g.length) 0) (by omega) (by simp) (At2.start f g _))
  have hw : wrap64 (((oI f).length : Int) + ((oI g).length : Int)) = ((f.length + g.length : Nat) : Int) := by
    rw [oI_length, oI_length, w64_small (by omega) (by omega)]; omega
  unfold juntoref02_Mul.f
  rw [hw, if_pos (by omega), Int.toNat_natCast, if_pos (by omega), ← oI_zeros, oI_length]
  rfl
theorem rsub_fp (hq : q ≤ 65537) (a b : Fin q) : juntoref01_Sub.f (q : Int) (nI a) (nI b) = some (nI (a - b)) := by
  have hp := q_pos (q := q)
  have ha := nI_range a
  have hb := nI_range b
  unfold juntoref01_Sub.f
  rw [if_neg (by omega), u64_small (n := nI a + (q : Int)) (by omega) (by omega), u64_small (by omega) (by omega), Int.tmod_eq_emod_of_nonneg (by omega), nI_sub]
theorem pow_plus (a : Fin q) (m n : Nat) : a ^ (m + n) = a ^ m * a ^ n := by
  induction n with
  | zero => rw [Nat.add_zero]; grind
  | succ n ih =>
    have e : a ^ (m + (n + 1)) = a ^ (m + n) * a := by rw [show m + (n + 1) = (m + n) + 1 by omega]; grind
    have e' : a ^ (n + 1) = a ^ n * a := by grind
    rw [e, e', ih]; grind
theorem rpow_at (h1 : 1 < q) (hq : q ≤ 65537) (a : Fin q) : ∀ (n e : Nat), e ≤ n → e ≤ 65537 → Ev (fun k => juntoref01_Pow.f k (q : Int) (nI a) (e : Int)) (nI (a ^ e))
  | n, e, h, he => by
    by_cases h0 : e = 0
    · subst h0
      rw [show a ^ 0 = (1 : Fin q) by grind, nI_one h1]
      refine Ev.step (f := fun k => some 1) (fun k => ?_) (Ev.now _)
      simp only [juntoref01_Pow.f]
      rw [if_pos (by omega)]
    · cases n with
      | zero => omega
      | succ n =>
        have hd : IntKind.u64.wrap (Int.tdiv (e : Int) 2) = ((e / 2 : Nat) : Int) := by
          rw [Int.tdiv_eq_ediv_of_nonneg (by omega), u64_small (by omega) (by omega)]; omega
        have hm : Int.tmod (e : Int) 2 = ((e % 2 : Nat) : Int) := by
          rw [Int.tmod_eq_emod_of_nonneg (by omega)]; omega
        have ih := rpow_at h1 hq a n (e / 2) (by omega) (by omega)
        by_cases h2 : e % 2 = 1
        · have ee : a ^ e = a ^ (e / 2) * a ^ (e / 2) * a := by
            have h3 : e = e / 2 + e / 2 + 1 := by omega
            have h4 : a ^ e = a ^ (e / 2 + e / 2 + 1) := by rw [← h3]
            rw [h4, pow_plus, pow_plus, show a ^ 1 = a by grind]
          rw [ee]
          refine Ev.step (f := fun k => (juntoref01_Pow.f k (q : Int) (nI a) ((e / 2 : Nat) : Int)).bind fun t => (juntoref01_Mul.f (q : Int) t t).bind fun u => (juntoref01_Mul.f (q : Int) u (nI a)).bind fun v => some v) (fun k => ?_) (Ev.bind ih ?_)
          · simp only [juntoref01_Pow.f]
            rw [if_neg (by omega), hd, hm, h2]
            rfl
          · rw [mul_fp hq, Option.bind_some, mul_fp hq, Option.bind_some]
            exact Ev.now _
        · have ee : a ^ e = a ^ (e / 2) * a ^ (e / 2) := by
            have h3 : e = e / 2 + e / 2 := by omega
            have h4 : a ^ e = a ^ (e / 2 + e / 2) := by rw [← h3]
            rw [h4, pow_plus]
          rw [ee]
          refine Ev.step (f := fun k => (juntoref01_Pow.f k (q : Int) (nI a) ((e / 2 : Nat) : Int)).bind fun t => (juntoref01_Mul.f (q : Int) t t).bind fun u => some u) (fun k => ?_) (Ev.bind ih ?_)
          · simp only [juntoref01_Pow.f]
            rw [if_neg (by omega), hd, hm]
            simp only [show ¬ (((e % 2 : Nat) : Int) = 1) by omega, if_false]
          · rw [mul_fp hq, Option.bind_some]
            exact Ev.now _
theorem rinv_fp (h1 : 2 < q) (hq : q ≤ 65537) (a : Fin q) : Ev (fun k => juntoref01_Inv.f k (q : Int) (nI a)) (nI (Fld.inv a)) := by
  unfold juntoref01_Inv.f
  have e : IntKind.u64.wrap ((q : Int) - 2) = ((q - 2 : Nat) : Int) := by rw [u64_small (by omega) (by omega)]; omega
  rw [e]
  exact Ev.bind (rpow_at (by omega) hq a (q - 2) (q - 2) (Nat.le_refl _) (by omega)) (Ev.now _)

end

/-! parties as numbers -/
/-! tests of rows of coefficients -/
/-- What both tests of a row answer: 0, 2 or 3. -/
def withinV (p : Int) (l : List Int) : Int := if (l.length : Int) > 201 then 3 else belowV p l
def isV (p : Int) : List (List Int) → Int
  | [] => 0
  | f :: fs => if withinV p f = 0 then isV p fs else withinV p f
theorem is_loop (p : Int) (l : List (List Int)) (hn : l.length ≤ 1000000) (hl : ∀ f ∈ l, f.length ≤ maxLen) : ∀ (m i : Nat), i + m = l.length → Ev (fun k => poly_Is.l0 k p l (l.length : Int) (i : Int)) (isV p (l.drop i))
  | 0, i, hi => by
    rw [List.drop_of_length_le (by omega), isV]
    refine Ev.step (f := fun k => some 0) (fun k => ?_) (Ev.now _)
    simp only [poly_Is.l0]
    rw [if_neg (by omega)]
  | m + 1, i, hi => by
    have hlt : i < l.length := by omega
    have hr : rd_L3 l (i : Int) = l[i] := by simp [rd_L3, List.getD_eq_getElem?_getD, hlt]
    rw [List.drop_eq_getElem_cons hlt, isV]
    by_cases h3 : ((l[i]).length : Int) > 201
    · have e : withinV p l[i] = 3 := by unfold withinV; rw [if_pos h3]
      rw [e, if_neg (by decide)]
      refine Ev.step (f := fun k => some 3) (fun k => ?_) (Ev.now _)
      simp only [poly_Is.l0]
      rw [if_pos (by omega), if_pos (by omega), if_pos (by omega), hr, if_pos h3]
    · have e : withinV p l[i] = belowV p l[i] := by unfold withinV; rw [if_neg h3]
      rw [e]
      refine Ev.step (f := fun k => (field_Below.f k p l[i]).bind fun t => if t = 0 then poly_Is.l0 k p l (l.length : Int) ((i + 1 : Nat) : Int) else some t) (fun k => ?_) (Ev.bind (field_below p _ (hl _ (List.getElem_mem hlt))) ?_)
      · conv => lhs; simp only [poly_Is.l0]
        rw [if_pos (by omega), if_pos (by omega), if_pos (by omega), hr, if_neg h3, w64_small (by omega) (by omega)]
        rfl
      · by_cases h0 : belowV p l[i] = 0
        · simp only [h0, if_true]
          exact is_loop p l hn hl m (i + 1) (by omega)
        · simp only [h0, if_false]
          exact Ev.now _
theorem poly_is (p : Int) (l : List (List Int)) (hn : l.length ≤ 1000000) (hl : ∀ f ∈ l, f.length ≤ maxLen) (hp : isP p = true) : Ev (fun k => poly_Is.f k p l) (isV p l) := by
  unfold poly_Is.f
  refine Ev.bind (field_is p) ?_
  simp only [hp, if_true]
  have h := is_loop p l hn hl l.length 0 (by omega)
  rw [List.drop_zero] at h
  exact h

end Go.Proofs.Ytjjnfobeeflnhaa.L

/- Small facts about numbers that came in, setups and rows. -/
namespace Go.Proofs.Ytjjnfobeeflnhaa.L
open Go.RowKit Go.Proofs.YtjjnfobeeflnhaaW.PrintWords Go.Proofs.Ytjjnfobeeflnhaa.J

theorem u64_wf {n : Int} (h : (Lit.int .u64 n).wf = true) : 0 ≤ n ∧ n < 18446744073709551616 := by
  simp [Lit.wf, IntKind.min, IntKind.max, IntKind.signed, IntKind.bits] at h
  omega

theorem belowV_zero {p : Int} {l : List Int} (h : belowV p l = 0) : ∀ x ∈ l, x < p := by
  unfold belowV at h
  split at h
  · assumption
  · cases h

/-- A setup that is one: its numbers. -/
theorem setupV_small {p n t : Int} (h : setupV p n t = 0) : 3 ≤ p ∧ p ≤ 65537 ∧ 1 ≤ n ∧ n ≤ 13 ∧ 0 ≤ t ∧ t ≤ 3 ∧ 4 * t + 1 ≤ n ∧ n < p := by
  obtain ⟨hp, h1, h2, h4, h5, h6⟩ := setupV_ok h
  have hp2 := (isP_iff p).1 hp
  omega

end Go.Proofs.Ytjjnfobeeflnhaa.L
