/- Part 3 of the proof of TunePrunes: what the functions compute as plain Lean functions, that the machine comes to just these answers, and that the answer is true; no conditions. -/
import Derived.Test.YtmlbliggbkfjnaaTunePrunesZ0
import Derived.Test.YtmlbliggbkfjnaaTunePrunesZ1
import Derived.Test.YtmlbliggbkfjnaaTunePrunesZ2
import Derived.Laws.EntriesVeiled
import Derived.RangeFuncRecord
import Derived.RangeFuncBox
import Derived.RangeFuncCalls
import Derived.Shelf.Abstract
set_option linter.unusedSimpArgs false
set_option linter.unusedVariables false
set_option maxHeartbeats 8000000
set_option maxRecDepth 100000
namespace Go.Proofs.Ytmlbliggbkfjnaa.J
open Go.RowKit Go.Proofs.YtmlbliggbkfjnaaW.PrintWords Go.Proofs.YtmlbliggbkfjnaaW.PrintLast Go.Proofs.YtmlbliggbkfjnaaW.PrintMore
attribute [local go_sem] max2_int min2_int max_two min_two max_three min_three max_four min_four
mutual
def tune_folded.j0 : Nat → Int → List (S61) → Bool → Int → Int → Int → Int → Option (Int × Int × Int × Int × Bool)
 | 0, _, _, _, _, _, _, _ => none
 | k + 1, x0, x1, x20, ae, aa, ab, af => if x20 = true then (some (ae, aa, ab, af, false)) else (if 0 ≤ aa then (if aa < (x1.length : Int) then (if 0 ≤ ab then (if ab < (x1.length : Int) then (if ae = 6 then (tune_folded.j1 k x0 (ae != 6) false ae aa ab af ((rd_T61 x1 aa).f0) ((rd_T61 x1 aa).f1) ((rd_T61 x1 aa).f2) ((rd_T61 x1 aa).f3) ((rd_T61 x1 ab).f0) ((rd_T61 x1 ab).f1) ((rd_T61 x1 ab).f2) ((rd_T61 x1 ab).f3)) else (if ((rd_T61 x1 aa).f0) = 2 then (tune_folded.j1 k x0 (ae != 6) (((rd_T61 x1 ab).f0) == 2) ae aa ab af ((rd_T61 x1 aa).f0) ((rd_T61 x1 aa).f1) ((rd_T61 x1 aa).f2) ((rd_T61 x1 aa).f3) ((rd_T61 x1 ab).f0) ((rd_T61 x1 ab).f1) ((rd_T61 x1 ab).f2) ((rd_T61 x1 ab).f3)) else (tune_folded.j1 k x0 (ae != 6) false ae aa ab af ((rd_T61 x1 aa).f0) ((rd_T61 x1 aa).f1) ((rd_T61 x1 aa).f2) ((rd_T61 x1 aa).f3) ((rd_T61 x1 ab).f0) ((rd_T61 x1 ab).f1) ((rd_T61 x1 ab).f2) ((rd_T61 x1 ab).f3)))) else (none)) else (none)) else (none)) else (none))
def tune_folded.j1 : Nat → Int → Bool → Bool → Int → Int → Int → Int → Int → Int → Int → Int → Int → Int → Int → Int → Option (Int × Int × Int × Int × Bool)
 | 0, _, _, _, _, _, _, _, _, _, _, _, _, _, _, _ => none
 | k + 1, x0, x12, x35, ae, aa, ab, af, ah, ai, aj, ag, al, an, ao, ak => if x35 = true then ((circ_Of.f x0 ae 0 1 0 ([] : List Int) (([ag, ak] : List Int))).bind fun ay => ((tune_folded_1.f ay).bind fun ap => (some (ap.1, ap.2.1, ap.2.2.1, ap.2.2.2.1, ap.2.2.2.2)))) else (if x12 = true then (tune_folded.j2 k x0 x12 false ae aa ab af ah ai aj ag al an ao ak) else (tune_folded.j2 k x0 x12 (ah == 2) ae aa ab af ah ai aj ag al an ao ak))
def tune_folded.j2 : Nat → Int → Bool → Bool → Int → Int → Int → Int → Int → Int → Int → Int → Int → Int → Int → Int → Option (Int × Int × Int × Int × Bool)
 | 0, _, _, _, _, _, _, _, _, _, _, _, _, _, _, _ => none
 | k + 1, x0, x12, x61, ae, aa, ab, af, ah, ai, aj, ag, al, an, ao, ak => if x61 = true then ((qva.f x0 ag af).bind fun az => ((tune_folded_1.f az).bind fun aq => (some (aq.1, aq.2.1, aq.2.2.1, aq.2.2.2.1, aq.2.2.2.2)))) else (if ae = 5 then (tune_folded.j3 k x0 x12 (ah == 2) ae aa ab af ah ai aj ag al an ao ak) else (tune_folded.j3 k x0 x12 false ae aa ab af ah ai aj ag al an ao ak))
def tune_folded.j3 : Nat → Int → Bool → Bool → Int → Int → Int → Int → Int → Int → Int → Int → Int → Int → Int → Int → Option (Int × Int × Int × Int × Bool)
 | 0, _, _, _, _, _, _, _, _, _, _, _, _, _, _, _ => none
 | k + 1, x0, x12, x79, ae, aa, ab, af, ah, ai, aj, ag, al, an, ao, ak => if x79 = true then ((tune_folded_2.f ab ag).bind fun ar => (some (ar.1, ar.2.1, ar.2.2.1, ar.2.2.2.1, ar.2.2.2.2))) else (if ae = 5 then (tune_folded.j4 k x0 x12 (al == 2) ae aa ab af ah ai aj ag al an ao ak) else (tune_folded.j4 k x0 x12 false ae aa ab af ah ai aj ag al an ao ak))
def tune_folded.j4 : Nat → Int → Bool → Bool → Int → Int → Int → Int → Int → Int → Int → Int → Int → Int → Int → Int → Option (Int × Int × Int × Int × Bool)
 | 0, _, _, _, _, _, _, _, _, _, _, _, _, _, _, _ => none
 | k + 1, x0, x12, x96, ae, aa, ab, af, ah, ai, aj, ag, al, an, ao, ak => if x96 = true then ((tune_folded_2.f aa ak).bind fun au => (some (au.1, au.2.1, au.2.2.1, au.2.2.2.1, au.2.2.2.2))) else (if x12 = true then (tune_folded.j5 k x0 x12 false ae aa ab af ah ai aj ag) else (tune_folded.j5 k x0 x12 (af == 0) ae aa ab af ah ai aj ag))
def tune_folded.j5 : Nat → Int → Bool → Bool → Int → Int → Int → Int → Int → Int → Int → Int → Option (Int × Int × Int × Int × Bool)
 | 0, _, _, _, _, _, _, _, _, _, _, _ => none
 | k + 1, x0, x12, aA, ae, aa, ab, af, ah, ai, aj, ag => if aA = true then ((tune_folded_1.f 0).bind fun av => (some (av.1, av.2.1, av.2.2.1, av.2.2.2.1, av.2.2.2.2))) else (if x12 = true then (tune_folded.j6 k x0 false ae aa ab af ah ai aj ag) else (tune_folded.j6 k x0 (ah == 6) ae aa ab af ah ai aj ag))
def tune_folded.j6 : Nat → Int → Bool → Int → Int → Int → Int → Int → Int → Int → Int → Option (Int × Int × Int × Int × Bool)
 | 0, _, _, _, _, _, _, _, _, _, _ => none
 | k + 1, x0, aB, ae, aa, ab, af, ah, ai, aj, ag => if aB = true then ((qva.f x0 ag af).bind fun aC => ((tune_folded_2.f ai aC).bind fun aw => (some (aw.1, aw.2.1, aw.2.2.1, aw.2.2.2.1, aw.2.2.2.2)))) else (if ae = 4 then (if aa = ab then ((tune_folded_1.f 0).bind fun ax => (some (ax.1, ax.2.1, ax.2.2.1, ax.2.2.2.1, ax.2.2.2.2))) else (some (ae, aa, ab, af, false))) else (some (ae, aa, ab, af, false)))
end
def tune_folded.f (k : Nat) (a0 : Int) (l1 : List (S61)) (aa : Int) (ab : Int) (ae : Int) (af : Int) : Option (Int × Int × Int × Int × Bool) := if aa = 1 then (tune_folded.j0 k a0 l1 true aa ab ae af) else (tune_folded.j0 k a0 l1 (aa == 2) aa ab ae af)
theorem tune_folded.mono_l : ∀ k, (∀ y0 y1 y2 y3 y4 y5 y6, LeO (tune_folded.j0 k y0 y1 y2 y3 y4 y5 y6) (tune_folded.j0 (k + 1) y0 y1 y2 y3 y4 y5 y6)) ∧ (∀ y0 y1 y2 y3 y4 y5 y6 y7 y8 y9 y10 y11 y12 y13 y14, LeO (tune_folded.j1 k y0 y1 y2 y3 y4 y5 y6 y7 y8 y9 y10 y11 y12 y13 y14) (tune_folded.j1 (k + 1) y0 y1 y2 y3 y4 y5 y6 y7 y8 y9 y10 y11 y12 y13 y14)) ∧ (∀ y0 y1 y2 y3 y4 y5 y6 y7 y8 y9 y10 y11 y12 y13 y14, LeO (tune_folded.j2 k y0 y1 y2 y3 y4 y5 y6 y7 y8 y9 y10 y11 y12 y13 y14) (tune_folded.j2 (k + 1) y0 y1 y2 y3 y4 y5 y6 y7 y8 y9 y10 y11 y12 y13 y14)) ∧ (∀ y0 y1 y2 y3 y4 y5 y6 y7 y8 y9 y10 y11 y12 y13 y14, LeO (tune_folded.j3 k y0 y1 y2 y3 y4 y5 y6 y7 y8 y9 y10 y11 y12 y13 y14) (tune_folded.j3 (k + 1) y0 y1 y2 y3 y4 y5 y6 y7 y8 y9 y10 y11 y12 y13 y14)) ∧ (∀ y0 y1 y2 y3 y4 y5 y6 y7 y8 y9 y10 y11 y12 y13 y14, LeO (tune_folded.j4 k y0 y1 y2 y3 y4 y5 y6 y7 y8 y9 y10 y11 y12 y13 y14) (tune_folded.j4 (k + 1) y0 y1 y2 y3 y4 y5 y6 y7 y8 y9 y10 y11 y12 y13 y14)) ∧ (∀ y0 y1 y2 y3 y4 y5 y6 y7 y8 y9 y10, LeO (tune_folded.j5 k y0 y1 y2 y3 y4 y5 y6 y7 y8 y9 y10) (tune_folded.j5 (k + 1) y0 y1 y2 y3 y4 y5 y6 y7 y8 y9 y10)) ∧ (∀ y0 y1 y2 y3 y4 y5 y6 y7 y8 y9, LeO (tune_folded.j6 k y0 y1 y2 y3 y4 y5 y6 y7 y8 y9) (tune_folded.j6 (k + 1) y0 y1 y2 y3 y4 y5 y6 y7 y8 y9))
 | 0 => ⟨fun _ _ _ _ _ _ _ r h => by simp [tune_folded.j0] at h, fun _ _ _ _ _ _ _ _ _ _ _ _ _ _ _ r h => by simp [tune_folded.j1] at h, fun _ _ _ _ _ _ _ _ _ _ _ _ _ _ _ r h => by simp [tune_folded.j2] at h, fun _ _ _ _ _ _ _ _ _ _ _ _ _ _ _ r h => by simp [tune_folded.j3] at h, fun _ _ _ _ _ _ _ _ _ _ _ _ _ _ _ r h => by simp [tune_folded.j4] at h, fun _ _ _ _ _ _ _ _ _ _ _ r h => by simp [tune_folded.j5] at h, fun _ _ _ _ _ _ _ _ _ _ r h => by simp [tune_folded.j6] at h⟩
 | k + 1 => by
  obtain ⟨ih0, ih1, ih2, ih3, ih4, ih5, ih6⟩ := tune_folded.mono_l k;refine ⟨?_, ?_, ?_, ?_, ?_, ?_, ?_⟩
  ·intro y0 y1 y2 y3 y4 y5 y6
   unfold tune_folded.j0
   repeat' first
   | (with_reducible exact ih0 _ _ _ _ _ _ _)
   | (with_reducible exact ih1 _ _ _ _ _ _ _ _ _ _ _ _ _ _ _)
   | (with_reducible exact ih2 _ _ _ _ _ _ _ _ _ _ _ _ _ _ _)
   | (with_reducible exact ih3 _ _ _ _ _ _ _ _ _ _ _ _ _ _ _)
   | (with_reducible exact ih4 _ _ _ _ _ _ _ _ _ _ _ _ _ _ _)
   | (with_reducible exact ih5 _ _ _ _ _ _ _ _ _ _ _)
   | (with_reducible exact ih6 _ _ _ _ _ _ _ _ _ _)
   | (with_reducible exact LeO.refl _)
   | (with_reducible exact LeO.none _)
   | (with_reducible refine LeO.ite ?_ ?_)
   | (with_reducible refine LeO.bind ?_ (fun _ => ?_))
   | exact ih0 _ _ _ _ _ _ _
   | exact ih1 _ _ _ _ _ _ _ _ _ _ _ _ _ _ _
   | exact ih2 _ _ _ _ _ _ _ _ _ _ _ _ _ _ _
   | exact ih3 _ _ _ _ _ _ _ _ _ _ _ _ _ _ _
   | exact ih4 _ _ _ _ _ _ _ _ _ _ _ _ _ _ _
   | exact ih5 _ _ _ _ _ _ _ _ _ _ _
   | exact ih6 _ _ _ _ _ _ _ _ _ _
   | exact LeO.none _
   | refine LeO.ite ?_ ?_
   | refine LeO.bind ?_ (fun _ => ?_)
  ·intro y0 y1 y2 y3 y4 y5 y6 y7 y8 y9 y10 y11 y12 y13 y14
   unfold tune_folded.j1
   repeat' first
   | (with_reducible exact ih0 _ _ _ _ _ _ _)
   | (with_reducible exact ih1 _ _ _ _ _ _ _ _ _ _ _ _ _ _ _)
   | (with_reducible exact ih2 _ _ _ _ _ _ _ _ _ _ _ _ _ _ _)
   | (with_reducible exact ih3 _ _ _ _ _ _ _ _ _ _ _ _ _ _ _)
   | (with_reducible exact ih4 _ _ _ _ _ _ _ _ _ _ _ _ _ _ _)
   | (with_reducible exact ih5 _ _ _ _ _ _ _ _ _ _ _)
   | (with_reducible exact ih6 _ _ _ _ _ _ _ _ _ _)
   | (with_reducible exact LeO.refl _)
   | (with_reducible exact LeO.none _)
   | (with_reducible refine LeO.ite ?_ ?_)
   | (with_reducible refine LeO.bind ?_ (fun _ => ?_))
   | exact ih0 _ _ _ _ _ _ _
   | exact ih1 _ _ _ _ _ _ _ _ _ _ _ _ _ _ _
   | exact ih2 _ _ _ _ _ _ _ _ _ _ _ _ _ _ _
   | exact ih3 _ _ _ _ _ _ _ _ _ _ _ _ _ _ _
   | exact ih4 _ _ _ _ _ _ _ _ _ _ _ _ _ _ _
   | exact ih5 _ _ _ _ _ _ _ _ _ _ _
   | exact ih6 _ _ _ _ _ _ _ _ _ _
   | exact LeO.none _
   | refine LeO.ite ?_ ?_
   | refine LeO.bind ?_ (fun _ => ?_)
  ·intro y0 y1 y2 y3 y4 y5 y6 y7 y8 y9 y10 y11 y12 y13 y14
   unfold tune_folded.j2
   repeat' first
   | (with_reducible exact ih0 _ _ _ _ _ _ _)
   | (with_reducible exact ih1 _ _ _ _ _ _ _ _ _ _ _ _ _ _ _)
   | (with_reducible exact ih2 _ _ _ _ _ _ _ _ _ _ _ _ _ _ _)
   | (with_reducible exact ih3 _ _ _ _ _ _ _ _ _ _ _ _ _ _ _)
   | (with_reducible exact ih4 _ _ _ _ _ _ _ _ _ _ _ _ _ _ _)
   | (with_reducible exact ih5 _ _ _ _ _ _ _ _ _ _ _)
   | (with_reducible exact ih6 _ _ _ _ _ _ _ _ _ _)
   | (with_reducible exact LeO.refl _)
   | (with_reducible exact LeO.none _)
   | (with_reducible refine LeO.ite ?_ ?_)
   | (with_reducible refine LeO.bind ?_ (fun _ => ?_))
   | exact ih0 _ _ _ _ _ _ _
   | exact ih1 _ _ _ _ _ _ _ _ _ _ _ _ _ _ _
   | exact ih2 _ _ _ _ _ _ _ _ _ _ _ _ _ _ _
   | exact ih3 _ _ _ _ _ _ _ _ _ _ _ _ _ _ _
   | exact ih4 _ _ _ _ _ _ _ _ _ _ _ _ _ _ _
   | exact ih5 _ _ _ _ _ _ _ _ _ _ _
   | exact ih6 _ _ _ _ _ _ _ _ _ _
   | exact LeO.none _
   | refine LeO.ite ?_ ?_
   | refine LeO.bind ?_ (fun _ => ?_)
  ·intro y0 y1 y2 y3 y4 y5 y6 y7 y8 y9 y10 y11 y12 y13 y14
   unfold tune_folded.j3
   repeat' first
   | (with_reducible exact ih0 _ _ _ _ _ _ _)
   | (with_reducible exact ih1 _ _ _ _ _ _ _ _ _ _ _ _ _ _ _)
   | (with_reducible exact ih2 _ _ _ _ _ _ _ _ _ _ _ _ _ _ _)
   | (with_reducible exact ih3 _ _ _ _ _ _ _ _ _ _ _ _ _ _ _)
   | (with_reducible exact ih4 _ _ _ _ _ _ _ _ _ _ _ _ _ _ _)
   | (with_reducible exact ih5 _ _ _ _ _ _ _ _ _ _ _)
   | (with_reducible exact ih6 _ _ _ _ _ _ _ _ _ _)
   | (with_reducible exact LeO.refl _)
   | (with_reducible exact LeO.none _)
   | (with_reducible refine LeO.ite ?_ ?_)
   | (with_reducible refine LeO.bind ?_ (fun _ => ?_))
   | exact ih0 _ _ _ _ _ _ _
   | exact ih1 _ _ _ _ _ _ _ _ _ _ _ _ _ _ _
   | exact ih2 _ _ _ _ _ _ _ _ _ _ _ _ _ _ _
   | exact ih3 _ _ _ _ _ _ _ _ _ _ _ _ _ _ _
   | exact ih4 _ _ _ _ _ _ _ _ _ _ _ _ _ _ _
   | exact ih5 _ _ _ _ _ _ _ _ _ _ _
   | exact ih6 _ _ _ _ _ _ _ _ _ _
   | exact LeO.none _
   | refine LeO.ite ?_ ?_
   | refine LeO.bind ?_ (fun _ => ?_)
  ·intro y0 y1 y2 y3 y4 y5 y6 y7 y8 y9 y10 y11 y12 y13 y14
   unfold tune_folded.j4
   repeat' first
   | (with_reducible exact ih0 _ _ _ _ _ _ _)
   | (with_reducible exact ih1 _ _ _ _ _ _ _ _ _ _ _ _ _ _ _)
   | (with_reducible exact ih2 _ _ _ _ _ _ _ _ _ _ _ _ _ _ _)
   | (with_reducible exact ih3 _ _ _ _ _ _ _ _ _ _ _ _ _ _ _)
   | (with_reducible exact ih4 _ _ _ _ _ _ _ _ _ _ _ _ _ _ _)
   | (with_reducible exact ih5 _ _ _ _ _ _ _ _ _ _ _)
   | (with_reducible exact ih6 _ _ _ _ _ _ _ _ _ _)
   | (with_reducible exact LeO.refl _)
   | (with_reducible exact LeO.none _)
   | (with_reducible refine LeO.ite ?_ ?_)
   | (with_reducible refine LeO.bind ?_ (fun _ => ?_))
   | exact ih0 _ _ _ _ _ _ _
   | exact ih1 _ _ _ _ _ _ _ _ _ _ _ _ _ _ _
   | exact ih2 _ _ _ _ _ _ _ _ _ _ _ _ _ _ _
   | exact ih3 _ _ _ _ _ _ _ _ _ _ _ _ _ _ _
   | exact ih4 _ _ _ _ _ _ _ _ _ _ _ _ _ _ _
   | exact ih5 _ _ _ _ _ _ _ _ _ _ _
   | exact ih6 _ _ _ _ _ _ _ _ _ _
   | exact LeO.none _
   | refine LeO.ite ?_ ?_
   | refine LeO.bind ?_ (fun _ => ?_)
  ·intro y0 y1 y2 y3 y4 y5 y6 y7 y8 y9 y10
   unfold tune_folded.j5
   repeat' first
   | (with_reducible exact ih0 _ _ _ _ _ _ _)
   | (with_reducible exact ih1 _ _ _ _ _ _ _ _ _ _ _ _ _ _ _)
   | (with_reducible exact ih2 _ _ _ _ _ _ _ _ _ _ _ _ _ _ _)
   | (with_reducible exact ih3 _ _ _ _ _ _ _ _ _ _ _ _ _ _ _)
   | (with_reducible exact ih4 _ _ _ _ _ _ _ _ _ _ _ _ _ _ _)
   | (with_reducible exact ih5 _ _ _ _ _ _ _ _ _ _ _)
   | (with_reducible exact ih6 _ _ _ _ _ _ _ _ _ _)
   | (with_reducible exact LeO.refl _)
   | (with_reducible exact LeO.none _)
   | (with_reducible refine LeO.ite ?_ ?_)
   | (with_reducible refine LeO.bind ?_ (fun _ => ?_))
   | exact ih0 _ _ _ _ _ _ _
   | exact ih1 _ _ _ _ _ _ _ _ _ _ _ _ _ _ _
   | exact ih2 _ _ _ _ _ _ _ _ _ _ _ _ _ _ _
   | exact ih3 _ _ _ _ _ _ _ _ _ _ _ _ _ _ _
   | exact ih4 _ _ _ _ _ _ _ _ _ _ _ _ _ _ _
   | exact ih5 _ _ _ _ _ _ _ _ _ _ _
   | exact ih6 _ _ _ _ _ _ _ _ _ _
   | exact LeO.none _
   | refine LeO.ite ?_ ?_
   | refine LeO.bind ?_ (fun _ => ?_)
  ·intro y0 y1 y2 y3 y4 y5 y6 y7 y8 y9
   unfold tune_folded.j6
   repeat' first
   | (with_reducible exact ih0 _ _ _ _ _ _ _)
   | (with_reducible exact ih1 _ _ _ _ _ _ _ _ _ _ _ _ _ _ _)
   | (with_reducible exact ih2 _ _ _ _ _ _ _ _ _ _ _ _ _ _ _)
   | (with_reducible exact ih3 _ _ _ _ _ _ _ _ _ _ _ _ _ _ _)
   | (with_reducible exact ih4 _ _ _ _ _ _ _ _ _ _ _ _ _ _ _)
   | (with_reducible exact ih5 _ _ _ _ _ _ _ _ _ _ _)
   | (with_reducible exact ih6 _ _ _ _ _ _ _ _ _ _)
   | (with_reducible exact LeO.refl _)
   | (with_reducible exact LeO.none _)
   | (with_reducible refine LeO.ite ?_ ?_)
   | (with_reducible refine LeO.bind ?_ (fun _ => ?_))
   | exact ih0 _ _ _ _ _ _ _
   | exact ih1 _ _ _ _ _ _ _ _ _ _ _ _ _ _ _
   | exact ih2 _ _ _ _ _ _ _ _ _ _ _ _ _ _ _
   | exact ih3 _ _ _ _ _ _ _ _ _ _ _ _ _ _ _
   | exact ih4 _ _ _ _ _ _ _ _ _ _ _ _ _ _ _
   | exact ih5 _ _ _ _ _ _ _ _ _ _ _
   | exact ih6 _ _ _ _ _ _ _ _ _ _
   | exact LeO.none _
   | refine LeO.ite ?_ ?_
   | refine LeO.bind ?_ (fun _ => ?_)
theorem tune_folded.mono : ∀ a0 a1 a2 a3 a4 a5 k, LeO (tune_folded.f k a0 a1 a2 a3 a4 a5) (tune_folded.f (k + 1) a0 a1 a2 a3 a4 a5) := by
 intro a0 a1 a2 a3 a4 a5 k;obtain ⟨ih0, ih1, ih2, ih3, ih4, ih5, ih6⟩ := tune_folded.mono_l k;unfold tune_folded.f
 repeat' first
   | (with_reducible exact ih0 _ _ _ _ _ _ _)
   | (with_reducible exact ih1 _ _ _ _ _ _ _ _ _ _ _ _ _ _ _)
   | (with_reducible exact ih2 _ _ _ _ _ _ _ _ _ _ _ _ _ _ _)
   | (with_reducible exact ih3 _ _ _ _ _ _ _ _ _ _ _ _ _ _ _)
   | (with_reducible exact ih4 _ _ _ _ _ _ _ _ _ _ _ _ _ _ _)
   | (with_reducible exact ih5 _ _ _ _ _ _ _ _ _ _ _)
   | (with_reducible exact ih6 _ _ _ _ _ _ _ _ _ _)
   | (with_reducible exact LeO.refl _)
   | (with_reducible exact LeO.none _)
   | (with_reducible refine LeO.ite ?_ ?_)
   | (with_reducible refine LeO.bind ?_ (fun _ => ?_))
   | exact ih0 _ _ _ _ _ _ _
   | exact ih1 _ _ _ _ _ _ _ _ _ _ _ _ _ _ _
   | exact ih2 _ _ _ _ _ _ _ _ _ _ _ _ _ _ _
   | exact ih3 _ _ _ _ _ _ _ _ _ _ _ _ _ _ _
   | exact ih4 _ _ _ _ _ _ _ _ _ _ _ _ _ _ _
   | exact ih5 _ _ _ _ _ _ _ _ _ _ _
   | exact ih6 _ _ _ _ _ _ _ _ _ _
   | exact LeO.none _
   | refine LeO.ite ?_ ?_
   | refine LeO.bind ?_ (fun _ => ?_)
def tune_folded.T5 : Bool × List (List Nat × List Nat) := (true, [([], []), ([], []), ([1], [1]), ([0, 2], [0, 2]), ([3], [3]), ([], []), ([], []), ([6], [6]), ([5, 7], [5, 7]), ([8], [8]), ([], []), ([], []), ([10, 4, 0, 1, 2, 3, 4, 10, 11], [4, 10]), ([11, 9, 12, 0, 1, 2, 3, 4, 5, 6, 7, 8, 9, 10, 11, 12], [9, 11])])
def tune_folded.B5 : List Nat := [0, 0, 2, 7, 15, 0, 0, 64, 224, 480, 0, 0, 3103, 8191]
theorem tune_folded.tab5 : rtab .any (opsOf Try.f39 5) = tune_folded.T5 := by kernel_rfl
theorem tune_folded.bits5 : waitsOk tune_folded.T5.2 tune_folded.B5 = true := by kernel_rfl
def tune_folded.T18 : Bool × List (List Nat × List Nat) := (true, [([], []), ([], []), ([1], [1]), ([], []), ([], []), ([4], [4]), ([], []), ([6], [6]), ([3, 5, 7], [3, 5, 7]), ([0, 2, 8, 8], [0, 2, 8]), ([9], [9]), ([9], [9]), ([10, 9, 0, 1, 2, 3, 4, 5, 6, 7, 8, 9, 10, 11], [10]), ([11, 12, 0, 1, 2, 3, 4, 5, 6, 7, 8, 9, 10, 11, 12], [11])])
def tune_folded.B18 : List Nat := [0, 0, 2, 0, 0, 16, 0, 64, 248, 511, 1023, 1023, 4095, 8191]
theorem tune_folded.tab18 : rtab .any (opsOf Try.f39 18) = tune_folded.T18 := by kernel_rfl
theorem tune_folded.bits18 : waitsOk tune_folded.T18.2 tune_folded.B18 = true := by kernel_rfl
theorem tune_folded.calls (k : Nat) (a0 : Int) (A1 : Option Addr) (c1 : Nat) (l1 : List (S61)) (aw : Int) (ab : Int) (ae : Int) (aD : Int) (r1 : Int) (r2 : Int) (r3 : Int) (r4 : Int) (r5 : Bool) (w : World) (hr1 : Kd.C k61 w A1 l1.length l1) (hc1 : l1.length ≤ c1) (h : tune_folded.f k a0 l1 aw ab ae aD = some (r1, r2, r3, r4, r5)) :
  Calls Try.prog 39 #[.int .u64 a0, .slice A1 l1.length c1, .agg #[.int .i64 aw, .int .i64 ab, .int .i64 ae, .int .u64 aD]] w fun e w' => e = .returned (.tuple #[.agg #[.int .i64 r1, .int .i64 r2, .int .i64 r3, .int .u64 r4], .bool r5]) ∧ Below w.heap.size w w' := by
 have hu61 := Try.underlying61;have HR1 := Aside0.mk hr1;have HC1 := Aside0.mk hc1;clear hr1 hc1;have HB := Aside0.mk (Below.refl w.heap.size w);have H : (if aw = 1 then (tune_folded.j0 k a0 l1 true aw ab ae aD) else (tune_folded.j0 k a0 l1 (aw == 2) aw ab ae aD)) = some (r1, r2, r3, r4, r5) := h;clear h;have HC4 := Aside0.mk H;clear H;go_enter Try.func39, Try.ntmps39;go_upto_region 3 with (first | ((with_reducible refine qga (N := 5) rfl ?_); refine box_event ?hg (N := 5) ?hd (cs := #[.int .i64 aw, .int .i64 ab, .int .i64 ae, .int .u64 aD]) (t := 61) ?hr ?_; (case hd => rfl); (case hg => rfl); (case hr => first | (go_simp; done) | (go_simp; rfl)); intro aB hg w5 hbox hb; have aa := am hbox; have gY := kG HB hg; have gZ := kG HB hg; replace HB := kH HB hb; clear hb hbox hg) | ((with_reducible refine qga (N := 6) rfl ?_); refine box_event ?hg (N := 6) ?hd (cs := #[.int .i64 0, .int .i64 0, .int .i64 0, .int .u64 0]) (t := 61) ?hr ?_; (case hd => rfl); (case hg => rfl); (case hr => first | (go_simp; done) | (go_simp; rfl)); intro aC hg w6 hbox hb; have af := am hbox; have ha := kG HB hg; have hl := kG HB hg; replace HB := kH HB hb; have ax := kP aa hg; have ay := kQ aa hg; replace aa := kU aa hb; clear hb hbox hg));(try simp only [Act.put, qS1, qS2, qS3]);go_cut [20] (fun v20 wc => ∃ (kq : Nat) (bq : Bool), v20 = .bool bq ∧ Aside0 (tune_folded.j0 kq a0 l1 bq aw ab ae aD = some (r1, r2, r3, r4, r5)) ∧ Aside0 (kq ≤ k) ∧ Aside0 (wc.heap[aB]? = some (.cells #[.int .i64 aw, .int .i64 ab, .int .i64 ae, .int .u64 aD] 61 (0, 0))) ∧ Aside0 (wc.heap[aC]? = some (.cells #[.int .i64 0, .int .i64 0, .int .i64 0, .int .u64 0] 61 (0, 0))) ∧ Aside0 (Below w.heap.size w wc))
 case first =>
  have H := HC4.out;clear HC4
  by_cases c7 : aw = 1
  rotate_left
  ·rw [if_neg c7] at H
   have bz := beq_eq_false_iff_ne.mpr c7;have eC := bne_iff_ne.mpr c7;(first | rw [bz] | (simp only [i64_w, i32_w]; rw [bz]) | skip);have H' := Aside0.mk H;clear H;have hm := ax.out;have ht := ay.out;have Z11 := kz4 aa;go_wp2;go_meet
   case rel => exact ⟨_, ((aw == 2)), et, H', ⟨by first | omega | exact Nat.le_refl _⟩, ⟨kg aa⟩, ⟨kg af⟩, ⟨kh HB⟩⟩
  rw [if_pos c7] at H;have bz := beq_iff_eq.mpr c7;have eC := bne_eq_false_iff_eq.mpr c7;clear c7;(first | rw [bz] | (simp only [i64_w, i32_w]; rw [bz]) | skip);have H' := Aside0.mk H;clear H;have jn := ax.out;have jo := ay.out;have Z9 := kz4 aa;go_wp2;go_meet
  case rel => exact ⟨_, (true), et, H', ⟨by first | omega | exact Nat.le_refl _⟩, ⟨kg aa⟩, ⟨kg af⟩, ⟨kh HB⟩⟩
 clear HC4;obtain ⟨kq, bq, rfl, HA, HJ3, aa, af, HB⟩ := hcut
 cases kq with
 | zero => exact absurd HA.out (by simp [tune_folded.j0])
 | succ kj3 =>
  have H := HA.out;clear HA;simp only [tune_folded.j0] at H
  by_cases c12 : bq = true
  ·subst c12
   replace H := ifT H;simp only [Option.some.injEq, Prod.mk.injEq] at H;obtain ⟨rfl, rfl, rfl, rfl, rfl⟩ := H;have hv := ax.out;have hy := ay.out;have Z14 := kz4 aa;have Z15 := kz4 af;go_wp2;refine bodyPost_ret (results_ct rfl _ _ aC 61 #[.int .i64 aw, .int .i64 ab, .int .i64 ae, .int .u64 aD] (0, 0) _ rfl (kg af) Try.underlying61 rfl (by kernel_rfl)) rfl ?_;exact ⟨er, kh HB⟩
  replace c12 := Bool.eq_false_iff.mpr c12;subst c12;replace H := ifF H
  by_cases c16 : 0 ≤ ab
  rotate_left
  ·rw [if_neg c16] at H
   exact absurd H (by simp)
  rw [if_pos c16] at H;have ck := decide_eq_true c16;clear c16
  by_cases c17 : ab < (l1.length : Int)
  rotate_left
  ·rw [if_neg c17] at H
   exact absurd H (by simp)
  rw [if_pos c17] at H;have cl := decide_eq_true c17;clear c17
  by_cases c18 : 0 ≤ ae
  rotate_left
  ·rw [if_neg c18] at H
   exact absurd H (by simp)
  rw [if_pos c18] at H;have cm := decide_eq_true c18;clear c18
  by_cases c19 : ae < (l1.length : Int)
  rotate_left
  ·rw [if_neg c19] at H
   exact absurd H (by simp)
  rw [if_pos c19] at H;have cn := decide_eq_true c19;clear c19;have bV := Aside0.mk H;clear H;(try go_wp2);replace aa := kD aa; replace af := kD af; replace HB := kE HB;have bH : 0 ≤ (ab : Int) := od;have bI : ab < (l1.length : Int) := od;obtain ⟨aA, eD, aE, aF, aG, aH⟩ := at_T61 HR1.out ab bH bI;have aM := aH; have aN := aG; have aO := aF; have aP := aE;cases eD;replace aE := (HB.out.cell (World.block_lt_of_cell? w _ aE)).trans aE;replace aF := (HB.out.cell (World.block_lt_of_cell? w _ aF)).trans aF;replace aG := (HB.out.cell (World.block_lt_of_cell? w _ aG)).trans aG;replace aH := (HB.out.cell (World.block_lt_of_cell? w _ aH)).trans aH;replace bH := eq_true bH; replace bI := eq_true bI;have bJ : 0 ≤ (ae : Int) := od;have bK : ae < (l1.length : Int) := od;obtain ⟨co, eE, aI, aJ, aK, aL⟩ := at_T61 HR1.out ae bJ bK;have aQ := aL; have aR := aK; have aS := aJ; have aT := aI;obtain rfl : aA = co := (by injection eE);replace aI := (HB.out.cell (World.block_lt_of_cell? w _ aI)).trans aI;replace aJ := (HB.out.cell (World.block_lt_of_cell? w _ aJ)).trans aJ;replace aK := (HB.out.cell (World.block_lt_of_cell? w _ aK)).trans aK;replace aL := (HB.out.cell (World.block_lt_of_cell? w _ aL)).trans aL;replace bJ := eq_true bJ; replace bK := eq_true bK;refine start_ (n := 14) (S := fun w' => w'.cell? ⟨aB, 0, none⟩ = some (.int .i64 aw) ∧ w'.cell? ⟨aB, 1, none⟩ = some (.int .i64 ab) ∧ w'.cell? ⟨aB, 2, none⟩ = some (.int .i64 ae) ∧ w'.cell? ⟨aB, 3, none⟩ = some (.int .u64 aD) ∧ w'.cell? (aA.add ((ab).toNat * 4)) = some (.int .i64 ((rd_T61 l1 ab).f0)) ∧ w'.cell? ⟨(aA.add ((ab).toNat * 4)).block, (aA.add ((ab).toNat * 4)).off + 1, none⟩ = some (.int .i64 ((rd_T61 l1 ab).f1)) ∧ w'.cell? ⟨(aA.add ((ab).toNat * 4)).block, (aA.add ((ab).toNat * 4)).off + 2, none⟩ = some (.int .i64 ((rd_T61 l1 ab).f2)) ∧ w'.cell? ⟨(aA.add ((ab).toNat * 4)).block, (aA.add ((ab).toNat * 4)).off + 3, none⟩ = some (.int .u64 ((rd_T61 l1 ab).f3)) ∧ w'.cell? (aA.add ((ae).toNat * 4)) = some (.int .i64 ((rd_T61 l1 ae).f0)) ∧ w'.cell? ⟨(aA.add ((ae).toNat * 4)).block, (aA.add ((ae).toNat * 4)).off + 1, none⟩ = some (.int .i64 ((rd_T61 l1 ae).f1)) ∧ w'.cell? ⟨(aA.add ((ae).toNat * 4)).block, (aA.add ((ae).toNat * 4)).off + 2, none⟩ = some (.int .i64 ((rd_T61 l1 ae).f2)) ∧ w'.cell? ⟨(aA.add ((ae).toNat * 4)).block, (aA.add ((ae).toNat * 4)).off + 3, none⟩ = some (.int .u64 ((rd_T61 l1 ae).f3))) (ds := []) (bs 14 0) (by kernel_rfl) rfl rfl ⟨kk aa 0, kk aa 1, kk aa 2, kk aa 3, (kq HB aP), (kq HB aO), (kq HB aN), (kq HB aM), (kq HB aT), (kq HB aS), (kq HB aR), (kq HB aQ)⟩ (fun hHeld => ?_); refine with_tabW tune_folded.tab5 tune_folded.bits5 (fun HT_ HW_ => ?_);generalize wc.drew = w21 at aa af HB aE aF aG aH aI aJ aK aL hHeld ⊢;refine pu 0 (some 22) (bs 14 1) HT_ ?_;refine pu 1 (some 23) (bs 14 3) HT_ ?_;refine pu 5 (some 27) (bs 14 35) HT_ ?_;refine pu 6 (some 28) (bs 14 99) HT_ ?_;refine ta 2 (some 24) (bs 14 103) HT_ HW_ hHeld ?_;refine pu 3 (some 25) (bs 14 111) HT_ ?_;refine ta 4 (some 26) (bs 14 127) HT_ HW_ hHeld ?_;refine ta 7 (some 29) (bs 14 255) HT_ HW_ hHeld ?_;refine pu 8 (some 30) (bs 14 511) HT_ ?_;refine ta 9 (some 31) (bs 14 1023) HT_ HW_ hHeld ?_;refine join_ (σ := Nat × Nat) 2 (bs 14 4095) (fun s_ => [(10, .pointer (some ⟨s_.1, 0, none⟩)), (11, .pointer (some ⟨s_.2, 0, none⟩))]) (fun s_ w' => (w'.cell? ⟨aB, 0, none⟩ = some (.int .i64 aw) ∧ w'.cell? ⟨aB, 1, none⟩ = some (.int .i64 ab) ∧ w'.cell? ⟨aB, 2, none⟩ = some (.int .i64 ae) ∧ w'.cell? ⟨aB, 3, none⟩ = some (.int .u64 aD) ∧ w'.cell? (aA.add ((ab).toNat * 4)) = some (.int .i64 ((rd_T61 l1 ab).f0)) ∧ w'.cell? ⟨(aA.add ((ab).toNat * 4)).block, (aA.add ((ab).toNat * 4)).off + 1, none⟩ = some (.int .i64 ((rd_T61 l1 ab).f1)) ∧ w'.cell? ⟨(aA.add ((ab).toNat * 4)).block, (aA.add ((ab).toNat * 4)).off + 2, none⟩ = some (.int .i64 ((rd_T61 l1 ab).f2)) ∧ w'.cell? ⟨(aA.add ((ab).toNat * 4)).block, (aA.add ((ab).toNat * 4)).off + 3, none⟩ = some (.int .u64 ((rd_T61 l1 ab).f3)) ∧ w'.cell? (aA.add ((ae).toNat * 4)) = some (.int .i64 ((rd_T61 l1 ae).f0)) ∧ w'.cell? ⟨(aA.add ((ae).toNat * 4)).block, (aA.add ((ae).toNat * 4)).off + 1, none⟩ = some (.int .i64 ((rd_T61 l1 ae).f1)) ∧ w'.cell? ⟨(aA.add ((ae).toNat * 4)).block, (aA.add ((ae).toNat * 4)).off + 2, none⟩ = some (.int .i64 ((rd_T61 l1 ae).f2)) ∧ w'.cell? ⟨(aA.add ((ae).toNat * 4)).block, (aA.add ((ae).toNat * 4)).off + 3, none⟩ = some (.int .u64 ((rd_T61 l1 ae).f3))) ∧ (w'.heap[aB]? = some (.cells #[.int .i64 aw, .int .i64 ab, .int .i64 ae, .int .u64 aD] 61 (0, 0))) ∧ (w'.heap[aC]? = some (.cells #[.int .i64 0, .int .i64 0, .int .i64 0, .int .u64 0] 61 (0, 0))) ∧ (w'.heap[s_.1]? = some (.cells #[.int .i64 0, .int .i64 0, .int .i64 0, .int .u64 0] 61 (0, 0))) ∧ (w'.heap[s_.2]? = some (.cells #[.int .i64 0, .int .i64 0, .int .i64 0, .int .u64 0] 61 (0, 0))) ∧ (w.heap.size ≤ s_.1) ∧ (w.heap.size ≤ s_.1) ∧ (aB ≠ s_.1) ∧ (s_.1 ≠ aB) ∧ (aC ≠ s_.1) ∧ (s_.1 ≠ aC) ∧ (s_.2 ≠ s_.1) ∧ (s_.1 ≠ s_.2) ∧ (w.heap.size ≤ s_.2) ∧ (w.heap.size ≤ s_.2) ∧ (aB ≠ s_.2) ∧ (s_.2 ≠ aB) ∧ (aC ≠ s_.2) ∧ (s_.2 ≠ aC) ∧ (Below w.heap.size w w')) ?_ ?_
  rotate_left
  ·intro hCont
   refine two_ (i := 10) (j := 11) (Ni := some 10) (Nj := some 11) (bs 14 2047) (bs 14 3071) rfl rfl rfl rfl (two_of HT_.out (by kernel_rfl)) (by decide) (by decide) (fun K hK => ?_) (fun K hK => ?_)
   ·skip
    refine box_step ?hg (N := 10) ?hd (cs := #[.int .i64 0, .int .i64 0, .int .i64 0, .int .u64 0]) (t := 61) ?hr ?_; (case hd => rfl); (case hg => rfl); (case hr => first | (go_simp; done) | (go_simp; rfl));intro an hg w22 hbox hb;have ag := am hbox; have br := kG HB hg; have bt := kG HB hg; replace HB := kH HB hb; have ai := kP aa hg; have aj := kQ aa hg; replace aa := kU aa hb; have ak := kP af hg; have al := kQ af hg; replace af := kU af hb;clear hb hbox hg;refine hK.out _ _ ⟨kk aa 0, kk aa 1, kk aa 2, kk aa 3, (kq HB aP), (kq HB aO), (kq HB aN), (kq HB aM), (kq HB aT), (kq HB aS), (kq HB aR), (kq HB aQ)⟩ (fun hHeld => ?_);clear hK K;refine no (some 10) ?_;refine one_ (i := 11) (N := some 11) (bs 14 4095) rfl rfl (one_of HT_.out (by kernel_rfl)) (by decide) (fun K hK => ?_);refine box_step ?hg (N := 11) ?hd (cs := #[.int .i64 0, .int .i64 0, .int .i64 0, .int .u64 0]) (t := 61) ?hr ?_; (case hd => rfl); (case hg => rfl); (case hr => first | (go_simp; done) | (go_simp; rfl));intro az hg w23 hbox hb;have ah := am hbox; have bu := kG HB hg; have bv := kG HB hg; replace HB := kH HB hb; have ao := kP aa hg; have ap := kQ aa hg; replace aa := kU aa hb; have aq := kP af hg; have ar := kQ af hg; replace af := kU af hb; have au := kP ag hg; have av := kQ ag hg; replace ag := kU ag hb;clear hb hbox hg;refine hK.out _ _ ⟨kk aa 0, kk aa 1, kk aa 2, kk aa 3, (kq HB aP), (kq HB aO), (kq HB aN), (kq HB aM), (kq HB aT), (kq HB aS), (kq HB aR), (kq HB aQ)⟩ (fun hHeld => ?_);clear hK K;refine no (some 11) ?_;exact norm_ (by simp only [putAll, Act.put, qS1, qS2, qS3]) (hCont (an, az) _ ⟨hHeld, (kb aa), (kb af), (kb ag), (kb ah), br.out, bt.out, ai.out, aj.out, ak.out, al.out, av.out, au.out, bu.out, bv.out, ao.out, ap.out, aq.out, ar.out, (kh HB)⟩)
   ·skip
    refine box_step ?hg (N := 11) ?hd (cs := #[.int .i64 0, .int .i64 0, .int .i64 0, .int .u64 0]) (t := 61) ?hr ?_; (case hd => rfl); (case hg => rfl); (case hr => first | (go_simp; done) | (go_simp; rfl));intro az hg w22 hbox hb;have ah := am hbox; have bu := kG HB hg; have bv := kG HB hg; replace HB := kH HB hb; have ao := kP aa hg; have ap := kQ aa hg; replace aa := kU aa hb; have aq := kP af hg; have ar := kQ af hg; replace af := kU af hb;clear hb hbox hg;refine hK.out _ _ ⟨kk aa 0, kk aa 1, kk aa 2, kk aa 3, (kq HB aP), (kq HB aO), (kq HB aN), (kq HB aM), (kq HB aT), (kq HB aS), (kq HB aR), (kq HB aQ)⟩ (fun hHeld => ?_);clear hK K;refine no (some 11) ?_;refine one_ (i := 10) (N := some 10) (bs 14 4095) rfl rfl (one_of HT_.out (by kernel_rfl)) (by decide) (fun K hK => ?_);refine box_step ?hg (N := 10) ?hd (cs := #[.int .i64 0, .int .i64 0, .int .i64 0, .int .u64 0]) (t := 61) ?hr ?_; (case hd => rfl); (case hg => rfl); (case hr => first | (go_simp; done) | (go_simp; rfl));intro an hg w23 hbox hb;have ag := am hbox; have br := kG HB hg; have bt := kG HB hg; replace HB := kH HB hb; have ai := kP aa hg; have aj := kQ aa hg; replace aa := kU aa hb; have ak := kP af hg; have al := kQ af hg; replace af := kU af hb; have av := kP ah hg; have au := kQ ah hg; replace ah := kU ah hb;clear hb hbox hg;refine hK.out _ _ ⟨kk aa 0, kk aa 1, kk aa 2, kk aa 3, (kq HB aP), (kq HB aO), (kq HB aN), (kq HB aM), (kq HB aT), (kq HB aS), (kq HB aR), (kq HB aQ)⟩ (fun hHeld => ?_);clear hK K;refine no (some 10) ?_;exact norm_ (by simp only [putAll, Act.put, qS1, qS2, qS3]) (hCont (an, az) _ ⟨hHeld, (kb aa), (kb af), (kb ag), (kb ah), br.out, bt.out, ai.out, aj.out, ak.out, al.out, av.out, au.out, bu.out, bv.out, ao.out, ap.out, aq.out, ar.out, (kh HB)⟩)
  rintro ⟨an, az⟩ w24 ⟨hS_, h0_, h1_, h2_, h3_, h4_, h5_, h6_, h7_, h8_, h9_, h10_, h11_, h12_, h13_, h14_, h15_, h16_, h17_, h18_⟩;replace aa : Aside0 (w24.heap[aB]? = some (.cells #[.int .i64 aw, .int .i64 ab, .int .i64 ae, .int .u64 aD] 61 (0, 0))) := ⟨h0_⟩; replace af : Aside0 (w24.heap[aC]? = some (.cells #[.int .i64 0, .int .i64 0, .int .i64 0, .int .u64 0] 61 (0, 0))) := ⟨h1_⟩; have ag : Aside0 (w24.heap[an]? = some (.cells #[.int .i64 0, .int .i64 0, .int .i64 0, .int .u64 0] 61 (0, 0))) := ⟨h2_⟩; have ah : Aside0 (w24.heap[az]? = some (.cells #[.int .i64 0, .int .i64 0, .int .i64 0, .int .u64 0] 61 (0, 0))) := ⟨h3_⟩; have br : Aside0 (w.heap.size ≤ an) := ⟨h4_⟩; have bt : Aside0 (w.heap.size ≤ an) := ⟨h5_⟩; have ai : Aside0 (aB ≠ an) := ⟨h6_⟩; have aj : Aside0 (an ≠ aB) := ⟨h7_⟩; have ak : Aside0 (aC ≠ an) := ⟨h8_⟩; have al : Aside0 (an ≠ aC) := ⟨h9_⟩; have av : Aside0 (az ≠ an) := ⟨h10_⟩; have au : Aside0 (an ≠ az) := ⟨h11_⟩; have bu : Aside0 (w.heap.size ≤ az) := ⟨h12_⟩; have bv : Aside0 (w.heap.size ≤ az) := ⟨h13_⟩; have ao : Aside0 (aB ≠ az) := ⟨h14_⟩; have ap : Aside0 (az ≠ aB) := ⟨h15_⟩; have aq : Aside0 (aC ≠ az) := ⟨h16_⟩; have ar : Aside0 (az ≠ aC) := ⟨h17_⟩; replace HB : Aside0 (Below w.heap.size w w24) := ⟨h18_⟩; clear h0_ h10_ h11_ h12_ h13_ h14_ h15_ h16_ h17_ h18_ h1_ h2_ h3_ h4_ h5_ h6_ h7_ h8_ h9_;have hHeld : w24.cell? ⟨aB, 0, none⟩ = some (.int .i64 aw) ∧ w24.cell? ⟨aB, 1, none⟩ = some (.int .i64 ab) ∧ w24.cell? ⟨aB, 2, none⟩ = some (.int .i64 ae) ∧ w24.cell? ⟨aB, 3, none⟩ = some (.int .u64 aD) ∧ w24.cell? (aA.add ((ab).toNat * 4)) = some (.int .i64 ((rd_T61 l1 ab).f0)) ∧ w24.cell? ⟨(aA.add ((ab).toNat * 4)).block, (aA.add ((ab).toNat * 4)).off + 1, none⟩ = some (.int .i64 ((rd_T61 l1 ab).f1)) ∧ w24.cell? ⟨(aA.add ((ab).toNat * 4)).block, (aA.add ((ab).toNat * 4)).off + 2, none⟩ = some (.int .i64 ((rd_T61 l1 ab).f2)) ∧ w24.cell? ⟨(aA.add ((ab).toNat * 4)).block, (aA.add ((ab).toNat * 4)).off + 3, none⟩ = some (.int .u64 ((rd_T61 l1 ab).f3)) ∧ w24.cell? (aA.add ((ae).toNat * 4)) = some (.int .i64 ((rd_T61 l1 ae).f0)) ∧ w24.cell? ⟨(aA.add ((ae).toNat * 4)).block, (aA.add ((ae).toNat * 4)).off + 1, none⟩ = some (.int .i64 ((rd_T61 l1 ae).f1)) ∧ w24.cell? ⟨(aA.add ((ae).toNat * 4)).block, (aA.add ((ae).toNat * 4)).off + 2, none⟩ = some (.int .i64 ((rd_T61 l1 ae).f2)) ∧ w24.cell? ⟨(aA.add ((ae).toNat * 4)).block, (aA.add ((ae).toNat * 4)).off + 3, none⟩ = some (.int .u64 ((rd_T61 l1 ae).f3)) := hS_;refine norm_ (a' := ?_) ?_ ?_
  rotate_left
  ·simp only [putAll, Act.put, qS1, qS2, qS3]
   rfl
  refine one_ (i := 12) (N := none) (bs 14 8191) rfl rfl (one_of HT_.out (by kernel_rfl)) (by decide) (fun K hK => ?_);have jp : w24.cell? ⟨an, 0, none⟩ = some (.int .i64 0) := kk ag 0;have hA := blk_frozen ag.out 0;have dE := ai.out;have dF := ak.out;have dG := av.out;have dH := aj.out;have dI := al.out;have dJ := au.out;have jq : w24.cell? ⟨an, 1, none⟩ = some (.int .i64 0) := kk ag 1;have hB := blk_frozen ag.out 1;have dK := ai.out;have dL := ak.out;have dM := av.out;have dN := aj.out;have dO := al.out;have dP := au.out;have jr : w24.cell? ⟨an, 2, none⟩ = some (.int .i64 0) := kk ag 2;have hD := blk_frozen ag.out 2;have dQ := ai.out;have dR := ak.out;have dS := av.out;have dT := aj.out;have dU := al.out;have dV := au.out;have js : w24.cell? ⟨an, 3, none⟩ = some (.int .u64 0) := kk ag 3;have hE := blk_frozen ag.out 3;have dW := ai.out;have dX := ak.out;have dY := av.out;have dZ := aj.out;have ea := al.out;have eb := au.out;refine skip_ (w1 := ?_) (by rfl) rfl ?_ ?_
  rotate_left
  ·go_simp
   rfl
  refine hK.out _ _ ⟨(kf hHeld.1), (kf hHeld.2.1), (kf hHeld.2.2.1), (kf hHeld.2.2.2.1), (kf hHeld.2.2.2.2.1), (kf hHeld.2.2.2.2.2.1), (kf hHeld.2.2.2.2.2.2.1), (kf hHeld.2.2.2.2.2.2.2.1), (kf hHeld.2.2.2.2.2.2.2.2.1), (kf hHeld.2.2.2.2.2.2.2.2.2.1), (kf hHeld.2.2.2.2.2.2.2.2.2.2.1), (kf hHeld.2.2.2.2.2.2.2.2.2.2.2)⟩ (fun hHeld => ?_);clear hK K;refine one_ (i := 13) (N := none) (bs 14 16383) rfl rfl (one_of HT_.out (by kernel_rfl)) (by decide) (fun K hK => ?_);have jt : w24.cell? ⟨az, 0, none⟩ = some (.int .i64 0) := kk ah 0;have hF := blk_frozen ah.out 0;have ec := ao.out;have ed := aq.out;have ee := au.out;have ef := ap.out;have eg := ar.out;have eh := av.out;have ju : w24.cell? ⟨az, 1, none⟩ = some (.int .i64 0) := kk ah 1;have hG := blk_frozen ah.out 1;have ei := ao.out;have ej := aq.out;have ek := au.out;have el := ap.out;have em := ar.out;have en := av.out;have jv : w24.cell? ⟨az, 2, none⟩ = some (.int .i64 0) := kk ah 2;have hH := blk_frozen ah.out 2;have eo := ao.out;have ep := aq.out;have eq := au.out;have es := ap.out;have eu := ar.out;have ev := av.out;have jw : w24.cell? ⟨az, 3, none⟩ = some (.int .u64 0) := kk ah 3;have hI := blk_frozen ah.out 3;have ew := ao.out;have ex := aq.out;have ey := au.out;have ez := ap.out;have eA := ar.out;have eB := av.out;refine skip_ (w1 := ?_) (by rfl) rfl ?_ ?_
  rotate_left
  ·go_simp
   rfl
  refine hK.out _ _ ⟨(kf hHeld.1), (kf hHeld.2.1), (kf hHeld.2.2.1), (kf hHeld.2.2.2.1), (kf hHeld.2.2.2.2.1), (kf hHeld.2.2.2.2.2.1), (kf hHeld.2.2.2.2.2.2.1), (kf hHeld.2.2.2.2.2.2.2.1), (kf hHeld.2.2.2.2.2.2.2.2.1), (kf hHeld.2.2.2.2.2.2.2.2.2.1), (kf hHeld.2.2.2.2.2.2.2.2.2.2.1), (kf hHeld.2.2.2.2.2.2.2.2.2.2.2)⟩ (fun hHeld => ?_);clear hK K;refine done_ (done_of HT_.out (by kernel_rfl)) ?_;have n0_ : Aside0 (((((((((w24.setCell ⟨an, 0, none⟩ (.int .i64 ((rd_T61 l1 ab).f0))).setCell ⟨an, 1, none⟩ (.int .i64 ((rd_T61 l1 ab).f1))).setCell ⟨an, 2, none⟩ (.int .i64 ((rd_T61 l1 ab).f2))).setCell ⟨an, 3, none⟩ (.int .u64 ((rd_T61 l1 ab).f3))).setCell ⟨az, 0, none⟩ (.int .i64 ((rd_T61 l1 ae).f0))).setCell ⟨az, 1, none⟩ (.int .i64 ((rd_T61 l1 ae).f1))).setCell ⟨az, 2, none⟩ (.int .i64 ((rd_T61 l1 ae).f2))).setCell ⟨az, 3, none⟩ (.int .u64 ((rd_T61 l1 ae).f3))).heap[aB]? = some (.cells #[.int .i64 aw, .int .i64 ab, .int .i64 ae, .int .u64 aD] 61 (0, 0))) := ⟨kg aa⟩;have n1_ : Aside0 (((((((((w24.setCell ⟨an, 0, none⟩ (.int .i64 ((rd_T61 l1 ab).f0))).setCell ⟨an, 1, none⟩ (.int .i64 ((rd_T61 l1 ab).f1))).setCell ⟨an, 2, none⟩ (.int .i64 ((rd_T61 l1 ab).f2))).setCell ⟨an, 3, none⟩ (.int .u64 ((rd_T61 l1 ab).f3))).setCell ⟨az, 0, none⟩ (.int .i64 ((rd_T61 l1 ae).f0))).setCell ⟨az, 1, none⟩ (.int .i64 ((rd_T61 l1 ae).f1))).setCell ⟨az, 2, none⟩ (.int .i64 ((rd_T61 l1 ae).f2))).setCell ⟨az, 3, none⟩ (.int .u64 ((rd_T61 l1 ae).f3))).heap[aC]? = some (.cells #[.int .i64 0, .int .i64 0, .int .i64 0, .int .u64 0] 61 (0, 0))) := ⟨kg af⟩;have n2_ : Aside0 (((((((((w24.setCell ⟨an, 0, none⟩ (.int .i64 ((rd_T61 l1 ab).f0))).setCell ⟨an, 1, none⟩ (.int .i64 ((rd_T61 l1 ab).f1))).setCell ⟨an, 2, none⟩ (.int .i64 ((rd_T61 l1 ab).f2))).setCell ⟨an, 3, none⟩ (.int .u64 ((rd_T61 l1 ab).f3))).setCell ⟨az, 0, none⟩ (.int .i64 ((rd_T61 l1 ae).f0))).setCell ⟨az, 1, none⟩ (.int .i64 ((rd_T61 l1 ae).f1))).setCell ⟨az, 2, none⟩ (.int .i64 ((rd_T61 l1 ae).f2))).setCell ⟨az, 3, none⟩ (.int .u64 ((rd_T61 l1 ae).f3))).heap[an]? = some (.cells #[.int .i64 ((rd_T61 l1 ab).f0), .int .i64 ((rd_T61 l1 ab).f1), .int .i64 ((rd_T61 l1 ab).f2), .int .u64 ((rd_T61 l1 ab).f3)] 61 (0, 0))) := ⟨kg ag⟩;have n3_ : Aside0 (((((((((w24.setCell ⟨an, 0, none⟩ (.int .i64 ((rd_T61 l1 ab).f0))).setCell ⟨an, 1, none⟩ (.int .i64 ((rd_T61 l1 ab).f1))).setCell ⟨an, 2, none⟩ (.int .i64 ((rd_T61 l1 ab).f2))).setCell ⟨an, 3, none⟩ (.int .u64 ((rd_T61 l1 ab).f3))).setCell ⟨az, 0, none⟩ (.int .i64 ((rd_T61 l1 ae).f0))).setCell ⟨az, 1, none⟩ (.int .i64 ((rd_T61 l1 ae).f1))).setCell ⟨az, 2, none⟩ (.int .i64 ((rd_T61 l1 ae).f2))).setCell ⟨az, 3, none⟩ (.int .u64 ((rd_T61 l1 ae).f3))).heap[az]? = some (.cells #[.int .i64 ((rd_T61 l1 ae).f0), .int .i64 ((rd_T61 l1 ae).f1), .int .i64 ((rd_T61 l1 ae).f2), .int .u64 ((rd_T61 l1 ae).f3)] 61 (0, 0))) := ⟨kg ah⟩;have n4_ : Aside0 (Below w.heap.size w ((((((((w24.setCell ⟨an, 0, none⟩ (.int .i64 ((rd_T61 l1 ab).f0))).setCell ⟨an, 1, none⟩ (.int .i64 ((rd_T61 l1 ab).f1))).setCell ⟨an, 2, none⟩ (.int .i64 ((rd_T61 l1 ab).f2))).setCell ⟨an, 3, none⟩ (.int .u64 ((rd_T61 l1 ab).f3))).setCell ⟨az, 0, none⟩ (.int .i64 ((rd_T61 l1 ae).f0))).setCell ⟨az, 1, none⟩ (.int .i64 ((rd_T61 l1 ae).f1))).setCell ⟨az, 2, none⟩ (.int .i64 ((rd_T61 l1 ae).f2))).setCell ⟨az, 3, none⟩ (.int .u64 ((rd_T61 l1 ae).f3)))) := ⟨kh HB⟩;(try clear aa af ag ah HB);generalize ((((((((w24.setCell ⟨an, 0, none⟩ (.int .i64 ((rd_T61 l1 ab).f0))).setCell ⟨an, 1, none⟩ (.int .i64 ((rd_T61 l1 ab).f1))).setCell ⟨an, 2, none⟩ (.int .i64 ((rd_T61 l1 ab).f2))).setCell ⟨an, 3, none⟩ (.int .u64 ((rd_T61 l1 ab).f3))).setCell ⟨az, 0, none⟩ (.int .i64 ((rd_T61 l1 ae).f0))).setCell ⟨az, 1, none⟩ (.int .i64 ((rd_T61 l1 ae).f1))).setCell ⟨az, 2, none⟩ (.int .i64 ((rd_T61 l1 ae).f2))).setCell ⟨az, 3, none⟩ (.int .u64 ((rd_T61 l1 ae).f3))) = w25a at n0_ n1_ n2_ n3_ n4_ ⊢;have aa := n0_; have af := n1_; have ag := n2_; have ah := n3_; have HB := n4_; clear n0_ n1_ n2_ n3_ n4_;have hJ := ax.out;have hL := ay.out;have hM := ai.out;have hO := aj.out;have hP := ao.out;have hQ := ap.out;have Z36 := kz4 aa;go_upto_region 7 with (fail);go_cut [12, 35] (fun v12 v35 wc => ∃ (kq : Nat) (be : Bool), v12 = .bool (aw != 6) ∧ v35 = .bool be ∧ Aside0 (tune_folded.j1 kq a0 (aw != 6) be aw ab ae aD ((rd_T61 l1 ab).f0) ((rd_T61 l1 ab).f1) ((rd_T61 l1 ab).f2) ((rd_T61 l1 ab).f3) ((rd_T61 l1 ae).f0) ((rd_T61 l1 ae).f1) ((rd_T61 l1 ae).f2) ((rd_T61 l1 ae).f3) = some (r1, r2, r3, r4, r5)) ∧ Aside0 (kq ≤ kj3) ∧ Aside0 (wc.heap[aB]? = some (.cells #[.int .i64 aw, .int .i64 ab, .int .i64 ae, .int .u64 aD] 61 (0, 0))) ∧ Aside0 (wc.heap[aC]? = some (.cells #[.int .i64 0, .int .i64 0, .int .i64 0, .int .u64 0] 61 (0, 0))) ∧ Aside0 (wc.heap[an]? = some (.cells #[.int .i64 ((rd_T61 l1 ab).f0), .int .i64 ((rd_T61 l1 ab).f1), .int .i64 ((rd_T61 l1 ab).f2), .int .u64 ((rd_T61 l1 ab).f3)] 61 (0, 0))) ∧ Aside0 (wc.heap[az]? = some (.cells #[.int .i64 ((rd_T61 l1 ae).f0), .int .i64 ((rd_T61 l1 ae).f1), .int .i64 ((rd_T61 l1 ae).f2), .int .u64 ((rd_T61 l1 ae).f3)] 61 (0, 0))) ∧ Aside0 (Below w.heap.size w wc))
  case first =>
   have H := bV.out;clear bV
   by_cases c37 : aw = 6
   ·rw [if_pos c37] at H
    have bh := beq_iff_eq.mpr c37;have cp := bne_eq_false_iff_eq.mpr c37;clear c37;(first | rw [bh] | (simp only [i64_w, i32_w]; rw [bh]) | skip);have H' := Aside0.mk H;clear H;go_wp2;go_meet
    case rel => exact ⟨_, (false), et, et, H', ⟨by have := HJ3.out; first | omega | exact Nat.le_refl _⟩, aa, af, ag, ah, HB⟩
   rw [if_neg c37] at H;have bh := beq_eq_false_iff_ne.mpr c37;have cp := bne_iff_ne.mpr c37;(first | rw [bh] | (simp only [i64_w, i32_w]; rw [bh]) | skip)
   by_cases c38 : ((rd_T61 l1 ab).f0) = 2
   rotate_left
   ·rw [if_neg c38] at H
    have cq := beq_eq_false_iff_ne.mpr c38;have cr := bne_iff_ne.mpr c38;have H' := Aside0.mk H;clear H;have hR := aj.out;have hS := ai.out;have hT := al.out;have hU := ak.out;have hW := au.out;have hX := av.out;have Z49 := kz4 ag;go_wp2;go_meet
    case rel => exact ⟨_, (false), et, et, H', ⟨by have := HJ3.out; first | omega | exact Nat.le_refl _⟩, aa, af, ag, ah, HB⟩
   rw [if_pos c38] at H;have cq := beq_iff_eq.mpr c38;have cr := bne_eq_false_iff_eq.mpr c38;clear c38;have H' := Aside0.mk H;clear H;have hY := aj.out;have hZ := ai.out;have ia := al.out;have ib := ak.out;have ic := au.out;have ie := av.out;have Z42 := kz4 ag;have ig := ap.out;have ih := ao.out;have ii := ar.out;have ij := aq.out;have Z45 := kz4 ah;go_wp2;go_meet
   case rel => exact ⟨_, ((((rd_T61 l1 ae).f0) == 2)), et, et, H', ⟨by have := HJ3.out; first | omega | exact Nat.le_refl _⟩, aa, af, ag, ah, HB⟩
  clear bV;(try clear c12 ck cl cm cn Z14 Z15 Z36 aE aF aG aH aI aJ aK aL bH bJ bI bK);obtain ⟨kq, be, rfl, rfl, HA, bd, aa, af, ag, ah, HB⟩ := hcut
  cases kq with
  | zero => exact absurd HA.out (by simp [tune_folded.j1])
  | succ eF =>
   have H := HA.out;clear HA;simp only [tune_folded.j1] at H
   by_cases c50 : be = true
   ·subst c50
    replace H := ifT H;obtain ⟨bW, bi⟩ : ∃ y_ : List Int, y_ = (([((rd_T61 l1 ab).f3), ((rd_T61 l1 ae).f3)] : List Int)) := ⟨_, rfl⟩
    replace H : ((circ_Of.f a0 aw 0 1 0 ([] : List Int) bW).bind fun bA => ((tune_folded_1.f bA).bind fun bj => (some (bj.1, bj.2.1, bj.2.2.1, bj.2.2.2.1, bj.2.2.2.2)))) = some (r1, r2, r3, r4, r5) := by first | (rw [bi]; with_reducible exact H) | (have H2_ := (Option.bind_some _ _).symm.trans H; rw [bi]; with_reducible exact H2_) | (have H2_ := (Option.bind_some _ _).symm.trans H; with_reducible exact H2_) | with_reducible exact H | (rw [bi]; exact H) | exact H
    have bN := Aside0.mk bi;clear bi;replace H := Option.bind_eq_some_iff.mp H;obtain ⟨bA, ct, H⟩ := H;(try dsimp only at H);have A51 := Aside0.mk ct;clear ct;replace H := Option.bind_eq_some_iff.mp H;obtain ⟨⟨cu, cv, cw, cx, eG⟩, cy, H⟩ := H;(try dsimp only at H);have A52 := Aside0.mk cy;clear cy;simp only [Option.some.injEq, Prod.mk.injEq] at H;obtain ⟨rfl, rfl, rfl, rfl, rfl⟩ := H;have ik := ax.out;have il := ay.out;have im := ai.out;have io := aj.out;have ip := ao.out;have iq := ap.out;have Z56 := kz4 aa;have ir := al.out;have it := ak.out;have iu := au.out;have iv := av.out;have Z59 := kz4 ag;have iw := ar.out;have ix := aq.out;have Z61 := kz4 ah;go_wp2_with (first | ((with_reducible refine qga (N := 56) rfl ?_); refine Kd.R_lit (Kd.int .u64) _ 34 ?hg (N := 56) ?hd (xs := ([((rd_T61 l1 ab).f3), ((rd_T61 l1 ae).f3)] : List Int)) (inner := [.int .u64 ((rd_T61 l1 ab).f3), .int .u64 ((rd_T61 l1 ae).f3)]) (ok := fun _ => True) (okp := fun _ => True) ?hr ?hp (fun _ hk => hk) trivial (Below.refl _ _) (Nat.le_refl _) (by simp) ?_; (case hd => rfl); (case hg => rfl); (case hr => first | (go_simp; done) | (go_simp; rfl)); (case hp => exact (Reps.one (show Kd.M (Kd.int .u64) _ _ _ ((rd_T61 l1 ab).f3) [.int .u64 ((rd_T61 l1 ab).f3)] from rfl) (Reps.one (show Kd.M (Kd.int .u64) _ _ _ ((rd_T61 l1 ae).f3) [.int .u64 ((rd_T61 l1 ae).f3)] from rfl) (Reps.none _ _)))); intro jx w62 ho63 hb hg_ hnew_; clear hg_ hnew_; (first | rw [← bN.out] at ho63 | (simp only [Int.reduceToNat] at ho63; rw [← bN.out] at ho63)); have aX := kLR ho63 HB; replace aa := kU aa hb; replace af := kU af hb; replace ag := kU ag hb; replace ah := kU ah hb; replace HB := kH HB hb; clear hb ho63; obtain ⟨eH, eI, eJ⟩ := Kd.R_slice aX.out; subst eJ) | ((with_reducible refine gate_callee (f := 69) rfl ?_); refine goesL_ (some 57) rfl rfl Try.func69 (by kernel_rfl) rfl #[.int .u64 a0, .agg #[.int .i64 aw, .int .i64 0, .int .i64 1, .int .u64 0], .slice none 0 0, .slice eH bW.length eI] rfl (by (try simp only [qM1, qM2, qM3]); first | done | rfl) ?_; (refine (circ_Of.calls a0 aw 0 1 0 _ _ ([] : List Int) _ _ bW bA _ ?side1 ?side2 ?side3 ?side4 A51.out).mono ?_); (case side1 => exact Kd.C_nil _ _); (case side2 => exact Nat.le_refl _); (case side3 => repeat (first | exact (Kd.R_reads' aX.out).2.2 | (with_reducible first | refine Kd.C_alloc ?_ _ | refine Kd.C_drewN ?_ _ | refine Kd.C_drew ?_))); (case side4 => exact (Kd.R_reads' aX.out).2.1); rintro e w65 ⟨rfl, hb⟩; refine ⟨_, rfl, ?_⟩; replace aX := kR aX hb; replace aa := kU aa hb; replace af := kU af hb; replace ag := kU ag hb; replace ah := kU ah hb; replace HB := kH HB hb; (try clear hb); (try clear hb2); (try clear hk); (try clear hi)) | ((with_reducible refine qga (N := 58) rfl ?_); refine api_Slot_78.goesT0 (some 58) rfl rfl Try.func67 (by kernel_rfl) rfl #[.int .u64 bA] rfl rfl (by (try simp only [qM1, qM2, qM3]); first | done | rfl) ?_; (with_reducible refine (tune_folded_1.calls bA cu cv cw cx eG _ A52.out).mono ?_); rintro e w66 ⟨rfl, hb⟩; refine ⟨_, rfl, ?_⟩; replace aX := kR aX hb; replace aa := kU aa hb; replace af := kU af hb; replace ag := kU ag hb; replace ah := kU ah hb; replace HB := kH HB hb; (try clear hb); (try clear hb2); (try clear hk); (try clear hi); have Z67 := kz4 af));refine bodyPost_ret (results_ct rfl _ _ aC 61 #[.int .i64 cu, .int .i64 cv, .int .i64 cw, .int .u64 cx] (0, 0) _ rfl (kg af) Try.underlying61 rfl (by kernel_rfl)) rfl ?_;exact ⟨er, kh HB⟩
   replace c50 := Bool.eq_false_iff.mpr c50;subst c50;replace H := ifF H;have bX := Aside0.mk H;clear H;go_upto_region 9 with (fail);go_cut [12, 61] (fun v12 v61 wc => ∃ (kq : Nat) (bf : Bool), v12 = .bool (aw != 6) ∧ v61 = .bool bf ∧ Aside0 (tune_folded.j2 kq a0 (aw != 6) bf aw ab ae aD ((rd_T61 l1 ab).f0) ((rd_T61 l1 ab).f1) ((rd_T61 l1 ab).f2) ((rd_T61 l1 ab).f3) ((rd_T61 l1 ae).f0) ((rd_T61 l1 ae).f1) ((rd_T61 l1 ae).f2) ((rd_T61 l1 ae).f3) = some (r1, r2, r3, r4, r5)) ∧ Aside0 (kq ≤ eF) ∧ Aside0 (wc.heap[aB]? = some (.cells #[.int .i64 aw, .int .i64 ab, .int .i64 ae, .int .u64 aD] 61 (0, 0))) ∧ Aside0 (wc.heap[aC]? = some (.cells #[.int .i64 0, .int .i64 0, .int .i64 0, .int .u64 0] 61 (0, 0))) ∧ Aside0 (wc.heap[an]? = some (.cells #[.int .i64 ((rd_T61 l1 ab).f0), .int .i64 ((rd_T61 l1 ab).f1), .int .i64 ((rd_T61 l1 ab).f2), .int .u64 ((rd_T61 l1 ab).f3)] 61 (0, 0))) ∧ Aside0 (wc.heap[az]? = some (.cells #[.int .i64 ((rd_T61 l1 ae).f0), .int .i64 ((rd_T61 l1 ae).f1), .int .i64 ((rd_T61 l1 ae).f2), .int .u64 ((rd_T61 l1 ae).f3)] 61 (0, 0))) ∧ Aside0 (Below w.heap.size w wc))
   case first =>
    have H := bX.out;clear bX
    by_cases c69 : (aw != 6) = true
    ·rw [if_pos c69] at H
     have bk : (aw != 6) = true := c69;(try (have cz : decide (aw = 6) = false := by simpa using c69));(try (have cA : (aw == 6) = false := by simpa using c69));(try (have iy : ¬ (aw = 6) := by simpa using c69));clear c69;(first | rw [bk] | (simp only [i64_w, i32_w]; rw [bk]) | skip);have H' := Aside0.mk H;clear H;go_wp2;go_meet
     case rel => exact ⟨_, (false), et, et, H', ⟨by have := HJ3.out; have := bd.out; first | omega | exact Nat.le_refl _⟩, ⟨kg aa⟩, ⟨kg af⟩, ⟨kg ag⟩, ⟨kg ah⟩, ⟨kh HB⟩⟩
    rw [if_neg c69] at H
    have bk : (aw != 6) = false := by simpa using c69
    (try (have cz : decide (aw = 6) = true := by simpa using c69));(try (have cA : (aw == 6) = true := by simpa using c69));clear c69;(first | rw [bk] | (simp only [i64_w, i32_w]; rw [bk]) | skip);have H' := Aside0.mk H;clear H;have iz := aj.out;have iA := ai.out;have iB := al.out;have iC := ak.out;have iD := au.out;have iE := av.out;have Z73 := kz4 ag;go_wp2;go_meet
    case rel => exact ⟨_, ((((rd_T61 l1 ab).f0) == 2)), et, et, H', ⟨by have := HJ3.out; have := bd.out; first | omega | exact Nat.le_refl _⟩, ⟨kg aa⟩, ⟨kg af⟩, ⟨kg ag⟩, ⟨kg ah⟩, ⟨kh HB⟩⟩
   clear bX;(try clear c50 Z56 Z59 Z61 Z67);obtain ⟨kq, bf, rfl, rfl, HA, bl, aa, af, ag, ah, HB⟩ := hcut
   cases kq with
   | zero => exact absurd HA.out (by simp [tune_folded.j2])
   | succ eK =>
    have H := HA.out;clear HA;simp only [tune_folded.j2] at H
    by_cases c74 : bf = true
    ·subst c74
     replace H := ifT H;replace H := Option.bind_eq_some_iff.mp H;obtain ⟨bY, cB, H⟩ := H;(try dsimp only at H);have A75 := Aside0.mk cB;clear cB;replace H := Option.bind_eq_some_iff.mp H;obtain ⟨⟨cC, cD, cE, cF, eL⟩, cG, H⟩ := H;(try dsimp only at H);have A76 := Aside0.mk cG;clear cG;simp only [Option.some.injEq, Prod.mk.injEq] at H;obtain ⟨rfl, rfl, rfl, rfl, rfl⟩ := H;have iF := aj.out;have iG := ai.out;have iH := al.out;have iI := ak.out;have iJ := au.out;have iK := av.out;have Z80 := kz4 ag;have iL := ax.out;have iM := ay.out;have iN := ao.out;have iO := ap.out;have Z83 := kz4 aa;go_wp2_with (first | ((with_reducible refine gate_callee (f := 70) rfl ?_); refine goesL_ (some 75) rfl rfl Try.func70 (by kernel_rfl) rfl #[.int .u64 a0, .int .u64 ((rd_T61 l1 ab).f3), .int .u64 aD] rfl (by (try simp only [qM1, qM2, qM3]); first | done | rfl) ?_; (with_reducible refine (qva.calls a0 ((rd_T61 l1 ab).f3) aD bY _ A75.out).mono ?_); rintro e w' ⟨rfl, ⟨nd, rfl⟩⟩; refine ⟨_, rfl, ?_⟩; (try (rw [drewN_self wc]; generalize hq_ : World.drewN wc _ = wc; replace aa : Aside0 (wc.heap[aB]? = some (.cells #[.int .i64 aw, .int .i64 ab, .int .i64 ae, .int .u64 aD] 61 (0, 0))) := ⟨by rw [← hq_]; exact (kb aa)⟩; replace af : Aside0 (wc.heap[aC]? = some (.cells #[.int .i64 0, .int .i64 0, .int .i64 0, .int .u64 0] 61 (0, 0))) := ⟨by rw [← hq_]; exact (kb af)⟩; replace ag : Aside0 (wc.heap[an]? = some (.cells #[.int .i64 ((rd_T61 l1 ab).f0), .int .i64 ((rd_T61 l1 ab).f1), .int .i64 ((rd_T61 l1 ab).f2), .int .u64 ((rd_T61 l1 ab).f3)] 61 (0, 0))) := ⟨by rw [← hq_]; exact (kb ag)⟩; replace ah : Aside0 (wc.heap[az]? = some (.cells #[.int .i64 ((rd_T61 l1 ae).f0), .int .i64 ((rd_T61 l1 ae).f1), .int .i64 ((rd_T61 l1 ae).f2), .int .u64 ((rd_T61 l1 ae).f3)] 61 (0, 0))) := ⟨by rw [← hq_]; exact (kb ah)⟩; replace HB : Aside0 (Below w.heap.size w wc) := ⟨by rw [← hq_]; exact (kh HB)⟩; clear hq_))) | ((with_reducible refine qga (N := 76) rfl ?_); refine api_Slot_78.goesT0 (some 76) rfl rfl Try.func67 (by kernel_rfl) rfl #[.int .u64 bY] rfl rfl (by (try simp only [qM1, qM2, qM3]); first | done | rfl) ?_; (with_reducible refine (tune_folded_1.calls bY cC cD cE cF eL _ A76.out).mono ?_); rintro e w84 ⟨rfl, hb⟩; refine ⟨_, rfl, ?_⟩; replace aa := kU aa hb; replace af := kU af hb; replace ag := kU ag hb; replace ah := kU ah hb; replace HB := kH HB hb; (try clear hb); (try clear hb2); (try clear hk); (try clear hi); have iP := aq.out; have iQ := ar.out; have Z86 := kz4 af));refine bodyPost_ret (results_ct rfl _ _ aC 61 #[.int .i64 cC, .int .i64 cD, .int .i64 cE, .int .u64 cF] (0, 0) _ rfl (kg af) Try.underlying61 rfl (by kernel_rfl)) rfl ?_;exact ⟨er, kh HB⟩
    replace c74 := Bool.eq_false_iff.mpr c74;subst c74;replace H := ifF H;have bZ := Aside0.mk H;clear H;go_upto_region 11 with (fail);go_cut [12, 79] (fun v12 v79 wc => ∃ (kq : Nat) (bg : Bool), v12 = .bool (aw != 6) ∧ v79 = .bool bg ∧ Aside0 (tune_folded.j3 kq a0 (aw != 6) bg aw ab ae aD ((rd_T61 l1 ab).f0) ((rd_T61 l1 ab).f1) ((rd_T61 l1 ab).f2) ((rd_T61 l1 ab).f3) ((rd_T61 l1 ae).f0) ((rd_T61 l1 ae).f1) ((rd_T61 l1 ae).f2) ((rd_T61 l1 ae).f3) = some (r1, r2, r3, r4, r5)) ∧ Aside0 (kq ≤ eK) ∧ Aside0 (wc.heap[aB]? = some (.cells #[.int .i64 aw, .int .i64 ab, .int .i64 ae, .int .u64 aD] 61 (0, 0))) ∧ Aside0 (wc.heap[aC]? = some (.cells #[.int .i64 0, .int .i64 0, .int .i64 0, .int .u64 0] 61 (0, 0))) ∧ Aside0 (wc.heap[an]? = some (.cells #[.int .i64 ((rd_T61 l1 ab).f0), .int .i64 ((rd_T61 l1 ab).f1), .int .i64 ((rd_T61 l1 ab).f2), .int .u64 ((rd_T61 l1 ab).f3)] 61 (0, 0))) ∧ Aside0 (wc.heap[az]? = some (.cells #[.int .i64 ((rd_T61 l1 ae).f0), .int .i64 ((rd_T61 l1 ae).f1), .int .i64 ((rd_T61 l1 ae).f2), .int .u64 ((rd_T61 l1 ae).f3)] 61 (0, 0))) ∧ Aside0 (Below w.heap.size w wc))
    case first =>
     have H := bZ.out;clear bZ
     by_cases c88 : aw = 5
     rotate_left
     ·rw [if_neg c88] at H
      have bm := beq_eq_false_iff_ne.mpr c88;have cH := bne_iff_ne.mpr c88;(first | rw [bm] | (simp only [i64_w, i32_w]; rw [bm]) | skip);have H' := Aside0.mk H;clear H;have iR := ax.out;have iS := ay.out;have iT := ai.out;have iU := aj.out;have iV := ao.out;have iW := ap.out;have Z99 := kz4 aa;go_wp2;go_meet
      case rel => exact ⟨_, (false), et, et, H', ⟨by have := HJ3.out; have := bd.out; have := bl.out; first | omega | exact Nat.le_refl _⟩, ⟨kg aa⟩, ⟨kg af⟩, ⟨kg ag⟩, ⟨kg ah⟩, ⟨kh HB⟩⟩
     rw [if_pos c88] at H;have bm := beq_iff_eq.mpr c88;have cH := bne_eq_false_iff_eq.mpr c88;clear c88;(first | rw [bm] | (simp only [i64_w, i32_w]; rw [bm]) | skip);have H' := Aside0.mk H;clear H;have iX := ax.out;have iY := ay.out;have iZ := ai.out;have ja := aj.out;have jb := ao.out;have jc := ap.out;have Z92 := kz4 aa;have jd := al.out;have je := ak.out;have jf := au.out;have jg := av.out;have Z95 := kz4 ag;go_wp2;go_meet
     case rel => exact ⟨_, ((((rd_T61 l1 ab).f0) == 2)), et, et, H', ⟨by have := HJ3.out; have := bd.out; have := bl.out; first | omega | exact Nat.le_refl _⟩, ⟨kg aa⟩, ⟨kg af⟩, ⟨kg ag⟩, ⟨kg ah⟩, ⟨kh HB⟩⟩
    clear bZ;(try clear c74 Z80 Z83 Z86);obtain ⟨kq, bg, rfl, rfl, HA, bx, aa, af, ag, ah, HB⟩ := hcut
    cases kq with
    | zero => exact absurd HA.out (by simp [tune_folded.j3])
    | succ eM =>
     have H := HA.out;clear HA;simp only [tune_folded.j3] at H
     by_cases bB : bg = true
     ·subst bB
      replace H := ifT H;replace H := Option.bind_eq_some_iff.mp H;obtain ⟨⟨cI, cJ, cK, cL, eN⟩, bO, H⟩ := H;(try dsimp only at H);have eO := Aside0.mk bO;clear bO;simp only [Option.some.injEq, Prod.mk.injEq] at H;obtain ⟨rfl, rfl, rfl, rfl, rfl⟩ := H;have eP := ax.out;have eQ := ay.out;have eR := ai.out;have eS := aj.out;have eT := ao.out;have eU := ap.out;have eV := kz4 aa;have eW := al.out;have eX := ak.out;have eY := au.out;have eZ := av.out;have fa := kz4 ag;go_wp2_with (first | ((with_reducible refine qga (N := 93) rfl ?_); refine api_Slot_78.goesT0 (some 93) rfl rfl Try.func68 (by kernel_rfl) rfl #[.int .i64 ae, .int .u64 ((rd_T61 l1 ab).f3)] rfl rfl (by (try simp only [qM1, qM2, qM3]); first | done | rfl) ?_; (with_reducible refine (tune_folded_2.calls ae ((rd_T61 l1 ab).f3) cI cJ cK cL eN _ eO.out).mono ?_); rintro e jy ⟨rfl, hb⟩; refine ⟨_, rfl, ?_⟩; replace aa := kU aa hb; replace af := kU af hb; replace ag := kU ag hb; replace ah := kU ah hb; replace HB := kH HB hb; (try clear hb); (try clear hb2); (try clear hk); (try clear hi); have fb := aq.out; have fc := ar.out; have fd := kz4 af));refine bodyPost_ret (results_ct rfl _ _ aC 61 #[.int .i64 cI, .int .i64 cJ, .int .i64 cK, .int .u64 cL] (0, 0) _ rfl (kg af) Try.underlying61 rfl (by kernel_rfl)) rfl ?_;exact ⟨er, kh HB⟩
     replace bB := Bool.eq_false_iff.mpr bB;subst bB;replace H := ifF H;have bC := Aside0.mk H;clear H;go_upto_region 13 with (fail);go_cut [12, 96] (fun v12 v96 wc => ∃ (kq : Nat) (aW : Bool), v12 = .bool (aw != 6) ∧ v96 = .bool aW ∧ Aside0 (tune_folded.j4 kq a0 (aw != 6) aW aw ab ae aD ((rd_T61 l1 ab).f0) ((rd_T61 l1 ab).f1) ((rd_T61 l1 ab).f2) ((rd_T61 l1 ab).f3) ((rd_T61 l1 ae).f0) ((rd_T61 l1 ae).f1) ((rd_T61 l1 ae).f2) ((rd_T61 l1 ae).f3) = some (r1, r2, r3, r4, r5)) ∧ Aside0 (kq ≤ eM) ∧ Aside0 (wc.heap[aB]? = some (.cells #[.int .i64 aw, .int .i64 ab, .int .i64 ae, .int .u64 aD] 61 (0, 0))) ∧ Aside0 (wc.heap[aC]? = some (.cells #[.int .i64 0, .int .i64 0, .int .i64 0, .int .u64 0] 61 (0, 0))) ∧ Aside0 (wc.heap[an]? = some (.cells #[.int .i64 ((rd_T61 l1 ab).f0), .int .i64 ((rd_T61 l1 ab).f1), .int .i64 ((rd_T61 l1 ab).f2), .int .u64 ((rd_T61 l1 ab).f3)] 61 (0, 0))) ∧ Aside0 (wc.heap[az]? = some (.cells #[.int .i64 ((rd_T61 l1 ae).f0), .int .i64 ((rd_T61 l1 ae).f1), .int .i64 ((rd_T61 l1 ae).f2), .int .u64 ((rd_T61 l1 ae).f3)] 61 (0, 0))) ∧ Aside0 (Below w.heap.size w wc))
     case first =>
      have H := bC.out;clear bC
      by_cases bn : aw = 5
      rotate_left
      ·rw [if_neg bn] at H
       have aY := beq_eq_false_iff_ne.mpr bn;have ca := bne_iff_ne.mpr bn;(first | rw [aY] | (simp only [i64_w, i32_w]; rw [aY]) | skip);have H' := Aside0.mk H;clear H;have fe := ax.out;have ff := ay.out;have fg := ai.out;have fh := aj.out;have fi := ao.out;have fj := ap.out;have jz := kz4 aa;go_wp2;go_meet
       case rel => exact ⟨_, (false), et, et, H', ⟨by have := HJ3.out; have := bd.out; have := bl.out; have := bx.out; first | omega | exact Nat.le_refl _⟩, ⟨kg aa⟩, ⟨kg af⟩, ⟨kg ag⟩, ⟨kg ah⟩, ⟨kh HB⟩⟩
      rw [if_pos bn] at H;have aY := beq_iff_eq.mpr bn;have ca := bne_eq_false_iff_eq.mpr bn;clear bn;(first | rw [aY] | (simp only [i64_w, i32_w]; rw [aY]) | skip);have H' := Aside0.mk H;clear H;have fk := ax.out;have fl := ay.out;have fm := ai.out;have fn := aj.out;have fo := ao.out;have fp := ap.out;have jA := kz4 aa;have fq := ar.out;have fr := aq.out;have fs := av.out;have ft := au.out;have jB := kz4 ah;go_wp2;go_meet
      case rel => exact ⟨_, ((((rd_T61 l1 ae).f0) == 2)), et, et, H', ⟨by have := HJ3.out; have := bd.out; have := bl.out; have := bx.out; first | omega | exact Nat.le_refl _⟩, ⟨kg aa⟩, ⟨kg af⟩, ⟨kg ag⟩, ⟨kg ah⟩, ⟨kh HB⟩⟩
     clear bC;(try clear bB eV fa fd);obtain ⟨kq, aW, rfl, rfl, HA, bw, aa, af, ag, ah, HB⟩ := hcut
     cases kq with
     | zero => exact absurd HA.out (by simp [tune_folded.j4])
     | succ cM =>
      have H := HA.out;clear HA;simp only [tune_folded.j4] at H
      by_cases bD : aW = true
      ·subst bD
       replace H := ifT H;replace H := Option.bind_eq_some_iff.mp H;obtain ⟨⟨cN, cO, cP, cQ, fu⟩, bP, H⟩ := H;(try dsimp only at H);have fv := Aside0.mk bP;clear bP;simp only [Option.some.injEq, Prod.mk.injEq] at H;obtain ⟨rfl, rfl, rfl, rfl, rfl⟩ := H;have fw := ax.out;have fx := ay.out;have fy := ai.out;have fz := aj.out;have fA := ao.out;have fB := ap.out;have fC := kz4 aa;have fD := ar.out;have fE := aq.out;have fF := av.out;have fG := au.out;have fH := kz4 ah;go_wp2_with (first | ((with_reducible refine qga (N := 110) rfl ?_); refine api_Slot_78.goesT0 (some 110) rfl rfl Try.func68 (by kernel_rfl) rfl #[.int .i64 ab, .int .u64 ((rd_T61 l1 ae).f3)] rfl rfl (by (try simp only [qM1, qM2, qM3]); first | done | rfl) ?_; (with_reducible refine (tune_folded_2.calls ab ((rd_T61 l1 ae).f3) cN cO cP cQ fu _ fv.out).mono ?_); rintro e jC ⟨rfl, hb⟩; refine ⟨_, rfl, ?_⟩; replace aa := kU aa hb; replace af := kU af hb; replace ag := kU ag hb; replace ah := kU ah hb; replace HB := kH HB hb; (try clear hb); (try clear hb2); (try clear hk); (try clear hi); have fI := ak.out; have fJ := al.out; have fK := kz4 af));refine bodyPost_ret (results_ct rfl _ _ aC 61 #[.int .i64 cN, .int .i64 cO, .int .i64 cP, .int .u64 cQ] (0, 0) _ rfl (kg af) Try.underlying61 rfl (by kernel_rfl)) rfl ?_;exact ⟨er, kh HB⟩
      replace bD := Bool.eq_false_iff.mpr bD;subst bD;replace H := ifF H;have bE := Aside0.mk H;clear H;go_upto_region 15 with (fail);go_cut [12, 113] (fun v12 fL wc => ∃ (kq : Nat) (aU : Bool), v12 = .bool (aw != 6) ∧ fL = .bool aU ∧ Aside0 (tune_folded.j5 kq a0 (aw != 6) aU aw ab ae aD ((rd_T61 l1 ab).f0) ((rd_T61 l1 ab).f1) ((rd_T61 l1 ab).f2) ((rd_T61 l1 ab).f3) = some (r1, r2, r3, r4, r5)) ∧ Aside0 (kq ≤ cM) ∧ Aside0 (wc.heap[aB]? = some (.cells #[.int .i64 aw, .int .i64 ab, .int .i64 ae, .int .u64 aD] 61 (0, 0))) ∧ Aside0 (wc.heap[aC]? = some (.cells #[.int .i64 0, .int .i64 0, .int .i64 0, .int .u64 0] 61 (0, 0))) ∧ Aside0 (wc.heap[an]? = some (.cells #[.int .i64 ((rd_T61 l1 ab).f0), .int .i64 ((rd_T61 l1 ab).f1), .int .i64 ((rd_T61 l1 ab).f2), .int .u64 ((rd_T61 l1 ab).f3)] 61 (0, 0))) ∧ Aside0 (wc.heap[az]? = some (.cells #[.int .i64 ((rd_T61 l1 ae).f0), .int .i64 ((rd_T61 l1 ae).f1), .int .i64 ((rd_T61 l1 ae).f2), .int .u64 ((rd_T61 l1 ae).f3)] 61 (0, 0))) ∧ Aside0 (Below w.heap.size w wc))
      case first =>
       have H := bE.out;clear bE
       by_cases aZ : (aw != 6) = true
       ·rw [if_pos aZ] at H
        have ba : (aw != 6) = true := aZ;(try (have cb : decide (aw = 6) = false := by simpa using aZ));(try (have cc : (aw == 6) = false := by simpa using aZ));(try (have fM : ¬ (aw = 6) := by simpa using aZ));clear aZ;(first | rw [ba] | (simp only [i64_w, i32_w]; rw [ba]) | skip);have H' := Aside0.mk H;clear H;go_wp2;go_meet
        case rel => exact ⟨_, (false), et, et, H', ⟨by have := HJ3.out; have := bd.out; have := bl.out; have := bx.out; have := bw.out; first | omega | exact Nat.le_refl _⟩, ⟨kg aa⟩, ⟨kg af⟩, ⟨kg ag⟩, ⟨kg ah⟩, ⟨kh HB⟩⟩
       rw [if_neg aZ] at H
       have ba : (aw != 6) = false := by simpa using aZ
       (try (have cb : decide (aw = 6) = true := by simpa using aZ));(try (have cc : (aw == 6) = true := by simpa using aZ));clear aZ;(first | rw [ba] | (simp only [i64_w, i32_w]; rw [ba]) | skip);have H' := Aside0.mk H;clear H;have fN := ax.out;have fO := ay.out;have fP := ai.out;have fQ := aj.out;have fR := ao.out;have fS := ap.out;have jD := kz4 aa;go_wp2;go_meet
       case rel => exact ⟨_, ((aD == 0)), et, et, H', ⟨by have := HJ3.out; have := bd.out; have := bl.out; have := bx.out; have := bw.out; first | omega | exact Nat.le_refl _⟩, ⟨kg aa⟩, ⟨kg af⟩, ⟨kg ag⟩, ⟨kg ah⟩, ⟨kh HB⟩⟩
      clear bE;(try clear bD fC fH fK);obtain ⟨kq, aU, rfl, rfl, HA, bQ, aa, af, ag, ah, HB⟩ := hcut
      cases kq with
      | zero => exact absurd HA.out (by simp [tune_folded.j5])
      | succ cR =>
       have H := HA.out;clear HA;simp only [tune_folded.j5] at H
       by_cases bF : aU = true
       ·subst bF
        replace H := ifT H;replace H := Option.bind_eq_some_iff.mp H;obtain ⟨⟨cS, cT, cU, cV, fT⟩, bR, H⟩ := H;(try dsimp only at H);have fU := Aside0.mk bR;clear bR;simp only [Option.some.injEq, Prod.mk.injEq] at H;obtain ⟨rfl, rfl, rfl, rfl, rfl⟩ := H;go_wp2_with (first | ((with_reducible refine qga (N := 122) rfl ?_); refine api_Slot_78.goesT0 (some 122) rfl rfl Try.func67 (by kernel_rfl) rfl #[.int .u64 0] rfl rfl (by (try simp only [qM1, qM2, qM3]); first | done | rfl) ?_; (with_reducible refine (tune_folded_1.calls 0 cS cT cU cV fT _ fU.out).mono ?_); rintro e jE ⟨rfl, hb⟩; refine ⟨_, rfl, ?_⟩; replace aa := kU aa hb; replace af := kU af hb; replace ag := kU ag hb; replace ah := kU ah hb; replace HB := kH HB hb; (try clear hb); (try clear hb2); (try clear hk); (try clear hi); have fV := ay.out; have fW := ax.out; have fX := ak.out; have fY := al.out; have fZ := aq.out; have ga := ar.out; have gb := kz4 af));refine bodyPost_ret (results_ct rfl _ _ aC 61 #[.int .i64 cS, .int .i64 cT, .int .i64 cU, .int .u64 cV] (0, 0) _ rfl (kg af) Try.underlying61 rfl (by kernel_rfl)) rfl ?_;exact ⟨er, kh HB⟩
       replace bF := Bool.eq_false_iff.mpr bF;subst bF;replace H := ifF H;have bG := Aside0.mk H;clear H;go_upto_region 17 with (fail);go_cut [12, 125] (fun v12 gc wc => ∃ (kq : Nat) (aV : Bool), v12 = .bool (aw != 6) ∧ gc = .bool aV ∧ Aside0 (tune_folded.j6 kq a0 aV aw ab ae aD ((rd_T61 l1 ab).f0) ((rd_T61 l1 ab).f1) ((rd_T61 l1 ab).f2) ((rd_T61 l1 ab).f3) = some (r1, r2, r3, r4, r5)) ∧ Aside0 (kq ≤ cR) ∧ Aside0 (wc.heap[aB]? = some (.cells #[.int .i64 aw, .int .i64 ab, .int .i64 ae, .int .u64 aD] 61 (0, 0))) ∧ Aside0 (wc.heap[aC]? = some (.cells #[.int .i64 0, .int .i64 0, .int .i64 0, .int .u64 0] 61 (0, 0))) ∧ Aside0 (wc.heap[an]? = some (.cells #[.int .i64 ((rd_T61 l1 ab).f0), .int .i64 ((rd_T61 l1 ab).f1), .int .i64 ((rd_T61 l1 ab).f2), .int .u64 ((rd_T61 l1 ab).f3)] 61 (0, 0))) ∧ Aside0 (wc.heap[az]? = some (.cells #[.int .i64 ((rd_T61 l1 ae).f0), .int .i64 ((rd_T61 l1 ae).f1), .int .i64 ((rd_T61 l1 ae).f2), .int .u64 ((rd_T61 l1 ae).f3)] 61 (0, 0))) ∧ Aside0 (Below w.heap.size w wc))
       case first =>
        have H := bG.out;clear bG
        by_cases bb : (aw != 6) = true
        ·rw [if_pos bb] at H
         have bc : (aw != 6) = true := bb;(try (have cd : decide (aw = 6) = false := by simpa using bb));(try (have ce : (aw == 6) = false := by simpa using bb));(try (have gd : ¬ (aw = 6) := by simpa using bb));clear bb;(first | rw [bc] | (simp only [i64_w, i32_w]; rw [bc]) | skip);have H' := Aside0.mk H;clear H;go_wp2;go_meet
         case rel => exact ⟨_, (false), et, et, H', ⟨by have := HJ3.out; have := bd.out; have := bl.out; have := bx.out; have := bw.out; have := bQ.out; first | omega | exact Nat.le_refl _⟩, ⟨kg aa⟩, ⟨kg af⟩, ⟨kg ag⟩, ⟨kg ah⟩, ⟨kh HB⟩⟩
        rw [if_neg bb] at H
        have bc : (aw != 6) = false := by simpa using bb
        (try (have cd : decide (aw = 6) = true := by simpa using bb));(try (have ce : (aw == 6) = true := by simpa using bb));clear bb;(first | rw [bc] | (simp only [i64_w, i32_w]; rw [bc]) | skip);have H' := Aside0.mk H;clear H;have ge := aj.out;have gf := ai.out;have gg := al.out;have gh := ak.out;have gi := au.out;have gj := av.out;have jF := kz4 ag;go_wp2;go_meet
        case rel => exact ⟨_, ((((rd_T61 l1 ab).f0) == 6)), et, et, H', ⟨by have := HJ3.out; have := bd.out; have := bl.out; have := bx.out; have := bw.out; have := bQ.out; first | omega | exact Nat.le_refl _⟩, ⟨kg aa⟩, ⟨kg af⟩, ⟨kg ag⟩, ⟨kg ah⟩, ⟨kh HB⟩⟩
       clear bG;(try clear bF gb);obtain ⟨kq, aV, rfl, rfl, HA, jh, aa, af, ag, ah, HB⟩ := hcut
       cases kq with
       | zero => exact absurd HA.out (by simp [tune_folded.j6])
       | succ ji =>
        have H := HA.out;clear HA;simp only [tune_folded.j6] at H
        by_cases bL : aV = true
        rotate_left
        ·replace bL := Bool.eq_false_iff.mpr bL
         subst bL;replace H := ifF H
         by_cases bo : aw = 4
         rotate_left
         ·rw [if_neg bo] at H
          have cf := beq_eq_false_iff_ne.mpr bo;have cg := bne_iff_ne.mpr bo;simp only [Option.some.injEq, Prod.mk.injEq] at H;obtain ⟨rfl, rfl, rfl, rfl, rfl⟩ := H;have gl := ax.out;have gm := ay.out;have gn := ai.out;have go := aj.out;have gp := ao.out;have gq := ap.out;have jG := kz4 aa;have gr := ak.out;have gs := al.out;have gt := aq.out;have gu := ar.out;have jH := kz4 af;go_wp2;refine bodyPost_ret (results_ct rfl _ _ aC 61 #[.int .i64 aw, .int .i64 ab, .int .i64 ae, .int .u64 aD] (0, 0) _ rfl (kg af) Try.underlying61 rfl (by kernel_rfl)) rfl ?_;exact ⟨er, kh HB⟩
         rw [if_pos bo] at H;have cf := beq_iff_eq.mpr bo;have cg := bne_eq_false_iff_eq.mpr bo;clear bo
         by_cases bp : ab = ae
         rotate_left
         ·rw [if_neg bp] at H
          have ch := beq_eq_false_iff_ne.mpr bp;have ci := bne_iff_ne.mpr bp;simp only [Option.some.injEq, Prod.mk.injEq] at H;obtain ⟨rfl, rfl, rfl, rfl, rfl⟩ := H;have gv := ax.out;have gw := ay.out;have gx := ai.out;have gy := aj.out;have gz := ao.out;have gA := ap.out;have jI := kz4 aa;have gB := ak.out;have gC := al.out;have gD := aq.out;have gE := ar.out;have jJ := kz4 af;go_wp2;refine bodyPost_ret (results_ct rfl _ _ aC 61 #[.int .i64 aw, .int .i64 ab, .int .i64 ae, .int .u64 aD] (0, 0) _ rfl (kg af) Try.underlying61 rfl (by kernel_rfl)) rfl ?_;exact ⟨er, kh HB⟩
         rw [if_pos bp] at H;have ch := beq_iff_eq.mpr bp;have ci := bne_eq_false_iff_eq.mpr bp;clear bp;replace H := Option.bind_eq_some_iff.mp H;obtain ⟨⟨cW, cX, cY, cZ, gF⟩, bS, H⟩ := H;(try dsimp only at H);have gG := Aside0.mk bS;clear bS;simp only [Option.some.injEq, Prod.mk.injEq] at H;obtain ⟨rfl, rfl, rfl, rfl, rfl⟩ := H;have gH := ax.out;have gI := ay.out;have gJ := ai.out;have gK := aj.out;have gL := ao.out;have gM := ap.out;have jK := kz4 aa;go_wp2_with (first | ((with_reducible refine qga (N := 157) rfl ?_); refine api_Slot_78.goesT0 (some 157) rfl rfl Try.func67 (by kernel_rfl) rfl #[.int .u64 0] rfl rfl (by (try simp only [qM1, qM2, qM3]); first | done | rfl) ?_; (with_reducible refine (tune_folded_1.calls 0 cW cX cY cZ gF _ gG.out).mono ?_); rintro e jL ⟨rfl, hb⟩; refine ⟨_, rfl, ?_⟩; replace aa := kU aa hb; replace af := kU af hb; replace ag := kU ag hb; replace ah := kU ah hb; replace HB := kH HB hb; (try clear hb); (try clear hb2); (try clear hk); (try clear hi); have gN := ak.out; have gO := al.out; have gP := aq.out; have gQ := ar.out; have jM := kz4 af));refine bodyPost_ret (results_ct rfl _ _ aC 61 #[.int .i64 cW, .int .i64 cX, .int .i64 cY, .int .u64 cZ] (0, 0) _ rfl (kg af) Try.underlying61 rfl (by kernel_rfl)) rfl ?_;exact ⟨er, kh HB⟩
        subst bL;replace H := ifT H;replace H := Option.bind_eq_some_iff.mp H;obtain ⟨cj, bT, H⟩ := H;(try dsimp only at H);have gR := Aside0.mk bT;clear bT;replace H := Option.bind_eq_some_iff.mp H;obtain ⟨⟨da, db, dc, dd, gS⟩, bU, H⟩ := H;(try dsimp only at H);have gT := Aside0.mk bU;clear bU;simp only [Option.some.injEq, Prod.mk.injEq] at H;obtain ⟨rfl, rfl, rfl, rfl, rfl⟩ := H;(try go_wp2);replace aa := kD aa; replace af := kD af; replace ag := kD ag; replace ah := kD ah; replace HB := kE HB;refine start_ (n := 14) (S := fun w' => w'.cell? ⟨an, 0, none⟩ = some (.int .i64 ((rd_T61 l1 ab).f0)) ∧ w'.cell? ⟨an, 1, none⟩ = some (.int .i64 ((rd_T61 l1 ab).f1)) ∧ w'.cell? ⟨an, 2, none⟩ = some (.int .i64 ((rd_T61 l1 ab).f2)) ∧ w'.cell? ⟨an, 3, none⟩ = some (.int .u64 ((rd_T61 l1 ab).f3)) ∧ w'.cell? ⟨aB, 0, none⟩ = some (.int .i64 aw) ∧ w'.cell? ⟨aB, 1, none⟩ = some (.int .i64 ab) ∧ w'.cell? ⟨aB, 2, none⟩ = some (.int .i64 ae) ∧ w'.cell? ⟨aB, 3, none⟩ = some (.int .u64 aD)) (ds := []) (bs 14 0) (by kernel_rfl) rfl rfl ⟨kk ag 0, kk ag 1, kk ag 2, kk ag 3, kk aa 0, kk aa 1, kk aa 2, kk aa 3⟩ (fun hHeld => ?_); refine with_tabW tune_folded.tab18 tune_folded.bits18 (fun HT_ HW_ => ?_);generalize wc.drew = jN at aa af ag ah HB hHeld ⊢;refine pu 0 (some 133) (bs 14 1) HT_ ?_;refine pu 1 (some 134) (bs 14 3) HT_ ?_;refine pu 3 (some 136) (bs 14 11) HT_ ?_;refine pu 4 (some 137) (bs 14 27) HT_ ?_;refine pu 6 (some 139) (bs 14 91) HT_ ?_;refine ta 2 (some 135) (bs 14 95) HT_ HW_ hHeld ?_;refine ta 5 (some 138) (bs 14 127) HT_ HW_ hHeld ?_;refine ta 7 (some 140) (bs 14 255) HT_ HW_ hHeld ?_;refine one_ (i := 8) (N := some 141) (bs 14 511) rfl rfl (one_of HT_.out (by kernel_rfl)) (by decide) (fun K hK => ?_);refine goes_ Try.func70 (by kernel_rfl) rfl #[.int .u64 a0, .int .u64 ((rd_T61 l1 ab).f3), .int .u64 aD] (by rfl) rfl rfl (by (try simp only [qM1, qM2, qM3]); first | done | rfl) ?_;(with_reducible refine (qva.calls a0 ((rd_T61 l1 ab).f3) aD cj _ gR.out).mono ?_);rintro e w' ⟨rfl, ⟨nd, rfl⟩⟩;refine ⟨_, rfl, ?_⟩;refine hK.out _ _ ⟨kk ag 0, kk ag 1, kk ag 2, kk ag 3, kk aa 0, kk aa 1, kk aa 2, kk aa 3⟩ (fun hHeld => ?_);clear hK K;refine no (some 141) ?_;refine one_ (i := 9) (N := some 142) (bs 14 1023) rfl rfl (one_of HT_.out (by kernel_rfl)) (by decide) (fun K hK => ?_);refine api_Slot_78.goesT0_ Try.func68 (by kernel_rfl) rfl #[.int .i64 ((rd_T61 l1 ab).f1), .int .u64 cj] (by rfl) rfl rfl rfl (by (try simp only [qM1, qM2, qM3]); first | done | rfl) ?_;(with_reducible refine (tune_folded_2.calls ((rd_T61 l1 ab).f1) cj da db dc dd gS _ gT.out).mono ?_);rintro e bM ⟨rfl, hb⟩;refine ⟨_, rfl, ?_⟩;replace aa := kU aa hb; replace af := kU af hb; replace ag := kU ag hb; replace ah := kU ah hb; replace HB := kH HB hb;(try clear hb);refine hK.out _ _ ⟨kk ag 0, kk ag 1, kk ag 2, kk ag 3, kk aa 0, kk aa 1, kk aa 2, kk aa 3⟩ (fun hHeld => ?_);clear hK K;refine no (some 142) ?_;refine pu 10 (some 143) (bs 14 2047) HT_ ?_;refine pu 11 (some 144) (bs 14 4095) HT_ ?_;refine one_ (i := 12) (N := none) (bs 14 8191) rfl rfl (one_of HT_.out (by kernel_rfl)) (by decide) (fun K hK => ?_);have jj : bM.cell? ⟨aC, 0, none⟩ = some (.int .i64 0) := kk af 0;have gU := blk_frozen af.out 0;have de := ax.out;have df := al.out;have dg := ar.out;have dh := ay.out;have di := ak.out;have dj := aq.out;have jk : bM.cell? ⟨aC, 1, none⟩ = some (.int .i64 0) := kk af 1;have gV := blk_frozen af.out 1;have dk := ax.out;have dl := al.out;have dm := ar.out;have dn := ay.out;have dp := ak.out;have dq := aq.out;have jl : bM.cell? ⟨aC, 2, none⟩ = some (.int .i64 0) := kk af 2;have gW := blk_frozen af.out 2;have dr := ax.out;have dt := al.out;have du := ar.out;have dv := ay.out;have dw := ak.out;have dx := aq.out;have jm : bM.cell? ⟨aC, 3, none⟩ = some (.int .u64 0) := kk af 3;have gX := blk_frozen af.out 3;have dy := ax.out;have dz := al.out;have dA := ar.out;have dB := ay.out;have dC := ak.out;have dD := aq.out;refine skip_ (w1 := ?_) (by rfl) rfl ?_ ?_
        rotate_left
        ·go_simp
         rfl
        refine hK.out _ _ ⟨(kf hHeld.1), (kf hHeld.2.1), (kf hHeld.2.2.1), (kf hHeld.2.2.2.1), (kf hHeld.2.2.2.2.1), (kf hHeld.2.2.2.2.2.1), (kf hHeld.2.2.2.2.2.2.1), (kf hHeld.2.2.2.2.2.2.2)⟩ (fun hHeld => ?_);clear hK K;refine pu 13 (some 7) (bs 14 16383) HT_ ?_;refine done_ (done_of HT_.out (by kernel_rfl)) ?_;(try go_wp2);refine bodyPost_ret (results_ct rfl _ _ aC 61 #[.int .i64 da, .int .i64 db, .int .i64 dc, .int .u64 dd] (0, 0) _ rfl (kg af) Try.underlying61 rfl (by kernel_rfl)) rfl ?_;exact ⟨er, kh HB⟩
mutual
def tune_Fold.l0 : Nat → Int → Int → Int → List (S64) → List (S61) → List (S66) → Option ((List (S64)) × (List (S61)) × (List (S66)) × Int)
 | 0, _, _, _, _, _, _ => none
 | k + 1, x0, x21, x22, ab, aa, ae => if x22 < x21 then (tune_Fold.l1 k x0 x22 true x21 x22 ab aa ae) else (some (ab, aa, ae, 0))
def tune_Fold.l1 : Nat → Int → Int → Bool → Int → Int → List (S64) → List (S61) → List (S66) → Option ((List (S64)) × (List (S61)) × (List (S66)) × Int)
 | 0, _, _, _, _, _, _, _, _ => none
 | k + 1, x0, x8, x9, x21, x22, ab, aa, ae => if x9 = true then (if 0 ≤ x8 then (if x8 < (aa.length : Int) then ((tune_folded.f k x0 aa ((rd_T61 aa x8).f0) ((rd_T61 aa x8).f1) ((rd_T61 aa x8).f2) ((rd_T61 aa x8).f3)).bind fun af => (tune_Fold.l1 k x0 x8 af.2.2.2.2 x21 x22 ab (aa.set (x8 : Int).toNat (⟨af.1, af.2.1, af.2.2.1, af.2.2.2.1⟩ : S61)) ae)) else (none)) else (none)) else (tune_Fold.l0 k x0 x21 (wrap64 (x22 + 1)) ab aa ae)
end
def tune_Fold.f (k : Nat) (a0 : Int) (ab : List (S64)) (ae : List (S61)) (af : List (S66)) : Option ((List (S64)) × (List (S61)) × (List (S66)) × Int) := (circ_Check.f k a0 ab ae af).bind fun ag => (if ag = 0 then ((tune_Own.f k ab ae af).bind fun aa => (tune_Fold.l0 k a0 (aa.2.1.length : Int) 0 aa.1 aa.2.1 aa.2.2)) else (some (([] : List (S64)), ([] : List (S61)), ([] : List (S66)), ag)))
theorem tune_Fold.mono_l : ∀ k, (∀ y0 y1 y2 y3 y4 y5, LeO (tune_Fold.l0 k y0 y1 y2 y3 y4 y5) (tune_Fold.l0 (k + 1) y0 y1 y2 y3 y4 y5)) ∧ (∀ y0 y1 y2 y3 y4 y5 y6 y7, LeO (tune_Fold.l1 k y0 y1 y2 y3 y4 y5 y6 y7) (tune_Fold.l1 (k + 1) y0 y1 y2 y3 y4 y5 y6 y7))
 | 0 => ⟨fun _ _ _ _ _ _ r h => by simp [tune_Fold.l0] at h, fun _ _ _ _ _ _ _ _ r h => by simp [tune_Fold.l1] at h⟩
 | k + 1 => by
  obtain ⟨ih0, ih1⟩ := tune_Fold.mono_l k;refine ⟨?_, ?_⟩
  ·intro y0 y1 y2 y3 y4 y5
   unfold tune_Fold.l0
   repeat' first
   | (with_reducible exact ih0 _ _ _ _ _ _)
   | (with_reducible exact ih1 _ _ _ _ _ _ _ _)
   | (with_reducible exact circ_Check.mono _ _ _ _ _)
   | (with_reducible exact tune_Own.mono _ _ _ _)
   | (with_reducible exact tune_folded.mono _ _ _ _ _ _ _)
   | (with_reducible exact LeO.refl _)
   | (with_reducible exact LeO.none _)
   | (with_reducible refine LeO.ite ?_ ?_)
   | (with_reducible refine LeO.bind ?_ (fun _ => ?_))
   | exact ih0 _ _ _ _ _ _
   | exact ih1 _ _ _ _ _ _ _ _
   | exact circ_Check.mono _ _ _ _ _
   | exact tune_Own.mono _ _ _ _
   | exact tune_folded.mono _ _ _ _ _ _ _
   | exact LeO.none _
   | refine LeO.ite ?_ ?_
   | refine LeO.bind ?_ (fun _ => ?_)
  ·intro y0 y1 y2 y3 y4 y5 y6 y7
   unfold tune_Fold.l1
   repeat' first
   | (with_reducible exact ih0 _ _ _ _ _ _)
   | (with_reducible exact ih1 _ _ _ _ _ _ _ _)
   | (with_reducible exact circ_Check.mono _ _ _ _ _)
   | (with_reducible exact tune_Own.mono _ _ _ _)
   | (with_reducible exact tune_folded.mono _ _ _ _ _ _ _)
   | (with_reducible exact LeO.refl _)
   | (with_reducible exact LeO.none _)
   | (with_reducible refine LeO.ite ?_ ?_)
   | (with_reducible refine LeO.bind ?_ (fun _ => ?_))
   | exact ih0 _ _ _ _ _ _
   | exact ih1 _ _ _ _ _ _ _ _
   | exact circ_Check.mono _ _ _ _ _
   | exact tune_Own.mono _ _ _ _
   | exact tune_folded.mono _ _ _ _ _ _ _
   | exact LeO.none _
   | refine LeO.ite ?_ ?_
   | refine LeO.bind ?_ (fun _ => ?_)
theorem tune_Fold.mono : ∀ a0 a1 a2 a3 k, LeO (tune_Fold.f k a0 a1 a2 a3) (tune_Fold.f (k + 1) a0 a1 a2 a3) := by
 intro a0 a1 a2 a3 k;obtain ⟨ih0, ih1⟩ := tune_Fold.mono_l k;unfold tune_Fold.f
 repeat' first
   | (with_reducible exact ih0 _ _ _ _ _ _)
   | (with_reducible exact ih1 _ _ _ _ _ _ _ _)
   | (with_reducible exact circ_Check.mono _ _ _ _ _)
   | (with_reducible exact tune_Own.mono _ _ _ _)
   | (with_reducible exact tune_folded.mono _ _ _ _ _ _ _)
   | (with_reducible exact LeO.refl _)
   | (with_reducible exact LeO.none _)
   | (with_reducible refine LeO.ite ?_ ?_)
   | (with_reducible refine LeO.bind ?_ (fun _ => ?_))
   | exact ih0 _ _ _ _ _ _
   | exact ih1 _ _ _ _ _ _ _ _
   | exact circ_Check.mono _ _ _ _ _
   | exact tune_Own.mono _ _ _ _
   | exact tune_folded.mono _ _ _ _ _ _ _
   | exact LeO.none _
   | refine LeO.ite ?_ ?_
   | refine LeO.bind ?_ (fun _ => ?_)
def tune_Fold.T10 : Bool × List (List Nat × List Nat) := (true, [([], []), ([0], [0]), ([], []), ([], []), ([], []), ([4], [4]), ([], []), ([6], [6]), ([], []), ([7, 8], [7, 8]), ([9], [9]), ([3, 5, 10], [3, 5, 10]), ([11], [11]), ([12], [12]), ([12], [12]), ([1, 2, 0, 1, 2, 3, 4, 5, 6, 7, 8, 9, 10, 11, 12, 13], [1, 2]), ([15, 13, 11, 0, 1, 2, 3, 4, 5, 6, 7, 8, 9, 10, 11, 12, 13], [13, 15]), ([14, 16, 0, 1, 2, 3, 4, 5, 6, 7, 8, 9, 10, 11, 12, 13, 14, 15, 16], [14])])
def tune_Fold.B10 : List Nat := [0, 1, 0, 0, 0, 16, 0, 64, 0, 448, 960, 2040, 4088, 8184, 8184, 16383, 49151, 131071]
theorem tune_Fold.tab10 : rtab .any (opsOf Try.f16 10) = tune_Fold.T10 := by kernel_rfl
theorem tune_Fold.bits10 : waitsOk tune_Fold.T10.2 tune_Fold.B10 = true := by kernel_rfl
theorem tune_Fold.calls (k : Nat) (a0 : Int) (aJ : Option Addr) (aK : Nat) (ar : List (S64)) (aL : Option Addr) (aM : Nat) (au : List (S61)) (aN : Option Addr) (aO : Nat) (av : List (S66)) (r1 : List (S64)) (r2 : List (S61)) (r3 : List (S66)) (r4 : Int) (w : World) (bp : Kd.C k64 w aJ ar.length ar) (bq : ar.length ≤ aK) (br : Kd.C k61 w aL au.length au) (bt : au.length ≤ aM) (bu : Kd.C k66 w aN av.length av) (bv : av.length ≤ aO) (h : tune_Fold.f k a0 ar au av = some (r1, r2, r3, r4)) :
  Calls Try.prog 16 #[.int .u64 a0, .agg #[.slice aJ ar.length aK, .slice aL au.length aM, .slice aN av.length aO]] w fun e w' => ∃ v0_ v1_ v2_ : Value, e = .returned (.tuple #[.agg #[v0_, v1_, v2_], .int .i64 r4]) ∧ Kd.R k64 64 w' w.heap.size (fun _ => True) v0_ r1 ∧ Kd.R k61 61 w' w.heap.size (fun _ => True) v1_ r2 ∧ Kd.S k66 66 w' w.heap.size (fun _ => True) v2_ r3 ∧ Below w.heap.size w w' := by
 have hu26 := Try.underlying26;have hu61 := Try.underlying61;have bd := Aside0.mk bp;have be := Aside0.mk bq;clear bp bq;have bf := Aside0.mk br;have bg := Aside0.mk bt;clear br bt;have bh := Aside0.mk bu;have bi := Aside0.mk bv;clear bu bv;have HB := Aside0.mk (Below.refl w.heap.size w);have H : ((circ_Check.f k a0 ar au av).bind fun bc => (if bc = 0 then ((tune_Own.f k ar au av).bind fun aY => (tune_Fold.l0 k a0 (aY.2.1.length : Int) 0 aY.1 aY.2.1 aY.2.2)) else (some (([] : List (S64)), ([] : List (S61)), ([] : List (S66)), bc)))) = some (r1, r2, r3, r4) := h;clear h;replace H := Option.bind_eq_some_iff.mp H;obtain ⟨bc, A30, H⟩ := H;(try dsimp only at H);have A3 := Aside0.mk A30;clear A30
 by_cases c4 : bc = 0
 rotate_left
 ·rw [if_neg c4] at H
  have bD := beq_eq_false_iff_ne.mpr c4;have bE := bne_iff_ne.mpr c4;simp only [Option.some.injEq, Prod.mk.injEq] at H;obtain ⟨rfl, rfl, rfl, rfl⟩ := H;go_enter Try.func16, Try.ntmps16;go_wp2_with (first | ((with_reducible refine qga (N := 3) rfl ?_); refine box_event ?hg (N := 3) ?hd (cs := #[.slice aJ ar.length aK, .slice aL au.length aM, .slice aN av.length aO]) (t := 26) ?hr ?_; (case hd => rfl); (case hg => rfl); (case hr => first | (go_simp; done) | (go_simp; rfl)); intro bj hg w36 hbox hb; have af := am hbox; have bF := kG HB hg; have bG := kG HB hg; replace HB := kH HB hb; clear hb hbox hg) | ((with_reducible refine qga (N := 4) rfl ?_); refine box_event ?hg (N := 4) ?hd (cs := #[.slice none 0 0, .slice none 0 0, .slice none 0 0]) (t := 26) ?hr ?_; (case hd => rfl); (case hg => rfl); (case hr => first | (go_simp; done) | (go_simp; rfl)); intro an hg w37 hbox hb; have ag := am hbox; have bH := kG HB hg; have bI := kG HB hg; replace HB := kH HB hb; have ax := kP af hg; have ay := kQ af hg; replace af := kU af hb; clear hb hbox hg; have ce := ax.out; have cf := ay.out; have Z39 := kz3 af) | ((with_reducible refine gate_callee (f := 37) rfl ?_); refine goesL_ (some 12) rfl rfl Try.func37 (by kernel_rfl) rfl #[.int .u64 a0, .agg #[.slice aJ ar.length aK, .slice aL au.length aM, .slice aN av.length aO]] rfl (by (try simp only [qM1, qM2, qM3]); first | done | rfl) ?_; (with_reducible refine (circ_Check.calls k a0 _ _ ar _ _ au _ _ av bc _ ?side1 ?side2 ?side3 ?side4 ?side5 ?side6 A3.out).mono ?_); (case side1 => repeat (first | exact (Kd.C_below bd.out HB.out) | (with_reducible first | refine Kd.C_alloc ?_ _ | refine Kd.C_drewN ?_ _ | refine Kd.C_drew ?_))); (case side2 => exact be.out); (case side3 => repeat (first | exact (Kd.C_below bf.out HB.out) | (with_reducible first | refine Kd.C_alloc ?_ _ | refine Kd.C_drewN ?_ _ | refine Kd.C_drew ?_))); (case side4 => exact bg.out); (case side5 => repeat (first | exact (Kd.C_below bh.out HB.out) | (with_reducible first | refine Kd.C_alloc ?_ _ | refine Kd.C_drewN ?_ _ | refine Kd.C_drew ?_))); (case side6 => exact bi.out); rintro e w40 ⟨rfl, hb⟩; refine ⟨_, rfl, ?_⟩; replace af := kU af hb; replace ag := kU ag hb; replace HB := kH HB hb; (try clear hb); (try clear hb2); (try clear hk); (try clear hi); have Z41 := kz3 ag));refine bodyPost_ret (results_ct rfl _ _ an 26 #[.slice none 0 0, .slice none 0 0, .slice none 0 0] (0, 0) _ rfl (kg ag) Try.underlying26 rfl (by kernel_rfl)) rfl ?_;exact ⟨_, _, _, er, by first | exact Kd.R_nil _ _ _ _ _ | exact Kd.N_nil _ _ _ _ _ | exact Kd.V_nil _ _ _ _ _ | exact Kd.Q_nil _ _ _ _ _ | exact Kd.S_nil _ _ _ _ _, by first | exact Kd.R_nil _ _ _ _ _ | exact Kd.N_nil _ _ _ _ _ | exact Kd.V_nil _ _ _ _ _ | exact Kd.Q_nil _ _ _ _ _ | exact Kd.S_nil _ _ _ _ _, by first | exact Kd.S_nil _ _ _ _ _ | exact Kd.N_nil _ _ _ _ _ | exact Kd.V_nil _ _ _ _ _ | exact Kd.Q_nil _ _ _ _ _ | exact Kd.R_nil _ _ _ _ _, kh HB⟩
 rw [if_pos c4] at H;have bD := beq_iff_eq.mpr c4;have bE := bne_eq_false_iff_eq.mpr c4;clear c4;replace H := Option.bind_eq_some_iff.mp H;obtain ⟨⟨ap, aE, aq⟩, A50, H⟩ := H;(try dsimp only at H);have A5 := Aside0.mk A50;clear A50;have H' := Aside0.mk H;clear H;go_enter Try.func16, Try.ntmps16;go_wp2_with (first | ((with_reducible refine qga (N := 3) rfl ?_); refine box_event ?hg (N := 3) ?hd (cs := #[.slice aJ ar.length aK, .slice aL au.length aM, .slice aN av.length aO]) (t := 26) ?hr ?_; (case hd => rfl); (case hg => rfl); (case hr => first | (go_simp; done) | (go_simp; rfl)); intro bj hg w6 hbox hb; have af := am hbox; have bF := kG HB hg; have bG := kG HB hg; replace HB := kH HB hb; clear hb hbox hg) | ((with_reducible refine qga (N := 4) rfl ?_); refine box_event ?hg (N := 4) ?hd (cs := #[.slice none 0 0, .slice none 0 0, .slice none 0 0]) (t := 26) ?hr ?_; (case hd => rfl); (case hg => rfl); (case hr => first | (go_simp; done) | (go_simp; rfl)); intro an hg w7 hbox hb; have ag := am hbox; have bH := kG HB hg; have bI := kG HB hg; replace HB := kH HB hb; have ax := kP af hg; have ay := kQ af hg; replace af := kU af hb; clear hb hbox hg; have cv := ax.out; have cw := ay.out; have Z9 := kz3 af) | ((with_reducible refine gate_callee (f := 37) rfl ?_); refine goesL_ (some 12) rfl rfl Try.func37 (by kernel_rfl) rfl #[.int .u64 a0, .agg #[.slice aJ ar.length aK, .slice aL au.length aM, .slice aN av.length aO]] rfl (by (try simp only [qM1, qM2, qM3]); first | done | rfl) ?_; (with_reducible refine (circ_Check.calls k a0 _ _ ar _ _ au _ _ av bc _ ?side1 ?side2 ?side3 ?side4 ?side5 ?side6 A3.out).mono ?_); (case side1 => repeat (first | exact (Kd.C_below bd.out HB.out) | (with_reducible first | refine Kd.C_alloc ?_ _ | refine Kd.C_drewN ?_ _ | refine Kd.C_drew ?_))); (case side2 => exact be.out); (case side3 => repeat (first | exact (Kd.C_below bf.out HB.out) | (with_reducible first | refine Kd.C_alloc ?_ _ | refine Kd.C_drewN ?_ _ | refine Kd.C_drew ?_))); (case side4 => exact bg.out); (case side5 => repeat (first | exact (Kd.C_below bh.out HB.out) | (with_reducible first | refine Kd.C_alloc ?_ _ | refine Kd.C_drewN ?_ _ | refine Kd.C_drew ?_))); (case side6 => exact bi.out); rintro e w10 ⟨rfl, hb⟩; refine ⟨_, rfl, ?_⟩; replace af := kU af hb; replace ag := kU ag hb; replace HB := kH HB hb; (try clear hb); (try clear hb2); (try clear hk); (try clear hi); have Z11 := kz3 af) | ((with_reducible refine gate_callee (f := 38) rfl ?_); refine goesL_ (some 18) rfl rfl Try.func38 (by kernel_rfl) rfl #[.agg #[.slice aJ ar.length aK, .slice aL au.length aM, .slice aN av.length aO]] rfl (by (try simp only [qM1, qM2, qM3]); first | done | rfl) ?_; (with_reducible refine (tune_Own.calls k _ _ ar _ _ au _ _ av ap aE aq _ ?side1 ?side2 ?side3 ?side4 ?side5 ?side6 A5.out).mono ?_); (case side1 => repeat (first | exact (Kd.C_below bd.out HB.out) | (with_reducible first | refine Kd.C_alloc ?_ _ | refine Kd.C_drewN ?_ _ | refine Kd.C_drew ?_))); (case side2 => exact be.out); (case side3 => repeat (first | exact (Kd.C_below bf.out HB.out) | (with_reducible first | refine Kd.C_alloc ?_ _ | refine Kd.C_drewN ?_ _ | refine Kd.C_drew ?_))); (case side4 => exact bg.out); (case side5 => repeat (first | exact (Kd.C_below bh.out HB.out) | (with_reducible first | refine Kd.C_alloc ?_ _ | refine Kd.C_drewN ?_ _ | refine Kd.C_drew ?_))); (case side6 => exact bi.out); rintro e w12 ⟨cx, cy, cz, rfl, ho0, ho1, ho2, hb⟩; refine ⟨_, rfl, ?_⟩; have aZ := kLR ho0 HB; have ba := kLR ho1 HB; have bb := kLS ho2 HB; replace af := kU af hb; replace ag := kU ag hb; replace HB := kH HB hb; (try clear hb); (try clear hb2); (try clear hk); (try clear hi); (try clear ho0); (try clear ho1); (try clear ho2)) | ((with_reducible refine qga (N := 7) rfl ?_); refine box_event ?hg (N := 7) ?hd (cs := #[.slice none 0 0, .slice none 0 0, .slice none 0 0]) (t := 26) ?hr ?_; (case hd => rfl); (case hg => rfl); (case hr => first | (go_simp; done) | (go_simp; rfl)); intro ao hg w13 hbox hb; replace aZ := kR aZ hb; replace ba := kR ba hb; replace bb := kS bb hb; have ah := am hbox; have cg := kG HB hg; have ch := kG HB hg; replace HB := kH HB hb; have aF := kP af hg; have aG := kQ af hg; replace af := kU af hb; have aH := kP ag hg; have aI := kQ ag hg; replace ag := kU ag hb; clear hb hbox hg; obtain ⟨aA, aB, bQ⟩ := Kd.R_slice aZ.out; subst bQ; have ci := aG.out; have cj := aF.out; have ck := aI.out; have cl := aH.out; have Z17 := kz3 ah; obtain ⟨bk, bl, bR⟩ := Kd.R_slice ba.out; subst bR; obtain ⟨aC, aD, bS⟩ := Kd.S_slice bb.out; subst bS));go_loopg [22] k (fun kq v22 w' => ∃ (ae : Int) (ak : List (S61)) (al : Value), v22 = .int .i64 ae ∧ Aside0 (tune_Fold.l0 kq a0 (aE.length : Int) ae ap ak aq = some (r1, r2, r3, r4)) ∧ Aside0 (kq ≤ k) ∧ Aside0 (Kd.R k64 64 w' w.heap.size (fun _ => True) (.slice aA ap.length aB) ap) ∧ Aside0 (Kd.R k61 61 w' w.heap.size (fun _ => True) al ak) ∧ Aside0 (Kd.S k66 66 w' w.heap.size (fun _ => True) (.slice aC aq.length aD) aq) ∧ Aside0 (w'.heap[bj]? = some (.cells #[(.slice aJ ar.length aK), (.slice aL au.length aM), (.slice aN av.length aO)] 26 (0, 0))) ∧ Aside0 (w'.heap[an]? = some (.cells #[(.slice none 0 0), (.slice none 0 0), (.slice none 0 0)] 26 (0, 0))) ∧ Aside0 (w'.heap[ao]? = some (.cells #[(.slice aA ap.length aB), al, (.slice aC aq.length aD)] 26 (0, 0))) ∧ Aside0 (Below w.heap.size w w'))
 case atStart => exact ⟨(0), (aE), (.slice bk aE.length bl), et, H', ⟨Nat.le_refl _⟩, ⟨by (with_reducible repeat first | apply Kd.R_alloc | apply Kd.R_drewN | apply Kd.R_drew); exact Kd.R_mono (Kd.R_far (p := ⟨ao, 2, none⟩) (Kd.R_far (p := ⟨ao, 1, none⟩) (Kd.R_far (p := ⟨ao, 0, none⟩) (Kd.R_types aZ.out ah.out (by decide)) (fun _ hk => hk.2) (.slice aA ap.length aB)) (fun _ hk => hk.2) (.slice bk aE.length bl)) (fun _ hk => hk.2) (.slice aC aq.length aD)) (fun _ hk => trivial)⟩, ⟨by (with_reducible repeat first | apply Kd.R_alloc | apply Kd.R_drewN | apply Kd.R_drew); exact Kd.R_mono (Kd.R_far (p := ⟨ao, 2, none⟩) (Kd.R_far (p := ⟨ao, 1, none⟩) (Kd.R_far (p := ⟨ao, 0, none⟩) (Kd.R_types ba.out ah.out (by decide)) (fun _ hk => hk.2) (.slice aA ap.length aB)) (fun _ hk => hk.2) (.slice bk aE.length bl)) (fun _ hk => hk.2) (.slice aC aq.length aD)) (fun _ hk => trivial)⟩, ⟨by (with_reducible repeat first | apply Kd.S_alloc | apply Kd.S_drewN | apply Kd.S_drew); exact Kd.S_mono (Kd.S_far (p := ⟨ao, 2, none⟩) (Kd.S_far (p := ⟨ao, 1, none⟩) (Kd.S_far (p := ⟨ao, 0, none⟩) (Kd.S_types bb.out ah.out (by decide)) (fun _ hk => hk.2) (.slice aA ap.length aB)) (fun _ hk => hk.2) (.slice bk aE.length bl)) (fun _ hk => hk.2) (.slice aC aq.length aD)) (fun _ hk => trivial)⟩, ⟨kg af⟩, ⟨kg ag⟩, ⟨kg ah⟩, ⟨kh HB⟩⟩
 case round =>
  clear H';(try clear bD bE Z11 Z17 Z9);obtain ⟨ae, ak, al, rfl, HA, HK1, ai, aa, aj, af, ag, ah, HB⟩ := hrel
  cases gk with
  | zero => exact absurd HA.out (by simp [tune_Fold.l0])
  | succ k1 =>
   have H := HA.out;clear HA;simp only [tune_Fold.l0] at H
   by_cases c20 : ae < (aE.length : Int)
   rotate_left
   ·rw [if_neg c20] at H
    have bw := decide_eq_false c20;clear c20;simp only [Option.some.injEq, Prod.mk.injEq] at H;obtain ⟨rfl, rfl, rfl, rfl⟩ := H;have cm := aG.out;have cn := aF.out;have co := aI.out;have cp := aH.out;have Z32 := kz3 ah;have cq := ay.out;have cr := ax.out;have Z34 := kz3 ag;obtain ⟨bm, bn, bT⟩ := Kd.R_slice aa.out;subst bT;go_wp2;refine bodyPost_ret (results_ct rfl _ _ an 26 #[.slice aA ap.length aB, .slice bm ak.length bn, .slice aC aq.length aD] (0, 0) _ rfl (kg ag) Try.underlying26 rfl (by kernel_rfl)) rfl ?_;exact ⟨_, _, _, er, by (with_reducible repeat first | apply Kd.R_alloc | apply Kd.R_drewN | apply Kd.R_drew); exact Kd.R_mono (Kd.R_far (p := ⟨an, 2, none⟩) (Kd.R_far (p := ⟨an, 1, none⟩) (Kd.R_far (p := ⟨an, 0, none⟩) (Kd.R_types ai.out ag.out (by decide)) (fun _ hk => hk.2) (.slice aA ap.length aB)) (fun _ hk => hk.2) (.slice bm ak.length bn)) (fun _ hk => hk.2) (.slice aC aq.length aD)) (fun _ hk => trivial), by (with_reducible repeat first | apply Kd.R_alloc | apply Kd.R_drewN | apply Kd.R_drew); exact Kd.R_mono (Kd.R_far (p := ⟨an, 2, none⟩) (Kd.R_far (p := ⟨an, 1, none⟩) (Kd.R_far (p := ⟨an, 0, none⟩) (Kd.R_types aa.out ag.out (by decide)) (fun _ hk => hk.2) (.slice aA ap.length aB)) (fun _ hk => hk.2) (.slice bm ak.length bn)) (fun _ hk => hk.2) (.slice aC aq.length aD)) (fun _ hk => trivial), by (with_reducible repeat first | apply Kd.S_alloc | apply Kd.S_drewN | apply Kd.S_drew); exact Kd.S_mono (Kd.S_far (p := ⟨an, 2, none⟩) (Kd.S_far (p := ⟨an, 1, none⟩) (Kd.S_far (p := ⟨an, 0, none⟩) (Kd.S_types aj.out ag.out (by decide)) (fun _ hk => hk.2) (.slice aA ap.length aB)) (fun _ hk => hk.2) (.slice bm ak.length bn)) (fun _ hk => hk.2) (.slice aC aq.length aD)) (fun _ hk => trivial), kh HB⟩
   rw [if_pos c20] at H;have bw := decide_eq_true c20;clear c20;have H' := Aside0.mk H;clear H;go_wp2;go_loopg [9] k1 (fun kq v9 w' => ∃ (bo : Bool) (ab : List (S61)) (al : Value), v9 = .bool bo ∧ Aside0 (tune_Fold.l1 kq a0 ae bo (aE.length : Int) ae ap ab aq = some (r1, r2, r3, r4)) ∧ Aside0 (kq ≤ k1) ∧ Aside0 (Kd.R k64 64 w' w.heap.size (fun _ => True) (.slice aA ap.length aB) ap) ∧ Aside0 (Kd.R k61 61 w' w.heap.size (fun _ => True) al ab) ∧ Aside0 (Kd.S k66 66 w' w.heap.size (fun _ => True) (.slice aC aq.length aD) aq) ∧ Aside0 (w'.heap[bj]? = some (.cells #[(.slice aJ ar.length aK), (.slice aL au.length aM), (.slice aN av.length aO)] 26 (0, 0))) ∧ Aside0 (w'.heap[an]? = some (.cells #[(.slice none 0 0), (.slice none 0 0), (.slice none 0 0)] 26 (0, 0))) ∧ Aside0 (w'.heap[ao]? = some (.cells #[(.slice aA ap.length aB), al, (.slice aC aq.length aD)] 26 (0, 0))) ∧ Aside0 (Below w.heap.size w w'))
   case atStart => exact ⟨(true), (ak), (al), et, H', ⟨Nat.le_refl _⟩, ⟨krR ai⟩, ⟨krR aa⟩, ⟨krS aj⟩, ⟨kg af⟩, ⟨kg ag⟩, ⟨kg ah⟩, ⟨kh HB⟩⟩
   case round =>
    clear H'; (try clear bw);obtain ⟨bo, ab, al, rfl, HA, HK2, ai, aa, aj, af, ag, ah, HB⟩ := hrel
    cases gk with
    | zero => exact absurd HA.out (by simp [tune_Fold.l1])
    | succ k2 =>
     have H := HA.out;clear HA;simp only [tune_Fold.l1] at H
     by_cases c21 : bo = true
     rotate_left
     ·replace c21 := Bool.eq_false_iff.mpr c21
      subst c21;replace H := ifF H;have H' := Aside0.mk H;clear H;go_wp2;go_roundg k2
      case measure => have := HK1.out; have := HK2.out; omega
      case rel => exact ⟨(wrap64 (ae + 1)), (ab), (al), et, H', ⟨by have := HK1.out; have := HK2.out; omega⟩, ⟨krR ai⟩, ⟨krR aa⟩, ⟨krS aj⟩, ⟨kg af⟩, ⟨kg ag⟩, ⟨kg ah⟩, ⟨kh HB⟩⟩
     subst c21;replace H := ifT H
     by_cases c22 : 0 ≤ ae
     rotate_left
     ·rw [if_neg c22] at H
      exact absurd H (by simp)
     rw [if_pos c22] at H;have ct := decide_eq_true c22;clear c22
     by_cases c23 : ae < (ab.length : Int)
     rotate_left
     ·rw [if_neg c23] at H
      exact absurd H (by simp)
     rw [if_pos c23] at H;have cu := decide_eq_true c23;clear c23;replace H := Option.bind_eq_some_iff.mp H;obtain ⟨⟨aU, aV, aW, aX, bx⟩, bJ, H⟩ := H;(try dsimp only at H);have A24 := Aside0.mk bJ;clear bJ;obtain ⟨bK, aT⟩ : ∃ y_ : List (S61), y_ = (ab.set (ae : Int).toNat (⟨aU, aV, aW, aX⟩ : S61)) := ⟨_, rfl⟩
     replace H : (tune_Fold.l1 k2 a0 ae bx (aE.length : Int) ae ap bK aq) = some (r1, r2, r3, r4) := by first | (rw [aT]; with_reducible exact H) | (have H2_ := (Option.bind_some _ _).symm.trans H; rw [aT]; with_reducible exact H2_) | (have H2_ := (Option.bind_some _ _).symm.trans H; with_reducible exact H2_) | with_reducible exact H | (rw [aT]; exact H) | exact H
     have bL := Aside0.mk aT;clear aT;have H' := Aside0.mk H;clear H;(try go_wp2);replace ai := kFR ai; replace aa := kFR aa; replace aj := kFS aj; replace af := kD af; replace ag := kD ag; replace ah := kD ah; replace HB := kE HB;obtain ⟨cA, bz, bM⟩ := Kd.R_slice aa.out;(first | subst bM | (injection bM with f1_ f2_ f3_; have f4_ := f1_.symm; have f5_ := f3_.symm; clear f1_ f2_ f3_; subst f4_; subst f5_));have bA : 0 ≤ (ae : Int) := od;have bB : ae < (ab.length : Int) := od;obtain ⟨az, bU, aP, aQ, aR, aS⟩ := at_T61 (Kd.R_reads' aa.out).2.2 ae bA bB;cases bU;replace bA := eq_true bA; replace bB := eq_true bB;refine start_ (n := 18) (S := fun w' => w'.cell? ⟨ao, 0, none⟩ = some (.slice aA ap.length aB) ∧ w'.cell? ⟨ao, 1, none⟩ = some (.slice (some az) ab.length bz) ∧ w'.cell? ⟨ao, 2, none⟩ = some (.slice aC aq.length aD) ∧ w'.cell? (az.add ((ae).toNat * 4)) = some (.int .i64 ((rd_T61 ab ae).f0)) ∧ w'.cell? ⟨(az.add ((ae).toNat * 4)).block, (az.add ((ae).toNat * 4)).off + 1, none⟩ = some (.int .i64 ((rd_T61 ab ae).f1)) ∧ w'.cell? ⟨(az.add ((ae).toNat * 4)).block, (az.add ((ae).toNat * 4)).off + 2, none⟩ = some (.int .i64 ((rd_T61 ab ae).f2)) ∧ w'.cell? ⟨(az.add ((ae).toNat * 4)).block, (az.add ((ae).toNat * 4)).off + 3, none⟩ = some (.int .u64 ((rd_T61 ab ae).f3))) (ds := [16]) (bs 18 0) (by kernel_rfl) rfl rfl ⟨kk ah 0, kk ah 1, kk ah 2, aP, aQ, aR, aS⟩ (fun hHeld => ?_); refine with_tabW tune_Fold.tab10 tune_Fold.bits10 (fun HT_ HW_ => ?_);generalize wr.drew = w26 at ai aa aj af ag ah HB aP aQ aR aS hHeld ⊢;refine pu 0 (some 27) (bs 18 1) HT_ ?_;refine pu 2 (some 29) (bs 18 5) HT_ ?_;refine pu 3 (some 30) (bs 18 13) HT_ ?_;refine pu 4 (some 31) (bs 18 29) HT_ ?_;refine pu 6 (some 33) (bs 18 93) HT_ ?_;refine pu 8 (some 35) (bs 18 349) HT_ ?_;refine ta 1 (some 28) (bs 18 351) HT_ HW_ hHeld ?_;refine ta 5 (some 32) (bs 18 383) HT_ HW_ hHeld ?_;refine ta 7 (some 34) (bs 18 511) HT_ HW_ hHeld ?_;refine pu 9 (some 36) (bs 18 1023) HT_ ?_;refine ta 10 (some 37) (bs 18 2047) HT_ HW_ hHeld ?_;refine one_ (i := 11) (N := some 38) (bs 18 4095) rfl rfl (one_of HT_.out (by kernel_rfl)) (by decide) (fun K hK => ?_);refine goes_ Try.func39 (by kernel_rfl) rfl #[.int .u64 a0, .slice (some az) ab.length bz, .agg #[.int .i64 ((rd_T61 ab ae).f0), .int .i64 ((rd_T61 ab ae).f1), .int .i64 ((rd_T61 ab ae).f2), .int .u64 ((rd_T61 ab ae).f3)]] (by rfl) rfl rfl (by (try simp only [qM1, qM2, qM3]); first | done | rfl) ?_;(with_reducible refine (tune_folded.calls k2 a0 _ _ ab ((rd_T61 ab ae).f0) ((rd_T61 ab ae).f1) ((rd_T61 ab ae).f2) ((rd_T61 ab ae).f3) aU aV aW aX bx _ ?side1 ?side2 A24.out).mono ?_);(case side1 => repeat (first | exact (Kd.R_reads' aa.out).2.2 | (with_reducible first | refine Kd.C_alloc ?_ _ | refine Kd.C_drewN ?_ _ | refine Kd.C_drew ?_)));(case side2 => exact (Kd.R_reads' aa.out).2.1);rintro e w28 ⟨rfl, hb⟩;have HS3_ := (hb.cell (World.block_lt_of_cell? _ _ (hHeld.2.2.2.1))).trans (hHeld.2.2.2.1);have HS4_ := (hb.cell (World.block_lt_of_cell? _ _ (hHeld.2.2.2.2.1))).trans (hHeld.2.2.2.2.1);have HS5_ := (hb.cell (World.block_lt_of_cell? _ _ (hHeld.2.2.2.2.2.1))).trans (hHeld.2.2.2.2.2.1);have HS6_ := (hb.cell (World.block_lt_of_cell? _ _ (hHeld.2.2.2.2.2.2))).trans (hHeld.2.2.2.2.2.2);refine ⟨_, rfl, ?_⟩;replace ai := kR ai hb; replace aa := kR aa hb; replace aj := kS aj hb; replace af := kU af hb; replace ag := kU ag hb; replace ah := kU ah hb; replace HB := kH HB hb;(try clear hb);have p25 : 0 ≤ (ae : Int) := od;have q25 : (ae : Int) < ((ab.length : Int) : Int) := od;obtain ⟨aw, cB, bN, bO, gl25, cl25, HG25⟩ := Kd.R_form aa.out (by omega);(first | cases bN | (injection bN with ea_ en_ ec_; (first | subst ea_ | (injection ea_ with ea_; subst ea_)); subst ec_; clear en_));have cC := Aside0.mk bO;have bP := Aside0.mk HG25;clear bO gl25 HG25;(first | simp only [add_plain] at aP | skip);(first | simp only [add_plain] at aQ | skip);(first | simp only [add_plain] at aR | skip);(first | simp only [add_plain] at aS | skip);obtain ⟨ce25, hcl25, hM25, hcc25, hfr25⟩ := Kd.R_elem aa.out z61 (ae : Int) p25 q25;obtain rfl := k61_openM hM25;have bV : World.cell? _ ⟨aw, (ae : Int).toNat * 4, none⟩ = some (.int .i64 ((rd_T61 ab ae).f0)) := hcc25 0 _ rfl;have bW : World.cell? _ ⟨aw, (ae : Int).toNat * 4 + 1, none⟩ = some (.int .i64 ((rd_T61 ab ae).f1)) := hcc25 1 _ rfl;have bX : World.cell? _ ⟨aw, (ae : Int).toNat * 4 + 2, none⟩ = some (.int .i64 ((rd_T61 ab ae).f2)) := hcc25 2 _ rfl;have bY : World.cell? _ ⟨aw, (ae : Int).toNat * 4 + 3, none⟩ = some (.int .u64 ((rd_T61 ab ae).f3)) := hcc25 3 _ rfl;have bZ : World.frozen? _ ⟨aw, (ae : Int).toNat * 4, none⟩ = false := hfr25 0;have ca : World.frozen? _ ⟨aw, (ae : Int).toNat * 4 + 1, none⟩ = false := hfr25 1;have cb : World.frozen? _ ⟨aw, (ae : Int).toNat * 4 + 2, none⟩ = false := hfr25 2;have cc : World.frozen? _ ⟨aw, (ae : Int).toNat * 4 + 3, none⟩ = false := hfr25 3;clear hcl25 hcc25 hfr25 hM25; replace p25 := eq_true p25; replace q25 := eq_true q25;obtain ⟨ce29, hcl29, hM29, hcc29, hfr29⟩ := Kd.R_elem aa.out z61 (ae : Int) od (by have h_ : (ae : Int) < ((ab.length : Int) : Int) := od; first | exact h_ | (have e_ := (Kd.R_reads' aa.out).1; omega) | simpa using h_);obtain rfl := k61_openM hM29;have bC := (Kd.R_seg aa.out (ae : Int) od (by have h_ : (ae : Int) < ((ab.length : Int) : Int) := od; first | exact h_ | (have e_ := (Kd.R_reads' aa.out).1; omega) | simpa using h_) (seg := [.int .i64 aU, .int .i64 aV, .int .i64 aW, .int .u64 aX]) (j := 0) hcl29 hcc29 (show 4 ≤ 4 from by decide) (x' := (⟨aU, aV, aW, aX⟩ : S61)) (k61_mkM _ _ _ (⟨aU, aV, aW, aX⟩ : S61) ) (fun _ hk => hk)).1;rw [← bL.out] at bC;have cd := Aside0.mk bC;clear hcl29 hcc29 hfr29 hM29 bC;refine hK.out _ _ ⟨kk ah 0, kk ah 1, kk ah 2, HS3_, HS4_, HS5_, HS6_⟩ (fun hHeld => ?_);clear hK K;refine no (some 38) ?_;refine pu 12 (some 26) (bs 18 8191) HT_ ?_;refine pu 13 (some 39) (bs 18 16383) HT_ ?_;refine pu 14 (some 40) (bs 18 32767) HT_ ?_;refine pu 15 (some 41) (bs 18 65535) HT_ ?_;refine last_ (i := 16) (N := none) (bs 18 131071) rfl rfl (one_of HT_.out (by kernel_rfl)) (by decide) (fun K hK => ?_);refine skip_ (w1 := ?_) (by rfl) rfl ?_ ?_
     rotate_left
     ·go_simp
      rfl
     refine hK.out _ _ ?_;clear hK K;refine pu 17 (some 9) (bs 18 262143) HT_ ?_;refine done_ (done_of HT_.out (by kernel_rfl)) ?_;(try go_wp2);go_roundg k2
     case measure => have := HK1.out; have := HK2.out; omega
     case rel => exact ⟨(bx), (bK), (.slice (some ⟨aw, 0, none⟩) ab.length bz), et, H', ⟨by have := HK1.out; have := HK2.out; omega⟩, ⟨by (with_reducible repeat first | apply Kd.R_alloc | apply Kd.R_drewN | apply Kd.R_drew); exact Kd.R_mono (Kd.R_far (p := ⟨aw, (ae : Int).toNat * 4 + 3, none⟩) (Kd.R_far (p := ⟨aw, (ae : Int).toNat * 4 + 2, none⟩) (Kd.R_far (p := ⟨aw, (ae : Int).toNat * 4 + 1, none⟩) (Kd.R_far (p := ⟨aw, (ae : Int).toNat * 4, none⟩) (Kd.R_types ai.out bP.out (by decide)) (fun _ hk => hk.2) (.int .i64 aU)) (fun _ hk => hk.2) (.int .i64 aV)) (fun _ hk => hk.2) (.int .i64 aW)) (fun _ hk => hk.2) (.int .u64 aX)) (fun _ hk => trivial)⟩, ⟨krR cd⟩, ⟨by (with_reducible repeat first | apply Kd.S_alloc | apply Kd.S_drewN | apply Kd.S_drew); exact Kd.S_mono (Kd.S_far (p := ⟨aw, (ae : Int).toNat * 4 + 3, none⟩) (Kd.S_far (p := ⟨aw, (ae : Int).toNat * 4 + 2, none⟩) (Kd.S_far (p := ⟨aw, (ae : Int).toNat * 4 + 1, none⟩) (Kd.S_far (p := ⟨aw, (ae : Int).toNat * 4, none⟩) (Kd.S_types aj.out bP.out (by decide)) (fun _ hk => hk.2) (.int .i64 aU)) (fun _ hk => hk.2) (.int .i64 aV)) (fun _ hk => hk.2) (.int .i64 aW)) (fun _ hk => hk.2) (.int .u64 aX)) (fun _ hk => trivial)⟩, ⟨by (with_reducible repeat first | refine blk_drewN ?_ _ | refine blk_drew ?_ | refine blk_alloc ?_ _); refine blk_far ?_ (by have h_ := Kd.R_ne aa.out af.out (by decide); intro e_; exact h_ (by rw [e_]; rfl)) _; (with_reducible repeat first | refine blk_drewN ?_ _ | refine blk_drew ?_ | refine blk_alloc ?_ _); refine blk_far ?_ (by have h_ := Kd.R_ne aa.out af.out (by decide); intro e_; exact h_ (by rw [e_]; rfl)) _; (with_reducible repeat first | refine blk_drewN ?_ _ | refine blk_drew ?_ | refine blk_alloc ?_ _); refine blk_far ?_ (by have h_ := Kd.R_ne aa.out af.out (by decide); intro e_; exact h_ (by rw [e_]; rfl)) _; (with_reducible repeat first | refine blk_drewN ?_ _ | refine blk_drew ?_ | refine blk_alloc ?_ _); refine blk_far ?_ (by have h_ := Kd.R_ne aa.out af.out (by decide); intro e_; exact h_ (by rw [e_]; rfl)) _; (with_reducible repeat first | refine blk_drewN ?_ _ | refine blk_drew ?_ | refine blk_alloc ?_ _); exact af.out⟩, ⟨by (with_reducible repeat first | refine blk_drewN ?_ _ | refine blk_drew ?_ | refine blk_alloc ?_ _); refine blk_far ?_ (by have h_ := Kd.R_ne aa.out ag.out (by decide); intro e_; exact h_ (by rw [e_]; rfl)) _; (with_reducible repeat first | refine blk_drewN ?_ _ | refine blk_drew ?_ | refine blk_alloc ?_ _); refine blk_far ?_ (by have h_ := Kd.R_ne aa.out ag.out (by decide); intro e_; exact h_ (by rw [e_]; rfl)) _; (with_reducible repeat first | refine blk_drewN ?_ _ | refine blk_drew ?_ | refine blk_alloc ?_ _); refine blk_far ?_ (by have h_ := Kd.R_ne aa.out ag.out (by decide); intro e_; exact h_ (by rw [e_]; rfl)) _; (with_reducible repeat first | refine blk_drewN ?_ _ | refine blk_drew ?_ | refine blk_alloc ?_ _); refine blk_far ?_ (by have h_ := Kd.R_ne aa.out ag.out (by decide); intro e_; exact h_ (by rw [e_]; rfl)) _; (with_reducible repeat first | refine blk_drewN ?_ _ | refine blk_drew ?_ | refine blk_alloc ?_ _); exact ag.out⟩, ⟨by (with_reducible repeat first | refine blk_drewN ?_ _ | refine blk_drew ?_ | refine blk_alloc ?_ _); refine blk_far ?_ (by have h_ := Kd.R_ne aa.out ah.out (by decide); intro e_; exact h_ (by rw [e_]; rfl)) _; (with_reducible repeat first | refine blk_drewN ?_ _ | refine blk_drew ?_ | refine blk_alloc ?_ _); refine blk_far ?_ (by have h_ := Kd.R_ne aa.out ah.out (by decide); intro e_; exact h_ (by rw [e_]; rfl)) _; (with_reducible repeat first | refine blk_drewN ?_ _ | refine blk_drew ?_ | refine blk_alloc ?_ _); refine blk_far ?_ (by have h_ := Kd.R_ne aa.out ah.out (by decide); intro e_; exact h_ (by rw [e_]; rfl)) _; (with_reducible repeat first | refine blk_drewN ?_ _ | refine blk_drew ?_ | refine blk_alloc ?_ _); refine blk_far ?_ (by have h_ := Kd.R_ne aa.out ah.out (by decide); intro e_; exact h_ (by rw [e_]; rfl)) _; (with_reducible repeat first | refine blk_drewN ?_ _ | refine blk_drew ?_ | refine blk_alloc ?_ _); exact ah.out⟩, ⟨kh HB⟩⟩
def tune_Share.val (g : S61) : Value := .agg #[.int .i64 g.f0, .int .i64 g.f1, .int .i64 g.f2, .int .u64 g.f3]
def tune_Share.ent (g : S61 × Int) (j : Nat) : MapEntry := { key := tune_Share.val g.1, val := .int .i64 g.2, born := j }
def tune_Share.ents : Nat → List (S61 × Int) → List MapEntry
 | _, [] => []
 | j, g :: M => tune_Share.ent g j :: tune_Share.ents (j + 1) M
def tune_Share.obj (M : List (S61 × Int)) : Obj := .map (tune_Share.ents 0 M).toArray M.length
def tune_Share.same (x y : S61) : Bool := x.f0 == y.f0 && (x.f1 == y.f1 && (x.f2 == y.f2 && x.f3 == y.f3))
def tune_Share.find (g : S61) : List (S61 × Int) → Option Int
 | [] => none
 | x :: M => if tune_Share.same g x.1 = true then some x.2 else tune_Share.find g M
def tune_Share.look (M : List (S61 × Int)) (a b c d : Int) : Option (Int × Bool) := some (match tune_Share.find ⟨a, b, c, d⟩ M with | some i => (i, true) | none => (0, false))
def tune_Share.put (M : List (S61 × Int)) (a b c d i : Int) : Option (List (S61 × Int)) := if tune_Share.find ⟨a, b, c, d⟩ M = none then some (M ++ [(⟨a, b, c, d⟩, i)]) else none
def tune_Share.st (l : List Int) (i _ _ _ _ : Int) : Option Bool := if 0 ≤ i ∧ i < (l.length : Int) then some (rd l i == i) else none
def tune_Share.tto (l : List Int) (i : Int) : Option Int := if 0 ≤ i ∧ i < (l.length : Int) then some (rd l i) else none
theorem tune_Share.blk_far {w : World} {g : Nat} {o : Obj} (h : w.heap[g]? = some o) {p : Addr} (hp : g ≠ p.block) (u : Value) : (w.setCell p u).heap[g]? = some o := (Below.heap_setCell w p u g hp).trans h
theorem tune_Share.map_step {P : Program} {ops : Array Oper} {o : Oper} {a : Act} {Q : Exit → Act → World → Prop} {Kc : Act → World → Prop} {W : World} (hw : Region.wanted o (yielded ops a.tmps) = true) {N : Tmp} (_hd : o.dst = some N)
  (hrun : (execOp a.eval o).run P W = .ok (.value (.map (some W.heap.size))) (W.alloc (.map #[] 0)))
  (h : ∀ g, g = W.heap.size → ∀ w1, w1.heap[g]? = some (tune_Share.obj []) → Below W.heap.size W w1 → Kc (a.put o.dst (.map (some g))) w1) : if Region.wanted o (yielded ops a.tmps) = true then Oper.wp P o a W Kc Q else Kc (a.put o.dst undef) W :=
 event_step hw hrun (h _ rfl _ (blk_new W (.map #[] 0)) (below_alloc (Below.refl _ _) _))
theorem tune_Share.equal_run (x y : S61) (w : World) (d : Nat) : (Op.equalIn (d + 2) 61 (tune_Share.val x) (tune_Share.val y)).run Try.prog w = .ok (tune_Share.same x y) w := by
 unfold tune_Share.val tune_Share.same;refine eqA_of Try.underlying61 (by kernel_rfl) ?_;refine eqf_cons (by rfl) (by go_simp; rfl) (by go_simp; rfl) (by go_simp) ?_;refine eqf_cons (by rfl) (by go_simp; rfl) (by go_simp; rfl) (by go_simp) ?_;refine eqf_cons (by rfl) (by go_simp; rfl) (by go_simp; rfl) (by go_simp) ?_;refine eqf_last (by rfl) (by go_simp; rfl) (by go_simp; rfl) (by go_simp)
theorem tune_Share.ask_run (g : S61) (w : World) : ∀ (M : List (S61 × Int)) (j i : Nat), ∃ q : Option (Nat × Value), (Instr.findAsking 61 (tune_Share.val g) (tune_Share.ents j M) i).run Try.prog w = .ok q w ∧ q.map Prod.snd = (tune_Share.find g M).map (Value.int .i64)
 | [], _, _ => ⟨none, by simp [tune_Share.ents, Instr.findAsking], rfl⟩
 | x :: M, j, i => by
  obtain ⟨q, hq, hq2⟩ := tune_Share.ask_run g w M (j + 1) (i + 1);have he : (Op.equal 61 (tune_Share.val g) (tune_Share.ent x j).key).run Try.prog w = .ok (tune_Share.same g x.1) w := tune_Share.equal_run g x.1 w 9998;unfold tune_Share.ents Instr.findAsking tune_Share.find;rw [Sem.run_bind, he, Result.andThen_ok];cases hs : tune_Share.same g x.1
  ·simp only [Bool.false_eq_true, if_false]
   exact ⟨q, hq, hq2⟩
  ·simp only [if_true]
   exact ⟨some (i, .int .i64 x.2), by simp [tune_Share.ent], rfl⟩
theorem tune_Share.key_run (e : Bool) (g : S61) (w : World) : (Instr.checkKey e 10000 61 (tune_Share.val g)).run Try.prog w = .ok () w := by
 cases e <;> kernel_rfl
theorem tune_Share.find_run (g : S61) (M : List (S61 × Int)) (w : World) : ∃ q : Option (Nat × Value), (Instr.findKey 61 (tune_Share.val g) (tune_Share.ents 0 M)).run Try.prog w = .ok q w ∧ q.map Prod.snd = (tune_Share.find g M).map (Value.int .i64) := by
 obtain ⟨q, hq, hq2⟩ := tune_Share.ask_run g w M 0 0;exact ⟨q, (run_findKey_eq (P := Try.prog) (k := 61) w (by rw [Try.underlying61]) (tune_Share.val g) (tune_Share.ents 0 M)).trans hq, hq2⟩
theorem tune_Share.look_run (g : S61) (M : List (S61 × Int)) (w : World) (b : Nat) (hb : w.heap[b]? = some (tune_Share.obj M)) (r : Int × Bool) (h : tune_Share.look M g.f0 g.f1 g.f2 g.f3 = some r) :
  (Instr.lookup 73 (.map (some b)) (tune_Share.val g) true).run Try.prog w = .ok (.tuple #[.int .i64 r.1, .bool r.2]) w := by
 obtain ⟨q, hq, hq2⟩ := tune_Share.find_run g M w;obtain rfl := Option.some.inj h
 have hz : (zeroValue 3).run Try.prog w = .ok (.int .i64 0) w := by kernel_rfl
 have hu : (underlying 73).run Try.prog w = .ok (.map 61 3) w := by kernel_rfl
 have ho : (getObj b).run Try.prog w = .ok (tune_Share.obj M) w := by simp [getObj, Sem.run, hb]; rfl
 unfold Instr.lookup;rw [Sem.run_bind, hu, Result.andThen_ok];simp only [Sem.run_bind, ho, tune_Share.obj, Result.andThen_ok, Sem.run_pure, tune_Share.key_run, hq]
 cases hf : tune_Share.find g M with
 | none =>
  rw [hf] at hq2
  cases q with
  | some q => cases hq2
  | none => simp [hz, hf]
 | some i =>
  rw [hf] at hq2
  cases q with
  | none => cases hq2
  | some q =>
   obtain ⟨q1, q2⟩ := q;obtain rfl : q2 = .int .i64 i := Option.some.inj hq2;simp [hf]
theorem tune_Share.ents_push (x : S61 × Int) : ∀ (M : List (S61 × Int)) (j : Nat), tune_Share.ents j (M ++ [x]) = tune_Share.ents j M ++ [tune_Share.ent x (j + M.length)]
 | [], j => by simp [tune_Share.ents]
 | y :: M, j => by
  simp only [List.cons_append, tune_Share.ents, tune_Share.ents_push x M (j + 1), List.length_cons];rw [show j + 1 + M.length = j + (M.length + 1) by omega]
theorem tune_Share.put_run (g : S61) (M M' : List (S61 × Int)) (w : World) (b : Nat) (i : Int) (hb : w.heap[b]? = some (tune_Share.obj M)) (h : tune_Share.put M g.f0 g.f1 g.f2 g.f3 i = some M') :
  (Instr.mapUpdate 73 (.map (some b)) (tune_Share.val g) (.int .i64 i)).run Try.prog w = .ok () (w.putObj b (tune_Share.obj M')) := by
 unfold tune_Share.put at h
 split at h
 ·rename_i hf
  obtain rfl := Option.some.inj h;obtain ⟨q, hq, hq2⟩ := tune_Share.find_run g M w;rw [show tune_Share.find g M = none from hf] at hq2
  obtain rfl : q = none := by cases q with | none => rfl | some q => cases hq2
  have hu : (underlying 73).run Try.prog w = .ok (.map 61 3) w := by kernel_rfl
  have ho : (getObj b).run Try.prog w = .ok (tune_Share.obj M) w := by simp [getObj, Sem.run, hb]; rfl
  have he : tune_Share.obj (M ++ [(g, i)]) = .map ((tune_Share.ents 0 M).toArray.push { key := tune_Share.val g, val := .int .i64 i, born := M.length }) (M.length + 1) := by
   simp [tune_Share.obj, tune_Share.ents_push, tune_Share.ent]
  unfold Instr.mapUpdate;rw [Sem.run_bind, hu, Result.andThen_ok];simp only [Sem.run_bind, ho, tune_Share.obj, Result.andThen_ok, tune_Share.key_run, hq];rw [show (⟨g.f0, g.f1, g.f2, g.f3⟩ : S61) = g from rfl] at *
  have hs : ∀ X : Obj, (setObj b X).run Try.prog w = .ok () (w.putObj b X) := fun X => by
   simp only [setObj, Sem.run, hb, World.putObj]
   rfl
  rw [hs];exact congrArg (fun o => Result.ok () (w.putObj b o)) he.symm
 ·cases h
theorem tune_Share.calls1 (g : Nat) (A : Option Addr) (c : Nat) (l : List Int) (W : World) (hx : W.cell? ⟨g, 0, none⟩ = some (.slice A l.length c)) (hC : Kd.C (Kd.int .i64) W A l.length l) (x0 x1 x2 x3 x4 : Int) (r : Bool) (h : tune_Share.st l x0 x1 x2 x3 x4 = some r) :
  Calls Try.prog 46 (#[.int .i64 x0, .agg #[.int .i64 x1, .int .i64 x2, .int .i64 x3, .int .u64 x4]] ++ #[.pointer (some ⟨g, 0, none⟩)]) W fun e_ w' => e_ = .returned (.bool r) ∧ Below W.heap.size W w' := by
 unfold tune_Share.st at h
 split at h
 ·rename_i hi
  obtain rfl := Option.some.inj h;obtain ⟨h0, h1⟩ := hi;obtain ⟨ad, rfl, hr⟩ := Kd.at_int hC x0 h0 h1;clear hC h;replace hx := (World.grownBy_alloc W (.cells #[.int .i64 x1, .int .i64 x2, .int .i64 x3, .int .u64 x4] 61 (0, 0)) none).cell hx (by simp);replace hr := (World.grownBy_alloc W (.cells #[.int .i64 x1, .int .i64 x2, .int .i64 x3, .int .u64 x4] 61 (0, 0)) none).cell hr (by simp);replace h0 := eq_true h0; replace h1 := eq_true h1;go_enter Try.func46, Try.ntmps46;go_wp2;go_ret;exact ⟨rfl, by repeat (first | exact Below.refl _ _ | apply below_alloc)⟩
 ·cases h
theorem tune_Share.calls2 (g : Nat) (A : Option Addr) (c : Nat) (l : List Int) (W : World) (hx : W.cell? ⟨g, 0, none⟩ = some (.slice A l.length c)) (hC : Kd.C (Kd.int .i64) W A l.length l) (x0 r : Int) (h : tune_Share.tto l x0 = some r) :
  Calls Try.prog 47 (#[.int .i64 x0] ++ #[.pointer (some ⟨g, 0, none⟩)]) W fun e_ w' => e_ = .returned (.int .i64 r) ∧ Below W.heap.size W w' := by
 unfold tune_Share.tto at h
 split at h
 ·rename_i hi
  obtain rfl := Option.some.inj h;obtain ⟨h0, h1⟩ := hi;obtain ⟨ad, rfl, hr⟩ := Kd.at_int hC x0 h0 h1;clear hC h; replace h0 := eq_true h0; replace h1 := eq_true h1;go_enter Try.func47, Try.ntmps47;go_wp2;go_ret;exact ⟨rfl, by repeat (first | exact Below.refl _ _ | apply below_alloc)⟩
 ·cases h
theorem tune_Share.gate_upd {P : Program} {ops : Array Oper} {rest : List Oper} {o : Oper} {a : Act} {Q : Exit → Act → World → Prop} {W : World} {x y z : Operand} (_h : o.op = .mapUpdate 73 x y z) (k : wpList P ops Q (o :: rest) a W) : wpList P ops Q (o :: rest) a W := k
theorem tune_Share.upd_event {P : Program} {ops : Array Oper} {rest : List Oper} {o : Oper} {a : Act} {Q : Exit → Act → World → Prop} {W w1 : World} (hgd : o.guard = none) (hN : o.dst = none)
  (hrun : (execOp a.eval o).run P W = .ok .skip w1) (h : ∀ w', w' = w1 → wpList P ops Q rest a w') : wpList P ops Q (o :: rest) a W := by
 refine wpList_plain hgd fun K hK => ?_
 unfold Oper.wp;rw [hrun]
 show K (a.put o.dst undef) w1
 rw [hN];exact hK _ _ (h _ rfl)
theorem tune_Share.look_event {P : Program} {ops : Array Oper} {rest : List Oper} {o : Oper} {a : Act} {Q : Exit → Act → World → Prop} {W : World} (hgd : o.guard = none) {N : Tmp} (_hN : o.dst = some N) {v : Value}
  (hrun : (execOp a.eval o).run P W = .ok (.value v) W) (h : ∀ w', Below W.heap.size W w' → wpList P ops Q rest (a.put o.dst v) w') : wpList P ops Q (o :: rest) a W :=
 Kd.event_run hgd hrun (h _ (Below.refl _ _))
theorem tune_Share.blk_upd {w : World} {g b : Nat} {o : Obj} (h : w.heap[g]? = some o) (hne : g ≠ b) (o' : Obj) : (w.putObj b o').heap[g]? = some o := (World.putObj_heap_other hne).trans h
theorem tune_Share.upd_new {w : World} {b : Nat} {o : Obj} (h : w.heap[b]? = some o) (o' : Obj) : (w.putObj b o').heap[b]? = some o' := by
 have := (Array.getElem?_eq_some_iff.1 h).1;simp [World.putObj, this]
theorem tune_Share.below_upd {n b : Nat} {w W : World} (h : Below n w W) (hb : n ≤ b) (hn : n ≤ W.heap.size) (o' : Obj) : Below n w (W.putObj b o') := h.grown (grownBy_putObj' W b o') hn (fun j hj => by cases hj; exact hb)
theorem tune_Share.R_upd {α : Type} {d : Kd α} {e : TypeId} {w : World} {base b : Nat} {v : Value} {xs : List α} {M : List (S61 × Int)} (h : d.R e w base (fun _ => True) v xs) (hb : w.heap[b]? = some (tune_Share.obj M)) (o' : Obj) : d.R e (w.putObj b o') base (fun _ => True) v xs :=
 Kd.R_mono (Kd.R_step (Kd.R_bound h) (fun k hk _ => by
  obtain ⟨_, _, _, q, _, cs, hc⟩ := hk
  exact World.putObj_heap_other (fun e => by rw [e, hb] at hc; cases hc))) (fun _ _ => trivial)
theorem tune_Share.R_neM {α : Type} {d : Kd α} {e : TypeId} {w : World} {base g : Nat} {ok : Nat → Prop} {v : Value} {xs : List α} {M : List (S61 × Int)} (h : d.R e w base ok v xs) (hb : w.heap[g]? = some (tune_Share.obj M)) : some g ≠ v.ownBlock := by
 obtain ⟨inner, ho, _⟩ := h.2
 rcases ho.2 with ⟨rfl, _⟩ | ⟨g', cap, cur, rfl, _, hh, _⟩
 ·simp [Value.ownBlock]
 ·intro he
  have : g = g' := by simpa [Value.ownBlock] using he
  subst this;rw [hb] at hh
  injection hh with hh
  cases hh
mutual
def tune_Share.l0 : Nat → List (S61) → Int → Int → List (S64) → List (S61) → List (S66) → List (S61 × Int) → Bool → List Int → Option ((List (S64)) × (List (S61)) × (List (S66)) × Int)
 | 0, _, _, _, _, _, _, _, _, _ => none
 | k + 1, x26, x27, x28, ab, ae, af, ag, aj, aa => if x28 < x27 then (if 0 ≤ x28 then (if x28 < (x26.length : Int) then (if ((rd_T61 x26 x28).f0) = 1 then (tune_Share.j1 k x28 x26 x27 x28 false ab ae af ag aj aa ((rd_T61 x26 x28).f0) ((rd_T61 x26 x28).f1) ((rd_T61 x26 x28).f2) ((rd_T61 x26 x28).f3)) else (tune_Share.j1 k x28 x26 x27 x28 (((rd_T61 x26 x28).f0) != 2) ab ae af ag aj aa ((rd_T61 x26 x28).f0) ((rd_T61 x26 x28).f1) ((rd_T61 x26 x28).f2) ((rd_T61 x26 x28).f3))) else (none)) else (none)) else ((tune_moved.f (tune_Share.st aa) (tune_Share.tto aa) k ab ae af).bind fun an => (some (an.1, an.2.1, an.2.2, 0)))
def tune_Share.j1 : Nat → Int → List (S61) → Int → Int → Bool → List (S64) → List (S61) → List (S66) → List (S61 × Int) → Bool → List Int → Int → Int → Int → Int → Option ((List (S64)) × (List (S61)) × (List (S66)) × Int)
 | 0, _, _, _, _, _, _, _, _, _, _, _, _, _, _, _ => none
 | k + 1, x9, x26, x27, x28, x40, ab, ae, af, ag, aj, aa, ak, ah, ai, al => if x40 = true then (if 0 ≤ ah then (if ah < (aa.length : Int) then (if ak = 6 then (tune_Share.j2 k x9 x26 x27 x28 ab ae af ag aj aa ak (rd aa ah) ai al) else (if 0 ≤ ai then (if ai < (aa.length : Int) then (tune_Share.j2 k x9 x26 x27 x28 ab ae af ag aj aa ak (rd aa ah) (rd aa ai) al) else (none)) else (none))) else (none)) else (none)) else (tune_Share.j2 k x9 x26 x27 x28 ab ae af ag aj aa ak ah ai al)
def tune_Share.j2 : Nat → Int → List (S61) → Int → Int → List (S64) → List (S61) → List (S66) → List (S61 × Int) → Bool → List Int → Int → Int → Int → Int → Option ((List (S64)) × (List (S61)) × (List (S66)) × Int)
 | 0, _, _, _, _, _, _, _, _, _, _, _, _, _, _ => none
 | k + 1, x9, x26, x27, x28, ab, ae, af, ag, aj, aa, ak, ah, ai, al => if ak = 3 then (tune_Share.j3 k x9 x26 x27 x28 (decide (ah > ai)) ab ae af ag aj aa ak ah ai al) else (if ak = 5 then (tune_Share.j3 k x9 x26 x27 x28 (decide (ah > ai)) ab ae af ag aj aa ak ah ai al) else (tune_Share.j3 k x9 x26 x27 x28 false ab ae af ag aj aa ak ah ai al))
def tune_Share.j3 : Nat → Int → List (S61) → Int → Int → Bool → List (S64) → List (S61) → List (S66) → List (S61 × Int) → Bool → List Int → Int → Int → Int → Int → Option ((List (S64)) × (List (S61)) × (List (S66)) × Int)
 | 0, _, _, _, _, _, _, _, _, _, _, _, _, _, _, _ => none
 | k + 1, x9, x26, x27, x28, x70, ab, ae, af, ag, aj, aa, ak, ah, ai, al => if x70 = true then (tune_Share.j4 k x9 x26 x27 x28 ab ae af ag aj aa ak ai ah al) else (tune_Share.j4 k x9 x26 x27 x28 ab ae af ag aj aa ak ah ai al)
def tune_Share.j4 : Nat → Int → List (S61) → Int → Int → List (S64) → List (S61) → List (S66) → List (S61 × Int) → Bool → List Int → Int → Int → Int → Int → Option ((List (S64)) × (List (S61)) × (List (S66)) × Int)
 | 0, _, _, _, _, _, _, _, _, _, _, _, _, _, _ => none
 | k + 1, x9, x26, x27, x28, ab, ae, af, ag, aj, aa, ak, ah, ai, al => (tune_Share.look ag ak ah ai al).bind fun ao => (if ao.2 = true then (if 0 ≤ x9 then (if x9 < (aa.length : Int) then (tune_Share.l0 k x26 x27 (wrap64 (x28 + 1)) ab ae af ag aj (aa.set (x9 : Int).toNat ao.1)) else (none)) else (none)) else ((tune_Share.put ag ak ah ai al x9).bind fun ap => (if 0 ≤ x9 then (if x9 < (aa.length : Int) then (tune_Share.l0 k x26 x27 (wrap64 (x28 + 1)) ab ae af ap aj (aa.set (x9 : Int).toNat x9)) else (none)) else (none))))
end
def tune_Share.f (k : Nat) (a0 : Int) (ab : List (S64)) (aa : List (S61)) (ae : List (S66)) : Option ((List (S64)) × (List (S61)) × (List (S66)) × Int) := (circ_Check.f k a0 ab aa ae).bind fun af => (if af = 0 then (if 0 ≤ (aa.length : Int) then (if ((aa.length : Int) : Int).toNat ≤ 35184372088832 then (tune_Share.l0 k aa (aa.length : Int) 0 ab aa ae [] false (List.replicate ((aa.length : Int) : Int).toNat 0)) else (none)) else (none)) else (some (([] : List (S64)), ([] : List (S61)), ([] : List (S66)), af)))
theorem tune_Share.mono_l : ∀ k, (∀ y0 y1 y2 y3 y4 y5 y6 y7 y8, LeO (tune_Share.l0 k y0 y1 y2 y3 y4 y5 y6 y7 y8) (tune_Share.l0 (k + 1) y0 y1 y2 y3 y4 y5 y6 y7 y8)) ∧ (∀ y0 y1 y2 y3 y4 y5 y6 y7 y8 y9 y10 y11 y12 y13 y14, LeO (tune_Share.j1 k y0 y1 y2 y3 y4 y5 y6 y7 y8 y9 y10 y11 y12 y13 y14) (tune_Share.j1 (k + 1) y0 y1 y2 y3 y4 y5 y6 y7 y8 y9 y10 y11 y12 y13 y14)) ∧ (∀ y0 y1 y2 y3 y4 y5 y6 y7 y8 y9 y10 y11 y12 y13, LeO (tune_Share.j2 k y0 y1 y2 y3 y4 y5 y6 y7 y8 y9 y10 y11 y12 y13) (tune_Share.j2 (k + 1) y0 y1 y2 y3 y4 y5 y6 y7 y8 y9 y10 y11 y12 y13)) ∧ (∀ y0 y1 y2 y3 y4 y5 y6 y7 y8 y9 y10 y11 y12 y13 y14, LeO (tune_Share.j3 k y0 y1 y2 y3 y4 y5 y6 y7 y8 y9 y10 y11 y12 y13 y14) (tune_Share.j3 (k + 1) y0 y1 y2 y3 y4 y5 y6 y7 y8 y9 y10 y11 y12 y13 y14)) ∧ (∀ y0 y1 y2 y3 y4 y5 y6 y7 y8 y9 y10 y11 y12 y13, LeO (tune_Share.j4 k y0 y1 y2 y3 y4 y5 y6 y7 y8 y9 y10 y11 y12 y13) (tune_Share.j4 (k + 1) y0 y1 y2 y3 y4 y5 y6 y7 y8 y9 y10 y11 y12 y13))
 | 0 => ⟨fun _ _ _ _ _ _ _ _ _ r h => by simp [tune_Share.l0] at h, fun _ _ _ _ _ _ _ _ _ _ _ _ _ _ _ r h => by simp [tune_Share.j1] at h, fun _ _ _ _ _ _ _ _ _ _ _ _ _ _ r h => by simp [tune_Share.j2] at h, fun _ _ _ _ _ _ _ _ _ _ _ _ _ _ _ r h => by simp [tune_Share.j3] at h, fun _ _ _ _ _ _ _ _ _ _ _ _ _ _ r h => by simp [tune_Share.j4] at h⟩
 | k + 1 => by
  obtain ⟨ih0, ih1, ih2, ih3, ih4⟩ := tune_Share.mono_l k;refine ⟨?_, ?_, ?_, ?_, ?_⟩
  ·intro y0 y1 y2 y3 y4 y5 y6 y7 y8
   unfold tune_Share.l0
   repeat' first
   | (with_reducible exact ih0 _ _ _ _ _ _ _ _ _)
   | (with_reducible exact ih1 _ _ _ _ _ _ _ _ _ _ _ _ _ _ _)
   | (with_reducible exact ih2 _ _ _ _ _ _ _ _ _ _ _ _ _ _)
   | (with_reducible exact ih3 _ _ _ _ _ _ _ _ _ _ _ _ _ _ _)
   | (with_reducible exact ih4 _ _ _ _ _ _ _ _ _ _ _ _ _ _)
   | (with_reducible exact circ_Check.mono _ _ _ _ _)
   | (with_reducible exact tune_moved.mono _ _ _ _ _ _)
   | (with_reducible exact LeO.refl _)
   | (with_reducible exact LeO.none _)
   | (with_reducible refine LeO.ite ?_ ?_)
   | (with_reducible refine LeO.bind ?_ (fun _ => ?_))
   | exact ih0 _ _ _ _ _ _ _ _ _
   | exact ih1 _ _ _ _ _ _ _ _ _ _ _ _ _ _ _
   | exact ih2 _ _ _ _ _ _ _ _ _ _ _ _ _ _
   | exact ih3 _ _ _ _ _ _ _ _ _ _ _ _ _ _ _
   | exact ih4 _ _ _ _ _ _ _ _ _ _ _ _ _ _
   | exact circ_Check.mono _ _ _ _ _
   | exact tune_moved.mono _ _ _ _ _ _
   | exact LeO.none _
   | refine LeO.ite ?_ ?_
   | refine LeO.bind ?_ (fun _ => ?_)
  ·intro y0 y1 y2 y3 y4 y5 y6 y7 y8 y9 y10 y11 y12 y13 y14
   unfold tune_Share.j1
   repeat' first
   | (with_reducible exact ih0 _ _ _ _ _ _ _ _ _)
   | (with_reducible exact ih1 _ _ _ _ _ _ _ _ _ _ _ _ _ _ _)
   | (with_reducible exact ih2 _ _ _ _ _ _ _ _ _ _ _ _ _ _)
   | (with_reducible exact ih3 _ _ _ _ _ _ _ _ _ _ _ _ _ _ _)
   | (with_reducible exact ih4 _ _ _ _ _ _ _ _ _ _ _ _ _ _)
   | (with_reducible exact circ_Check.mono _ _ _ _ _)
   | (with_reducible exact tune_moved.mono _ _ _ _ _ _)
   | (with_reducible exact LeO.refl _)
   | (with_reducible exact LeO.none _)
   | (with_reducible refine LeO.ite ?_ ?_)
   | (with_reducible refine LeO.bind ?_ (fun _ => ?_))
   | exact ih0 _ _ _ _ _ _ _ _ _
   | exact ih1 _ _ _ _ _ _ _ _ _ _ _ _ _ _ _
   | exact ih2 _ _ _ _ _ _ _ _ _ _ _ _ _ _
   | exact ih3 _ _ _ _ _ _ _ _ _ _ _ _ _ _ _
   | exact ih4 _ _ _ _ _ _ _ _ _ _ _ _ _ _
   | exact circ_Check.mono _ _ _ _ _
   | exact tune_moved.mono _ _ _ _ _ _
   | exact LeO.none _
   | refine LeO.ite ?_ ?_
   | refine LeO.bind ?_ (fun _ => ?_)
  ·intro y0 y1 y2 y3 y4 y5 y6 y7 y8 y9 y10 y11 y12 y13
   unfold tune_Share.j2
   repeat' first
   | (with_reducible exact ih0 _ _ _ _ _ _ _ _ _)
   | (with_reducible exact ih1 _ _ _ _ _ _ _ _ _ _ _ _ _ _ _)
   | (with_reducible exact ih2 _ _ _ _ _ _ _ _ _ _ _ _ _ _)
   | (with_reducible exact ih3 _ _ _ _ _ _ _ _ _ _ _ _ _ _ _)
   | (with_reducible exact ih4 _ _ _ _ _ _ _ _ _ _ _ _ _ _)
   | (with_reducible exact circ_Check.mono _ _ _ _ _)
   | (with_reducible exact tune_moved.mono _ _ _ _ _ _)
   | (with_reducible exact LeO.refl _)
   | (with_reducible exact LeO.none _)
   | (with_reducible refine LeO.ite ?_ ?_)
   | (with_reducible refine LeO.bind ?_ (fun _ => ?_))
   | exact ih0 _ _ _ _ _ _ _ _ _
   | exact ih1 _ _ _ _ _ _ _ _ _ _ _ _ _ _ _
   | exact ih2 _ _ _ _ _ _ _ _ _ _ _ _ _ _
   | exact ih3 _ _ _ _ _ _ _ _ _ _ _ _ _ _ _
   | exact ih4 _ _ _ _ _ _ _ _ _ _ _ _ _ _
   | exact circ_Check.mono _ _ _ _ _
   | exact tune_moved.mono _ _ _ _ _ _
   | exact LeO.none _
   | refine LeO.ite ?_ ?_
   | refine LeO.bind ?_ (fun _ => ?_)
  ·intro y0 y1 y2 y3 y4 y5 y6 y7 y8 y9 y10 y11 y12 y13 y14
   unfold tune_Share.j3
   repeat' first
   | (with_reducible exact ih0 _ _ _ _ _ _ _ _ _)
   | (with_reducible exact ih1 _ _ _ _ _ _ _ _ _ _ _ _ _ _ _)
   | (with_reducible exact ih2 _ _ _ _ _ _ _ _ _ _ _ _ _ _)
   | (with_reducible exact ih3 _ _ _ _ _ _ _ _ _ _ _ _ _ _ _)
   | (with_reducible exact ih4 _ _ _ _ _ _ _ _ _ _ _ _ _ _)
   | (with_reducible exact circ_Check.mono _ _ _ _ _)
   | (with_reducible exact tune_moved.mono _ _ _ _ _ _)
   | (with_reducible exact LeO.refl _)
   | (with_reducible exact LeO.none _)
   | (with_reducible refine LeO.ite ?_ ?_)
   | (with_reducible refine LeO.bind ?_ (fun _ => ?_))
   | exact ih0 _ _ _ _ _ _ _ _ _
   | exact ih1 _ _ _ _ _ _ _ _ _ _ _ _ _ _ _
   | exact ih2 _ _ _ _ _ _ _ _ _ _ _ _ _ _
   | exact ih3 _ _ _ _ _ _ _ _ _ _ _ _ _ _ _
   | exact ih4 _ _ _ _ _ _ _ _ _ _ _ _ _ _
   | exact circ_Check.mono _ _ _ _ _
   | exact tune_moved.mono _ _ _ _ _ _
   | exact LeO.none _
   | refine LeO.ite ?_ ?_
   | refine LeO.bind ?_ (fun _ => ?_)
  ·intro y0 y1 y2 y3 y4 y5 y6 y7 y8 y9 y10 y11 y12 y13
   unfold tune_Share.j4
   repeat' first
   | (with_reducible exact ih0 _ _ _ _ _ _ _ _ _)
   | (with_reducible exact ih1 _ _ _ _ _ _ _ _ _ _ _ _ _ _ _)
   | (with_reducible exact ih2 _ _ _ _ _ _ _ _ _ _ _ _ _ _)
   | (with_reducible exact ih3 _ _ _ _ _ _ _ _ _ _ _ _ _ _ _)
   | (with_reducible exact ih4 _ _ _ _ _ _ _ _ _ _ _ _ _ _)
   | (with_reducible exact circ_Check.mono _ _ _ _ _)
   | (with_reducible exact tune_moved.mono _ _ _ _ _ _)
   | (with_reducible exact LeO.refl _)
   | (with_reducible exact LeO.none _)
   | (with_reducible refine LeO.ite ?_ ?_)
   | (with_reducible refine LeO.bind ?_ (fun _ => ?_))
   | exact ih0 _ _ _ _ _ _ _ _ _
   | exact ih1 _ _ _ _ _ _ _ _ _ _ _ _ _ _ _
   | exact ih2 _ _ _ _ _ _ _ _ _ _ _ _ _ _
   | exact ih3 _ _ _ _ _ _ _ _ _ _ _ _ _ _ _
   | exact ih4 _ _ _ _ _ _ _ _ _ _ _ _ _ _
   | exact circ_Check.mono _ _ _ _ _
   | exact tune_moved.mono _ _ _ _ _ _
   | exact LeO.none _
   | refine LeO.ite ?_ ?_
   | refine LeO.bind ?_ (fun _ => ?_)
theorem tune_Share.mono : ∀ a0 a1 a2 a3 k, LeO (tune_Share.f k a0 a1 a2 a3) (tune_Share.f (k + 1) a0 a1 a2 a3) := by
 intro a0 a1 a2 a3 k;obtain ⟨ih0, ih1, ih2, ih3, ih4⟩ := tune_Share.mono_l k;unfold tune_Share.f
 repeat' first
   | (with_reducible exact ih0 _ _ _ _ _ _ _ _ _)
   | (with_reducible exact ih1 _ _ _ _ _ _ _ _ _ _ _ _ _ _ _)
   | (with_reducible exact ih2 _ _ _ _ _ _ _ _ _ _ _ _ _ _)
   | (with_reducible exact ih3 _ _ _ _ _ _ _ _ _ _ _ _ _ _ _)
   | (with_reducible exact ih4 _ _ _ _ _ _ _ _ _ _ _ _ _ _)
   | (with_reducible exact circ_Check.mono _ _ _ _ _)
   | (with_reducible exact tune_moved.mono _ _ _ _ _ _)
   | (with_reducible exact LeO.refl _)
   | (with_reducible exact LeO.none _)
   | (with_reducible refine LeO.ite ?_ ?_)
   | (with_reducible refine LeO.bind ?_ (fun _ => ?_))
   | exact ih0 _ _ _ _ _ _ _ _ _
   | exact ih1 _ _ _ _ _ _ _ _ _ _ _ _ _ _ _
   | exact ih2 _ _ _ _ _ _ _ _ _ _ _ _ _ _
   | exact ih3 _ _ _ _ _ _ _ _ _ _ _ _ _ _ _
   | exact ih4 _ _ _ _ _ _ _ _ _ _ _ _ _ _
   | exact circ_Check.mono _ _ _ _ _
   | exact tune_moved.mono _ _ _ _ _ _
   | exact LeO.none _
   | refine LeO.ite ?_ ?_
   | refine LeO.bind ?_ (fun _ => ?_)
def tune_Share.T4 : Bool × List (List Nat × List Nat) := (true, [([], []), ([], []), ([1], [1]), ([2], [2]), ([3, 3], [3]), ([], []), ([0, 0, 5], [0]), ([5, 4, 6, 0, 1, 2, 3, 4, 5, 6], [4, 5])])
def tune_Share.B4 : List Nat := [0, 0, 2, 6, 14, 0, 33, 127]
theorem tune_Share.tab4 : rtab .any (opsOf Try.f20 4) = tune_Share.T4 := by kernel_rfl
theorem tune_Share.bits4 : waitsOk tune_Share.T4.2 tune_Share.B4 = true := by kernel_rfl
theorem tune_Share.calls (k : Nat) (a0 : Int) (aI : Option Addr) (aJ : Nat) (aC : List (S64)) (aV : Option Addr) (aK : Nat) (ag : List (S61)) (aL : Option Addr) (aM : Nat) (aD : List (S66)) (r1 : List (S64)) (r2 : List (S61)) (r3 : List (S66)) (r4 : Int) (w : World) (cj : Kd.C k64 w aI aC.length aC) (ck : aC.length ≤ aJ) (cl : Kd.C k61 w aV ag.length ag) (cm : ag.length ≤ aK) (cn : Kd.C k66 w aL aD.length aD) (co : aD.length ≤ aM) (h : tune_Share.f k a0 aC ag aD = some (r1, r2, r3, r4)) :
  Calls Try.prog 20 #[.int .u64 a0, .agg #[.slice aI aC.length aJ, .slice aV ag.length aK, .slice aL aD.length aM]] w fun e w' => ∃ v0_ v1_ v2_ : Value, e = .returned (.tuple #[.agg #[v0_, v1_, v2_], .int .i64 r4]) ∧ Kd.R k64 64 w' w.heap.size (fun _ => True) v0_ r1 ∧ Kd.R k61 61 w' w.heap.size (fun _ => True) v1_ r2 ∧ Kd.S k66 66 w' w.heap.size (fun _ => True) v2_ r3 ∧ Below w.heap.size w w' := by
 have hu26 := Try.underlying26;have hu64 := Try.underlying64;have hu61 := Try.underlying61;have bU := Aside0.mk cj;have bV := Aside0.mk ck;clear cj ck;have bK := Aside0.mk cl;have bW := Aside0.mk cm;clear cl cm;have bX := Aside0.mk cn;have bY := Aside0.mk co;clear cn co;have HB := Aside0.mk (Below.refl w.heap.size w);have H : ((circ_Check.f k a0 aC ag aD).bind fun bP => (if bP = 0 then (if 0 ≤ (ag.length : Int) then (if ((ag.length : Int) : Int).toNat ≤ 35184372088832 then (tune_Share.l0 k ag (ag.length : Int) 0 aC ag aD [] false (List.replicate ((ag.length : Int) : Int).toNat 0)) else (none)) else (none)) else (some (([] : List (S64)), ([] : List (S61)), ([] : List (S66)), bP)))) = some (r1, r2, r3, r4) := h;clear h;replace H := Option.bind_eq_some_iff.mp H;obtain ⟨bP, A30, H⟩ := H;(try dsimp only at H);have A3 := Aside0.mk A30;clear A30
 by_cases c4 : bP = 0
 rotate_left
 ·rw [if_neg c4] at H
  have dB := beq_eq_false_iff_ne.mpr c4;have dC := bne_iff_ne.mpr c4;simp only [Option.some.injEq, Prod.mk.injEq] at H;obtain ⟨rfl, rfl, rfl, rfl⟩ := H;go_enter Try.func20, Try.ntmps20;go_wp2_with (first | ((with_reducible refine qga (N := 3) rfl ?_); refine box_event ?hg (N := 3) ?hd (cs := #[.slice aI aC.length aJ, .slice aV ag.length aK, .slice aL aD.length aM]) (t := 26) ?hr ?_; (case hd => rfl); (case hg => rfl); (case hr => first | (go_simp; done) | (go_simp; rfl)); intro ah hg gH hbox hb; have aa := am hbox; have cU := kG HB hg; have cV := kG HB hg; replace HB := kH HB hb; clear hb hbox hg) | ((with_reducible refine qga (N := 4) rfl ?_); refine box_event ?hg (N := 4) ?hd (cs := #[.slice none 0 0, .slice none 0 0, .slice none 0 0]) (t := 26) ?hr ?_; (case hd => rfl); (case hg => rfl); (case hr => first | (go_simp; done) | (go_simp; rfl)); intro aj hg gI hbox hb; have ae := am hbox; have cW := kG HB hg; have bL := kG HB hg; replace HB := kH HB hb; have bf := kP aa hg; have bg := kQ aa hg; replace aa := kU aa hb; clear hb hbox hg; have dD := bf.out; have dE := bg.out; have gJ := kz3 aa) | ((with_reducible refine gate_callee (f := 37) rfl ?_); refine goesL_ (some 15) rfl rfl Try.func37 (by kernel_rfl) rfl #[.int .u64 a0, .agg #[.slice aI aC.length aJ, .slice aV ag.length aK, .slice aL aD.length aM]] rfl (by (try simp only [qM1, qM2, qM3]); first | done | rfl) ?_; (with_reducible refine (circ_Check.calls k a0 _ _ aC _ _ ag _ _ aD bP _ ?side1 ?side2 ?side3 ?side4 ?side5 ?side6 A3.out).mono ?_); (case side1 => repeat (first | exact (Kd.C_below bU.out HB.out) | (with_reducible first | refine Kd.C_alloc ?_ _ | refine Kd.C_drewN ?_ _ | refine Kd.C_drew ?_))); (case side2 => exact bV.out); (case side3 => repeat (first | exact (Kd.C_below bK.out HB.out) | (with_reducible first | refine Kd.C_alloc ?_ _ | refine Kd.C_drewN ?_ _ | refine Kd.C_drew ?_))); (case side4 => exact bW.out); (case side5 => repeat (first | exact (Kd.C_below bX.out HB.out) | (with_reducible first | refine Kd.C_alloc ?_ _ | refine Kd.C_drewN ?_ _ | refine Kd.C_drew ?_))); (case side6 => exact bY.out); rintro e gK ⟨rfl, hb⟩; refine ⟨_, rfl, ?_⟩; replace aa := kU aa hb; replace ae := kU ae hb; replace HB := kH HB hb; (try clear hb); (try clear hb2); (try clear hk); (try clear hi); have gL := kz3 ae));refine bodyPost_ret (results_ct rfl _ _ aj 26 #[.slice none 0 0, .slice none 0 0, .slice none 0 0] (0, 0) _ rfl (kg ae) Try.underlying26 rfl (by kernel_rfl)) rfl ?_;exact ⟨_, _, _, er, by first | exact Kd.R_nil _ _ _ _ _ | exact Kd.N_nil _ _ _ _ _ | exact Kd.V_nil _ _ _ _ _ | exact Kd.Q_nil _ _ _ _ _ | exact Kd.S_nil _ _ _ _ _, by first | exact Kd.R_nil _ _ _ _ _ | exact Kd.N_nil _ _ _ _ _ | exact Kd.V_nil _ _ _ _ _ | exact Kd.Q_nil _ _ _ _ _ | exact Kd.S_nil _ _ _ _ _, by first | exact Kd.S_nil _ _ _ _ _ | exact Kd.N_nil _ _ _ _ _ | exact Kd.V_nil _ _ _ _ _ | exact Kd.Q_nil _ _ _ _ _ | exact Kd.R_nil _ _ _ _ _, kh HB⟩
 rw [if_pos c4] at H;have dB := beq_iff_eq.mpr c4;have dC := bne_eq_false_iff_eq.mpr c4;clear c4
 by_cases c5 : 0 ≤ (ag.length : Int)
 rotate_left
 ·rw [if_neg c5] at H
  exact absurd H (by simp)
 rw [if_pos c5] at H;have gM := eq_true c5;have gN := decide_eq_true c5;clear c5
 by_cases c6 : ((ag.length : Int) : Int).toNat ≤ 35184372088832
 rotate_left
 ·rw [if_neg c6] at H
  exact absurd H (by simp)
 rw [if_pos c6] at H;have gO := eq_true c6;have gP := decide_eq_true c6;clear c6;obtain ⟨bi, bu⟩ : ∃ y_ : List Int, y_ = (List.replicate ((ag.length : Int) : Int).toNat 0) := ⟨_, rfl⟩
 replace H : (tune_Share.l0 k ag (ag.length : Int) 0 aC ag aD [] false bi) = some (r1, r2, r3, r4) := by first | (rw [bu]; with_reducible exact H) | (have H2_ := (Option.bind_some _ _).symm.trans H; rw [bu]; with_reducible exact H2_) | (have H2_ := (Option.bind_some _ _).symm.trans H; with_reducible exact H2_) | with_reducible exact H | (rw [bu]; exact H) | exact H
 have bh := Aside0.mk bu;clear bu;have H' := Aside0.mk H;clear H;go_enter Try.func20, Try.ntmps20;(try go_wp2_with (first | ((with_reducible refine qga (N := 3) rfl ?_); refine box_event ?hg (N := 3) ?hd (cs := #[.slice aI aC.length aJ, .slice aV ag.length aK, .slice aL aD.length aM]) (t := 26) ?hr ?_; (case hd => rfl); (case hg => rfl); (case hr => first | (go_simp; done) | (go_simp; rfl)); intro ah hg w7 hbox hb; have aa := am hbox; have cU := kG HB hg; have cV := kG HB hg; replace HB := kH HB hb; clear hb hbox hg) | ((with_reducible refine qga (N := 4) rfl ?_); refine box_event ?hg (N := 4) ?hd (cs := #[.slice none 0 0, .slice none 0 0, .slice none 0 0]) (t := 26) ?hr ?_; (case hd => rfl); (case hg => rfl); (case hr => first | (go_simp; done) | (go_simp; rfl)); intro aj hg w8 hbox hb; have ae := am hbox; have cW := kG HB hg; have bL := kG HB hg; replace HB := kH HB hb; have bf := kP aa hg; have bg := kQ aa hg; replace aa := kU aa hb; clear hb hbox hg; have gQ := bf.out; have gR := bg.out; have Z10 := kz3 aa) | ((with_reducible refine gate_callee (f := 37) rfl ?_); refine goesL_ (some 15) rfl rfl Try.func37 (by kernel_rfl) rfl #[.int .u64 a0, .agg #[.slice aI aC.length aJ, .slice aV ag.length aK, .slice aL aD.length aM]] rfl (by (try simp only [qM1, qM2, qM3]); first | done | rfl) ?_; (with_reducible refine (circ_Check.calls k a0 _ _ aC _ _ ag _ _ aD bP _ ?side1 ?side2 ?side3 ?side4 ?side5 ?side6 A3.out).mono ?_); (case side1 => repeat (first | exact (Kd.C_below bU.out HB.out) | (with_reducible first | refine Kd.C_alloc ?_ _ | refine Kd.C_drewN ?_ _ | refine Kd.C_drew ?_))); (case side2 => exact bV.out); (case side3 => repeat (first | exact (Kd.C_below bK.out HB.out) | (with_reducible first | refine Kd.C_alloc ?_ _ | refine Kd.C_drewN ?_ _ | refine Kd.C_drew ?_))); (case side4 => exact bW.out); (case side5 => repeat (first | exact (Kd.C_below bX.out HB.out) | (with_reducible first | refine Kd.C_alloc ?_ _ | refine Kd.C_drewN ?_ _ | refine Kd.C_drew ?_))); (case side6 => exact bY.out); rintro e w11 ⟨rfl, hb⟩; refine ⟨_, rfl, ?_⟩; replace aa := kU aa hb; replace ae := kU ae hb; replace HB := kH HB hb; (try clear hb); (try clear hb2); (try clear hk); (try clear hi))));replace aa := kD aa; replace ae := kD ae; replace HB := kE HB;refine start_ (n := 8) (S := fun w' => w'.cell? ⟨ah, 0, none⟩ = some (.slice aI aC.length aJ) ∧ w'.cell? ⟨ah, 1, none⟩ = some (.slice aV ag.length aK) ∧ w'.cell? ⟨ah, 2, none⟩ = some (.slice aL aD.length aM)) (ds := []) (bs 8 0) (by kernel_rfl) rfl rfl ⟨kk aa 0, kk aa 1, kk aa 2⟩ (fun hHeld => ?_); refine with_tabW tune_Share.tab4 tune_Share.bits4 (fun HT_ HW_ => ?_);generalize w11.drew = w12 at aa ae HB hHeld ⊢;refine pu 1 (some 21) (bs 8 2) HT_ ?_;refine ta 2 (some 22) (bs 8 6) HT_ HW_ hHeld ?_;refine pu 3 (some 23) (bs 8 14) HT_ ?_;refine join_ (σ := Nat × Value × Nat) 1 (bs 8 127) (fun s_ => [(20, .map (some s_.1)), (24, s_.2.1), (8, .pointer (some ⟨s_.2.2, 0, none⟩)), (7, .map (some s_.1))]) (fun s_ w' => (w'.cell? ⟨ah, 0, none⟩ = some (.slice aI aC.length aJ) ∧ w'.cell? ⟨ah, 1, none⟩ = some (.slice aV ag.length aK) ∧ w'.cell? ⟨ah, 2, none⟩ = some (.slice aL aD.length aM)) ∧ (Kd.R (Kd.int .i64) 3 w' w.heap.size (fun _ => True) s_.2.1 bi) ∧ (w'.heap[ah]? = some (.cells #[.slice aI aC.length aJ, .slice aV ag.length aK, .slice aL aD.length aM] 26 (0, 0))) ∧ (w'.heap[aj]? = some (.cells #[.slice none 0 0, .slice none 0 0, .slice none 0 0] 26 (0, 0))) ∧ (w'.heap[s_.1]? = some ((tune_Share.obj []))) ∧ (w'.heap[s_.2.2]? = some (.cells #[.slice none 0 0] 27 (0, 0))) ∧ (w.heap.size ≤ s_.1) ∧ (w.heap.size ≤ s_.1) ∧ (ah ≠ s_.1) ∧ (s_.1 ≠ ah) ∧ (aj ≠ s_.1) ∧ (s_.1 ≠ aj) ∧ (s_.2.2 ≠ s_.1) ∧ (s_.1 ≠ s_.2.2) ∧ (w.heap.size ≤ s_.2.2) ∧ (w.heap.size ≤ s_.2.2) ∧ (ah ≠ s_.2.2) ∧ (s_.2.2 ≠ ah) ∧ (aj ≠ s_.2.2) ∧ (s_.2.2 ≠ aj) ∧ (Below w.heap.size w w')) ?_ ?_
 rotate_left
 ·intro hJ0_4_5
  refine join_ (σ := Nat × Value) 3 (bs 8 31) (fun s_ => [(20, .map (some s_.1)), (24, s_.2)]) (fun s_ w' => (w'.cell? ⟨ah, 0, none⟩ = some (.slice aI aC.length aJ) ∧ w'.cell? ⟨ah, 1, none⟩ = some (.slice aV ag.length aK) ∧ w'.cell? ⟨ah, 2, none⟩ = some (.slice aL aD.length aM)) ∧ (Kd.R (Kd.int .i64) 3 w' w.heap.size (fun _ => True) s_.2 bi) ∧ (w'.heap[ah]? = some (.cells #[.slice aI aC.length aJ, .slice aV ag.length aK, .slice aL aD.length aM] 26 (0, 0))) ∧ (w'.heap[aj]? = some (.cells #[.slice none 0 0, .slice none 0 0, .slice none 0 0] 26 (0, 0))) ∧ (w'.heap[s_.1]? = some ((tune_Share.obj []))) ∧ (w.heap.size ≤ s_.1) ∧ (w.heap.size ≤ s_.1) ∧ (ah ≠ s_.1) ∧ (s_.1 ≠ ah) ∧ (aj ≠ s_.1) ∧ (s_.1 ≠ aj) ∧ (Below w.heap.size w w')) ?_ ?_
  rotate_left
  ·intro hJ0_4
   refine join_ (σ := Nat × Nat) 2 (bs 8 111) (fun s_ => [(20, .map (some s_.1)), (8, .pointer (some ⟨s_.2, 0, none⟩)), (7, .map (some s_.1))]) (fun s_ w' => (w'.cell? ⟨ah, 0, none⟩ = some (.slice aI aC.length aJ) ∧ w'.cell? ⟨ah, 1, none⟩ = some (.slice aV ag.length aK) ∧ w'.cell? ⟨ah, 2, none⟩ = some (.slice aL aD.length aM)) ∧ (w'.heap[ah]? = some (.cells #[.slice aI aC.length aJ, .slice aV ag.length aK, .slice aL aD.length aM] 26 (0, 0))) ∧ (w'.heap[aj]? = some (.cells #[.slice none 0 0, .slice none 0 0, .slice none 0 0] 26 (0, 0))) ∧ (w'.heap[s_.1]? = some ((tune_Share.obj []))) ∧ (w'.heap[s_.2]? = some (.cells #[.slice none 0 0] 27 (0, 0))) ∧ (w.heap.size ≤ s_.1) ∧ (w.heap.size ≤ s_.1) ∧ (ah ≠ s_.1) ∧ (s_.1 ≠ ah) ∧ (aj ≠ s_.1) ∧ (s_.1 ≠ aj) ∧ (s_.2 ≠ s_.1) ∧ (s_.1 ≠ s_.2) ∧ (w.heap.size ≤ s_.2) ∧ (w.heap.size ≤ s_.2) ∧ (ah ≠ s_.2) ∧ (s_.2 ≠ ah) ∧ (aj ≠ s_.2) ∧ (s_.2 ≠ aj) ∧ (Below w.heap.size w w')) ?_ ?_
   rotate_left
   ·intro hJ0_5
    refine join_ (σ := Value × Nat) 3 (bs 8 62) (fun s_ => [(24, s_.1), (8, .pointer (some ⟨s_.2, 0, none⟩))]) (fun s_ w' => (w'.cell? ⟨ah, 0, none⟩ = some (.slice aI aC.length aJ) ∧ w'.cell? ⟨ah, 1, none⟩ = some (.slice aV ag.length aK) ∧ w'.cell? ⟨ah, 2, none⟩ = some (.slice aL aD.length aM)) ∧ (Kd.R (Kd.int .i64) 3 w' w.heap.size (fun _ => True) s_.1 bi) ∧ (w'.heap[ah]? = some (.cells #[.slice aI aC.length aJ, .slice aV ag.length aK, .slice aL aD.length aM] 26 (0, 0))) ∧ (w'.heap[aj]? = some (.cells #[.slice none 0 0, .slice none 0 0, .slice none 0 0] 26 (0, 0))) ∧ (w'.heap[s_.2]? = some (.cells #[.slice none 0 0] 27 (0, 0))) ∧ (w.heap.size ≤ s_.2) ∧ (w.heap.size ≤ s_.2) ∧ (ah ≠ s_.2) ∧ (s_.2 ≠ ah) ∧ (aj ≠ s_.2) ∧ (s_.2 ≠ aj) ∧ (Below w.heap.size w w')) ?_ ?_
    rotate_left
    ·intro hJ4_5
     refine join_ (σ := Nat) 4 (bs 8 15) (fun s_ => [(20, .map (some s_))]) (fun s_ w' => (w'.cell? ⟨ah, 0, none⟩ = some (.slice aI aC.length aJ) ∧ w'.cell? ⟨ah, 1, none⟩ = some (.slice aV ag.length aK) ∧ w'.cell? ⟨ah, 2, none⟩ = some (.slice aL aD.length aM)) ∧ (w'.heap[ah]? = some (.cells #[.slice aI aC.length aJ, .slice aV ag.length aK, .slice aL aD.length aM] 26 (0, 0))) ∧ (w'.heap[aj]? = some (.cells #[.slice none 0 0, .slice none 0 0, .slice none 0 0] 26 (0, 0))) ∧ (w'.heap[s_]? = some ((tune_Share.obj []))) ∧ (w.heap.size ≤ s_) ∧ (w.heap.size ≤ s_) ∧ (ah ≠ s_) ∧ (s_ ≠ ah) ∧ (aj ≠ s_) ∧ (s_ ≠ aj) ∧ (Below w.heap.size w w')) ?_ ?_
     rotate_left
     ·intro hJ0
      refine join_ (σ := Value) 4 (bs 8 30) (fun s_ => [(24, s_)]) (fun s_ w' => (w'.cell? ⟨ah, 0, none⟩ = some (.slice aI aC.length aJ) ∧ w'.cell? ⟨ah, 1, none⟩ = some (.slice aV ag.length aK) ∧ w'.cell? ⟨ah, 2, none⟩ = some (.slice aL aD.length aM)) ∧ (Kd.R (Kd.int .i64) 3 w' w.heap.size (fun _ => True) s_ bi) ∧ (w'.heap[ah]? = some (.cells #[.slice aI aC.length aJ, .slice aV ag.length aK, .slice aL aD.length aM] 26 (0, 0))) ∧ (w'.heap[aj]? = some (.cells #[.slice none 0 0, .slice none 0 0, .slice none 0 0] 26 (0, 0))) ∧ (Below w.heap.size w w')) ?_ ?_
      rotate_left
      ·intro hJ4
       refine join_ (σ := Nat) 4 (bs 8 46) (fun s_ => [(8, .pointer (some ⟨s_, 0, none⟩))]) (fun s_ w' => (w'.cell? ⟨ah, 0, none⟩ = some (.slice aI aC.length aJ) ∧ w'.cell? ⟨ah, 1, none⟩ = some (.slice aV ag.length aK) ∧ w'.cell? ⟨ah, 2, none⟩ = some (.slice aL aD.length aM)) ∧ (w'.heap[ah]? = some (.cells #[.slice aI aC.length aJ, .slice aV ag.length aK, .slice aL aD.length aM] 26 (0, 0))) ∧ (w'.heap[aj]? = some (.cells #[.slice none 0 0, .slice none 0 0, .slice none 0 0] 26 (0, 0))) ∧ (w'.heap[s_]? = some (.cells #[.slice none 0 0] 27 (0, 0))) ∧ (w.heap.size ≤ s_) ∧ (w.heap.size ≤ s_) ∧ (ah ≠ s_) ∧ (s_ ≠ ah) ∧ (aj ≠ s_) ∧ (s_ ≠ aj) ∧ (Below w.heap.size w w')) ?_ ?_
       rotate_left
       ·intro hJ5
        refine three_ (i := 0) (j := 4) (k := 5) (Ni := some 20) (Nj := some 24) (Nk := some 8) (bs 8 15) (bs 8 30) (bs 8 46) rfl rfl rfl rfl rfl rfl (three_of HT_.out (by kernel_rfl)) (by decide) (by decide) (by decide) (fun K hK => ?_) (fun K hK => ?_) (fun K hK => ?_)
        ·skip
         refine tune_Share.map_step ?hg (N := 20) ?hd ?hr ?_; (case hd => rfl); (case hg => rfl); (case hr => first | (go_simp; done) | (go_simp; rfl));intro ao hg w13 hbox hb;have al := am hbox; have bb := kG HB hg; have ba := kG HB hg; replace HB := kH HB hb; have av := kP aa hg; have aw := kQ aa hg; replace aa := kU aa hb; have ax := kP ae hg; have az := kQ ae hg; replace ae := kU ae hb;clear hb hbox hg;refine hK.out _ _ ⟨kk aa 0, kk aa 1, kk aa 2⟩ (fun hHeld => ?_);clear hK K;refine no (some 20) ?_;exact norm_ (by first | (simp only [putAll, Act.put, qS1, qS2, qS3]; done) | (simp only [putAll, Act.put, qS1, qS2, qS3]; rfl)) (hJ0 (ao) _ ⟨hHeld, (kb aa), (kb ae), (kb al), bb.out, ba.out, av.out, aw.out, ax.out, az.out, (kh HB)⟩)
        ·skip
         refine Kd.R_make_step (Kd.int .i64) _ 3 (by rfl) (N := 24) rfl 27 _ _ rfl (ag.length : Int) rfl rfl Try.underlying27 (.int .i64 0) 8 info3 rfl (by decide) (by omega) 0 (ok := fun _ => True) (okp := fun _ => True) rfl (fun _ hk => hk) trivial od (Nat.le_trans (Nat.mul_le_mul_right _ (od : (ag.length : Int).toNat ≤ 35184372088832)) (by omega)) (Below.refl _ _) (Nat.le_refl _) ?_;intro be w13 ho14 hb hg_ hnew_;clear hg_ hnew_;(first | rw [← bh.out] at ho14 | (simp only [Int.reduceToNat] at ho14; rw [← bh.out] at ho14));have aU := kLR ho14 HB; replace aa := kU aa hb; replace ae := kU ae hb; replace HB := kH HB hb;clear hb ho14;refine hK.out _ _ ⟨kk aa 0, kk aa 1, kk aa 2⟩ (fun hHeld => ?_);clear hK K;refine no (some 24) ?_;exact norm_ (by first | (simp only [putAll, Act.put, qS1, qS2, qS3]; done) | (simp only [putAll, Act.put, qS1, qS2, qS3]; rfl)) (hJ4 (be) _ ⟨hHeld, (krR aU), (kb aa), (kb ae), (kh HB)⟩)
        ·skip
         refine box_step ?hg (N := 8) ?hd (cs := #[.slice none 0 0]) (t := 27) ?hr ?_; (case hd => rfl); (case hg => rfl); (case hr => first | (go_simp; done) | (go_simp; rfl));intro an hg w13 hbox hb;have ak := am hbox; have bc := kG HB hg; have bd := kG HB hg; replace HB := kH HB hb; have ap := kP aa hg; have aq := kQ aa hg; replace aa := kU aa hb; have ar := kP ae hg; have au := kQ ae hg; replace ae := kU ae hb;clear hb hbox hg;refine hK.out _ _ ⟨kk aa 0, kk aa 1, kk aa 2⟩ (fun hHeld => ?_);clear hK K;refine no (some 8) ?_;exact norm_ (by first | (simp only [putAll, Act.put, qS1, qS2, qS3]; done) | (simp only [putAll, Act.put, qS1, qS2, qS3]; rfl)) (hJ5 (an) _ ⟨hHeld, (kb aa), (kb ae), (kb ak), bc.out, bd.out, ap.out, aq.out, ar.out, au.out, (kh HB)⟩)
       ·skip
        rintro an w14 ⟨hS_, h0_, h1_, h2_, h3_, h4_, h5_, h6_, h7_, h8_, h9_⟩;replace aa : Aside0 (w14.heap[ah]? = some (.cells #[.slice aI aC.length aJ, .slice aV ag.length aK, .slice aL aD.length aM] 26 (0, 0))) := ⟨h0_⟩; replace ae : Aside0 (w14.heap[aj]? = some (.cells #[.slice none 0 0, .slice none 0 0, .slice none 0 0] 26 (0, 0))) := ⟨h1_⟩; have ak : Aside0 (w14.heap[an]? = some (.cells #[.slice none 0 0] 27 (0, 0))) := ⟨h2_⟩; have bc : Aside0 (w.heap.size ≤ an) := ⟨h3_⟩; have bd : Aside0 (w.heap.size ≤ an) := ⟨h4_⟩; have ap : Aside0 (ah ≠ an) := ⟨h5_⟩; have aq : Aside0 (an ≠ ah) := ⟨h6_⟩; have ar : Aside0 (aj ≠ an) := ⟨h7_⟩; have au : Aside0 (an ≠ aj) := ⟨h8_⟩; replace HB : Aside0 (Below w.heap.size w w14) := ⟨h9_⟩; clear h0_ h1_ h2_ h3_ h4_ h5_ h6_ h7_ h8_ h9_;have hHeld : w14.cell? ⟨ah, 0, none⟩ = some (.slice aI aC.length aJ) ∧ w14.cell? ⟨ah, 1, none⟩ = some (.slice aV ag.length aK) ∧ w14.cell? ⟨ah, 2, none⟩ = some (.slice aL aD.length aM) := hS_;refine norm_ (a' := ?_) ?_ ?_
        rotate_left
        ·simp only [putAll, Act.put, qS1, qS2, qS3]
         rfl
        refine two_ (i := 0) (j := 4) (Ni := some 20) (Nj := some 24) (bs 8 47) (bs 8 62) rfl rfl rfl rfl (two_of HT_.out (by kernel_rfl)) (by decide) (by decide) (fun K hK => ?_) (fun K hK => ?_)
        ·skip
         refine tune_Share.map_step ?hg (N := 20) ?hd ?hr ?_; (case hd => rfl); (case hg => rfl); (case hr => first | (go_simp; done) | (go_simp; rfl));intro ao hg w15 hbox hb;have al := am hbox; have bb := kG HB hg; have ba := kG HB hg; replace HB := kH HB hb; have av := kP aa hg; have aw := kQ aa hg; replace aa := kU aa hb; have ax := kP ae hg; have az := kQ ae hg; replace ae := kU ae hb; have aB := kP ak hg; have aE := kQ ak hg; replace ak := kU ak hb;clear hb hbox hg;refine hK.out _ _ ⟨kk aa 0, kk aa 1, kk aa 2⟩ (fun hHeld => ?_);clear hK K;refine no (some 20) ?_;refine pu 6 (some 7) (bs 8 111) HT_ ?_;exact norm_ (by first | (simp only [putAll, Act.put, qS1, qS2, qS3]; done) | (simp only [putAll, Act.put, qS1, qS2, qS3]; rfl)) (hJ0_5 (ao, an) _ ⟨hHeld, (kb aa), (kb ae), (kb al), (kb ak), bb.out, ba.out, av.out, aw.out, ax.out, az.out, aB.out, aE.out, bc.out, bd.out, ap.out, aq.out, ar.out, au.out, (kh HB)⟩)
        ·skip
         refine Kd.R_make_step (Kd.int .i64) _ 3 (by rfl) (N := 24) rfl 27 _ _ rfl (ag.length : Int) rfl rfl Try.underlying27 (.int .i64 0) 8 info3 rfl (by decide) (by omega) 0 (ok := fun _ => True) (okp := fun _ => True) rfl (fun _ hk => hk) trivial od (Nat.le_trans (Nat.mul_le_mul_right _ (od : (ag.length : Int).toNat ≤ 35184372088832)) (by omega)) (Below.refl _ _) (Nat.le_refl _) ?_;intro be w15 ho16 hb hg_ hnew_;clear hg_ hnew_;(first | rw [← bh.out] at ho16 | (simp only [Int.reduceToNat] at ho16; rw [← bh.out] at ho16));have aU := kLR ho16 HB; replace aa := kU aa hb; replace ae := kU ae hb; replace ak := kU ak hb; replace HB := kH HB hb;clear hb ho16;refine hK.out _ _ ⟨kk aa 0, kk aa 1, kk aa 2⟩ (fun hHeld => ?_);clear hK K;refine no (some 24) ?_;exact norm_ (by first | (simp only [putAll, Act.put, qS1, qS2, qS3]; done) | (simp only [putAll, Act.put, qS1, qS2, qS3]; rfl)) (hJ4_5 (be, an) _ ⟨hHeld, (krR aU), (kb aa), (kb ae), (kb ak), bc.out, bd.out, ap.out, aq.out, ar.out, au.out, (kh HB)⟩)
      ·skip
       rintro be w15 ⟨hS_, h0_, h1_, h2_, h3_⟩;have aU : Aside0 (Kd.R (Kd.int .i64) 3 w15 w.heap.size (fun _ => True) be bi) := ⟨h0_⟩; replace aa : Aside0 (w15.heap[ah]? = some (.cells #[.slice aI aC.length aJ, .slice aV ag.length aK, .slice aL aD.length aM] 26 (0, 0))) := ⟨h1_⟩; replace ae : Aside0 (w15.heap[aj]? = some (.cells #[.slice none 0 0, .slice none 0 0, .slice none 0 0] 26 (0, 0))) := ⟨h2_⟩; replace HB : Aside0 (Below w.heap.size w w15) := ⟨h3_⟩; clear h0_ h1_ h2_ h3_;have hHeld : w15.cell? ⟨ah, 0, none⟩ = some (.slice aI aC.length aJ) ∧ w15.cell? ⟨ah, 1, none⟩ = some (.slice aV ag.length aK) ∧ w15.cell? ⟨ah, 2, none⟩ = some (.slice aL aD.length aM) := hS_;refine norm_ (a' := ?_) ?_ ?_
       rotate_left
       ·simp only [putAll, Act.put, qS1, qS2, qS3]
        rfl
       refine two_ (i := 0) (j := 5) (Ni := some 20) (Nj := some 8) (bs 8 31) (bs 8 62) rfl rfl rfl rfl (two_of HT_.out (by kernel_rfl)) (by decide) (by decide) (fun K hK => ?_) (fun K hK => ?_)
       ·skip
        refine tune_Share.map_step ?hg (N := 20) ?hd ?hr ?_; (case hd => rfl); (case hg => rfl); (case hr => first | (go_simp; done) | (go_simp; rfl));intro ao hg w16 hbox hb;replace aU := kR aU hb; have al := am hbox; have bb := kG HB hg; have ba := kG HB hg; replace HB := kH HB hb; have av := kP aa hg; have aw := kQ aa hg; replace aa := kU aa hb; have ax := kP ae hg; have az := kQ ae hg; replace ae := kU ae hb;clear hb hbox hg;refine hK.out _ _ ⟨kk aa 0, kk aa 1, kk aa 2⟩ (fun hHeld => ?_);clear hK K;refine no (some 20) ?_;exact norm_ (by first | (simp only [putAll, Act.put, qS1, qS2, qS3]; done) | (simp only [putAll, Act.put, qS1, qS2, qS3]; rfl)) (hJ0_4 (ao, be) _ ⟨hHeld, (krR aU), (kb aa), (kb ae), (kb al), bb.out, ba.out, av.out, aw.out, ax.out, az.out, (kh HB)⟩)
       ·skip
        refine box_step ?hg (N := 8) ?hd (cs := #[.slice none 0 0]) (t := 27) ?hr ?_; (case hd => rfl); (case hg => rfl); (case hr => first | (go_simp; done) | (go_simp; rfl));intro an hg w16 hbox hb;replace aU := kR aU hb; have ak := am hbox; have bc := kG HB hg; have bd := kG HB hg; replace HB := kH HB hb; have ap := kP aa hg; have aq := kQ aa hg; replace aa := kU aa hb; have ar := kP ae hg; have au := kQ ae hg; replace ae := kU ae hb;clear hb hbox hg;refine hK.out _ _ ⟨kk aa 0, kk aa 1, kk aa 2⟩ (fun hHeld => ?_);clear hK K;refine no (some 8) ?_;exact norm_ (by first | (simp only [putAll, Act.put, qS1, qS2, qS3]; done) | (simp only [putAll, Act.put, qS1, qS2, qS3]; rfl)) (hJ4_5 (be, an) _ ⟨hHeld, (krR aU), (kb aa), (kb ae), (kb ak), bc.out, bd.out, ap.out, aq.out, ar.out, au.out, (kh HB)⟩)
     ·skip
      rintro ao w14 ⟨hS_, h0_, h1_, h2_, h3_, h4_, h5_, h6_, h7_, h8_, h9_⟩;replace aa : Aside0 (w14.heap[ah]? = some (.cells #[.slice aI aC.length aJ, .slice aV ag.length aK, .slice aL aD.length aM] 26 (0, 0))) := ⟨h0_⟩; replace ae : Aside0 (w14.heap[aj]? = some (.cells #[.slice none 0 0, .slice none 0 0, .slice none 0 0] 26 (0, 0))) := ⟨h1_⟩; have al : Aside0 (w14.heap[ao]? = some ((tune_Share.obj []))) := ⟨h2_⟩; have bb : Aside0 (w.heap.size ≤ ao) := ⟨h3_⟩; have ba : Aside0 (w.heap.size ≤ ao) := ⟨h4_⟩; have av : Aside0 (ah ≠ ao) := ⟨h5_⟩; have aw : Aside0 (ao ≠ ah) := ⟨h6_⟩; have ax : Aside0 (aj ≠ ao) := ⟨h7_⟩; have az : Aside0 (ao ≠ aj) := ⟨h8_⟩; replace HB : Aside0 (Below w.heap.size w w14) := ⟨h9_⟩; clear h0_ h1_ h2_ h3_ h4_ h5_ h6_ h7_ h8_ h9_;have hHeld : w14.cell? ⟨ah, 0, none⟩ = some (.slice aI aC.length aJ) ∧ w14.cell? ⟨ah, 1, none⟩ = some (.slice aV ag.length aK) ∧ w14.cell? ⟨ah, 2, none⟩ = some (.slice aL aD.length aM) := hS_;refine norm_ (a' := ?_) ?_ ?_
      rotate_left
      ·simp only [putAll, Act.put, qS1, qS2, qS3]
       rfl
      refine two_ (i := 4) (j := 5) (Ni := some 24) (Nj := some 8) (bs 8 31) (bs 8 47) rfl rfl rfl rfl (two_of HT_.out (by kernel_rfl)) (by decide) (by decide) (fun K hK => ?_) (fun K hK => ?_)
      ·skip
       refine Kd.R_make_step (Kd.int .i64) _ 3 (by rfl) (N := 24) rfl 27 _ _ rfl (ag.length : Int) rfl rfl Try.underlying27 (.int .i64 0) 8 info3 rfl (by decide) (by omega) 0 (ok := fun _ => True) (okp := fun _ => True) rfl (fun _ hk => hk) trivial od (Nat.le_trans (Nat.mul_le_mul_right _ (od : (ag.length : Int).toNat ≤ 35184372088832)) (by omega)) (Below.refl _ _) (Nat.le_refl _) ?_;intro be w15 ho16 hb hg_ hnew_;clear hg_ hnew_;(first | rw [← bh.out] at ho16 | (simp only [Int.reduceToNat] at ho16; rw [← bh.out] at ho16));have aU := kLR ho16 HB; replace aa := kU aa hb; replace ae := kU ae hb; replace al := kU al hb; replace HB := kH HB hb;clear hb ho16;refine hK.out _ _ ⟨kk aa 0, kk aa 1, kk aa 2⟩ (fun hHeld => ?_);clear hK K;refine no (some 24) ?_;exact norm_ (by first | (simp only [putAll, Act.put, qS1, qS2, qS3]; done) | (simp only [putAll, Act.put, qS1, qS2, qS3]; rfl)) (hJ0_4 (ao, be) _ ⟨hHeld, (krR aU), (kb aa), (kb ae), (kb al), bb.out, ba.out, av.out, aw.out, ax.out, az.out, (kh HB)⟩)
      ·skip
       refine box_step ?hg (N := 8) ?hd (cs := #[.slice none 0 0]) (t := 27) ?hr ?_; (case hd => rfl); (case hg => rfl); (case hr => first | (go_simp; done) | (go_simp; rfl));intro an hg w15 hbox hb;have ak := am hbox; have bc := kG HB hg; have bd := kG HB hg; replace HB := kH HB hb; have ap := kP aa hg; have aq := kQ aa hg; replace aa := kU aa hb; have ar := kP ae hg; have au := kQ ae hg; replace ae := kU ae hb; have aE := kP al hg; have aB := kQ al hg; replace al := kU al hb;clear hb hbox hg;refine hK.out _ _ ⟨kk aa 0, kk aa 1, kk aa 2⟩ (fun hHeld => ?_);clear hK K;refine no (some 8) ?_;refine pu 6 (some 7) (bs 8 111) HT_ ?_;exact norm_ (by first | (simp only [putAll, Act.put, qS1, qS2, qS3]; done) | (simp only [putAll, Act.put, qS1, qS2, qS3]; rfl)) (hJ0_5 (ao, an) _ ⟨hHeld, (kb aa), (kb ae), (kb al), (kb ak), bb.out, ba.out, av.out, aw.out, ax.out, az.out, aB.out, aE.out, bc.out, bd.out, ap.out, aq.out, ar.out, au.out, (kh HB)⟩)
    ·skip
     rintro ⟨be, an⟩ w16 ⟨hS_, h0_, h1_, h2_, h3_, h4_, h5_, h6_, h7_, h8_, h9_, h10_⟩;have aU : Aside0 (Kd.R (Kd.int .i64) 3 w16 w.heap.size (fun _ => True) be bi) := ⟨h0_⟩; replace aa : Aside0 (w16.heap[ah]? = some (.cells #[.slice aI aC.length aJ, .slice aV ag.length aK, .slice aL aD.length aM] 26 (0, 0))) := ⟨h1_⟩; replace ae : Aside0 (w16.heap[aj]? = some (.cells #[.slice none 0 0, .slice none 0 0, .slice none 0 0] 26 (0, 0))) := ⟨h2_⟩; have ak : Aside0 (w16.heap[an]? = some (.cells #[.slice none 0 0] 27 (0, 0))) := ⟨h3_⟩; have bc : Aside0 (w.heap.size ≤ an) := ⟨h4_⟩; have bd : Aside0 (w.heap.size ≤ an) := ⟨h5_⟩; have ap : Aside0 (ah ≠ an) := ⟨h6_⟩; have aq : Aside0 (an ≠ ah) := ⟨h7_⟩; have ar : Aside0 (aj ≠ an) := ⟨h8_⟩; have au : Aside0 (an ≠ aj) := ⟨h9_⟩; replace HB : Aside0 (Below w.heap.size w w16) := ⟨h10_⟩; clear h0_ h10_ h1_ h2_ h3_ h4_ h5_ h6_ h7_ h8_ h9_;have hHeld : w16.cell? ⟨ah, 0, none⟩ = some (.slice aI aC.length aJ) ∧ w16.cell? ⟨ah, 1, none⟩ = some (.slice aV ag.length aK) ∧ w16.cell? ⟨ah, 2, none⟩ = some (.slice aL aD.length aM) := hS_;refine norm_ (a' := ?_) ?_ ?_
     rotate_left
     ·simp only [putAll, Act.put, qS1, qS2, qS3]
      rfl
     refine one_ (i := 0) (N := some 20) (bs 8 63) rfl rfl (one_of HT_.out (by kernel_rfl)) (by decide) (fun K hK => ?_);refine tune_Share.map_step ?hg (N := 20) ?hd ?hr ?_; (case hd => rfl); (case hg => rfl); (case hr => first | (go_simp; done) | (go_simp; rfl));intro ao hg w17 hbox hb;replace aU := kR aU hb; have al := am hbox; have bb := kG HB hg; have ba := kG HB hg; replace HB := kH HB hb; have av := kP aa hg; have aw := kQ aa hg; replace aa := kU aa hb; have ax := kP ae hg; have az := kQ ae hg; replace ae := kU ae hb; have aB := kP ak hg; have aE := kQ ak hg; replace ak := kU ak hb;clear hb hbox hg;refine hK.out _ _ ⟨kk aa 0, kk aa 1, kk aa 2⟩ (fun hHeld => ?_);clear hK K;refine no (some 20) ?_;refine pu 6 (some 7) (bs 8 127) HT_ ?_;exact norm_ (by first | (simp only [putAll, Act.put, qS1, qS2, qS3]; done) | (simp only [putAll, Act.put, qS1, qS2, qS3]; rfl)) (hJ0_4_5 (ao, be, an) _ ⟨hHeld, (krR aU), (kb aa), (kb ae), (kb al), (kb ak), bb.out, ba.out, av.out, aw.out, ax.out, az.out, aB.out, aE.out, bc.out, bd.out, ap.out, aq.out, ar.out, au.out, (kh HB)⟩)
   ·skip
    rintro ⟨ao, an⟩ w15 ⟨hS_, h0_, h1_, h2_, h3_, h4_, h5_, h6_, h7_, h8_, h9_, h10_, h11_, h12_, h13_, h14_, h15_, h16_, h17_, h18_⟩;replace aa : Aside0 (w15.heap[ah]? = some (.cells #[.slice aI aC.length aJ, .slice aV ag.length aK, .slice aL aD.length aM] 26 (0, 0))) := ⟨h0_⟩; replace ae : Aside0 (w15.heap[aj]? = some (.cells #[.slice none 0 0, .slice none 0 0, .slice none 0 0] 26 (0, 0))) := ⟨h1_⟩; have al : Aside0 (w15.heap[ao]? = some ((tune_Share.obj []))) := ⟨h2_⟩; have ak : Aside0 (w15.heap[an]? = some (.cells #[.slice none 0 0] 27 (0, 0))) := ⟨h3_⟩; have bb : Aside0 (w.heap.size ≤ ao) := ⟨h4_⟩; have ba : Aside0 (w.heap.size ≤ ao) := ⟨h5_⟩; have av : Aside0 (ah ≠ ao) := ⟨h6_⟩; have aw : Aside0 (ao ≠ ah) := ⟨h7_⟩; have ax : Aside0 (aj ≠ ao) := ⟨h8_⟩; have az : Aside0 (ao ≠ aj) := ⟨h9_⟩; have aB : Aside0 (an ≠ ao) := ⟨h10_⟩; have aE : Aside0 (ao ≠ an) := ⟨h11_⟩; have bc : Aside0 (w.heap.size ≤ an) := ⟨h12_⟩; have bd : Aside0 (w.heap.size ≤ an) := ⟨h13_⟩; have ap : Aside0 (ah ≠ an) := ⟨h14_⟩; have aq : Aside0 (an ≠ ah) := ⟨h15_⟩; have ar : Aside0 (aj ≠ an) := ⟨h16_⟩; have au : Aside0 (an ≠ aj) := ⟨h17_⟩; replace HB : Aside0 (Below w.heap.size w w15) := ⟨h18_⟩; clear h0_ h10_ h11_ h12_ h13_ h14_ h15_ h16_ h17_ h18_ h1_ h2_ h3_ h4_ h5_ h6_ h7_ h8_ h9_;have hHeld : w15.cell? ⟨ah, 0, none⟩ = some (.slice aI aC.length aJ) ∧ w15.cell? ⟨ah, 1, none⟩ = some (.slice aV ag.length aK) ∧ w15.cell? ⟨ah, 2, none⟩ = some (.slice aL aD.length aM) := hS_;refine norm_ (a' := ?_) ?_ ?_
    rotate_left
    ·simp only [putAll, Act.put, qS1, qS2, qS3]
     rfl
    refine one_ (i := 4) (N := some 24) (bs 8 127) rfl rfl (one_of HT_.out (by kernel_rfl)) (by decide) (fun K hK => ?_);refine Kd.R_make_step (Kd.int .i64) _ 3 (by rfl) (N := 24) rfl 27 _ _ rfl (ag.length : Int) rfl rfl Try.underlying27 (.int .i64 0) 8 info3 rfl (by decide) (by omega) 0 (ok := fun _ => True) (okp := fun _ => True) rfl (fun _ hk => hk) trivial od (Nat.le_trans (Nat.mul_le_mul_right _ (od : (ag.length : Int).toNat ≤ 35184372088832)) (by omega)) (Below.refl _ _) (Nat.le_refl _) ?_;intro be w16 ho17 hb hg_ hnew_;clear hg_ hnew_;(first | rw [← bh.out] at ho17 | (simp only [Int.reduceToNat] at ho17; rw [← bh.out] at ho17));have aU := kLR ho17 HB; replace aa := kU aa hb; replace ae := kU ae hb; replace al := kU al hb; replace ak := kU ak hb; replace HB := kH HB hb;clear hb ho17;refine hK.out _ _ ⟨kk aa 0, kk aa 1, kk aa 2⟩ (fun hHeld => ?_);clear hK K;refine no (some 24) ?_;exact norm_ (by first | (simp only [putAll, Act.put, qS1, qS2, qS3]; done) | (simp only [putAll, Act.put, qS1, qS2, qS3]; rfl)) (hJ0_4_5 (ao, be, an) _ ⟨hHeld, (krR aU), (kb aa), (kb ae), (kb al), (kb ak), bb.out, ba.out, av.out, aw.out, ax.out, az.out, aB.out, aE.out, bc.out, bd.out, ap.out, aq.out, ar.out, au.out, (kh HB)⟩)
  ·skip
   rintro ⟨ao, be⟩ w16 ⟨hS_, h0_, h1_, h2_, h3_, h4_, h5_, h6_, h7_, h8_, h9_, h10_⟩;have aU : Aside0 (Kd.R (Kd.int .i64) 3 w16 w.heap.size (fun _ => True) be bi) := ⟨h0_⟩; replace aa : Aside0 (w16.heap[ah]? = some (.cells #[.slice aI aC.length aJ, .slice aV ag.length aK, .slice aL aD.length aM] 26 (0, 0))) := ⟨h1_⟩; replace ae : Aside0 (w16.heap[aj]? = some (.cells #[.slice none 0 0, .slice none 0 0, .slice none 0 0] 26 (0, 0))) := ⟨h2_⟩; have al : Aside0 (w16.heap[ao]? = some ((tune_Share.obj []))) := ⟨h3_⟩; have bb : Aside0 (w.heap.size ≤ ao) := ⟨h4_⟩; have ba : Aside0 (w.heap.size ≤ ao) := ⟨h5_⟩; have av : Aside0 (ah ≠ ao) := ⟨h6_⟩; have aw : Aside0 (ao ≠ ah) := ⟨h7_⟩; have ax : Aside0 (aj ≠ ao) := ⟨h8_⟩; have az : Aside0 (ao ≠ aj) := ⟨h9_⟩; replace HB : Aside0 (Below w.heap.size w w16) := ⟨h10_⟩; clear h0_ h10_ h1_ h2_ h3_ h4_ h5_ h6_ h7_ h8_ h9_;have hHeld : w16.cell? ⟨ah, 0, none⟩ = some (.slice aI aC.length aJ) ∧ w16.cell? ⟨ah, 1, none⟩ = some (.slice aV ag.length aK) ∧ w16.cell? ⟨ah, 2, none⟩ = some (.slice aL aD.length aM) := hS_;refine norm_ (a' := ?_) ?_ ?_
   rotate_left
   ·simp only [putAll, Act.put, qS1, qS2, qS3]
    rfl
   refine one_ (i := 5) (N := some 8) (bs 8 63) rfl rfl (one_of HT_.out (by kernel_rfl)) (by decide) (fun K hK => ?_);refine box_step ?hg (N := 8) ?hd (cs := #[.slice none 0 0]) (t := 27) ?hr ?_; (case hd => rfl); (case hg => rfl); (case hr => first | (go_simp; done) | (go_simp; rfl));intro an hg w17 hbox hb;replace aU := kR aU hb; have ak := am hbox; have bc := kG HB hg; have bd := kG HB hg; replace HB := kH HB hb; have ap := kP aa hg; have aq := kQ aa hg; replace aa := kU aa hb; have ar := kP ae hg; have au := kQ ae hg; replace ae := kU ae hb; have aE := kP al hg; have aB := kQ al hg; replace al := kU al hb;clear hb hbox hg;refine hK.out _ _ ⟨kk aa 0, kk aa 1, kk aa 2⟩ (fun hHeld => ?_);clear hK K;refine no (some 8) ?_;refine pu 6 (some 7) (bs 8 127) HT_ ?_;exact norm_ (by first | (simp only [putAll, Act.put, qS1, qS2, qS3]; done) | (simp only [putAll, Act.put, qS1, qS2, qS3]; rfl)) (hJ0_4_5 (ao, be, an) _ ⟨hHeld, (krR aU), (kb aa), (kb ae), (kb al), (kb ak), bb.out, ba.out, av.out, aw.out, ax.out, az.out, aB.out, aE.out, bc.out, bd.out, ap.out, aq.out, ar.out, au.out, (kh HB)⟩)
 rintro ⟨ao, be, an⟩ w17 ⟨hS_, h0_, h1_, h2_, h3_, h4_, h5_, h6_, h7_, h8_, h9_, h10_, h11_, h12_, h13_, h14_, h15_, h16_, h17_, h18_, h19_⟩;have aU : Aside0 (Kd.R (Kd.int .i64) 3 w17 w.heap.size (fun _ => True) be bi) := ⟨h0_⟩; replace aa : Aside0 (w17.heap[ah]? = some (.cells #[.slice aI aC.length aJ, .slice aV ag.length aK, .slice aL aD.length aM] 26 (0, 0))) := ⟨h1_⟩; replace ae : Aside0 (w17.heap[aj]? = some (.cells #[.slice none 0 0, .slice none 0 0, .slice none 0 0] 26 (0, 0))) := ⟨h2_⟩; have al : Aside0 (w17.heap[ao]? = some ((tune_Share.obj []))) := ⟨h3_⟩; have ak : Aside0 (w17.heap[an]? = some (.cells #[.slice none 0 0] 27 (0, 0))) := ⟨h4_⟩; have bb : Aside0 (w.heap.size ≤ ao) := ⟨h5_⟩; have ba : Aside0 (w.heap.size ≤ ao) := ⟨h6_⟩; have av : Aside0 (ah ≠ ao) := ⟨h7_⟩; have aw : Aside0 (ao ≠ ah) := ⟨h8_⟩; have ax : Aside0 (aj ≠ ao) := ⟨h9_⟩; have az : Aside0 (ao ≠ aj) := ⟨h10_⟩; have aB : Aside0 (an ≠ ao) := ⟨h11_⟩; have aE : Aside0 (ao ≠ an) := ⟨h12_⟩; have bc : Aside0 (w.heap.size ≤ an) := ⟨h13_⟩; have bd : Aside0 (w.heap.size ≤ an) := ⟨h14_⟩; have ap : Aside0 (ah ≠ an) := ⟨h15_⟩; have aq : Aside0 (an ≠ ah) := ⟨h16_⟩; have ar : Aside0 (aj ≠ an) := ⟨h17_⟩; have au : Aside0 (an ≠ aj) := ⟨h18_⟩; replace HB : Aside0 (Below w.heap.size w w17) := ⟨h19_⟩; clear h0_ h10_ h11_ h12_ h13_ h14_ h15_ h16_ h17_ h18_ h19_ h1_ h2_ h3_ h4_ h5_ h6_ h7_ h8_ h9_;have hHeld : w17.cell? ⟨ah, 0, none⟩ = some (.slice aI aC.length aJ) ∧ w17.cell? ⟨ah, 1, none⟩ = some (.slice aV ag.length aK) ∧ w17.cell? ⟨ah, 2, none⟩ = some (.slice aL aD.length aM) := hS_;obtain ⟨cX, cY, cZ⟩ := Kd.R_slice aU.out;(first | subst cZ | (injection cZ with f1_ f2_ f3_; have f4_ := f1_.symm; have f5_ := f3_.symm; clear f1_ f2_ f3_; subst f4_; subst f5_));refine norm_ (a' := ?_) ?_ ?_
 rotate_left
 ·simp only [putAll, Act.put, qS1, qS2, qS3]
  rfl
 refine one_ (i := 7) (N := none) (bs 8 255) rfl rfl (one_of HT_.out (by kernel_rfl)) (by decide) (fun K hK => ?_);have gS : w17.cell? ⟨an, 0, none⟩ = some (.slice none 0 0) := kk ak 0;have eM := blk_frozen ak.out 0;have dq := ap.out;have dr := ar.out;have dt := aE.out;have du := aq.out;have dv := au.out;have dw := aB.out;refine skip_ (w1 := ?_) (by rfl) rfl ?_ ?_
 rotate_left
 ·go_simp
  rfl
 refine hK.out _ _ ⟨(kf hHeld.1), (kf hHeld.2.1), (kf hHeld.2.2)⟩ (fun hHeld => ?_);clear hK K;refine done_ (done_of HT_.out (by kernel_rfl)) ?_;have eN := av.out;have eO := aw.out;have eP := ap.out;have eQ := aq.out;have Z22 := kz3 aa;(try go_wp2);go_loopg [28] k (fun kq v28 w' => ∃ (af : Int) (aA : List (S61 × Int)) (ai : List Int) (aW : Value), v28 = .int .i64 af ∧ Aside0 (tune_Share.l0 kq ag (ag.length : Int) af aC ag aD aA false ai = some (r1, r2, r3, r4)) ∧ Aside0 (kq ≤ k) ∧ Aside0 (Kd.R (Kd.int .i64) 3 w' w.heap.size (fun _ => True) aW ai) ∧ Aside0 (w'.heap[ah]? = some (.cells #[(.slice aI aC.length aJ), (.slice aV ag.length aK), (.slice aL aD.length aM)] 26 (0, 0))) ∧ Aside0 (w'.heap[aj]? = some (.cells #[(.slice none 0 0), (.slice none 0 0), (.slice none 0 0)] 26 (0, 0))) ∧ Aside0 (w'.heap[ao]? = some ((tune_Share.obj aA))) ∧ Aside0 (w'.heap[an]? = some (.cells #[aW] 27 (0, 0))) ∧ Aside0 (Below w.heap.size w w'))
 case atStart => exact ⟨(0), ([]), (bi), (.slice cX bi.length cY), et, H', ⟨Nat.le_refl _⟩, ⟨by (with_reducible repeat first | apply Kd.R_alloc | apply Kd.R_drewN | apply Kd.R_drew); exact Kd.R_mono (Kd.R_far (p := ⟨an, 0, none⟩) (Kd.R_types aU.out ak.out (by decide)) (fun _ hk => hk.2) (.slice cX bi.length cY)) (fun _ hk => trivial)⟩, ⟨kg aa⟩, ⟨kg ae⟩, ⟨kg al⟩, ⟨kg ak⟩, ⟨kh HB⟩⟩
 case round =>
  clear H'; (try clear Z22);obtain ⟨af, aA, ai, aW, rfl, HA, HK1, ab, aa, ae, al, ak, HB⟩ := hrel
  cases gk with
  | zero => exact absurd HA.out (by simp [tune_Share.l0])
  | succ k1 =>
   have H := HA.out;clear HA;simp only [tune_Share.l0] at H
   by_cases c23 : af < (ag.length : Int)
   rotate_left
   ·rw [if_neg c23] at H
    have cp := decide_eq_false c23;clear c23;replace H := Option.bind_eq_some_iff.mp H;obtain ⟨⟨bo, bv, bE⟩, cq, H⟩ := H;(try dsimp only at H);have dF := Aside0.mk cq;clear cq;simp only [Option.some.injEq, Prod.mk.injEq] at H;obtain ⟨rfl, rfl, rfl, rfl⟩ := H;have HR := ab;obtain ⟨cD, cE, dG⟩ := Kd.R_slice HR.out;subst dG;have HX := Aside0.mk (show wr.cell? ⟨an, 0, none⟩ = some (.slice cD ai.length cE) from kk ak 0);have HC := Aside0.mk (Kd.R_reads' HR.out).2.2;have Z45 := ky3 aa;go_wp2_with (first | ((with_reducible refine gate_callee (f := 45) rfl ?_); refine goesL_ (some 97) rfl rfl Try.func45 (by kernel_rfl) rfl #[.agg #[.slice aI aC.length aJ, .slice aV ag.length aK, .slice aL aD.length aM], .func (.func 46) #[] #[.pointer (some ⟨an, 0, none⟩)], .func (.func 47) #[] #[.pointer (some ⟨an, 0, none⟩)]] rfl (by (try simp only [qM1, qM2, qM3]); first | done | rfl) ?_));refine (tune_moved.calls (tune_Share.st ai) (tune_Share.tto ai) 46 47 #[.pointer (some ⟨an, 0, none⟩)] #[.pointer (some ⟨an, 0, none⟩)] k1 _ _ aC _ _ ag _ _ aD bo bv bE _ (Kd.C_below bU.out HB.out) bV.out (Kd.C_below bK.out HB.out) bW.out (Kd.C_below bX.out HB.out) bY.out (enters_of Try.func46 (by kernel_rfl) rfl) (enters_of Try.func47 (by kernel_rfl) rfl) (fun x0 x1 x2 x3 x4 r V hV hst => tune_Share.calls1 an cD cE ai V ((hV.cell (p := ⟨an, 0, none⟩) (World.block_lt_of_cell? _ _ HX.out)).trans HX.out) (Kd.C_below HC.out hV) x0 x1 x2 x3 x4 r hst) (fun x0 r V hV hst => tune_Share.calls2 an cD cE ai V ((hV.cell (p := ⟨an, 0, none⟩) (World.block_lt_of_cell? _ _ HX.out)).trans HX.out) (Kd.C_below HC.out hV) x0 r hst) dF.out).mono ?_;rintro e w53 ⟨gT, gU, gV, rfl, ho0, ho1, ho2, hb⟩;refine ⟨_, rfl, ?_⟩;replace ho2 := k66t_S ho2;have cr := Aside0.mk (Kd.R_lower ho0 HB.out.size);have ct := Aside0.mk (Kd.R_lower ho1 HB.out.size);have cu := Aside0.mk (Kd.S_lower ho2 HB.out.size);have ae := Aside0.mk (blk_below ae.out hb);have HB := Aside0.mk (below_step HB.out hb);clear ho0 ho1 ho2 hb;obtain ⟨bw, bx, dH⟩ := Kd.R_slice cr.out;subst dH;obtain ⟨bF, bG, dI⟩ := Kd.R_slice ct.out;subst dI;obtain ⟨bQ, bR, dJ⟩ := Kd.S_slice cu.out;subst dJ;have Z55 := kz3 ae;go_wp2
    have hB3 : (((w53.setCell ⟨aj, 0, none⟩ (.slice bw bo.length bx)).setCell ⟨aj, 1, none⟩ (.slice bF bv.length bG)).setCell ⟨aj, 2, none⟩ (.slice bQ bE.length bR)).heap[aj]? = some (.cells #[.slice bw bo.length bx, .slice bF bv.length bG, .slice bQ bE.length bR] 26 (0, 0)) := by
     refine blk_put (cs := #[.slice bw bo.length bx, .slice bF bv.length bG, .slice none 0 0]) ?_ 2 _ rfl;refine blk_put (cs := #[.slice bw bo.length bx, .slice none 0 0, .slice none 0 0]) ?_ 1 _ rfl;refine blk_put (cs := #[.slice none 0 0, .slice none 0 0, .slice none 0 0]) ?_ 0 _ rfl;exact ae.out
    have hBl : Below w.heap.size w (((w53.setCell ⟨aj, 0, none⟩ (.slice bw bo.length bx)).setCell ⟨aj, 1, none⟩ (.slice bF bv.length bG)).setCell ⟨aj, 2, none⟩ (.slice bQ bE.length bR)) := by
     refine below_set ?_ bL.out;refine below_set ?_ bL.out;refine below_set ?_ bL.out;exact HB.out
    refine bodyPost_ret (results_ct rfl _ _ aj 26 _ (0, 0) _ rfl hB3 Try.underlying26 rfl (by kernel_rfl)) rfl ?_;exact ⟨_, _, _, rfl, Kd.R_mono (Kd.R_far (p := ⟨aj, 2, none⟩) (Kd.R_far (p := ⟨aj, 1, none⟩) (Kd.R_far (p := ⟨aj, 0, none⟩) (Kd.R_types cr.out ae.out (by decide)) (fun _ hk => hk.2) (.slice bw bo.length bx)) (fun _ hk => hk.2) (.slice bF bv.length bG)) (fun _ hk => hk.2) (.slice bQ bE.length bR)) (fun _ hk => trivial), Kd.R_mono (Kd.R_far (p := ⟨aj, 2, none⟩) (Kd.R_far (p := ⟨aj, 1, none⟩) (Kd.R_far (p := ⟨aj, 0, none⟩) (Kd.R_types ct.out ae.out (by decide)) (fun _ hk => hk.2) (.slice bw bo.length bx)) (fun _ hk => hk.2) (.slice bF bv.length bG)) (fun _ hk => hk.2) (.slice bQ bE.length bR)) (fun _ hk => trivial), Kd.S_mono (Kd.S_far (p := ⟨aj, 2, none⟩) (Kd.S_far (p := ⟨aj, 1, none⟩) (Kd.S_far (p := ⟨aj, 0, none⟩) (Kd.S_types cu.out ae.out (by decide)) (fun _ hk => hk.2) (.slice bw bo.length bx)) (fun _ hk => hk.2) (.slice bF bv.length bG)) (fun _ hk => hk.2) (.slice bQ bE.length bR)) (fun _ hk => trivial), hBl⟩
   rw [if_pos c23] at H;have cp := decide_eq_true c23;clear c23
   by_cases c24 : 0 ≤ af
   rotate_left
   ·rw [if_neg c24] at H
    exact absurd H (by simp)
   rw [if_pos c24] at H;have da := decide_eq_true c24;clear c24
   by_cases c25 : af < (ag.length : Int)
   rotate_left
   ·rw [if_neg c25] at H
    exact absurd H (by simp)
   rw [if_pos c25] at H;have db := decide_eq_true c25;clear c25;have cF := Aside0.mk H;clear H;have cc : 0 ≤ (af : Int) := od;have cd : af < (ag.length : Int) := od;obtain ⟨bz, dK, bk, bl, bm, bn⟩ := at_T61 bK.out af cc cd;cases dK;replace bk := (HB.out.cell (World.block_lt_of_cell? w _ bk)).trans bk;replace bl := (HB.out.cell (World.block_lt_of_cell? w _ bl)).trans bl;replace bm := (HB.out.cell (World.block_lt_of_cell? w _ bm)).trans bm;replace bn := (HB.out.cell (World.block_lt_of_cell? w _ bn)).trans bn;replace cc := eq_true cc; replace cd := eq_true cd;go_upto_region 8 with (first | ((with_reducible refine qga (N := 10) rfl ?_); refine box_event ?hg (N := 10) ?hd (cs := #[.int .i64 0, .int .i64 0, .int .i64 0, .int .u64 0]) (t := 61) ?hr ?_; (case hd => rfl); (case hg => rfl); (case hr => first | (go_simp; done) | (go_simp; rfl)); intro aZ hg w27 hbox hb; replace ab := kR ab hb; have ay := am hbox; have eR := kG HB hg; have eS := kG HB hg; replace HB := kH HB hb; have aN := kP aa hg; have aO := kQ aa hg; replace aa := kU aa hb; have aP := kP ae hg; have aQ := kQ ae hg; replace ae := kU ae hb; have aR := kP al hg; have aF := kQ al hg; replace al := kU al hb; have aS := kP ak hg; have aT := kQ ak hg; replace ak := kU ak hb; clear hb hbox hg; have eT := aO.out; have eU := aN.out; have eV := aQ.out; have eW := aP.out; have eX := aF.out; have eY := aR.out; have eZ := aT.out; have fa := aS.out; have Z32 := kz4 ay));(try simp only [Act.put, qS1, qS2, qS3]);go_cut [40] (fun v40 wc => ∃ (kq : Nat) (bp : Bool), v40 = .bool bp ∧ Aside0 (tune_Share.j1 kq af ag (ag.length : Int) af bp aC ag aD aA false ai ((rd_T61 ag af).f0) ((rd_T61 ag af).f1) ((rd_T61 ag af).f2) ((rd_T61 ag af).f3) = some (r1, r2, r3, r4)) ∧ Aside0 (kq ≤ k1) ∧ Aside0 (Kd.R (Kd.int .i64) 3 wc w.heap.size (fun _ => True) aW ai) ∧ Aside0 (wc.heap[ah]? = some (.cells #[(.slice aI aC.length aJ), (.slice (some bz) ag.length aK), (.slice aL aD.length aM)] 26 (0, 0))) ∧ Aside0 (wc.heap[aj]? = some (.cells #[(.slice none 0 0), (.slice none 0 0), (.slice none 0 0)] 26 (0, 0))) ∧ Aside0 (wc.heap[ao]? = some ((tune_Share.obj aA))) ∧ Aside0 (wc.heap[an]? = some (.cells #[aW] 27 (0, 0))) ∧ Aside0 (wc.heap[aZ]? = some (.cells #[.int .i64 ((rd_T61 ag af).f0), .int .i64 ((rd_T61 ag af).f1), .int .i64 ((rd_T61 ag af).f2), .int .u64 ((rd_T61 ag af).f3)] 61 (0, 0))) ∧ Aside0 (Below w.heap.size w wc))
   case first =>
    have H := cF.out;clear cF
    by_cases c33 : ((rd_T61 ag af).f0) = 1
    rotate_left
    ·rw [if_neg c33] at H
     have bA := beq_eq_false_iff_ne.mpr c33;have dc := bne_iff_ne.mpr c33;(first | rw [bA] | (simp only [i64_w, i32_w]; rw [bA]) | skip);have H' := Aside0.mk H;clear H;have fb := aO.out;have fc := aN.out;have fd := aQ.out;have fe := aP.out;have ff := aF.out;have fg := aR.out;have fh := aT.out;have fi := aS.out;have Z43 := kz4 ay;go_wp2;go_meet
     case rel => exact ⟨_, ((((rd_T61 ag af).f0) != 2)), et, H', ⟨by have := HK1.out; first | omega | exact Nat.le_refl _⟩, ⟨by (with_reducible repeat first | apply Kd.R_alloc | apply Kd.R_drewN | apply Kd.R_drew); exact Kd.R_mono (Kd.R_far (p := ⟨aZ, 3, none⟩) (Kd.R_far (p := ⟨aZ, 2, none⟩) (Kd.R_far (p := ⟨aZ, 1, none⟩) (Kd.R_far (p := ⟨aZ, 0, none⟩) (Kd.R_types ab.out ay.out (by decide)) (fun _ hk => hk.2) (.int .i64 ((rd_T61 ag af).f0))) (fun _ hk => hk.2) (.int .i64 ((rd_T61 ag af).f1))) (fun _ hk => hk.2) (.int .i64 ((rd_T61 ag af).f2))) (fun _ hk => hk.2) (.int .u64 ((rd_T61 ag af).f3))) (fun _ hk => trivial)⟩, ⟨kg aa⟩, ⟨kg ae⟩, ⟨kg al⟩, ⟨kg ak⟩, ⟨kg ay⟩, ⟨kh HB⟩⟩
    rw [if_pos c33] at H;have bA := beq_iff_eq.mpr c33;have dc := bne_eq_false_iff_eq.mpr c33;clear c33;(first | rw [bA] | (simp only [i64_w, i32_w]; rw [bA]) | skip);have H' := Aside0.mk H;clear H;have fj := aO.out;have fk := aN.out;have fl := aQ.out;have fm := aP.out;have fn := aF.out;have fo := aR.out;have fp := aT.out;have fq := aS.out;have Z38 := kz4 ay;go_wp2;go_meet
    case rel => exact ⟨_, (false), et, H', ⟨by have := HK1.out; first | omega | exact Nat.le_refl _⟩, ⟨by (with_reducible repeat first | apply Kd.R_alloc | apply Kd.R_drewN | apply Kd.R_drew); exact Kd.R_mono (Kd.R_far (p := ⟨aZ, 3, none⟩) (Kd.R_far (p := ⟨aZ, 2, none⟩) (Kd.R_far (p := ⟨aZ, 1, none⟩) (Kd.R_far (p := ⟨aZ, 0, none⟩) (Kd.R_types ab.out ay.out (by decide)) (fun _ hk => hk.2) (.int .i64 ((rd_T61 ag af).f0))) (fun _ hk => hk.2) (.int .i64 ((rd_T61 ag af).f1))) (fun _ hk => hk.2) (.int .i64 ((rd_T61 ag af).f2))) (fun _ hk => hk.2) (.int .u64 ((rd_T61 ag af).f3))) (fun _ hk => trivial)⟩, ⟨kg aa⟩, ⟨kg ae⟩, ⟨kg al⟩, ⟨kg ak⟩, ⟨kg ay⟩, ⟨kh HB⟩⟩
   clear cF;(try clear cp da db Z32 bk bl bm bn cc cd);obtain ⟨kq, bp, rfl, HA, bj, ab, aa, ae, al, ak, ay, HB⟩ := hcut
   cases kq with
   | zero => exact absurd HA.out (by simp [tune_Share.j1])
   | succ dL =>
    have H := HA.out;clear HA;simp only [tune_Share.j1] at H;have cG := Aside0.mk H;clear H;go_upto_if 40 with (fail);go_cut [] (fun wc => ∃ (kq : Nat) (aG : Int) (aH : Int), Aside0 (tune_Share.j2 kq af ag (ag.length : Int) af aC ag aD aA false ai ((rd_T61 ag af).f0) aG aH ((rd_T61 ag af).f3) = some (r1, r2, r3, r4)) ∧ Aside0 (kq ≤ dL) ∧ Aside0 (Kd.R (Kd.int .i64) 3 wc w.heap.size (fun _ => True) aW ai) ∧ Aside0 (wc.heap[ah]? = some (.cells #[(.slice aI aC.length aJ), (.slice (some bz) ag.length aK), (.slice aL aD.length aM)] 26 (0, 0))) ∧ Aside0 (wc.heap[aj]? = some (.cells #[(.slice none 0 0), (.slice none 0 0), (.slice none 0 0)] 26 (0, 0))) ∧ Aside0 (wc.heap[ao]? = some ((tune_Share.obj aA))) ∧ Aside0 (wc.heap[an]? = some (.cells #[aW] 27 (0, 0))) ∧ Aside0 (wc.heap[aZ]? = some (.cells #[.int .i64 ((rd_T61 ag af).f0), .int .i64 aG, .int .i64 aH, .int .u64 ((rd_T61 ag af).f3)] 61 (0, 0))) ∧ Aside0 (Below w.heap.size w wc))
    case first =>
     have H := cG.out;clear cG
     by_cases c45 : bp = true
     rotate_left
     ·replace c45 := Bool.eq_false_iff.mpr c45
      subst c45;replace H := ifF H;have H' := Aside0.mk H;clear H;go_wp2;go_meet
      case rel => exact ⟨_, (((rd_T61 ag af).f1)), (((rd_T61 ag af).f2)), H', ⟨by have := HK1.out; have := bj.out; first | omega | exact Nat.le_refl _⟩, ⟨krR ab⟩, ⟨kg aa⟩, ⟨kg ae⟩, ⟨kg al⟩, ⟨kg ak⟩, ⟨kg ay⟩, ⟨kh HB⟩⟩
     subst c45;replace H := ifT H
     by_cases c46 : 0 ≤ ((rd_T61 ag af).f1)
     rotate_left
     ·rw [if_neg c46] at H
      exact absurd H (by simp)
     rw [if_pos c46] at H;have cv := decide_eq_true c46;clear c46;(first | rw [cv] | (simp only [i64_w, i32_w]; rw [cv]) | skip)
     by_cases c47 : ((rd_T61 ag af).f1) < (ai.length : Int)
     rotate_left
     ·rw [if_neg c47] at H
      exact absurd H (by simp)
     rw [if_pos c47] at H;have fr := decide_eq_true c47;clear c47
     by_cases c48 : ((rd_T61 ag af).f0) = 6
     ·rw [if_pos c48] at H
      have dd := beq_iff_eq.mpr c48;have de := bne_eq_false_iff_eq.mpr c48;clear c48;have H' := Aside0.mk H;clear H;have fs := aq.out;have ft := ap.out;have fu := au.out;have fv := ar.out;have fw := aB.out;have fx := aE.out;have fy := aS.out;have fz := aT.out;have Z53 := kz1 ak;have fA := aO.out;have fB := aN.out;have fC := aQ.out;have fD := aP.out;have fE := aF.out;have fF := aR.out;have Z57 := kz4 ay;obtain ⟨gW, gX, dM⟩ := Kd.R_slice ab.out;subst dM;have bH : 0 ≤ (((rd_T61 ag af).f1) : Int) := od;have bI : ((rd_T61 ag af).f1) < (ai.length : Int) := od;obtain ⟨bZ, cH, ce⟩ := Kd.at_int (Kd.R_reads' ab.out).2.2 ((rd_T61 ag af).f1) bH bI;cases cH;replace bH := eq_true bH; replace bI := eq_true bI;go_wp2;go_meet
      case rel => exact ⟨_, (rd ai ((rd_T61 ag af).f1)), (((rd_T61 ag af).f2)), H', ⟨by have := HK1.out; have := bj.out; first | omega | exact Nat.le_refl _⟩, ⟨by (with_reducible repeat first | apply Kd.R_alloc | apply Kd.R_drewN | apply Kd.R_drew); exact Kd.R_mono (Kd.R_far (p := ⟨aZ, 1, none⟩) (Kd.R_types ab.out ay.out (by decide)) (fun _ hk => hk.2) (.int .i64 (rd ai ((rd_T61 ag af).f1)))) (fun _ hk => trivial)⟩, ⟨kg aa⟩, ⟨kg ae⟩, ⟨kg al⟩, ⟨kg ak⟩, ⟨kg ay⟩, ⟨kh HB⟩⟩
     rw [if_neg c48] at H;have dd := beq_eq_false_iff_ne.mpr c48;have de := bne_iff_ne.mpr c48
     by_cases c59 : 0 ≤ ((rd_T61 ag af).f2)
     rotate_left
     ·rw [if_neg c59] at H
      exact absurd H (by simp)
     rw [if_pos c59] at H;have fG := decide_eq_true c59;clear c59
     by_cases c60 : ((rd_T61 ag af).f2) < (ai.length : Int)
     rotate_left
     ·rw [if_neg c60] at H
      exact absurd H (by simp)
     rw [if_pos c60] at H;have fH := decide_eq_true c60;clear c60;have H' := Aside0.mk H;clear H;have fI := aq.out;have fJ := ap.out;have fK := au.out;have fL := ar.out;have fM := aB.out;have fN := aE.out;have fO := aS.out;have fP := aT.out;have Z65 := kz1 ak;have fQ := aO.out;have fR := aN.out;have fS := aQ.out;have fT := aP.out;have fU := aF.out;have fV := aR.out;have Z69 := kz4 ay;obtain ⟨gY, gZ, dN⟩ := Kd.R_slice ab.out;subst dN;have bH : 0 ≤ (((rd_T61 ag af).f1) : Int) := od;have bI : ((rd_T61 ag af).f1) < (ai.length : Int) := od;obtain ⟨bZ, cH, ce⟩ := Kd.at_int (Kd.R_reads' ab.out).2.2 ((rd_T61 ag af).f1) bH bI;cases cH;replace bH := eq_true bH; replace bI := eq_true bI;have cI : 0 ≤ (((rd_T61 ag af).f2) : Int) := od;have cJ : ((rd_T61 ag af).f2) < (ai.length : Int) := od;obtain ⟨df, dO, bM⟩ := Kd.at_int (Kd.R_reads' ab.out).2.2 ((rd_T61 ag af).f2) cI cJ;obtain rfl : bZ = df := (by injection dO);have hn298_0 : bZ.block ≠ aZ := Kd.own_blk (Kd.R_ne ab.out ay.out (by decide));replace bM := (cell_far (p := ⟨aZ, 1, none⟩) (by first | (rw [add_block]; exact hn298_0) | (show (Addr.add _ _).block ≠ _; rw [add_block]; exact hn298_0) | exact hn298_0) (.int .i64 (rd ai ((rd_T61 ag af).f1)))).trans bM;clear hn298_0; replace cI := eq_true cI; replace cJ := eq_true cJ;go_wp2;go_meet
     case rel => exact ⟨_, (rd ai ((rd_T61 ag af).f1)), (rd ai ((rd_T61 ag af).f2)), H', ⟨by have := HK1.out; have := bj.out; first | omega | exact Nat.le_refl _⟩, ⟨by (with_reducible repeat first | apply Kd.R_alloc | apply Kd.R_drewN | apply Kd.R_drew); exact Kd.R_mono (Kd.R_far (p := ⟨aZ, 2, none⟩) (Kd.R_far (p := ⟨aZ, 1, none⟩) (Kd.R_types ab.out ay.out (by decide)) (fun _ hk => hk.2) (.int .i64 (rd ai ((rd_T61 ag af).f1)))) (fun _ hk => hk.2) (.int .i64 (rd ai ((rd_T61 ag af).f2)))) (fun _ hk => trivial)⟩, ⟨kg aa⟩, ⟨kg ae⟩, ⟨kg al⟩, ⟨kg ak⟩, ⟨kg ay⟩, ⟨kh HB⟩⟩
    clear cG;obtain ⟨kq, aG, aH, HA, bq, ab, aa, ae, al, ak, ay, HB⟩ := hcut
    cases kq with
    | zero => exact absurd HA.out (by simp [tune_Share.j2])
    | succ dP =>
     have H := HA.out;clear HA;simp only [tune_Share.j2] at H;have cK := Aside0.mk H;clear H;go_upto_region 12 with (fail);go_cut [70] (fun v70 wc => ∃ (kq : Nat) (br : Bool), v70 = .bool br ∧ Aside0 (tune_Share.j3 kq af ag (ag.length : Int) af br aC ag aD aA false ai ((rd_T61 ag af).f0) aG aH ((rd_T61 ag af).f3) = some (r1, r2, r3, r4)) ∧ Aside0 (kq ≤ dP) ∧ Aside0 (Kd.R (Kd.int .i64) 3 wc w.heap.size (fun _ => True) aW ai) ∧ Aside0 (wc.heap[ah]? = some (.cells #[(.slice aI aC.length aJ), (.slice (some bz) ag.length aK), (.slice aL aD.length aM)] 26 (0, 0))) ∧ Aside0 (wc.heap[aj]? = some (.cells #[(.slice none 0 0), (.slice none 0 0), (.slice none 0 0)] 26 (0, 0))) ∧ Aside0 (wc.heap[ao]? = some ((tune_Share.obj aA))) ∧ Aside0 (wc.heap[an]? = some (.cells #[aW] 27 (0, 0))) ∧ Aside0 (wc.heap[aZ]? = some (.cells #[.int .i64 ((rd_T61 ag af).f0), .int .i64 aG, .int .i64 aH, .int .u64 ((rd_T61 ag af).f3)] 61 (0, 0))) ∧ Aside0 (Below w.heap.size w wc))
     case first =>
      have H := cK.out;clear cK
      by_cases c72 : ((rd_T61 ag af).f0) = 3
      ·rw [if_pos c72] at H
       have bB := beq_iff_eq.mpr c72;have dg := bne_eq_false_iff_eq.mpr c72;clear c72;(first | rw [bB] | (simp only [i64_w, i32_w]; rw [bB]) | skip);have H' := Aside0.mk H;clear H;have fW := aO.out;have fX := aN.out;have fY := aQ.out;have fZ := aP.out;have ga := aF.out;have gb := aR.out;have gc := aT.out;have gd := aS.out;have Z77 := kz4 ay;go_wp2;go_meet
       case rel => exact ⟨_, (decide (aG > aH)), et, H', ⟨by have := HK1.out; have := bj.out; have := bq.out; first | omega | exact Nat.le_refl _⟩, ⟨krR ab⟩, ⟨kg aa⟩, ⟨kg ae⟩, ⟨kg al⟩, ⟨kg ak⟩, ⟨kg ay⟩, ⟨kh HB⟩⟩
      rw [if_neg c72] at H;have bB := beq_eq_false_iff_ne.mpr c72;have dg := bne_iff_ne.mpr c72;(first | rw [bB] | (simp only [i64_w, i32_w]; rw [bB]) | skip)
      by_cases c78 : ((rd_T61 ag af).f0) = 5
      rotate_left
      ·rw [if_neg c78] at H
       have dh := beq_eq_false_iff_ne.mpr c78;have di := bne_iff_ne.mpr c78;have H' := Aside0.mk H;clear H;have ge := aO.out;have gf := aN.out;have gg := aQ.out;have gh := aP.out;have gi := aF.out;have gj := aR.out;have gl := aT.out;have gm := aS.out;have Z88 := kz4 ay;go_wp2;go_meet
       case rel => exact ⟨_, (false), et, H', ⟨by have := HK1.out; have := bj.out; have := bq.out; first | omega | exact Nat.le_refl _⟩, ⟨krR ab⟩, ⟨kg aa⟩, ⟨kg ae⟩, ⟨kg al⟩, ⟨kg ak⟩, ⟨kg ay⟩, ⟨kh HB⟩⟩
      rw [if_pos c78] at H;have dh := beq_iff_eq.mpr c78;have di := bne_eq_false_iff_eq.mpr c78;clear c78;have H' := Aside0.mk H;clear H;have gn := aO.out;have go := aN.out;have gp := aQ.out;have gq := aP.out;have gr := aF.out;have gs := aR.out;have gt := aT.out;have gu := aS.out;have Z83 := kz4 ay;go_wp2;go_meet
      case rel => exact ⟨_, (decide (aG > aH)), et, H', ⟨by have := HK1.out; have := bj.out; have := bq.out; first | omega | exact Nat.le_refl _⟩, ⟨krR ab⟩, ⟨kg aa⟩, ⟨kg ae⟩, ⟨kg al⟩, ⟨kg ak⟩, ⟨kg ay⟩, ⟨kh HB⟩⟩
     clear cK;obtain ⟨kq, br, rfl, HA, bS, ab, aa, ae, al, ak, ay, HB⟩ := hcut
     cases kq with
     | zero => exact absurd HA.out (by simp [tune_Share.j3])
     | succ dQ =>
      have H := HA.out;clear HA;simp only [tune_Share.j3] at H;have cL := Aside0.mk H;clear H;go_upto_if 70 with (fail);go_cut [] (fun wc => ∃ (kq : Nat) (aX : Int) (aY : Int), Aside0 (tune_Share.j4 kq af ag (ag.length : Int) af aC ag aD aA false ai ((rd_T61 ag af).f0) aX aY ((rd_T61 ag af).f3) = some (r1, r2, r3, r4)) ∧ Aside0 (kq ≤ dQ) ∧ Aside0 (Kd.R (Kd.int .i64) 3 wc w.heap.size (fun _ => True) aW ai) ∧ Aside0 (wc.heap[ah]? = some (.cells #[(.slice aI aC.length aJ), (.slice (some bz) ag.length aK), (.slice aL aD.length aM)] 26 (0, 0))) ∧ Aside0 (wc.heap[aj]? = some (.cells #[(.slice none 0 0), (.slice none 0 0), (.slice none 0 0)] 26 (0, 0))) ∧ Aside0 (wc.heap[ao]? = some ((tune_Share.obj aA))) ∧ Aside0 (wc.heap[an]? = some (.cells #[aW] 27 (0, 0))) ∧ Aside0 (wc.heap[aZ]? = some (.cells #[.int .i64 ((rd_T61 ag af).f0), .int .i64 aX, .int .i64 aY, .int .u64 ((rd_T61 ag af).f3)] 61 (0, 0))) ∧ Aside0 (Below w.heap.size w wc))
      case first =>
       have H := cL.out;clear cL
       by_cases c90 : br = true
       rotate_left
       ·replace c90 := Bool.eq_false_iff.mpr c90
        subst c90;replace H := ifF H;have H' := Aside0.mk H;clear H;go_wp2;go_meet
        case rel => exact ⟨_, (aG), (aH), H', ⟨by have := HK1.out; have := bj.out; have := bq.out; have := bS.out; first | omega | exact Nat.le_refl _⟩, ⟨krR ab⟩, ⟨kg aa⟩, ⟨kg ae⟩, ⟨kg al⟩, ⟨kg ak⟩, ⟨kg ay⟩, ⟨kh HB⟩⟩
       subst c90;replace H := ifT H;have H' := Aside0.mk H;clear H;have gv := aO.out;have gw := aN.out;have gx := aQ.out;have gy := aP.out;have gz := aF.out;have gA := aR.out;have gB := aT.out;have gC := aS.out;have Z95 := kz4 ay;go_wp2;go_meet
       case rel => exact ⟨_, (aH), (aG), H', ⟨by have := HK1.out; have := bj.out; have := bq.out; have := bS.out; first | omega | exact Nat.le_refl _⟩, ⟨by (with_reducible repeat first | apply Kd.R_alloc | apply Kd.R_drewN | apply Kd.R_drew); exact Kd.R_mono (Kd.R_far (p := ⟨aZ, 2, none⟩) (Kd.R_far (p := ⟨aZ, 1, none⟩) (Kd.R_types ab.out ay.out (by decide)) (fun _ hk => hk.2) (.int .i64 aH)) (fun _ hk => hk.2) (.int .i64 aG)) (fun _ hk => trivial)⟩, ⟨kg aa⟩, ⟨kg ae⟩, ⟨kg al⟩, ⟨kg ak⟩, ⟨kg ay⟩, ⟨kh HB⟩⟩
      clear cL;obtain ⟨kq, aX, aY, HA, cf, ab, aa, ae, al, ak, ay, HB⟩ := hcut
      cases kq with
      | zero => exact absurd HA.out (by simp [tune_Share.j4])
      | succ cg =>
       have H := HA.out;clear HA;simp only [tune_Share.j4] at H;replace H := Option.bind_eq_some_iff.mp H;obtain ⟨⟨bJ, dR⟩, dj, H⟩ := H;(try dsimp only at H);have A96 := Aside0.mk dj;clear dj
       by_cases c97 : dR = true
       ·subst c97
        replace H := ifT H
        by_cases c98 : 0 ≤ af
        rotate_left
        ·rw [if_neg c98] at H
         exact absurd H (by simp)
        rw [if_pos c98] at H;have gD := decide_eq_true c98;clear c98
        by_cases c99 : af < (ai.length : Int)
        rotate_left
        ·rw [if_neg c99] at H
         exact absurd H (by simp)
        rw [if_pos c99] at H;have gE := decide_eq_true c99;clear c99;obtain ⟨cM, bC⟩ : ∃ y_ : List Int, y_ = (ai.set (af : Int).toNat bJ) := ⟨_, rfl⟩
        replace H : (tune_Share.l0 cg ag (ag.length : Int) (wrap64 (af + 1)) aC ag aD aA false cM) = some (r1, r2, r3, r4) := by first | (rw [bC]; with_reducible exact H) | (have H2_ := (Option.bind_some _ _).symm.trans H; rw [bC]; with_reducible exact H2_) | (have H2_ := (Option.bind_some _ _).symm.trans H; with_reducible exact H2_) | with_reducible exact H | (rw [bC]; exact H) | exact H
        have dk := Aside0.mk bC;clear bC;have H' := Aside0.mk H;clear H;have dS := aw.out;have dT := av.out;have dU := az.out;have dV := ax.out;have dW := aE.out;have dX := aB.out;have dY := aR.out;have dZ := aF.out;have ea := aO.out;have eb := aN.out;have ec := aQ.out;have ed := aP.out;have ee := aT.out;have ef := aS.out;have ha := kz4 ay;go_wp2_with (first | ((with_reducible refine qga (N := 80) rfl ?_); refine tune_Share.look_event ?hg (N := 80) ?hd (v := .tuple #[.int .i64 bJ, .bool true]) ?hr ?_; (case hg => rfl); (case hd => rfl); (case hr => have hlk := tune_Share.look_run ⟨((rd_T61 ag af).f0), aX, aY, ((rd_T61 ag af).f3)⟩ aA _ ao al.out (bJ, true) A96.out; unfold tune_Share.val at hlk; first | (go_simp; done) | (go_simp; rfl)); intro dl hb; replace ab := kR ab hb; replace aa := kU aa hb; replace ae := kU ae hb; replace al := kU al hb; replace ak := kU ak hb; replace ay := kU ay hb; replace HB := kH HB hb; (try clear hb); (try clear hb2); (try clear hk); (try clear hi); have eg := aq.out; have eh := ap.out; have ei := au.out; have ej := ar.out; have hl := kz1 ak; have cN : 0 ≤ (af : Int) := od; have cO : (af : Int) < ((ai.length : Int) : Int) := od; obtain ⟨bN, cw, cx, cy, gl100, cl100, HG100⟩ := Kd.R_form ab.out (by omega); (first | cases cx | (injection cx with ea_ en_ ec_; (first | subst ea_ | (injection ea_ with ea_; subst ea_)); subst ec_; clear en_)); have dm := Aside0.mk cy; have gF := Aside0.mk HG100; clear cy gl100 HG100; obtain ⟨dx, dy⟩ := Kd.R_celln 0 ab.out (af : Int) cN cO; replace cN := eq_true cN; replace cO := eq_true cO; obtain ⟨ek, el⟩ := Kd.R_celln 0 ab.out (af : Int) od od; have ca := Kd.R_putg ab.out (af : Int) bJ) | ((with_reducible refine gate_store (t := 3) (p := 92) rfl ?_); refine store_event (t := 3) (p := 92) (v := ?vo_w115) (w1 := (dl.setCell ⟨bN, (af : Int).toNat, none⟩ (.int .i64 bJ))) ?hg ?ho ?hn ?hr ?_; (case ho => rfl); (case hg => rfl); (case hn => rfl); (case hr => first | (go_simp; done) | (go_simp; rfl)); intro cP hw; have hg : dl.grownBy cP (some bN) := (by rw [hw]; exact ca.2); have hp_ : Kd.R (Kd.int .i64) 3 cP w.heap.size (fun _ => True) (.slice (some ⟨bN, 0, none⟩) ai.length cw) cM := (by rw [hw, dk.out]; exact ca.1); clear ca; replace aa := kXR aa ab hg; replace ae := kXR ae ab hg; replace al := Aside0.mk (blk_grown (g := ao) (o := (tune_Share.obj aA)) (kb al) hg (tune_Share.R_neM ab.out al.out)); replace ak := kXR ak ab hg; replace ay := kXR ay ab hg; replace ab := Aside0.mk (hp_); replace HB := Aside0.mk ((by rw [hw]; exact below_set (HB.out) dm.out : Below w.heap.size w cP)); clear hg hw hp_));go_roundg cg
        case measure => have := HK1.out; have := bj.out; have := bq.out; have := bS.out; have := cf.out; omega
        case rel => exact ⟨(wrap64 (af + 1)), (aA), (cM), (.slice (some ⟨bN, 0, none⟩) ai.length cw), et, H', ⟨by have := HK1.out; have := bj.out; have := bq.out; have := bS.out; have := cf.out; omega⟩, ⟨krR ab⟩, ⟨kg aa⟩, ⟨kg ae⟩, ⟨kg al⟩, ⟨kg ak⟩, ⟨kh HB⟩⟩
       replace c97 := Bool.eq_false_iff.mpr c97;subst c97;replace H := ifF H;replace H := Option.bind_eq_some_iff.mp H;obtain ⟨bT, cz, H⟩ := H;(try dsimp only at H);have em := Aside0.mk cz;clear cz
       by_cases ch : 0 ≤ af
       rotate_left
       ·rw [if_neg ch] at H
        exact absurd H (by simp)
       rw [if_pos ch] at H;have en := decide_eq_true ch;clear ch
       by_cases ci : af < (ai.length : Int)
       rotate_left
       ·rw [if_neg ci] at H
        exact absurd H (by simp)
       rw [if_pos ci] at H;have eo := decide_eq_true ci;clear ci;obtain ⟨cQ, bD⟩ : ∃ y_ : List Int, y_ = (ai.set (af : Int).toNat af) := ⟨_, rfl⟩
       replace H : (tune_Share.l0 cg ag (ag.length : Int) (wrap64 (af + 1)) aC ag aD bT false cQ) = some (r1, r2, r3, r4) := by first | (rw [bD]; with_reducible exact H) | (have H2_ := (Option.bind_some _ _).symm.trans H; rw [bD]; with_reducible exact H2_) | (have H2_ := (Option.bind_some _ _).symm.trans H; with_reducible exact H2_) | with_reducible exact H | (rw [bD]; exact H) | exact H
       have dn := Aside0.mk bD;clear bD;have H' := Aside0.mk H;clear H;have ep := aw.out;have eq := av.out;have es := az.out;have eu := ax.out;have ev := aE.out;have ew := aB.out;have ex := aR.out;have ey := aF.out;have ez := aO.out;have eA := aN.out;have eB := aQ.out;have eC := aP.out;have eD := aT.out;have eE := aS.out;have hm := kz4 ay;go_wp2_with (first | ((with_reducible refine qga (N := 80) rfl ?_); refine tune_Share.look_event ?hg (N := 80) ?hd (v := .tuple #[.int .i64 bJ, .bool false]) ?hr ?_; (case hg => rfl); (case hd => rfl); (case hr => have hlk := tune_Share.look_run ⟨((rd_T61 ag af).f0), aX, aY, ((rd_T61 ag af).f3)⟩ aA _ ao al.out (bJ, false) A96.out; unfold tune_Share.val at hlk; first | (go_simp; done) | (go_simp; rfl)); intro eF hb; replace ab := kR ab hb; replace aa := kU aa hb; replace ae := kU ae hb; replace al := kU al hb; replace ak := kU ak hb; replace ay := kU ay hb; replace HB := kH HB hb; (try clear hb); (try clear hb2); (try clear hk); (try clear hi); have ht := kz4 ay) | ((with_reducible refine tune_Share.gate_upd rfl ?_); refine tune_Share.upd_event (w1 := (World.putObj eF ao (tune_Share.obj bT))) ?hg ?hn ?hr ?_; (case hg => rfl); (case hn => rfl); (case hr => have hup := tune_Share.put_run ⟨((rd_T61 ag af).f0), aX, aY, ((rd_T61 ag af).f3)⟩ aA bT _ ao af al.out em.out; unfold tune_Share.val at hup; first | (go_simp; done) | (go_simp; rfl)); intro bt hw; replace ab : Aside0 (Kd.R (Kd.int .i64) 3 bt w.heap.size (fun _ => True) aW ai) := ⟨(by rw [hw]; exact (by (with_reducible repeat first | apply Kd.R_alloc | apply Kd.R_drewN | apply Kd.R_drew); exact tune_Share.R_upd ab.out al.out _))⟩; replace aa : Aside0 (bt.heap[ah]? = some (.cells #[.slice aI aC.length aJ, .slice (some bz) ag.length aK, .slice aL aD.length aM] 26 (0, 0))) := ⟨(by rw [hw]; exact (by (with_reducible repeat first | refine blk_drewN ?_ _ | refine blk_drew ?_ | refine blk_alloc ?_ _); refine tune_Share.blk_upd ?_ av.out _; (with_reducible repeat first | refine blk_drewN ?_ _ | refine blk_drew ?_ | refine blk_alloc ?_ _); exact aa.out))⟩; replace ae : Aside0 (bt.heap[aj]? = some (.cells #[.slice none 0 0, .slice none 0 0, .slice none 0 0] 26 (0, 0))) := ⟨(by rw [hw]; exact (by (with_reducible repeat first | refine blk_drewN ?_ _ | refine blk_drew ?_ | refine blk_alloc ?_ _); refine tune_Share.blk_upd ?_ ax.out _; (with_reducible repeat first | refine blk_drewN ?_ _ | refine blk_drew ?_ | refine blk_alloc ?_ _); exact ae.out))⟩; replace al : Aside0 (bt.heap[ao]? = some ((tune_Share.obj bT))) := ⟨(by rw [hw]; exact (by (with_reducible repeat first | refine blk_drewN ?_ _ | refine blk_drew ?_ | refine blk_alloc ?_ _); exact tune_Share.upd_new al.out _))⟩; replace ak : Aside0 (bt.heap[an]? = some (.cells #[aW] 27 (0, 0))) := ⟨(by rw [hw]; exact (by (with_reducible repeat first | refine blk_drewN ?_ _ | refine blk_drew ?_ | refine blk_alloc ?_ _); refine tune_Share.blk_upd ?_ aB.out _; (with_reducible repeat first | refine blk_drewN ?_ _ | refine blk_drew ?_ | refine blk_alloc ?_ _); exact ak.out))⟩; replace ay : Aside0 (bt.heap[aZ]? = some (.cells #[.int .i64 ((rd_T61 ag af).f0), .int .i64 aX, .int .i64 aY, .int .u64 ((rd_T61 ag af).f3)] 61 (0, 0))) := ⟨(by rw [hw]; exact (by (with_reducible repeat first | refine blk_drewN ?_ _ | refine blk_drew ?_ | refine blk_alloc ?_ _); refine tune_Share.blk_upd ?_ aF.out _; (with_reducible repeat first | refine blk_drewN ?_ _ | refine blk_drew ?_ | refine blk_alloc ?_ _); exact ay.out))⟩; replace HB : Aside0 (Below w.heap.size w bt) := ⟨(by rw [hw]; exact (tune_Share.below_upd HB.out ba.out HB.out.size _))⟩; clear hw; have eG := aq.out; have eH := ap.out; have eI := au.out; have eJ := ar.out; have hv := kz1 ak; have cR : 0 ≤ (af : Int) := od; have cS : (af : Int) < ((ai.length : Int) : Int) := od; obtain ⟨bO, cA, cB, cC, gl119, cl119, HG119⟩ := Kd.R_form ab.out (by omega); (first | cases cB | (injection cB with ea_ en_ ec_; (first | subst ea_ | (injection ea_ with ea_; subst ea_)); subst ec_; clear en_)); have dp := Aside0.mk cC; have gG := Aside0.mk HG119; clear cC gl119 HG119; obtain ⟨dz, dA⟩ := Kd.R_celln 0 ab.out (af : Int) cR cS; replace cR := eq_true cR; replace cS := eq_true cS; obtain ⟨eK, eL⟩ := Kd.R_celln 0 ab.out (af : Int) od od; have cb := Kd.R_putg ab.out (af : Int) af) | ((with_reducible refine gate_store (t := 3) (p := 92) rfl ?_); refine store_event (t := 3) (p := 92) (v := ?vo_w139) (w1 := (bt.setCell ⟨bO, (af : Int).toNat, none⟩ (.int .i64 af))) ?hg ?ho ?hn ?hr ?_; (case ho => rfl); (case hg => rfl); (case hn => rfl); (case hr => first | (go_simp; done) | (go_simp; rfl)); intro cT hw; have hg : bt.grownBy cT (some bO) := (by rw [hw]; exact cb.2); have hp_ : Kd.R (Kd.int .i64) 3 cT w.heap.size (fun _ => True) (.slice (some ⟨bO, 0, none⟩) ai.length cA) cQ := (by rw [hw, dn.out]; exact cb.1); clear cb; replace aa := kXR aa ab hg; replace ae := kXR ae ab hg; replace al := Aside0.mk (blk_grown (g := ao) (o := (tune_Share.obj bT)) (kb al) hg (tune_Share.R_neM ab.out al.out)); replace ak := kXR ak ab hg; replace ay := kXR ay ab hg; replace ab := Aside0.mk (hp_); replace HB := Aside0.mk ((by rw [hw]; exact below_set (HB.out) dp.out : Below w.heap.size w cT)); clear hg hw hp_));go_roundg cg
       case measure => have := HK1.out; have := bj.out; have := bq.out; have := bS.out; have := cf.out; omega
       case rel => exact ⟨(wrap64 (af + 1)), (bT), (cQ), (.slice (some ⟨bO, 0, none⟩) ai.length cA), et, H', ⟨by have := HK1.out; have := bj.out; have := bq.out; have := bS.out; have := cf.out; omega⟩, ⟨krR ab⟩, ⟨kg aa⟩, ⟨kg ae⟩, ⟨kg al⟩, ⟨kg ak⟩, ⟨kh HB⟩⟩
end Go.Proofs.Ytmlbliggbkfjnaa.J
