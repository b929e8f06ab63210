/- Part 2 of the proof of TuneFolds: what the functions compute as plain Lean functions, that the machine comes to just these answers, and that the answer is true; no conditions. -/
import Derived.Test.YtmlbliggbkfjnaaTuneFoldsZ0
import Derived.Test.YtmlbliggbkfjnaaTuneFoldsZ1
set_option linter.unusedSimpArgs false
set_option linter.unusedVariables false
set_option maxHeartbeats 8000000
set_option maxRecDepth 100000
namespace Go.Proofs.Ytmlbliggbkfjnaa.J
open Go.RowKit Go.Proofs.YtmlbliggbkfjnaaW.PrintWords Go.Proofs.YtmlbliggbkfjnaaW.PrintLast Go.Proofs.YtmlbliggbkfjnaaW.PrintMore
attribute [local go_sem] max2_int min2_int max_two min_two max_three min_three max_four min_four
mutual
def tune_folded.j0 : Nat → Int → List (S61) → Bool → Int → Int → Int → Int → Option (Int × Int × Int × Int × Bool)
 | 0, _, _, _, _, _, _, _ => none
 | k + 1, x0, x1, x20, ad, aa, ab, ae => if x20 = true then (some (ad, aa, ab, ae, false)) else (if 0 ≤ aa then (if aa < (x1.length : Int) then (if 0 ≤ ab then (if ab < (x1.length : Int) then (if ad = 6 then (tune_folded.j1 k x0 (ad != 6) false ad aa ab ae ((rd_T61 x1 aa).f0) ((rd_T61 x1 aa).f1) ((rd_T61 x1 aa).f2) ((rd_T61 x1 aa).f3) ((rd_T61 x1 ab).f0) ((rd_T61 x1 ab).f1) ((rd_T61 x1 ab).f2) ((rd_T61 x1 ab).f3)) else (if ((rd_T61 x1 aa).f0) = 2 then (tune_folded.j1 k x0 (ad != 6) (((rd_T61 x1 ab).f0) == 2) ad aa ab ae ((rd_T61 x1 aa).f0) ((rd_T61 x1 aa).f1) ((rd_T61 x1 aa).f2) ((rd_T61 x1 aa).f3) ((rd_T61 x1 ab).f0) ((rd_T61 x1 ab).f1) ((rd_T61 x1 ab).f2) ((rd_T61 x1 ab).f3)) else (tune_folded.j1 k x0 (ad != 6) false ad aa ab ae ((rd_T61 x1 aa).f0) ((rd_T61 x1 aa).f1) ((rd_T61 x1 aa).f2) ((rd_T61 x1 aa).f3) ((rd_T61 x1 ab).f0) ((rd_T61 x1 ab).f1) ((rd_T61 x1 ab).f2) ((rd_T61 x1 ab).f3)))) else (none)) else (none)) else (none)) else (none))
def tune_folded.j1 : Nat → Int → Bool → Bool → Int → Int → Int → Int → Int → Int → Int → Int → Int → Int → Int → Int → Option (Int × Int × Int × Int × Bool)
 | 0, _, _, _, _, _, _, _, _, _, _, _, _, _, _, _ => none
 | k + 1, x0, x12, x35, ad, aa, ab, ae, ag, ah, ai, af, ak, al, an, aj => if x35 = true then ((circ_Of.f x0 ad 0 1 0 ([] : List Int) (([af, aj] : List Int))).bind fun ax => ((tune_folded_1.f ax).bind fun ao => (some (ao.1, ao.2.1, ao.2.2.1, ao.2.2.2.1, ao.2.2.2.2)))) else (if x12 = true then (tune_folded.j2 k x0 x12 false ad aa ab ae ag ah ai af ak al an aj) else (tune_folded.j2 k x0 x12 (ag == 2) ad aa ab ae ag ah ai af ak al an aj))
def tune_folded.j2 : Nat → Int → Bool → Bool → Int → Int → Int → Int → Int → Int → Int → Int → Int → Int → Int → Int → Option (Int × Int × Int × Int × Bool)
 | 0, _, _, _, _, _, _, _, _, _, _, _, _, _, _, _ => none
 | k + 1, x0, x12, x61, ad, aa, ab, ae, ag, ah, ai, af, ak, al, an, aj => if x61 = true then ((qta.f x0 af ae).bind fun ay => ((tune_folded_1.f ay).bind fun ap => (some (ap.1, ap.2.1, ap.2.2.1, ap.2.2.2.1, ap.2.2.2.2)))) else (if ad = 5 then (tune_folded.j3 k x0 x12 (ag == 2) ad aa ab ae ag ah ai af ak al an aj) else (tune_folded.j3 k x0 x12 false ad aa ab ae ag ah ai af ak al an aj))
def tune_folded.j3 : Nat → Int → Bool → Bool → Int → Int → Int → Int → Int → Int → Int → Int → Int → Int → Int → Int → Option (Int × Int × Int × Int × Bool)
 | 0, _, _, _, _, _, _, _, _, _, _, _, _, _, _, _ => none
 | k + 1, x0, x12, x79, ad, aa, ab, ae, ag, ah, ai, af, ak, al, an, aj => if x79 = true then ((tune_folded_2.f ab af).bind fun aq => (some (aq.1, aq.2.1, aq.2.2.1, aq.2.2.2.1, aq.2.2.2.2))) else (if ad = 5 then (tune_folded.j4 k x0 x12 (ak == 2) ad aa ab ae ag ah ai af ak al an aj) else (tune_folded.j4 k x0 x12 false ad aa ab ae ag ah ai af ak al an aj))
def tune_folded.j4 : Nat → Int → Bool → Bool → Int → Int → Int → Int → Int → Int → Int → Int → Int → Int → Int → Int → Option (Int × Int × Int × Int × Bool)
 | 0, _, _, _, _, _, _, _, _, _, _, _, _, _, _, _ => none
 | k + 1, x0, x12, x96, ad, aa, ab, ae, ag, ah, ai, af, ak, al, an, aj => if x96 = true then ((tune_folded_2.f aa aj).bind fun ar => (some (ar.1, ar.2.1, ar.2.2.1, ar.2.2.2.1, ar.2.2.2.2))) else (if x12 = true then (tune_folded.j5 k x0 x12 false ad aa ab ae ag ah ai af) else (tune_folded.j5 k x0 x12 (ae == 0) ad aa ab ae ag ah ai af))
def tune_folded.j5 : Nat → Int → Bool → Bool → Int → Int → Int → Int → Int → Int → Int → Int → Option (Int × Int × Int × Int × Bool)
 | 0, _, _, _, _, _, _, _, _, _, _, _ => none
 | k + 1, x0, x12, az, ad, aa, ab, ae, ag, ah, ai, af => if az = true then ((tune_folded_1.f 0).bind fun au => (some (au.1, au.2.1, au.2.2.1, au.2.2.2.1, au.2.2.2.2))) else (if x12 = true then (tune_folded.j6 k x0 false ad aa ab ae ag ah ai af) else (tune_folded.j6 k x0 (ag == 6) ad aa ab ae ag ah ai af))
def tune_folded.j6 : Nat → Int → Bool → Int → Int → Int → Int → Int → Int → Int → Int → Option (Int × Int × Int × Int × Bool)
 | 0, _, _, _, _, _, _, _, _, _, _ => none
 | k + 1, x0, aA, ad, aa, ab, ae, ag, ah, ai, af => if aA = true then ((qta.f x0 af ae).bind fun aB => ((tune_folded_2.f ah aB).bind fun av => (some (av.1, av.2.1, av.2.2.1, av.2.2.2.1, av.2.2.2.2)))) else (if ad = 4 then (if aa = ab then ((tune_folded_1.f 0).bind fun aw => (some (aw.1, aw.2.1, aw.2.2.1, aw.2.2.2.1, aw.2.2.2.2))) else (some (ad, aa, ab, ae, false))) else (some (ad, aa, ab, ae, false)))
end
def tune_folded.f (k : Nat) (a0 : Int) (l1 : List (S61)) (aa : Int) (ab : Int) (ad : Int) (ae : Int) : Option (Int × Int × Int × Int × Bool) := if aa = 1 then (tune_folded.j0 k a0 l1 true aa ab ad ae) else (tune_folded.j0 k a0 l1 (aa == 2) aa ab ad ae)
theorem tune_folded.mono_l : ∀ k, (∀ y0 y1 y2 y3 y4 y5 y6, LeO (tune_folded.j0 k y0 y1 y2 y3 y4 y5 y6) (tune_folded.j0 (k + 1) y0 y1 y2 y3 y4 y5 y6)) ∧ (∀ y0 y1 y2 y3 y4 y5 y6 y7 y8 y9 y10 y11 y12 y13 y14, LeO (tune_folded.j1 k y0 y1 y2 y3 y4 y5 y6 y7 y8 y9 y10 y11 y12 y13 y14) (tune_folded.j1 (k + 1) y0 y1 y2 y3 y4 y5 y6 y7 y8 y9 y10 y11 y12 y13 y14)) ∧ (∀ y0 y1 y2 y3 y4 y5 y6 y7 y8 y9 y10 y11 y12 y13 y14, LeO (tune_folded.j2 k y0 y1 y2 y3 y4 y5 y6 y7 y8 y9 y10 y11 y12 y13 y14) (tune_folded.j2 (k + 1) y0 y1 y2 y3 y4 y5 y6 y7 y8 y9 y10 y11 y12 y13 y14)) ∧ (∀ y0 y1 y2 y3 y4 y5 y6 y7 y8 y9 y10 y11 y12 y13 y14, LeO (tune_folded.j3 k y0 y1 y2 y3 y4 y5 y6 y7 y8 y9 y10 y11 y12 y13 y14) (tune_folded.j3 (k + 1) y0 y1 y2 y3 y4 y5 y6 y7 y8 y9 y10 y11 y12 y13 y14)) ∧ (∀ y0 y1 y2 y3 y4 y5 y6 y7 y8 y9 y10 y11 y12 y13 y14, LeO (tune_folded.j4 k y0 y1 y2 y3 y4 y5 y6 y7 y8 y9 y10 y11 y12 y13 y14) (tune_folded.j4 (k + 1) y0 y1 y2 y3 y4 y5 y6 y7 y8 y9 y10 y11 y12 y13 y14)) ∧ (∀ y0 y1 y2 y3 y4 y5 y6 y7 y8 y9 y10, LeO (tune_folded.j5 k y0 y1 y2 y3 y4 y5 y6 y7 y8 y9 y10) (tune_folded.j5 (k + 1) y0 y1 y2 y3 y4 y5 y6 y7 y8 y9 y10)) ∧ (∀ y0 y1 y2 y3 y4 y5 y6 y7 y8 y9, LeO (tune_folded.j6 k y0 y1 y2 y3 y4 y5 y6 y7 y8 y9) (tune_folded.j6 (k + 1) y0 y1 y2 y3 y4 y5 y6 y7 y8 y9))
 | 0 => ⟨fun _ _ _ _ _ _ _ r h => by simp [tune_folded.j0] at h, fun _ _ _ _ _ _ _ _ _ _ _ _ _ _ _ r h => by simp [tune_folded.j1] at h, fun _ _ _ _ _ _ _ _ _ _ _ _ _ _ _ r h => by simp [tune_folded.j2] at h, fun _ _ _ _ _ _ _ _ _ _ _ _ _ _ _ r h => by simp [tune_folded.j3] at h, fun _ _ _ _ _ _ _ _ _ _ _ _ _ _ _ r h => by simp [tune_folded.j4] at h, fun _ _ _ _ _ _ _ _ _ _ _ r h => by simp [tune_folded.j5] at h, fun _ _ _ _ _ _ _ _ _ _ r h => by simp [tune_folded.j6] at h⟩
 | k + 1 => by
  obtain ⟨ih0, ih1, ih2, ih3, ih4, ih5, ih6⟩ := tune_folded.mono_l k;refine ⟨?_, ?_, ?_, ?_, ?_, ?_, ?_⟩
  ·intro y0 y1 y2 y3 y4 y5 y6
   unfold tune_folded.j0
   repeat' first
   | (with_reducible exact ih0 _ _ _ _ _ _ _)
   | (with_reducible exact ih1 _ _ _ _ _ _ _ _ _ _ _ _ _ _ _)
   | (with_reducible exact ih2 _ _ _ _ _ _ _ _ _ _ _ _ _ _ _)
   | (with_reducible exact ih3 _ _ _ _ _ _ _ _ _ _ _ _ _ _ _)
   | (with_reducible exact ih4 _ _ _ _ _ _ _ _ _ _ _ _ _ _ _)
   | (with_reducible exact ih5 _ _ _ _ _ _ _ _ _ _ _)
   | (with_reducible exact ih6 _ _ _ _ _ _ _ _ _ _)
   | (with_reducible exact LeO.refl _)
   | (with_reducible exact LeO.none _)
   | (with_reducible refine LeO.ite ?_ ?_)
   | (with_reducible refine LeO.bind ?_ (fun _ => ?_))
   | exact ih0 _ _ _ _ _ _ _
   | exact ih1 _ _ _ _ _ _ _ _ _ _ _ _ _ _ _
   | exact ih2 _ _ _ _ _ _ _ _ _ _ _ _ _ _ _
   | exact ih3 _ _ _ _ _ _ _ _ _ _ _ _ _ _ _
   | exact ih4 _ _ _ _ _ _ _ _ _ _ _ _ _ _ _
   | exact ih5 _ _ _ _ _ _ _ _ _ _ _
   | exact ih6 _ _ _ _ _ _ _ _ _ _
   | exact LeO.none _
   | refine LeO.ite ?_ ?_
   | refine LeO.bind ?_ (fun _ => ?_)
  ·intro y0 y1 y2 y3 y4 y5 y6 y7 y8 y9 y10 y11 y12 y13 y14
   unfold tune_folded.j1
   repeat' first
   | (with_reducible exact ih0 _ _ _ _ _ _ _)
   | (with_reducible exact ih1 _ _ _ _ _ _ _ _ _ _ _ _ _ _ _)
   | (with_reducible exact ih2 _ _ _ _ _ _ _ _ _ _ _ _ _ _ _)
   | (with_reducible exact ih3 _ _ _ _ _ _ _ _ _ _ _ _ _ _ _)
   | (with_reducible exact ih4 _ _ _ _ _ _ _ _ _ _ _ _ _ _ _)
   | (with_reducible exact ih5 _ _ _ _ _ _ _ _ _ _ _)
   | (with_reducible exact ih6 _ _ _ _ _ _ _ _ _ _)
   | (with_reducible exact LeO.refl _)
   | (with_reducible exact LeO.none _)
   | (with_reducible refine LeO.ite ?_ ?_)
   | (with_reducible refine LeO.bind ?_ (fun _ => ?_))
   | exact ih0 _ _ _ _ _ _ _
   | exact ih1 _ _ _ _ _ _ _ _ _ _ _ _ _ _ _
   | exact ih2 _ _ _ _ _ _ _ _ _ _ _ _ _ _ _
   | exact ih3 _ _ _ _ _ _ _ _ _ _ _ _ _ _ _
   | exact ih4 _ _ _ _ _ _ _ _ _ _ _ _ _ _ _
   | exact ih5 _ _ _ _ _ _ _ _ _ _ _
   | exact ih6 _ _ _ _ _ _ _ _ _ _
   | exact LeO.none _
   | refine LeO.ite ?_ ?_
   | refine LeO.bind ?_ (fun _ => ?_)
  ·intro y0 y1 y2 y3 y4 y5 y6 y7 y8 y9 y10 y11 y12 y13 y14
   unfold tune_folded.j2
   repeat' first
   | (with_reducible exact ih0 _ _ _ _ _ _ _)
   | (with_reducible exact ih1 _ _ _ _ _ _ _ _ _ _ _ _ _ _ _)
   | (with_reducible exact ih2 _ _ _ _ _ _ _ _ _ _ _ _ _ _ _)
   | (with_reducible exact ih3 _ _ _ _ _ _ _ _ _ _ _ _ _ _ _)
   | (with_reducible exact ih4 _ _ _ _ _ _ _ _ _ _ _ _ _ _ _)
   | (with_reducible exact ih5 _ _ _ _ _ _ _ _ _ _ _)
   | (with_reducible exact ih6 _ _ _ _ _ _ _ _ _ _)
   | (with_reducible exact LeO.refl _)
   | (with_reducible exact LeO.none _)
   | (with_reducible refine LeO.ite ?_ ?_)
   | (with_reducible refine LeO.bind ?_ (fun _ => ?_))
   | exact ih0 _ _ _ _ _ _ _
   | exact ih1 _ _ _ _ _ _ _ _ _ _ _ _ _ _ _
   | exact ih2 _ _ _ _ _ _ _ _ _ _ _ _ _ _ _
   | exact ih3 _ _ _ _ _ _ _ _ _ _ _ _ _ _ _
   | exact ih4 _ _ _ _ _ _ _ _ _ _ _ _ _ _ _
   | exact ih5 _ _ _ _ _ _ _ _ _ _ _
   | exact ih6 _ _ _ _ _ _ _ _ _ _
   | exact LeO.none _
   | refine LeO.ite ?_ ?_
   | refine LeO.bind ?_ (fun _ => ?_)
  ·intro y0 y1 y2 y3 y4 y5 y6 y7 y8 y9 y10 y11 y12 y13 y14
   unfold tune_folded.j3
   repeat' first
   | (with_reducible exact ih0 _ _ _ _ _ _ _)
   | (with_reducible exact ih1 _ _ _ _ _ _ _ _ _ _ _ _ _ _ _)
   | (with_reducible exact ih2 _ _ _ _ _ _ _ _ _ _ _ _ _ _ _)
   | (with_reducible exact ih3 _ _ _ _ _ _ _ _ _ _ _ _ _ _ _)
   | (with_reducible exact ih4 _ _ _ _ _ _ _ _ _ _ _ _ _ _ _)
   | (with_reducible exact ih5 _ _ _ _ _ _ _ _ _ _ _)
   | (with_reducible exact ih6 _ _ _ _ _ _ _ _ _ _)
   | (with_reducible exact LeO.refl _)
   | (with_reducible exact LeO.none _)
   | (with_reducible refine LeO.ite ?_ ?_)
   | (with_reducible refine LeO.bind ?_ (fun _ => ?_))
   | exact ih0 _ _ _ _ _ _ _
   | exact ih1 _ _ _ _ _ _ _ _ _ _ _ _ _ _ _
   | exact ih2 _ _ _ _ _ _ _ _ _ _ _ _ _ _ _
   | exact ih3 _ _ _ _ _ _ _ _ _ _ _ _ _ _ _
   | exact ih4 _ _ _ _ _ _ _ _ _ _ _ _ _ _ _
   | exact ih5 _ _ _ _ _ _ _ _ _ _ _
   | exact ih6 _ _ _ _ _ _ _ _ _ _
   | exact LeO.none _
   | refine LeO.ite ?_ ?_
   | refine LeO.bind ?_ (fun _ => ?_)
  ·intro y0 y1 y2 y3 y4 y5 y6 y7 y8 y9 y10 y11 y12 y13 y14
   unfold tune_folded.j4
   repeat' first
   | (with_reducible exact ih0 _ _ _ _ _ _ _)
   | (with_reducible exact ih1 _ _ _ _ _ _ _ _ _ _ _ _ _ _ _)
   | (with_reducible exact ih2 _ _ _ _ _ _ _ _ _ _ _ _ _ _ _)
   | (with_reducible exact ih3 _ _ _ _ _ _ _ _ _ _ _ _ _ _ _)
   | (with_reducible exact ih4 _ _ _ _ _ _ _ _ _ _ _ _ _ _ _)
   | (with_reducible exact ih5 _ _ _ _ _ _ _ _ _ _ _)
   | (with_reducible exact ih6 _ _ _ _ _ _ _ _ _ _)
   | (with_reducible exact LeO.refl _)
   | (with_reducible exact LeO.none _)
   | (with_reducible refine LeO.ite ?_ ?_)
   | (with_reducible refine LeO.bind ?_ (fun _ => ?_))
   | exact ih0 _ _ _ _ _ _ _
   | exact ih1 _ _ _ _ _ _ _ _ _ _ _ _ _ _ _
   | exact ih2 _ _ _ _ _ _ _ _ _ _ _ _ _ _ _
   | exact ih3 _ _ _ _ _ _ _ _ _ _ _ _ _ _ _
   | exact ih4 _ _ _ _ _ _ _ _ _ _ _ _ _ _ _
   | exact ih5 _ _ _ _ _ _ _ _ _ _ _
   | exact ih6 _ _ _ _ _ _ _ _ _ _
   | exact LeO.none _
   | refine LeO.ite ?_ ?_
   | refine LeO.bind ?_ (fun _ => ?_)
  ·intro y0 y1 y2 y3 y4 y5 y6 y7 y8 y9 y10
   unfold tune_folded.j5
   repeat' first
   | (with_reducible exact ih0 _ _ _ _ _ _ _)
   | (with_reducible exact ih1 _ _ _ _ _ _ _ _ _ _ _ _ _ _ _)
   | (with_reducible exact ih2 _ _ _ _ _ _ _ _ _ _ _ _ _ _ _)
   | (with_reducible exact ih3 _ _ _ _ _ _ _ _ _ _ _ _ _ _ _)
   | (with_reducible exact ih4 _ _ _ _ _ _ _ _ _ _ _ _ _ _ _)
   | (with_reducible exact ih5 _ _ _ _ _ _ _ _ _ _ _)
   | (with_reducible exact ih6 _ _ _ _ _ _ _ _ _ _)
   | (with_reducible exact LeO.refl _)
   | (with_reducible exact LeO.none _)
   | (with_reducible refine LeO.ite ?_ ?_)
   | (with_reducible refine LeO.bind ?_ (fun _ => ?_))
   | exact ih0 _ _ _ _ _ _ _
   | exact ih1 _ _ _ _ _ _ _ _ _ _ _ _ _ _ _
   | exact ih2 _ _ _ _ _ _ _ _ _ _ _ _ _ _ _
   | exact ih3 _ _ _ _ _ _ _ _ _ _ _ _ _ _ _
   | exact ih4 _ _ _ _ _ _ _ _ _ _ _ _ _ _ _
   | exact ih5 _ _ _ _ _ _ _ _ _ _ _
   | exact ih6 _ _ _ _ _ _ _ _ _ _
   | exact LeO.none _
   | refine LeO.ite ?_ ?_
   | refine LeO.bind ?_ (fun _ => ?_)
  ·intro y0 y1 y2 y3 y4 y5 y6 y7 y8 y9
   unfold tune_folded.j6
   repeat' first
   | (with_reducible exact ih0 _ _ _ _ _ _ _)
   | (with_reducible exact ih1 _ _ _ _ _ _ _ _ _ _ _ _ _ _ _)
   | (with_reducible exact ih2 _ _ _ _ _ _ _ _ _ _ _ _ _ _ _)
   | (with_reducible exact ih3 _ _ _ _ _ _ _ _ _ _ _ _ _ _ _)
   | (with_reducible exact ih4 _ _ _ _ _ _ _ _ _ _ _ _ _ _ _)
   | (with_reducible exact ih5 _ _ _ _ _ _ _ _ _ _ _)
   | (with_reducible exact ih6 _ _ _ _ _ _ _ _ _ _)
   | (with_reducible exact LeO.refl _)
   | (with_reducible exact LeO.none _)
   | (with_reducible refine LeO.ite ?_ ?_)
   | (with_reducible refine LeO.bind ?_ (fun _ => ?_))
   | exact ih0 _ _ _ _ _ _ _
   | exact ih1 _ _ _ _ _ _ _ _ _ _ _ _ _ _ _
   | exact ih2 _ _ _ _ _ _ _ _ _ _ _ _ _ _ _
   | exact ih3 _ _ _ _ _ _ _ _ _ _ _ _ _ _ _
   | exact ih4 _ _ _ _ _ _ _ _ _ _ _ _ _ _ _
   | exact ih5 _ _ _ _ _ _ _ _ _ _ _
   | exact ih6 _ _ _ _ _ _ _ _ _ _
   | exact LeO.none _
   | refine LeO.ite ?_ ?_
   | refine LeO.bind ?_ (fun _ => ?_)
theorem tune_folded.mono : ∀ a0 a1 a2 a3 a4 a5 k, LeO (tune_folded.f k a0 a1 a2 a3 a4 a5) (tune_folded.f (k + 1) a0 a1 a2 a3 a4 a5) := by
 intro a0 a1 a2 a3 a4 a5 k;obtain ⟨ih0, ih1, ih2, ih3, ih4, ih5, ih6⟩ := tune_folded.mono_l k;unfold tune_folded.f
 repeat' first
   | (with_reducible exact ih0 _ _ _ _ _ _ _)
   | (with_reducible exact ih1 _ _ _ _ _ _ _ _ _ _ _ _ _ _ _)
   | (with_reducible exact ih2 _ _ _ _ _ _ _ _ _ _ _ _ _ _ _)
   | (with_reducible exact ih3 _ _ _ _ _ _ _ _ _ _ _ _ _ _ _)
   | (with_reducible exact ih4 _ _ _ _ _ _ _ _ _ _ _ _ _ _ _)
   | (with_reducible exact ih5 _ _ _ _ _ _ _ _ _ _ _)
   | (with_reducible exact ih6 _ _ _ _ _ _ _ _ _ _)
   | (with_reducible exact LeO.refl _)
   | (with_reducible exact LeO.none _)
   | (with_reducible refine LeO.ite ?_ ?_)
   | (with_reducible refine LeO.bind ?_ (fun _ => ?_))
   | exact ih0 _ _ _ _ _ _ _
   | exact ih1 _ _ _ _ _ _ _ _ _ _ _ _ _ _ _
   | exact ih2 _ _ _ _ _ _ _ _ _ _ _ _ _ _ _
   | exact ih3 _ _ _ _ _ _ _ _ _ _ _ _ _ _ _
   | exact ih4 _ _ _ _ _ _ _ _ _ _ _ _ _ _ _
   | exact ih5 _ _ _ _ _ _ _ _ _ _ _
   | exact ih6 _ _ _ _ _ _ _ _ _ _
   | exact LeO.none _
   | refine LeO.ite ?_ ?_
   | refine LeO.bind ?_ (fun _ => ?_)
def tune_folded.T5 : Bool × List (List Nat × List Nat) := (true, [([], []), ([], []), ([1], [1]), ([0, 2], [0, 2]), ([3], [3]), ([], []), ([], []), ([6], [6]), ([5, 7], [5, 7]), ([8], [8]), ([], []), ([], []), ([10, 4, 0, 1, 2, 3, 4, 10, 11], [4, 10]), ([11, 9, 12, 0, 1, 2, 3, 4, 5, 6, 7, 8, 9, 10, 11, 12], [9, 11])])
def tune_folded.B5 : List Nat := [0, 0, 2, 7, 15, 0, 0, 64, 224, 480, 0, 0, 3103, 8191]
theorem tune_folded.tab5 : rtab .any (opsOf Try.f39 5) = tune_folded.T5 := by kernel_rfl
theorem tune_folded.bits5 : waitsOk tune_folded.T5.2 tune_folded.B5 = true := by kernel_rfl
def tune_folded.T18 : Bool × List (List Nat × List Nat) := (true, [([], []), ([], []), ([1], [1]), ([], []), ([], []), ([4], [4]), ([], []), ([6], [6]), ([3, 5, 7], [3, 5, 7]), ([0, 2, 8, 8], [0, 2, 8]), ([9], [9]), ([9], [9]), ([10, 9, 0, 1, 2, 3, 4, 5, 6, 7, 8, 9, 10, 11], [10]), ([11, 12, 0, 1, 2, 3, 4, 5, 6, 7, 8, 9, 10, 11, 12], [11])])
def tune_folded.B18 : List Nat := [0, 0, 2, 0, 0, 16, 0, 64, 248, 511, 1023, 1023, 4095, 8191]
theorem tune_folded.tab18 : rtab .any (opsOf Try.f39 18) = tune_folded.T18 := by kernel_rfl
theorem tune_folded.bits18 : waitsOk tune_folded.T18.2 tune_folded.B18 = true := by kernel_rfl
theorem tune_folded.calls (k : Nat) (a0 : Int) (A1 : Option Addr) (c1 : Nat) (l1 : List (S61)) (av : Int) (ab : Int) (ad : Int) (aC : Int) (r1 : Int) (r2 : Int) (r3 : Int) (r4 : Int) (r5 : Bool) (w : World) (hr1 : Kd.C k61 w A1 l1.length l1) (hc1 : l1.length ≤ c1) (h : tune_folded.f k a0 l1 av ab ad aC = some (r1, r2, r3, r4, r5)) :
  Calls Try.prog 39 #[.int .u64 a0, .slice A1 l1.length c1, .agg #[.int .i64 av, .int .i64 ab, .int .i64 ad, .int .u64 aC]] w fun e w' => e = .returned (.tuple #[.agg #[.int .i64 r1, .int .i64 r2, .int .i64 r3, .int .u64 r4], .bool r5]) ∧ Below w.heap.size w w' := by
 have hu61 := Try.underlying61;have HR1 := Aside0.mk hr1;have HC1 := Aside0.mk hc1;clear hr1 hc1;have HB := Aside0.mk (Below.refl w.heap.size w);have H : (if av = 1 then (tune_folded.j0 k a0 l1 true av ab ad aC) else (tune_folded.j0 k a0 l1 (av == 2) av ab ad aC)) = some (r1, r2, r3, r4, r5) := h;clear h;have HC4 := Aside0.mk H;clear H;go_enter Try.func39, Try.ntmps39;go_upto_region 3 with (first | ((with_reducible refine gate_dst (N := 5) rfl ?_); refine box_event ?hg (N := 5) ?hd (cs := #[.int .i64 av, .int .i64 ab, .int .i64 ad, .int .u64 aC]) (t := 61) ?hr ?_; (case hd => rfl); (case hg => rfl); (case hr => first | (go_simp; done) | (go_simp; rfl)); intro aA hg w5 hbox hb; have aa := am hbox; have gX := kG HB hg; have gY := kG HB hg; replace HB := kH HB hb; clear hb hbox hg) | ((with_reducible refine gate_dst (N := 6) rfl ?_); refine box_event ?hg (N := 6) ?hd (cs := #[.int .i64 0, .int .i64 0, .int .i64 0, .int .u64 0]) (t := 61) ?hr ?_; (case hd => rfl); (case hg => rfl); (case hr => first | (go_simp; done) | (go_simp; rfl)); intro aB hg w6 hbox hb; have ae := am hbox; have gZ := kG HB hg; have ha := kG HB hg; replace HB := kH HB hb; have aw := kP aa hg; have ax := kQ aa hg; replace aa := kU aa hb; clear hb hbox hg));(try simp only [Act.put, qS1, qS2, qS3]);go_cut [20] (fun v20 wc => ∃ (kq : Nat) (bp : Bool), v20 = .bool bp ∧ Aside0 (tune_folded.j0 kq a0 l1 bp av ab ad aC = some (r1, r2, r3, r4, r5)) ∧ Aside0 (kq ≤ k) ∧ Aside0 (wc.heap[aA]? = some (.cells #[.int .i64 av, .int .i64 ab, .int .i64 ad, .int .u64 aC] 61 (0, 0))) ∧ Aside0 (wc.heap[aB]? = some (.cells #[.int .i64 0, .int .i64 0, .int .i64 0, .int .u64 0] 61 (0, 0))) ∧ Aside0 (Below w.heap.size w wc))
 case first =>
  have H := HC4.out;clear HC4
  by_cases c7 : av = 1
  rotate_left
  ·rw [if_neg c7] at H
   have bx := beq_eq_false_iff_ne.mpr c7;have eB := bne_iff_ne.mpr c7;(first | rw [bx] | (simp only [i64_w, i32_w]; rw [bx]) | skip);have H' := Aside0.mk H;clear H;have hc := aw.out;have he := ax.out;have Z11 := kz4 aa;go_wp2;go_meet
   case rel => exact ⟨_, ((av == 2)), et, H', ⟨by first | omega | exact Nat.le_refl _⟩, ⟨kg aa⟩, ⟨kg ae⟩, ⟨kh HB⟩⟩
  rw [if_pos c7] at H;have bx := beq_iff_eq.mpr c7;have eB := bne_eq_false_iff_eq.mpr c7;clear c7;(first | rw [bx] | (simp only [i64_w, i32_w]; rw [bx]) | skip);have H' := Aside0.mk H;clear H;have iZ := aw.out;have ja := ax.out;have Z9 := kz4 aa;go_wp2;go_meet
  case rel => exact ⟨_, (true), et, H', ⟨by first | omega | exact Nat.le_refl _⟩, ⟨kg aa⟩, ⟨kg ae⟩, ⟨kh HB⟩⟩
 clear HC4;obtain ⟨kq, bp, rfl, HA, HJ3, aa, ae, HB⟩ := hcut
 cases kq with
 | zero => exact absurd HA.out (by simp [tune_folded.j0])
 | succ kj3 =>
  have H := HA.out;clear HA;simp only [tune_folded.j0] at H
  by_cases c12 : bp = true
  ·subst c12
   replace H := ifT H;simp only [Option.some.injEq, Prod.mk.injEq] at H;obtain ⟨rfl, rfl, rfl, rfl, rfl⟩ := H;have hf := aw.out;have hh := ax.out;have Z14 := kz4 aa;have Z15 := kz4 ae;go_wp2;refine bodyPost_ret (results_ct rfl _ _ aB 61 #[.int .i64 av, .int .i64 ab, .int .i64 ad, .int .u64 aC] (0, 0) _ rfl (kg ae) Try.underlying61 rfl (by kernel_rfl)) rfl ?_;exact ⟨er, kh HB⟩
  replace c12 := Bool.eq_false_iff.mpr c12;subst c12;replace H := ifF H
  by_cases c16 : 0 ≤ ab
  rotate_left
  ·rw [if_neg c16] at H
   exact absurd H (by simp)
  rw [if_pos c16] at H;have cj := decide_eq_true c16;clear c16
  by_cases c17 : ab < (l1.length : Int)
  rotate_left
  ·rw [if_neg c17] at H
   exact absurd H (by simp)
  rw [if_pos c17] at H;have ck := decide_eq_true c17;clear c17
  by_cases c18 : 0 ≤ ad
  rotate_left
  ·rw [if_neg c18] at H
   exact absurd H (by simp)
  rw [if_pos c18] at H;have cl := decide_eq_true c18;clear c18
  by_cases c19 : ad < (l1.length : Int)
  rotate_left
  ·rw [if_neg c19] at H
   exact absurd H (by simp)
  rw [if_pos c19] at H;have cm := decide_eq_true c19;clear c19;have bU := Aside0.mk H;clear H;(try go_wp2);replace aa := kD aa; replace ae := kD ae; replace HB := kE HB;have bG : 0 ≤ (ab : Int) := od;have bH : ab < (l1.length : Int) := od;obtain ⟨az, eC, aD, aE, aF, aG⟩ := at_T61 HR1.out ab bG bH;have aL := aG; have aM := aF; have aN := aE; have aO := aD;cases eC;replace aD := (HB.out.cell (World.block_lt_of_cell? w _ aD)).trans aD;replace aE := (HB.out.cell (World.block_lt_of_cell? w _ aE)).trans aE;replace aF := (HB.out.cell (World.block_lt_of_cell? w _ aF)).trans aF;replace aG := (HB.out.cell (World.block_lt_of_cell? w _ aG)).trans aG;replace bG := eq_true bG; replace bH := eq_true bH;have bI : 0 ≤ (ad : Int) := od;have bJ : ad < (l1.length : Int) := od;obtain ⟨cn, eD, aH, aI, aJ, aK⟩ := at_T61 HR1.out ad bI bJ;have aP := aK; have aQ := aJ; have aR := aI; have aS := aH;obtain rfl : az = cn := (by injection eD);replace aH := (HB.out.cell (World.block_lt_of_cell? w _ aH)).trans aH;replace aI := (HB.out.cell (World.block_lt_of_cell? w _ aI)).trans aI;replace aJ := (HB.out.cell (World.block_lt_of_cell? w _ aJ)).trans aJ;replace aK := (HB.out.cell (World.block_lt_of_cell? w _ aK)).trans aK;replace bI := eq_true bI; replace bJ := eq_true bJ;refine start_ (n := 14) (S := fun w' => w'.cell? ⟨aA, 0, none⟩ = some (.int .i64 av) ∧ w'.cell? ⟨aA, 1, none⟩ = some (.int .i64 ab) ∧ w'.cell? ⟨aA, 2, none⟩ = some (.int .i64 ad) ∧ w'.cell? ⟨aA, 3, none⟩ = some (.int .u64 aC) ∧ w'.cell? (az.add ((ab).toNat * 4)) = some (.int .i64 ((rd_T61 l1 ab).f0)) ∧ w'.cell? ⟨(az.add ((ab).toNat * 4)).block, (az.add ((ab).toNat * 4)).off + 1, none⟩ = some (.int .i64 ((rd_T61 l1 ab).f1)) ∧ w'.cell? ⟨(az.add ((ab).toNat * 4)).block, (az.add ((ab).toNat * 4)).off + 2, none⟩ = some (.int .i64 ((rd_T61 l1 ab).f2)) ∧ w'.cell? ⟨(az.add ((ab).toNat * 4)).block, (az.add ((ab).toNat * 4)).off + 3, none⟩ = some (.int .u64 ((rd_T61 l1 ab).f3)) ∧ w'.cell? (az.add ((ad).toNat * 4)) = some (.int .i64 ((rd_T61 l1 ad).f0)) ∧ w'.cell? ⟨(az.add ((ad).toNat * 4)).block, (az.add ((ad).toNat * 4)).off + 1, none⟩ = some (.int .i64 ((rd_T61 l1 ad).f1)) ∧ w'.cell? ⟨(az.add ((ad).toNat * 4)).block, (az.add ((ad).toNat * 4)).off + 2, none⟩ = some (.int .i64 ((rd_T61 l1 ad).f2)) ∧ w'.cell? ⟨(az.add ((ad).toNat * 4)).block, (az.add ((ad).toNat * 4)).off + 3, none⟩ = some (.int .u64 ((rd_T61 l1 ad).f3))) (ds := []) (bs 14 0) (by kernel_rfl) rfl rfl ⟨kk aa 0, kk aa 1, kk aa 2, kk aa 3, (kq HB aO), (kq HB aN), (kq HB aM), (kq HB aL), (kq HB aS), (kq HB aR), (kq HB aQ), (kq HB aP)⟩ (fun hHeld => ?_); refine with_tabW tune_folded.tab5 tune_folded.bits5 (fun HT_ HW_ => ?_);generalize wc.drew = w21 at aa ae HB aD aE aF aG aH aI aJ aK hHeld ⊢;refine pu 0 (some 22) (bs 14 1) HT_ ?_;refine pu 1 (some 23) (bs 14 3) HT_ ?_;refine pu 5 (some 27) (bs 14 35) HT_ ?_;refine pu 6 (some 28) (bs 14 99) HT_ ?_;refine ta 2 (some 24) (bs 14 103) HT_ HW_ hHeld ?_;refine pu 3 (some 25) (bs 14 111) HT_ ?_;refine ta 4 (some 26) (bs 14 127) HT_ HW_ hHeld ?_;refine ta 7 (some 29) (bs 14 255) HT_ HW_ hHeld ?_;refine pu 8 (some 30) (bs 14 511) HT_ ?_;refine ta 9 (some 31) (bs 14 1023) HT_ HW_ hHeld ?_;refine join_ (σ := Nat × Nat) 2 (bs 14 4095) (fun s_ => [(10, .pointer (some ⟨s_.1, 0, none⟩)), (11, .pointer (some ⟨s_.2, 0, none⟩))]) (fun s_ w' => (w'.cell? ⟨aA, 0, none⟩ = some (.int .i64 av) ∧ w'.cell? ⟨aA, 1, none⟩ = some (.int .i64 ab) ∧ w'.cell? ⟨aA, 2, none⟩ = some (.int .i64 ad) ∧ w'.cell? ⟨aA, 3, none⟩ = some (.int .u64 aC) ∧ w'.cell? (az.add ((ab).toNat * 4)) = some (.int .i64 ((rd_T61 l1 ab).f0)) ∧ w'.cell? ⟨(az.add ((ab).toNat * 4)).block, (az.add ((ab).toNat * 4)).off + 1, none⟩ = some (.int .i64 ((rd_T61 l1 ab).f1)) ∧ w'.cell? ⟨(az.add ((ab).toNat * 4)).block, (az.add ((ab).toNat * 4)).off + 2, none⟩ = some (.int .i64 ((rd_T61 l1 ab).f2)) ∧ w'.cell? ⟨(az.add ((ab).toNat * 4)).block, (az.add ((ab).toNat * 4)).off + 3, none⟩ = some (.int .u64 ((rd_T61 l1 ab).f3)) ∧ w'.cell? (az.add ((ad).toNat * 4)) = some (.int .i64 ((rd_T61 l1 ad).f0)) ∧ w'.cell? ⟨(az.add ((ad).toNat * 4)).block, (az.add ((ad).toNat * 4)).off + 1, none⟩ = some (.int .i64 ((rd_T61 l1 ad).f1)) ∧ w'.cell? ⟨(az.add ((ad).toNat * 4)).block, (az.add ((ad).toNat * 4)).off + 2, none⟩ = some (.int .i64 ((rd_T61 l1 ad).f2)) ∧ w'.cell? ⟨(az.add ((ad).toNat * 4)).block, (az.add ((ad).toNat * 4)).off + 3, none⟩ = some (.int .u64 ((rd_T61 l1 ad).f3))) ∧ (w'.heap[aA]? = some (.cells #[.int .i64 av, .int .i64 ab, .int .i64 ad, .int .u64 aC] 61 (0, 0))) ∧ (w'.heap[aB]? = some (.cells #[.int .i64 0, .int .i64 0, .int .i64 0, .int .u64 0] 61 (0, 0))) ∧ (w'.heap[s_.1]? = some (.cells #[.int .i64 0, .int .i64 0, .int .i64 0, .int .u64 0] 61 (0, 0))) ∧ (w'.heap[s_.2]? = some (.cells #[.int .i64 0, .int .i64 0, .int .i64 0, .int .u64 0] 61 (0, 0))) ∧ (w.heap.size ≤ s_.1) ∧ (w.heap.size ≤ s_.1) ∧ (aA ≠ s_.1) ∧ (s_.1 ≠ aA) ∧ (aB ≠ s_.1) ∧ (s_.1 ≠ aB) ∧ (s_.2 ≠ s_.1) ∧ (s_.1 ≠ s_.2) ∧ (w.heap.size ≤ s_.2) ∧ (w.heap.size ≤ s_.2) ∧ (aA ≠ s_.2) ∧ (s_.2 ≠ aA) ∧ (aB ≠ s_.2) ∧ (s_.2 ≠ aB) ∧ (Below w.heap.size w w')) ?_ ?_
  rotate_left
  ·intro hCont
   refine two_ (i := 10) (j := 11) (Ni := some 10) (Nj := some 11) (bs 14 2047) (bs 14 3071) rfl rfl rfl rfl (two_of HT_.out (by kernel_rfl)) (by decide) (by decide) (fun K hK => ?_) (fun K hK => ?_)
   ·skip
    refine box_step ?hg (N := 10) ?hd (cs := #[.int .i64 0, .int .i64 0, .int .i64 0, .int .u64 0]) (t := 61) ?hr ?_; (case hd => rfl); (case hg => rfl); (case hr => first | (go_simp; done) | (go_simp; rfl));intro al hg w22 hbox hb;have af := am hbox; have bq := kG HB hg; have br := kG HB hg; replace HB := kH HB hb; have ah := kP aa hg; have ai := kQ aa hg; replace aa := kU aa hb; have aj := kP ae hg; have ak := kQ ae hg; replace ae := kU ae hb;clear hb hbox hg;refine hK.out _ _ ⟨kk aa 0, kk aa 1, kk aa 2, kk aa 3, (kq HB aO), (kq HB aN), (kq HB aM), (kq HB aL), (kq HB aS), (kq HB aR), (kq HB aQ), (kq HB aP)⟩ (fun hHeld => ?_);clear hK K;refine no (some 10) ?_;refine one_ (i := 11) (N := some 11) (bs 14 4095) rfl rfl (one_of HT_.out (by kernel_rfl)) (by decide) (fun K hK => ?_);refine box_step ?hg (N := 11) ?hd (cs := #[.int .i64 0, .int .i64 0, .int .i64 0, .int .u64 0]) (t := 61) ?hr ?_; (case hd => rfl); (case hg => rfl); (case hr => first | (go_simp; done) | (go_simp; rfl));intro ay hg w23 hbox hb;have ag := am hbox; have bt := kG HB hg; have bu := kG HB hg; replace HB := kH HB hb; have an := kP aa hg; have ao := kQ aa hg; replace aa := kU aa hb; have ap := kP ae hg; have aq := kQ ae hg; replace ae := kU ae hb; have ar := kP af hg; have au := kQ af hg; replace af := kU af hb;clear hb hbox hg;refine hK.out _ _ ⟨kk aa 0, kk aa 1, kk aa 2, kk aa 3, (kq HB aO), (kq HB aN), (kq HB aM), (kq HB aL), (kq HB aS), (kq HB aR), (kq HB aQ), (kq HB aP)⟩ (fun hHeld => ?_);clear hK K;refine no (some 11) ?_;exact norm_ (by simp only [putAll, Act.put, qS1, qS2, qS3]) (hCont (al, ay) _ ⟨hHeld, (kb aa), (kb ae), (kb af), (kb ag), bq.out, br.out, ah.out, ai.out, aj.out, ak.out, au.out, ar.out, bt.out, bu.out, an.out, ao.out, ap.out, aq.out, (kh HB)⟩)
   ·skip
    refine box_step ?hg (N := 11) ?hd (cs := #[.int .i64 0, .int .i64 0, .int .i64 0, .int .u64 0]) (t := 61) ?hr ?_; (case hd => rfl); (case hg => rfl); (case hr => first | (go_simp; done) | (go_simp; rfl));intro ay hg w22 hbox hb;have ag := am hbox; have bt := kG HB hg; have bu := kG HB hg; replace HB := kH HB hb; have an := kP aa hg; have ao := kQ aa hg; replace aa := kU aa hb; have ap := kP ae hg; have aq := kQ ae hg; replace ae := kU ae hb;clear hb hbox hg;refine hK.out _ _ ⟨kk aa 0, kk aa 1, kk aa 2, kk aa 3, (kq HB aO), (kq HB aN), (kq HB aM), (kq HB aL), (kq HB aS), (kq HB aR), (kq HB aQ), (kq HB aP)⟩ (fun hHeld => ?_);clear hK K;refine no (some 11) ?_;refine one_ (i := 10) (N := some 10) (bs 14 4095) rfl rfl (one_of HT_.out (by kernel_rfl)) (by decide) (fun K hK => ?_);refine box_step ?hg (N := 10) ?hd (cs := #[.int .i64 0, .int .i64 0, .int .i64 0, .int .u64 0]) (t := 61) ?hr ?_; (case hd => rfl); (case hg => rfl); (case hr => first | (go_simp; done) | (go_simp; rfl));intro al hg w23 hbox hb;have af := am hbox; have bq := kG HB hg; have br := kG HB hg; replace HB := kH HB hb; have ah := kP aa hg; have ai := kQ aa hg; replace aa := kU aa hb; have aj := kP ae hg; have ak := kQ ae hg; replace ae := kU ae hb; have au := kP ag hg; have ar := kQ ag hg; replace ag := kU ag hb;clear hb hbox hg;refine hK.out _ _ ⟨kk aa 0, kk aa 1, kk aa 2, kk aa 3, (kq HB aO), (kq HB aN), (kq HB aM), (kq HB aL), (kq HB aS), (kq HB aR), (kq HB aQ), (kq HB aP)⟩ (fun hHeld => ?_);clear hK K;refine no (some 10) ?_;exact norm_ (by simp only [putAll, Act.put, qS1, qS2, qS3]) (hCont (al, ay) _ ⟨hHeld, (kb aa), (kb ae), (kb af), (kb ag), bq.out, br.out, ah.out, ai.out, aj.out, ak.out, au.out, ar.out, bt.out, bu.out, an.out, ao.out, ap.out, aq.out, (kh HB)⟩)
  rintro ⟨al, ay⟩ w24 ⟨hS_, h0_, h1_, h2_, h3_, h4_, h5_, h6_, h7_, h8_, h9_, h10_, h11_, h12_, h13_, h14_, h15_, h16_, h17_, h18_⟩;replace aa : Aside0 (w24.heap[aA]? = some (.cells #[.int .i64 av, .int .i64 ab, .int .i64 ad, .int .u64 aC] 61 (0, 0))) := ⟨h0_⟩; replace ae : Aside0 (w24.heap[aB]? = some (.cells #[.int .i64 0, .int .i64 0, .int .i64 0, .int .u64 0] 61 (0, 0))) := ⟨h1_⟩; have af : Aside0 (w24.heap[al]? = some (.cells #[.int .i64 0, .int .i64 0, .int .i64 0, .int .u64 0] 61 (0, 0))) := ⟨h2_⟩; have ag : Aside0 (w24.heap[ay]? = some (.cells #[.int .i64 0, .int .i64 0, .int .i64 0, .int .u64 0] 61 (0, 0))) := ⟨h3_⟩; have bq : Aside0 (w.heap.size ≤ al) := ⟨h4_⟩; have br : Aside0 (w.heap.size ≤ al) := ⟨h5_⟩; have ah : Aside0 (aA ≠ al) := ⟨h6_⟩; have ai : Aside0 (al ≠ aA) := ⟨h7_⟩; have aj : Aside0 (aB ≠ al) := ⟨h8_⟩; have ak : Aside0 (al ≠ aB) := ⟨h9_⟩; have au : Aside0 (ay ≠ al) := ⟨h10_⟩; have ar : Aside0 (al ≠ ay) := ⟨h11_⟩; have bt : Aside0 (w.heap.size ≤ ay) := ⟨h12_⟩; have bu : Aside0 (w.heap.size ≤ ay) := ⟨h13_⟩; have an : Aside0 (aA ≠ ay) := ⟨h14_⟩; have ao : Aside0 (ay ≠ aA) := ⟨h15_⟩; have ap : Aside0 (aB ≠ ay) := ⟨h16_⟩; have aq : Aside0 (ay ≠ aB) := ⟨h17_⟩; replace HB : Aside0 (Below w.heap.size w w24) := ⟨h18_⟩; clear h0_ h10_ h11_ h12_ h13_ h14_ h15_ h16_ h17_ h18_ h1_ h2_ h3_ h4_ h5_ h6_ h7_ h8_ h9_;have hHeld : w24.cell? ⟨aA, 0, none⟩ = some (.int .i64 av) ∧ w24.cell? ⟨aA, 1, none⟩ = some (.int .i64 ab) ∧ w24.cell? ⟨aA, 2, none⟩ = some (.int .i64 ad) ∧ w24.cell? ⟨aA, 3, none⟩ = some (.int .u64 aC) ∧ w24.cell? (az.add ((ab).toNat * 4)) = some (.int .i64 ((rd_T61 l1 ab).f0)) ∧ w24.cell? ⟨(az.add ((ab).toNat * 4)).block, (az.add ((ab).toNat * 4)).off + 1, none⟩ = some (.int .i64 ((rd_T61 l1 ab).f1)) ∧ w24.cell? ⟨(az.add ((ab).toNat * 4)).block, (az.add ((ab).toNat * 4)).off + 2, none⟩ = some (.int .i64 ((rd_T61 l1 ab).f2)) ∧ w24.cell? ⟨(az.add ((ab).toNat * 4)).block, (az.add ((ab).toNat * 4)).off + 3, none⟩ = some (.int .u64 ((rd_T61 l1 ab).f3)) ∧ w24.cell? (az.add ((ad).toNat * 4)) = some (.int .i64 ((rd_T61 l1 ad).f0)) ∧ w24.cell? ⟨(az.add ((ad).toNat * 4)).block, (az.add ((ad).toNat * 4)).off + 1, none⟩ = some (.int .i64 ((rd_T61 l1 ad).f1)) ∧ w24.cell? ⟨(az.add ((ad).toNat * 4)).block, (az.add ((ad).toNat * 4)).off + 2, none⟩ = some (.int .i64 ((rd_T61 l1 ad).f2)) ∧ w24.cell? ⟨(az.add ((ad).toNat * 4)).block, (az.add ((ad).toNat * 4)).off + 3, none⟩ = some (.int .u64 ((rd_T61 l1 ad).f3)) := hS_;refine norm_ (a' := ?_) ?_ ?_
  rotate_left
  ·simp only [putAll, Act.put, qS1, qS2, qS3]
   rfl
  refine one_ (i := 12) (N := none) (bs 14 8191) rfl rfl (one_of HT_.out (by kernel_rfl)) (by decide) (fun K hK => ?_);have jb : w24.cell? ⟨al, 0, none⟩ = some (.int .i64 0) := kk af 0;have hj := blk_frozen af.out 0;have dD := ah.out;have dE := aj.out;have dF := au.out;have dG := ai.out;have dH := ak.out;have dI := ar.out;have jc : w24.cell? ⟨al, 1, none⟩ = some (.int .i64 0) := kk af 1;have hl := blk_frozen af.out 1;have dJ := ah.out;have dK := aj.out;have dL := au.out;have dM := ai.out;have dN := ak.out;have dO := ar.out;have jd : w24.cell? ⟨al, 2, none⟩ = some (.int .i64 0) := kk af 2;have hm := blk_frozen af.out 2;have dP := ah.out;have dQ := aj.out;have dR := au.out;have dS := ai.out;have dT := ak.out;have dU := ar.out;have je : w24.cell? ⟨al, 3, none⟩ = some (.int .u64 0) := kk af 3;have hq := blk_frozen af.out 3;have dV := ah.out;have dW := aj.out;have dX := au.out;have dY := ai.out;have dZ := ak.out;have ea := ar.out;refine skip_ (w1 := ?_) (by rfl) rfl ?_ ?_
  rotate_left
  ·go_simp
   rfl
  refine hK.out _ _ ⟨(kf hHeld.1), (kf hHeld.2.1), (kf hHeld.2.2.1), (kf hHeld.2.2.2.1), (kf hHeld.2.2.2.2.1), (kf hHeld.2.2.2.2.2.1), (kf hHeld.2.2.2.2.2.2.1), (kf hHeld.2.2.2.2.2.2.2.1), (kf hHeld.2.2.2.2.2.2.2.2.1), (kf hHeld.2.2.2.2.2.2.2.2.2.1), (kf hHeld.2.2.2.2.2.2.2.2.2.2.1), (kf hHeld.2.2.2.2.2.2.2.2.2.2.2)⟩ (fun hHeld => ?_);clear hK K;refine one_ (i := 13) (N := none) (bs 14 16383) rfl rfl (one_of HT_.out (by kernel_rfl)) (by decide) (fun K hK => ?_);have jf : w24.cell? ⟨ay, 0, none⟩ = some (.int .i64 0) := kk ag 0;have hs := blk_frozen ag.out 0;have eb := an.out;have ec := ap.out;have ed := ar.out;have ee := ao.out;have ef := aq.out;have eg := au.out;have jg : w24.cell? ⟨ay, 1, none⟩ = some (.int .i64 0) := kk ag 1;have ht := blk_frozen ag.out 1;have eh := an.out;have ei := ap.out;have ej := ar.out;have ek := ao.out;have el := aq.out;have em := au.out;have jh : w24.cell? ⟨ay, 2, none⟩ = some (.int .i64 0) := kk ag 2;have hu := blk_frozen ag.out 2;have en := an.out;have eo := ap.out;have ep := ar.out;have eq := ao.out;have es := aq.out;have eu := au.out;have ji : w24.cell? ⟨ay, 3, none⟩ = some (.int .u64 0) := kk ag 3;have hv := blk_frozen ag.out 3;have ev := an.out;have ew := ap.out;have ex := ar.out;have ey := ao.out;have ez := aq.out;have eA := au.out;refine skip_ (w1 := ?_) (by rfl) rfl ?_ ?_
  rotate_left
  ·go_simp
   rfl
  refine hK.out _ _ ⟨(kf hHeld.1), (kf hHeld.2.1), (kf hHeld.2.2.1), (kf hHeld.2.2.2.1), (kf hHeld.2.2.2.2.1), (kf hHeld.2.2.2.2.2.1), (kf hHeld.2.2.2.2.2.2.1), (kf hHeld.2.2.2.2.2.2.2.1), (kf hHeld.2.2.2.2.2.2.2.2.1), (kf hHeld.2.2.2.2.2.2.2.2.2.1), (kf hHeld.2.2.2.2.2.2.2.2.2.2.1), (kf hHeld.2.2.2.2.2.2.2.2.2.2.2)⟩ (fun hHeld => ?_);clear hK K;refine done_ (done_of HT_.out (by kernel_rfl)) ?_;have n0_ : Aside0 (((((((((w24.setCell ⟨al, 0, none⟩ (.int .i64 ((rd_T61 l1 ab).f0))).setCell ⟨al, 1, none⟩ (.int .i64 ((rd_T61 l1 ab).f1))).setCell ⟨al, 2, none⟩ (.int .i64 ((rd_T61 l1 ab).f2))).setCell ⟨al, 3, none⟩ (.int .u64 ((rd_T61 l1 ab).f3))).setCell ⟨ay, 0, none⟩ (.int .i64 ((rd_T61 l1 ad).f0))).setCell ⟨ay, 1, none⟩ (.int .i64 ((rd_T61 l1 ad).f1))).setCell ⟨ay, 2, none⟩ (.int .i64 ((rd_T61 l1 ad).f2))).setCell ⟨ay, 3, none⟩ (.int .u64 ((rd_T61 l1 ad).f3))).heap[aA]? = some (.cells #[.int .i64 av, .int .i64 ab, .int .i64 ad, .int .u64 aC] 61 (0, 0))) := ⟨kg aa⟩;have n1_ : Aside0 (((((((((w24.setCell ⟨al, 0, none⟩ (.int .i64 ((rd_T61 l1 ab).f0))).setCell ⟨al, 1, none⟩ (.int .i64 ((rd_T61 l1 ab).f1))).setCell ⟨al, 2, none⟩ (.int .i64 ((rd_T61 l1 ab).f2))).setCell ⟨al, 3, none⟩ (.int .u64 ((rd_T61 l1 ab).f3))).setCell ⟨ay, 0, none⟩ (.int .i64 ((rd_T61 l1 ad).f0))).setCell ⟨ay, 1, none⟩ (.int .i64 ((rd_T61 l1 ad).f1))).setCell ⟨ay, 2, none⟩ (.int .i64 ((rd_T61 l1 ad).f2))).setCell ⟨ay, 3, none⟩ (.int .u64 ((rd_T61 l1 ad).f3))).heap[aB]? = some (.cells #[.int .i64 0, .int .i64 0, .int .i64 0, .int .u64 0] 61 (0, 0))) := ⟨kg ae⟩;have n2_ : Aside0 (((((((((w24.setCell ⟨al, 0, none⟩ (.int .i64 ((rd_T61 l1 ab).f0))).setCell ⟨al, 1, none⟩ (.int .i64 ((rd_T61 l1 ab).f1))).setCell ⟨al, 2, none⟩ (.int .i64 ((rd_T61 l1 ab).f2))).setCell ⟨al, 3, none⟩ (.int .u64 ((rd_T61 l1 ab).f3))).setCell ⟨ay, 0, none⟩ (.int .i64 ((rd_T61 l1 ad).f0))).setCell ⟨ay, 1, none⟩ (.int .i64 ((rd_T61 l1 ad).f1))).setCell ⟨ay, 2, none⟩ (.int .i64 ((rd_T61 l1 ad).f2))).setCell ⟨ay, 3, none⟩ (.int .u64 ((rd_T61 l1 ad).f3))).heap[al]? = some (.cells #[.int .i64 ((rd_T61 l1 ab).f0), .int .i64 ((rd_T61 l1 ab).f1), .int .i64 ((rd_T61 l1 ab).f2), .int .u64 ((rd_T61 l1 ab).f3)] 61 (0, 0))) := ⟨kg af⟩;have n3_ : Aside0 (((((((((w24.setCell ⟨al, 0, none⟩ (.int .i64 ((rd_T61 l1 ab).f0))).setCell ⟨al, 1, none⟩ (.int .i64 ((rd_T61 l1 ab).f1))).setCell ⟨al, 2, none⟩ (.int .i64 ((rd_T61 l1 ab).f2))).setCell ⟨al, 3, none⟩ (.int .u64 ((rd_T61 l1 ab).f3))).setCell ⟨ay, 0, none⟩ (.int .i64 ((rd_T61 l1 ad).f0))).setCell ⟨ay, 1, none⟩ (.int .i64 ((rd_T61 l1 ad).f1))).setCell ⟨ay, 2, none⟩ (.int .i64 ((rd_T61 l1 ad).f2))).setCell ⟨ay, 3, none⟩ (.int .u64 ((rd_T61 l1 ad).f3))).heap[ay]? = some (.cells #[.int .i64 ((rd_T61 l1 ad).f0), .int .i64 ((rd_T61 l1 ad).f1), .int .i64 ((rd_T61 l1 ad).f2), .int .u64 ((rd_T61 l1 ad).f3)] 61 (0, 0))) := ⟨kg ag⟩;have n4_ : Aside0 (Below w.heap.size w ((((((((w24.setCell ⟨al, 0, none⟩ (.int .i64 ((rd_T61 l1 ab).f0))).setCell ⟨al, 1, none⟩ (.int .i64 ((rd_T61 l1 ab).f1))).setCell ⟨al, 2, none⟩ (.int .i64 ((rd_T61 l1 ab).f2))).setCell ⟨al, 3, none⟩ (.int .u64 ((rd_T61 l1 ab).f3))).setCell ⟨ay, 0, none⟩ (.int .i64 ((rd_T61 l1 ad).f0))).setCell ⟨ay, 1, none⟩ (.int .i64 ((rd_T61 l1 ad).f1))).setCell ⟨ay, 2, none⟩ (.int .i64 ((rd_T61 l1 ad).f2))).setCell ⟨ay, 3, none⟩ (.int .u64 ((rd_T61 l1 ad).f3)))) := ⟨kh HB⟩;(try clear aa ae af ag HB);generalize ((((((((w24.setCell ⟨al, 0, none⟩ (.int .i64 ((rd_T61 l1 ab).f0))).setCell ⟨al, 1, none⟩ (.int .i64 ((rd_T61 l1 ab).f1))).setCell ⟨al, 2, none⟩ (.int .i64 ((rd_T61 l1 ab).f2))).setCell ⟨al, 3, none⟩ (.int .u64 ((rd_T61 l1 ab).f3))).setCell ⟨ay, 0, none⟩ (.int .i64 ((rd_T61 l1 ad).f0))).setCell ⟨ay, 1, none⟩ (.int .i64 ((rd_T61 l1 ad).f1))).setCell ⟨ay, 2, none⟩ (.int .i64 ((rd_T61 l1 ad).f2))).setCell ⟨ay, 3, none⟩ (.int .u64 ((rd_T61 l1 ad).f3))) = w25a at n0_ n1_ n2_ n3_ n4_ ⊢;have aa := n0_; have ae := n1_; have af := n2_; have ag := n3_; have HB := n4_; clear n0_ n1_ n2_ n3_ n4_;have hx := aw.out;have hy := ax.out;have hz := ah.out;have hA := ai.out;have hB := an.out;have hC := ao.out;have Z36 := kz4 aa;go_upto_region 7 with (fail);go_cut [12, 35] (fun v12 v35 wc => ∃ (kq : Nat) (bd : Bool), v12 = .bool (av != 6) ∧ v35 = .bool bd ∧ Aside0 (tune_folded.j1 kq a0 (av != 6) bd av ab ad aC ((rd_T61 l1 ab).f0) ((rd_T61 l1 ab).f1) ((rd_T61 l1 ab).f2) ((rd_T61 l1 ab).f3) ((rd_T61 l1 ad).f0) ((rd_T61 l1 ad).f1) ((rd_T61 l1 ad).f2) ((rd_T61 l1 ad).f3) = some (r1, r2, r3, r4, r5)) ∧ Aside0 (kq ≤ kj3) ∧ Aside0 (wc.heap[aA]? = some (.cells #[.int .i64 av, .int .i64 ab, .int .i64 ad, .int .u64 aC] 61 (0, 0))) ∧ Aside0 (wc.heap[aB]? = some (.cells #[.int .i64 0, .int .i64 0, .int .i64 0, .int .u64 0] 61 (0, 0))) ∧ Aside0 (wc.heap[al]? = some (.cells #[.int .i64 ((rd_T61 l1 ab).f0), .int .i64 ((rd_T61 l1 ab).f1), .int .i64 ((rd_T61 l1 ab).f2), .int .u64 ((rd_T61 l1 ab).f3)] 61 (0, 0))) ∧ Aside0 (wc.heap[ay]? = some (.cells #[.int .i64 ((rd_T61 l1 ad).f0), .int .i64 ((rd_T61 l1 ad).f1), .int .i64 ((rd_T61 l1 ad).f2), .int .u64 ((rd_T61 l1 ad).f3)] 61 (0, 0))) ∧ Aside0 (Below w.heap.size w wc))
  case first =>
   have H := bU.out;clear bU
   by_cases c37 : av = 6
   ·rw [if_pos c37] at H
    have bg := beq_iff_eq.mpr c37;have co := bne_eq_false_iff_eq.mpr c37;clear c37;(first | rw [bg] | (simp only [i64_w, i32_w]; rw [bg]) | skip);have H' := Aside0.mk H;clear H;go_wp2;go_meet
    case rel => exact ⟨_, (false), et, et, H', ⟨by have := HJ3.out; first | omega | exact Nat.le_refl _⟩, aa, ae, af, ag, HB⟩
   rw [if_neg c37] at H;have bg := beq_eq_false_iff_ne.mpr c37;have co := bne_iff_ne.mpr c37;(first | rw [bg] | (simp only [i64_w, i32_w]; rw [bg]) | skip)
   by_cases c38 : ((rd_T61 l1 ab).f0) = 2
   rotate_left
   ·rw [if_neg c38] at H
    have cp := beq_eq_false_iff_ne.mpr c38;have cq := bne_iff_ne.mpr c38;have H' := Aside0.mk H;clear H;have hD := ai.out;have hE := ah.out;have hF := ak.out;have hG := aj.out;have hH := ar.out;have hI := au.out;have Z49 := kz4 af;go_wp2;go_meet
    case rel => exact ⟨_, (false), et, et, H', ⟨by have := HJ3.out; first | omega | exact Nat.le_refl _⟩, aa, ae, af, ag, HB⟩
   rw [if_pos c38] at H;have cp := beq_iff_eq.mpr c38;have cq := bne_eq_false_iff_eq.mpr c38;clear c38;have H' := Aside0.mk H;clear H;have hJ := ai.out;have hL := ah.out;have hM := ak.out;have hN := aj.out;have hO := ar.out;have hP := au.out;have Z42 := kz4 af;have hQ := ao.out;have hR := an.out;have hS := aq.out;have hT := ap.out;have Z45 := kz4 ag;go_wp2;go_meet
   case rel => exact ⟨_, ((((rd_T61 l1 ad).f0) == 2)), et, et, H', ⟨by have := HJ3.out; first | omega | exact Nat.le_refl _⟩, aa, ae, af, ag, HB⟩
  clear bU;(try clear c12 cj ck cl cm Z14 Z15 Z36 aD aE aF aG aH aI aJ aK bG bI bH bJ);obtain ⟨kq, bd, rfl, rfl, HA, bc, aa, ae, af, ag, HB⟩ := hcut
  cases kq with
  | zero => exact absurd HA.out (by simp [tune_folded.j1])
  | succ eE =>
   have H := HA.out;clear HA;simp only [tune_folded.j1] at H
   by_cases c50 : bd = true
   ·subst c50
    replace H := ifT H;obtain ⟨bV, bh⟩ : ∃ y_ : List Int, y_ = (([((rd_T61 l1 ab).f3), ((rd_T61 l1 ad).f3)] : List Int)) := ⟨_, rfl⟩
    replace H : ((circ_Of.f a0 av 0 1 0 ([] : List Int) bV).bind fun bz => ((tune_folded_1.f bz).bind fun bi => (some (bi.1, bi.2.1, bi.2.2.1, bi.2.2.2.1, bi.2.2.2.2)))) = some (r1, r2, r3, r4, r5) := by first | (rw [bh]; with_reducible exact H) | (have H2_ := (Option.bind_some _ _).symm.trans H; rw [bh]; with_reducible exact H2_) | (have H2_ := (Option.bind_some _ _).symm.trans H; with_reducible exact H2_) | with_reducible exact H | (rw [bh]; exact H) | exact H
    have bM := Aside0.mk bh;clear bh;replace H := Option.bind_eq_some_iff.mp H;obtain ⟨bz, cr, H⟩ := H;(try dsimp only at H);have A51 := Aside0.mk cr;clear cr;replace H := Option.bind_eq_some_iff.mp H;obtain ⟨⟨ct, cu, cv, cw, eF⟩, cx, H⟩ := H;(try dsimp only at H);have A52 := Aside0.mk cx;clear cx;simp only [Option.some.injEq, Prod.mk.injEq] at H;obtain ⟨rfl, rfl, rfl, rfl, rfl⟩ := H;have hU := aw.out;have hV := ax.out;have hW := ah.out;have hX := ai.out;have hY := an.out;have hZ := ao.out;have Z56 := kz4 aa;have ia := ak.out;have ib := aj.out;have ic := ar.out;have ie := au.out;have Z59 := kz4 af;have ig := aq.out;have ih := ap.out;have Z61 := kz4 ag;go_wp2_with (first | ((with_reducible refine gate_dst (N := 56) rfl ?_); refine Kd.R_lit (Kd.int .u64) _ 34 ?hg (N := 56) ?hd (xs := ([((rd_T61 l1 ab).f3), ((rd_T61 l1 ad).f3)] : List Int)) (inner := [.int .u64 ((rd_T61 l1 ab).f3), .int .u64 ((rd_T61 l1 ad).f3)]) (ok := fun _ => True) (okp := fun _ => True) ?hr ?hp (fun _ hk => hk) trivial (Below.refl _ _) (Nat.le_refl _) (by simp) ?_; (case hd => rfl); (case hg => rfl); (case hr => first | (go_simp; done) | (go_simp; rfl)); (case hp => exact (Reps.one (show Kd.M (Kd.int .u64) _ _ _ ((rd_T61 l1 ab).f3) [.int .u64 ((rd_T61 l1 ab).f3)] from rfl) (Reps.one (show Kd.M (Kd.int .u64) _ _ _ ((rd_T61 l1 ad).f3) [.int .u64 ((rd_T61 l1 ad).f3)] from rfl) (Reps.none _ _)))); intro jj w62 ho63 hb hg_ hnew_; clear hg_ hnew_; (first | rw [← bM.out] at ho63 | (simp only [Int.reduceToNat] at ho63; rw [← bM.out] at ho63)); have aW := kLR ho63 HB; replace aa := kU aa hb; replace ae := kU ae hb; replace af := kU af hb; replace ag := kU ag hb; replace HB := kH HB hb; clear hb ho63; obtain ⟨eG, eH, eI⟩ := Kd.R_slice aW.out; subst eI) | ((with_reducible refine gate_callee (f := 69) rfl ?_); refine goesL_ (some 57) rfl rfl Try.func69 (by kernel_rfl) rfl #[.int .u64 a0, .agg #[.int .i64 av, .int .i64 0, .int .i64 1, .int .u64 0], .slice none 0 0, .slice eG bV.length eH] rfl (by (try simp only [qM1, qM2, qM3]); first | done | rfl) ?_; (refine (circ_Of.calls a0 av 0 1 0 _ _ ([] : List Int) _ _ bV bz _ ?side1 ?side2 ?side3 ?side4 A51.out).mono ?_); (case side1 => exact Kd.C_nil _ _); (case side2 => exact Nat.le_refl _); (case side3 => repeat (first | exact (Kd.R_reads' aW.out).2.2 | (with_reducible first | refine Kd.C_alloc ?_ _ | refine Kd.C_drewN ?_ _ | refine Kd.C_drew ?_))); (case side4 => exact (Kd.R_reads' aW.out).2.1); rintro e w65 ⟨rfl, hb⟩; refine ⟨_, rfl, ?_⟩; replace aW := kR aW hb; replace aa := kU aa hb; replace ae := kU ae hb; replace af := kU af hb; replace ag := kU ag hb; replace HB := kH HB hb; (try clear hb); (try clear hb2); (try clear hk); (try clear hi)) | ((with_reducible refine gate_dst (N := 58) rfl ?_); refine api_Slot_78.goesT0 (some 58) rfl rfl Try.func67 (by kernel_rfl) rfl #[.int .u64 bz] rfl rfl (by (try simp only [qM1, qM2, qM3]); first | done | rfl) ?_; (with_reducible refine (tune_folded_1.calls bz ct cu cv cw eF _ A52.out).mono ?_); rintro e w66 ⟨rfl, hb⟩; refine ⟨_, rfl, ?_⟩; replace aW := kR aW hb; replace aa := kU aa hb; replace ae := kU ae hb; replace af := kU af hb; replace ag := kU ag hb; replace HB := kH HB hb; (try clear hb); (try clear hb2); (try clear hk); (try clear hi); have Z67 := kz4 ae));refine bodyPost_ret (results_ct rfl _ _ aB 61 #[.int .i64 ct, .int .i64 cu, .int .i64 cv, .int .u64 cw] (0, 0) _ rfl (kg ae) Try.underlying61 rfl (by kernel_rfl)) rfl ?_;exact ⟨er, kh HB⟩
   replace c50 := Bool.eq_false_iff.mpr c50;subst c50;replace H := ifF H;have bW := Aside0.mk H;clear H;go_upto_region 9 with (fail);go_cut [12, 61] (fun v12 v61 wc => ∃ (kq : Nat) (be : Bool), v12 = .bool (av != 6) ∧ v61 = .bool be ∧ Aside0 (tune_folded.j2 kq a0 (av != 6) be av ab ad aC ((rd_T61 l1 ab).f0) ((rd_T61 l1 ab).f1) ((rd_T61 l1 ab).f2) ((rd_T61 l1 ab).f3) ((rd_T61 l1 ad).f0) ((rd_T61 l1 ad).f1) ((rd_T61 l1 ad).f2) ((rd_T61 l1 ad).f3) = some (r1, r2, r3, r4, r5)) ∧ Aside0 (kq ≤ eE) ∧ Aside0 (wc.heap[aA]? = some (.cells #[.int .i64 av, .int .i64 ab, .int .i64 ad, .int .u64 aC] 61 (0, 0))) ∧ Aside0 (wc.heap[aB]? = some (.cells #[.int .i64 0, .int .i64 0, .int .i64 0, .int .u64 0] 61 (0, 0))) ∧ Aside0 (wc.heap[al]? = some (.cells #[.int .i64 ((rd_T61 l1 ab).f0), .int .i64 ((rd_T61 l1 ab).f1), .int .i64 ((rd_T61 l1 ab).f2), .int .u64 ((rd_T61 l1 ab).f3)] 61 (0, 0))) ∧ Aside0 (wc.heap[ay]? = some (.cells #[.int .i64 ((rd_T61 l1 ad).f0), .int .i64 ((rd_T61 l1 ad).f1), .int .i64 ((rd_T61 l1 ad).f2), .int .u64 ((rd_T61 l1 ad).f3)] 61 (0, 0))) ∧ Aside0 (Below w.heap.size w wc))
   case first =>
    have H := bW.out;clear bW
    by_cases c69 : (av != 6) = true
    ·rw [if_pos c69] at H
     have bj : (av != 6) = true := c69;(try (have cy : decide (av = 6) = false := by simpa using c69));(try (have cz : (av == 6) = false := by simpa using c69));(try (have ii : ¬ (av = 6) := by simpa using c69));clear c69;(first | rw [bj] | (simp only [i64_w, i32_w]; rw [bj]) | skip);have H' := Aside0.mk H;clear H;go_wp2;go_meet
     case rel => exact ⟨_, (false), et, et, H', ⟨by have := HJ3.out; have := bc.out; first | omega | exact Nat.le_refl _⟩, ⟨kg aa⟩, ⟨kg ae⟩, ⟨kg af⟩, ⟨kg ag⟩, ⟨kh HB⟩⟩
    rw [if_neg c69] at H
    have bj : (av != 6) = false := by simpa using c69
    (try (have cy : decide (av = 6) = true := by simpa using c69));(try (have cz : (av == 6) = true := by simpa using c69));clear c69;(first | rw [bj] | (simp only [i64_w, i32_w]; rw [bj]) | skip);have H' := Aside0.mk H;clear H;have ij := ai.out;have ik := ah.out;have il := ak.out;have im := aj.out;have io := ar.out;have ip := au.out;have Z73 := kz4 af;go_wp2;go_meet
    case rel => exact ⟨_, ((((rd_T61 l1 ab).f0) == 2)), et, et, H', ⟨by have := HJ3.out; have := bc.out; first | omega | exact Nat.le_refl _⟩, ⟨kg aa⟩, ⟨kg ae⟩, ⟨kg af⟩, ⟨kg ag⟩, ⟨kh HB⟩⟩
   clear bW;(try clear c50 Z56 Z59 Z61 Z67);obtain ⟨kq, be, rfl, rfl, HA, bk, aa, ae, af, ag, HB⟩ := hcut
   cases kq with
   | zero => exact absurd HA.out (by simp [tune_folded.j2])
   | succ eJ =>
    have H := HA.out;clear HA;simp only [tune_folded.j2] at H
    by_cases c74 : be = true
    ·subst c74
     replace H := ifT H;replace H := Option.bind_eq_some_iff.mp H;obtain ⟨bX, cA, H⟩ := H;(try dsimp only at H);have A75 := Aside0.mk cA;clear cA;replace H := Option.bind_eq_some_iff.mp H;obtain ⟨⟨cB, cC, cD, cE, eK⟩, cF, H⟩ := H;(try dsimp only at H);have A76 := Aside0.mk cF;clear cF;simp only [Option.some.injEq, Prod.mk.injEq] at H;obtain ⟨rfl, rfl, rfl, rfl, rfl⟩ := H;have iq := ai.out;have ir := ah.out;have it := ak.out;have iu := aj.out;have iv := ar.out;have iw := au.out;have Z80 := kz4 af;have ix := aw.out;have iy := ax.out;have iz := an.out;have iA := ao.out;have Z83 := kz4 aa;go_wp2_with (first | ((with_reducible refine gate_callee (f := 70) rfl ?_); refine goesL_ (some 75) rfl rfl Try.func70 (by kernel_rfl) rfl #[.int .u64 a0, .int .u64 ((rd_T61 l1 ab).f3), .int .u64 aC] rfl (by (try simp only [qM1, qM2, qM3]); first | done | rfl) ?_; (with_reducible refine (qta.calls a0 ((rd_T61 l1 ab).f3) aC bX _ A75.out).mono ?_); rintro e w' ⟨rfl, ⟨nd, rfl⟩⟩; refine ⟨_, rfl, ?_⟩; (try (rw [drewN_self wc]; generalize hq_ : World.drewN wc _ = wc; replace aa : Aside0 (wc.heap[aA]? = some (.cells #[.int .i64 av, .int .i64 ab, .int .i64 ad, .int .u64 aC] 61 (0, 0))) := ⟨by rw [← hq_]; exact (kb aa)⟩; replace ae : Aside0 (wc.heap[aB]? = some (.cells #[.int .i64 0, .int .i64 0, .int .i64 0, .int .u64 0] 61 (0, 0))) := ⟨by rw [← hq_]; exact (kb ae)⟩; replace af : Aside0 (wc.heap[al]? = some (.cells #[.int .i64 ((rd_T61 l1 ab).f0), .int .i64 ((rd_T61 l1 ab).f1), .int .i64 ((rd_T61 l1 ab).f2), .int .u64 ((rd_T61 l1 ab).f3)] 61 (0, 0))) := ⟨by rw [← hq_]; exact (kb af)⟩; replace ag : Aside0 (wc.heap[ay]? = some (.cells #[.int .i64 ((rd_T61 l1 ad).f0), .int .i64 ((rd_T61 l1 ad).f1), .int .i64 ((rd_T61 l1 ad).f2), .int .u64 ((rd_T61 l1 ad).f3)] 61 (0, 0))) := ⟨by rw [← hq_]; exact (kb ag)⟩; replace HB : Aside0 (Below w.heap.size w wc) := ⟨by rw [← hq_]; exact (kh HB)⟩; clear hq_))) | ((with_reducible refine gate_dst (N := 76) rfl ?_); refine api_Slot_78.goesT0 (some 76) rfl rfl Try.func67 (by kernel_rfl) rfl #[.int .u64 bX] rfl rfl (by (try simp only [qM1, qM2, qM3]); first | done | rfl) ?_; (with_reducible refine (tune_folded_1.calls bX cB cC cD cE eK _ A76.out).mono ?_); rintro e w84 ⟨rfl, hb⟩; refine ⟨_, rfl, ?_⟩; replace aa := kU aa hb; replace ae := kU ae hb; replace af := kU af hb; replace ag := kU ag hb; replace HB := kH HB hb; (try clear hb); (try clear hb2); (try clear hk); (try clear hi); have iB := ap.out; have iC := aq.out; have Z86 := kz4 ae));refine bodyPost_ret (results_ct rfl _ _ aB 61 #[.int .i64 cB, .int .i64 cC, .int .i64 cD, .int .u64 cE] (0, 0) _ rfl (kg ae) Try.underlying61 rfl (by kernel_rfl)) rfl ?_;exact ⟨er, kh HB⟩
    replace c74 := Bool.eq_false_iff.mpr c74;subst c74;replace H := ifF H;have bY := Aside0.mk H;clear H;go_upto_region 11 with (fail);go_cut [12, 79] (fun v12 v79 wc => ∃ (kq : Nat) (bf : Bool), v12 = .bool (av != 6) ∧ v79 = .bool bf ∧ Aside0 (tune_folded.j3 kq a0 (av != 6) bf av ab ad aC ((rd_T61 l1 ab).f0) ((rd_T61 l1 ab).f1) ((rd_T61 l1 ab).f2) ((rd_T61 l1 ab).f3) ((rd_T61 l1 ad).f0) ((rd_T61 l1 ad).f1) ((rd_T61 l1 ad).f2) ((rd_T61 l1 ad).f3) = some (r1, r2, r3, r4, r5)) ∧ Aside0 (kq ≤ eJ) ∧ Aside0 (wc.heap[aA]? = some (.cells #[.int .i64 av, .int .i64 ab, .int .i64 ad, .int .u64 aC] 61 (0, 0))) ∧ Aside0 (wc.heap[aB]? = some (.cells #[.int .i64 0, .int .i64 0, .int .i64 0, .int .u64 0] 61 (0, 0))) ∧ Aside0 (wc.heap[al]? = some (.cells #[.int .i64 ((rd_T61 l1 ab).f0), .int .i64 ((rd_T61 l1 ab).f1), .int .i64 ((rd_T61 l1 ab).f2), .int .u64 ((rd_T61 l1 ab).f3)] 61 (0, 0))) ∧ Aside0 (wc.heap[ay]? = some (.cells #[.int .i64 ((rd_T61 l1 ad).f0), .int .i64 ((rd_T61 l1 ad).f1), .int .i64 ((rd_T61 l1 ad).f2), .int .u64 ((rd_T61 l1 ad).f3)] 61 (0, 0))) ∧ Aside0 (Below w.heap.size w wc))
    case first =>
     have H := bY.out;clear bY
     by_cases c88 : av = 5
     rotate_left
     ·rw [if_neg c88] at H
      have bl := beq_eq_false_iff_ne.mpr c88;have cG := bne_iff_ne.mpr c88;(first | rw [bl] | (simp only [i64_w, i32_w]; rw [bl]) | skip);have H' := Aside0.mk H;clear H;have iD := aw.out;have iE := ax.out;have iF := ah.out;have iG := ai.out;have iH := an.out;have iI := ao.out;have Z99 := kz4 aa;go_wp2;go_meet
      case rel => exact ⟨_, (false), et, et, H', ⟨by have := HJ3.out; have := bc.out; have := bk.out; first | omega | exact Nat.le_refl _⟩, ⟨kg aa⟩, ⟨kg ae⟩, ⟨kg af⟩, ⟨kg ag⟩, ⟨kh HB⟩⟩
     rw [if_pos c88] at H;have bl := beq_iff_eq.mpr c88;have cG := bne_eq_false_iff_eq.mpr c88;clear c88;(first | rw [bl] | (simp only [i64_w, i32_w]; rw [bl]) | skip);have H' := Aside0.mk H;clear H;have iJ := aw.out;have iK := ax.out;have iL := ah.out;have iM := ai.out;have iN := an.out;have iO := ao.out;have Z92 := kz4 aa;have iP := ak.out;have iQ := aj.out;have iR := ar.out;have iS := au.out;have Z95 := kz4 af;go_wp2;go_meet
     case rel => exact ⟨_, ((((rd_T61 l1 ab).f0) == 2)), et, et, H', ⟨by have := HJ3.out; have := bc.out; have := bk.out; first | omega | exact Nat.le_refl _⟩, ⟨kg aa⟩, ⟨kg ae⟩, ⟨kg af⟩, ⟨kg ag⟩, ⟨kh HB⟩⟩
    clear bY;(try clear c74 Z80 Z83 Z86);obtain ⟨kq, bf, rfl, rfl, HA, bw, aa, ae, af, ag, HB⟩ := hcut
    cases kq with
    | zero => exact absurd HA.out (by simp [tune_folded.j3])
    | succ eL =>
     have H := HA.out;clear HA;simp only [tune_folded.j3] at H
     by_cases bA : bf = true
     ·subst bA
      replace H := ifT H;replace H := Option.bind_eq_some_iff.mp H;obtain ⟨⟨cH, cI, cJ, cK, eM⟩, bN, H⟩ := H;(try dsimp only at H);have eN := Aside0.mk bN;clear bN;simp only [Option.some.injEq, Prod.mk.injEq] at H;obtain ⟨rfl, rfl, rfl, rfl, rfl⟩ := H;have eO := aw.out;have eP := ax.out;have eQ := ah.out;have eR := ai.out;have eS := an.out;have eT := ao.out;have eU := kz4 aa;have eV := ak.out;have eW := aj.out;have eX := ar.out;have eY := au.out;have eZ := kz4 af;go_wp2_with (first | ((with_reducible refine gate_dst (N := 93) rfl ?_); refine api_Slot_78.goesT0 (some 93) rfl rfl Try.func68 (by kernel_rfl) rfl #[.int .i64 ad, .int .u64 ((rd_T61 l1 ab).f3)] rfl rfl (by (try simp only [qM1, qM2, qM3]); first | done | rfl) ?_; (with_reducible refine (tune_folded_2.calls ad ((rd_T61 l1 ab).f3) cH cI cJ cK eM _ eN.out).mono ?_); rintro e jk ⟨rfl, hb⟩; refine ⟨_, rfl, ?_⟩; replace aa := kU aa hb; replace ae := kU ae hb; replace af := kU af hb; replace ag := kU ag hb; replace HB := kH HB hb; (try clear hb); (try clear hb2); (try clear hk); (try clear hi); have fa := ap.out; have fb := aq.out; have fc := kz4 ae));refine bodyPost_ret (results_ct rfl _ _ aB 61 #[.int .i64 cH, .int .i64 cI, .int .i64 cJ, .int .u64 cK] (0, 0) _ rfl (kg ae) Try.underlying61 rfl (by kernel_rfl)) rfl ?_;exact ⟨er, kh HB⟩
     replace bA := Bool.eq_false_iff.mpr bA;subst bA;replace H := ifF H;have bB := Aside0.mk H;clear H;go_upto_region 13 with (fail);go_cut [12, 96] (fun v12 v96 wc => ∃ (kq : Nat) (aV : Bool), v12 = .bool (av != 6) ∧ v96 = .bool aV ∧ Aside0 (tune_folded.j4 kq a0 (av != 6) aV av ab ad aC ((rd_T61 l1 ab).f0) ((rd_T61 l1 ab).f1) ((rd_T61 l1 ab).f2) ((rd_T61 l1 ab).f3) ((rd_T61 l1 ad).f0) ((rd_T61 l1 ad).f1) ((rd_T61 l1 ad).f2) ((rd_T61 l1 ad).f3) = some (r1, r2, r3, r4, r5)) ∧ Aside0 (kq ≤ eL) ∧ Aside0 (wc.heap[aA]? = some (.cells #[.int .i64 av, .int .i64 ab, .int .i64 ad, .int .u64 aC] 61 (0, 0))) ∧ Aside0 (wc.heap[aB]? = some (.cells #[.int .i64 0, .int .i64 0, .int .i64 0, .int .u64 0] 61 (0, 0))) ∧ Aside0 (wc.heap[al]? = some (.cells #[.int .i64 ((rd_T61 l1 ab).f0), .int .i64 ((rd_T61 l1 ab).f1), .int .i64 ((rd_T61 l1 ab).f2), .int .u64 ((rd_T61 l1 ab).f3)] 61 (0, 0))) ∧ Aside0 (wc.heap[ay]? = some (.cells #[.int .i64 ((rd_T61 l1 ad).f0), .int .i64 ((rd_T61 l1 ad).f1), .int .i64 ((rd_T61 l1 ad).f2), .int .u64 ((rd_T61 l1 ad).f3)] 61 (0, 0))) ∧ Aside0 (Below w.heap.size w wc))
     case first =>
      have H := bB.out;clear bB
      by_cases bm : av = 5
      rotate_left
      ·rw [if_neg bm] at H
       have aX := beq_eq_false_iff_ne.mpr bm;have bZ := bne_iff_ne.mpr bm;(first | rw [aX] | (simp only [i64_w, i32_w]; rw [aX]) | skip);have H' := Aside0.mk H;clear H;have fd := aw.out;have fe := ax.out;have ff := ah.out;have fg := ai.out;have fh := an.out;have fi := ao.out;have jl := kz4 aa;go_wp2;go_meet
       case rel => exact ⟨_, (false), et, et, H', ⟨by have := HJ3.out; have := bc.out; have := bk.out; have := bw.out; first | omega | exact Nat.le_refl _⟩, ⟨kg aa⟩, ⟨kg ae⟩, ⟨kg af⟩, ⟨kg ag⟩, ⟨kh HB⟩⟩
      rw [if_pos bm] at H;have aX := beq_iff_eq.mpr bm;have bZ := bne_eq_false_iff_eq.mpr bm;clear bm;(first | rw [aX] | (simp only [i64_w, i32_w]; rw [aX]) | skip);have H' := Aside0.mk H;clear H;have fj := aw.out;have fk := ax.out;have fl := ah.out;have fm := ai.out;have fn := an.out;have fo := ao.out;have jm := kz4 aa;have fp := aq.out;have fq := ap.out;have fr := au.out;have fs := ar.out;have jn := kz4 ag;go_wp2;go_meet
      case rel => exact ⟨_, ((((rd_T61 l1 ad).f0) == 2)), et, et, H', ⟨by have := HJ3.out; have := bc.out; have := bk.out; have := bw.out; first | omega | exact Nat.le_refl _⟩, ⟨kg aa⟩, ⟨kg ae⟩, ⟨kg af⟩, ⟨kg ag⟩, ⟨kh HB⟩⟩
     clear bB;(try clear bA eU eZ fc);obtain ⟨kq, aV, rfl, rfl, HA, bv, aa, ae, af, ag, HB⟩ := hcut
     cases kq with
     | zero => exact absurd HA.out (by simp [tune_folded.j4])
     | succ cL =>
      have H := HA.out;clear HA;simp only [tune_folded.j4] at H
      by_cases bC : aV = true
      ·subst bC
       replace H := ifT H;replace H := Option.bind_eq_some_iff.mp H;obtain ⟨⟨cM, cN, cO, cP, ft⟩, bO, H⟩ := H;(try dsimp only at H);have fu := Aside0.mk bO;clear bO;simp only [Option.some.injEq, Prod.mk.injEq] at H;obtain ⟨rfl, rfl, rfl, rfl, rfl⟩ := H;have fv := aw.out;have fw := ax.out;have fx := ah.out;have fy := ai.out;have fz := an.out;have fA := ao.out;have fB := kz4 aa;have fC := aq.out;have fD := ap.out;have fE := au.out;have fF := ar.out;have fG := kz4 ag;go_wp2_with (first | ((with_reducible refine gate_dst (N := 110) rfl ?_); refine api_Slot_78.goesT0 (some 110) rfl rfl Try.func68 (by kernel_rfl) rfl #[.int .i64 ab, .int .u64 ((rd_T61 l1 ad).f3)] rfl rfl (by (try simp only [qM1, qM2, qM3]); first | done | rfl) ?_; (with_reducible refine (tune_folded_2.calls ab ((rd_T61 l1 ad).f3) cM cN cO cP ft _ fu.out).mono ?_); rintro e jo ⟨rfl, hb⟩; refine ⟨_, rfl, ?_⟩; replace aa := kU aa hb; replace ae := kU ae hb; replace af := kU af hb; replace ag := kU ag hb; replace HB := kH HB hb; (try clear hb); (try clear hb2); (try clear hk); (try clear hi); have fH := aj.out; have fI := ak.out; have fJ := kz4 ae));refine bodyPost_ret (results_ct rfl _ _ aB 61 #[.int .i64 cM, .int .i64 cN, .int .i64 cO, .int .u64 cP] (0, 0) _ rfl (kg ae) Try.underlying61 rfl (by kernel_rfl)) rfl ?_;exact ⟨er, kh HB⟩
      replace bC := Bool.eq_false_iff.mpr bC;subst bC;replace H := ifF H;have bD := Aside0.mk H;clear H;go_upto_region 15 with (fail);go_cut [12, 113] (fun v12 fK wc => ∃ (kq : Nat) (aT : Bool), v12 = .bool (av != 6) ∧ fK = .bool aT ∧ Aside0 (tune_folded.j5 kq a0 (av != 6) aT av ab ad aC ((rd_T61 l1 ab).f0) ((rd_T61 l1 ab).f1) ((rd_T61 l1 ab).f2) ((rd_T61 l1 ab).f3) = some (r1, r2, r3, r4, r5)) ∧ Aside0 (kq ≤ cL) ∧ Aside0 (wc.heap[aA]? = some (.cells #[.int .i64 av, .int .i64 ab, .int .i64 ad, .int .u64 aC] 61 (0, 0))) ∧ Aside0 (wc.heap[aB]? = some (.cells #[.int .i64 0, .int .i64 0, .int .i64 0, .int .u64 0] 61 (0, 0))) ∧ Aside0 (wc.heap[al]? = some (.cells #[.int .i64 ((rd_T61 l1 ab).f0), .int .i64 ((rd_T61 l1 ab).f1), .int .i64 ((rd_T61 l1 ab).f2), .int .u64 ((rd_T61 l1 ab).f3)] 61 (0, 0))) ∧ Aside0 (wc.heap[ay]? = some (.cells #[.int .i64 ((rd_T61 l1 ad).f0), .int .i64 ((rd_T61 l1 ad).f1), .int .i64 ((rd_T61 l1 ad).f2), .int .u64 ((rd_T61 l1 ad).f3)] 61 (0, 0))) ∧ Aside0 (Below w.heap.size w wc))
      case first =>
       have H := bD.out;clear bD
       by_cases aY : (av != 6) = true
       ·rw [if_pos aY] at H
        have aZ : (av != 6) = true := aY;(try (have ca : decide (av = 6) = false := by simpa using aY));(try (have cb : (av == 6) = false := by simpa using aY));(try (have fL : ¬ (av = 6) := by simpa using aY));clear aY;(first | rw [aZ] | (simp only [i64_w, i32_w]; rw [aZ]) | skip);have H' := Aside0.mk H;clear H;go_wp2;go_meet
        case rel => exact ⟨_, (false), et, et, H', ⟨by have := HJ3.out; have := bc.out; have := bk.out; have := bw.out; have := bv.out; first | omega | exact Nat.le_refl _⟩, ⟨kg aa⟩, ⟨kg ae⟩, ⟨kg af⟩, ⟨kg ag⟩, ⟨kh HB⟩⟩
       rw [if_neg aY] at H
       have aZ : (av != 6) = false := by simpa using aY
       (try (have ca : decide (av = 6) = true := by simpa using aY));(try (have cb : (av == 6) = true := by simpa using aY));clear aY;(first | rw [aZ] | (simp only [i64_w, i32_w]; rw [aZ]) | skip);have H' := Aside0.mk H;clear H;have fM := aw.out;have fN := ax.out;have fO := ah.out;have fP := ai.out;have fQ := an.out;have fR := ao.out;have jp := kz4 aa;go_wp2;go_meet
       case rel => exact ⟨_, ((aC == 0)), et, et, H', ⟨by have := HJ3.out; have := bc.out; have := bk.out; have := bw.out; have := bv.out; first | omega | exact Nat.le_refl _⟩, ⟨kg aa⟩, ⟨kg ae⟩, ⟨kg af⟩, ⟨kg ag⟩, ⟨kh HB⟩⟩
      clear bD;(try clear bC fB fG fJ);obtain ⟨kq, aT, rfl, rfl, HA, bP, aa, ae, af, ag, HB⟩ := hcut
      cases kq with
      | zero => exact absurd HA.out (by simp [tune_folded.j5])
      | succ cQ =>
       have H := HA.out;clear HA;simp only [tune_folded.j5] at H
       by_cases bE : aT = true
       ·subst bE
        replace H := ifT H;replace H := Option.bind_eq_some_iff.mp H;obtain ⟨⟨cR, cS, cT, cU, fS⟩, bQ, H⟩ := H;(try dsimp only at H);have fT := Aside0.mk bQ;clear bQ;simp only [Option.some.injEq, Prod.mk.injEq] at H;obtain ⟨rfl, rfl, rfl, rfl, rfl⟩ := H;go_wp2_with (first | ((with_reducible refine gate_dst (N := 122) rfl ?_); refine api_Slot_78.goesT0 (some 122) rfl rfl Try.func67 (by kernel_rfl) rfl #[.int .u64 0] rfl rfl (by (try simp only [qM1, qM2, qM3]); first | done | rfl) ?_; (with_reducible refine (tune_folded_1.calls 0 cR cS cT cU fS _ fT.out).mono ?_); rintro e jq ⟨rfl, hb⟩; refine ⟨_, rfl, ?_⟩; replace aa := kU aa hb; replace ae := kU ae hb; replace af := kU af hb; replace ag := kU ag hb; replace HB := kH HB hb; (try clear hb); (try clear hb2); (try clear hk); (try clear hi); have fU := ax.out; have fV := aw.out; have fW := aj.out; have fX := ak.out; have fY := ap.out; have fZ := aq.out; have ga := kz4 ae));refine bodyPost_ret (results_ct rfl _ _ aB 61 #[.int .i64 cR, .int .i64 cS, .int .i64 cT, .int .u64 cU] (0, 0) _ rfl (kg ae) Try.underlying61 rfl (by kernel_rfl)) rfl ?_;exact ⟨er, kh HB⟩
       replace bE := Bool.eq_false_iff.mpr bE;subst bE;replace H := ifF H;have bF := Aside0.mk H;clear H;go_upto_region 17 with (fail);go_cut [12, 125] (fun v12 gb wc => ∃ (kq : Nat) (aU : Bool), v12 = .bool (av != 6) ∧ gb = .bool aU ∧ Aside0 (tune_folded.j6 kq a0 aU av ab ad aC ((rd_T61 l1 ab).f0) ((rd_T61 l1 ab).f1) ((rd_T61 l1 ab).f2) ((rd_T61 l1 ab).f3) = some (r1, r2, r3, r4, r5)) ∧ Aside0 (kq ≤ cQ) ∧ Aside0 (wc.heap[aA]? = some (.cells #[.int .i64 av, .int .i64 ab, .int .i64 ad, .int .u64 aC] 61 (0, 0))) ∧ Aside0 (wc.heap[aB]? = some (.cells #[.int .i64 0, .int .i64 0, .int .i64 0, .int .u64 0] 61 (0, 0))) ∧ Aside0 (wc.heap[al]? = some (.cells #[.int .i64 ((rd_T61 l1 ab).f0), .int .i64 ((rd_T61 l1 ab).f1), .int .i64 ((rd_T61 l1 ab).f2), .int .u64 ((rd_T61 l1 ab).f3)] 61 (0, 0))) ∧ Aside0 (wc.heap[ay]? = some (.cells #[.int .i64 ((rd_T61 l1 ad).f0), .int .i64 ((rd_T61 l1 ad).f1), .int .i64 ((rd_T61 l1 ad).f2), .int .u64 ((rd_T61 l1 ad).f3)] 61 (0, 0))) ∧ Aside0 (Below w.heap.size w wc))
       case first =>
        have H := bF.out;clear bF
        by_cases ba : (av != 6) = true
        ·rw [if_pos ba] at H
         have bb : (av != 6) = true := ba;(try (have cc : decide (av = 6) = false := by simpa using ba));(try (have cd : (av == 6) = false := by simpa using ba));(try (have gc : ¬ (av = 6) := by simpa using ba));clear ba;(first | rw [bb] | (simp only [i64_w, i32_w]; rw [bb]) | skip);have H' := Aside0.mk H;clear H;go_wp2;go_meet
         case rel => exact ⟨_, (false), et, et, H', ⟨by have := HJ3.out; have := bc.out; have := bk.out; have := bw.out; have := bv.out; have := bP.out; first | omega | exact Nat.le_refl _⟩, ⟨kg aa⟩, ⟨kg ae⟩, ⟨kg af⟩, ⟨kg ag⟩, ⟨kh HB⟩⟩
        rw [if_neg ba] at H
        have bb : (av != 6) = false := by simpa using ba
        (try (have cc : decide (av = 6) = true := by simpa using ba));(try (have cd : (av == 6) = true := by simpa using ba));clear ba;(first | rw [bb] | (simp only [i64_w, i32_w]; rw [bb]) | skip);have H' := Aside0.mk H;clear H;have gd := ai.out;have ge := ah.out;have gf := ak.out;have gg := aj.out;have gh := ar.out;have gi := au.out;have jr := kz4 af;go_wp2;go_meet
        case rel => exact ⟨_, ((((rd_T61 l1 ab).f0) == 6)), et, et, H', ⟨by have := HJ3.out; have := bc.out; have := bk.out; have := bw.out; have := bv.out; have := bP.out; first | omega | exact Nat.le_refl _⟩, ⟨kg aa⟩, ⟨kg ae⟩, ⟨kg af⟩, ⟨kg ag⟩, ⟨kh HB⟩⟩
       clear bF;(try clear bE ga);obtain ⟨kq, aU, rfl, rfl, HA, iT, aa, ae, af, ag, HB⟩ := hcut
       cases kq with
       | zero => exact absurd HA.out (by simp [tune_folded.j6])
       | succ iU =>
        have H := HA.out;clear HA;simp only [tune_folded.j6] at H
        by_cases bK : aU = true
        rotate_left
        ·replace bK := Bool.eq_false_iff.mpr bK
         subst bK;replace H := ifF H
         by_cases bn : av = 4
         rotate_left
         ·rw [if_neg bn] at H
          have ce := beq_eq_false_iff_ne.mpr bn;have cf := bne_iff_ne.mpr bn;simp only [Option.some.injEq, Prod.mk.injEq] at H;obtain ⟨rfl, rfl, rfl, rfl, rfl⟩ := H;have gj := aw.out;have gl := ax.out;have gm := ah.out;have gn := ai.out;have go := an.out;have gp := ao.out;have js := kz4 aa;have gq := aj.out;have gr := ak.out;have gs := ap.out;have gt := aq.out;have jt := kz4 ae;go_wp2;refine bodyPost_ret (results_ct rfl _ _ aB 61 #[.int .i64 av, .int .i64 ab, .int .i64 ad, .int .u64 aC] (0, 0) _ rfl (kg ae) Try.underlying61 rfl (by kernel_rfl)) rfl ?_;exact ⟨er, kh HB⟩
         rw [if_pos bn] at H;have ce := beq_iff_eq.mpr bn;have cf := bne_eq_false_iff_eq.mpr bn;clear bn
         by_cases bo : ab = ad
         rotate_left
         ·rw [if_neg bo] at H
          have cg := beq_eq_false_iff_ne.mpr bo;have ch := bne_iff_ne.mpr bo;simp only [Option.some.injEq, Prod.mk.injEq] at H;obtain ⟨rfl, rfl, rfl, rfl, rfl⟩ := H;have gu := aw.out;have gv := ax.out;have gw := ah.out;have gx := ai.out;have gy := an.out;have gz := ao.out;have ju := kz4 aa;have gA := aj.out;have gB := ak.out;have gC := ap.out;have gD := aq.out;have jv := kz4 ae;go_wp2;refine bodyPost_ret (results_ct rfl _ _ aB 61 #[.int .i64 av, .int .i64 ab, .int .i64 ad, .int .u64 aC] (0, 0) _ rfl (kg ae) Try.underlying61 rfl (by kernel_rfl)) rfl ?_;exact ⟨er, kh HB⟩
         rw [if_pos bo] at H;have cg := beq_iff_eq.mpr bo;have ch := bne_eq_false_iff_eq.mpr bo;clear bo;replace H := Option.bind_eq_some_iff.mp H;obtain ⟨⟨cV, cW, cX, cY, gE⟩, bR, H⟩ := H;(try dsimp only at H);have gF := Aside0.mk bR;clear bR;simp only [Option.some.injEq, Prod.mk.injEq] at H;obtain ⟨rfl, rfl, rfl, rfl, rfl⟩ := H;have gG := aw.out;have gH := ax.out;have gI := ah.out;have gJ := ai.out;have gK := an.out;have gL := ao.out;have jw := kz4 aa;go_wp2_with (first | ((with_reducible refine gate_dst (N := 157) rfl ?_); refine api_Slot_78.goesT0 (some 157) rfl rfl Try.func67 (by kernel_rfl) rfl #[.int .u64 0] rfl rfl (by (try simp only [qM1, qM2, qM3]); first | done | rfl) ?_; (with_reducible refine (tune_folded_1.calls 0 cV cW cX cY gE _ gF.out).mono ?_); rintro e jx ⟨rfl, hb⟩; refine ⟨_, rfl, ?_⟩; replace aa := kU aa hb; replace ae := kU ae hb; replace af := kU af hb; replace ag := kU ag hb; replace HB := kH HB hb; (try clear hb); (try clear hb2); (try clear hk); (try clear hi); have gM := aj.out; have gN := ak.out; have gO := ap.out; have gP := aq.out; have jy := kz4 ae));refine bodyPost_ret (results_ct rfl _ _ aB 61 #[.int .i64 cV, .int .i64 cW, .int .i64 cX, .int .u64 cY] (0, 0) _ rfl (kg ae) Try.underlying61 rfl (by kernel_rfl)) rfl ?_;exact ⟨er, kh HB⟩
        subst bK;replace H := ifT H;replace H := Option.bind_eq_some_iff.mp H;obtain ⟨ci, bS, H⟩ := H;(try dsimp only at H);have gQ := Aside0.mk bS;clear bS;replace H := Option.bind_eq_some_iff.mp H;obtain ⟨⟨cZ, da, db, dc, gR⟩, bT, H⟩ := H;(try dsimp only at H);have gS := Aside0.mk bT;clear bT;simp only [Option.some.injEq, Prod.mk.injEq] at H;obtain ⟨rfl, rfl, rfl, rfl, rfl⟩ := H;(try go_wp2);replace aa := kD aa; replace ae := kD ae; replace af := kD af; replace ag := kD ag; replace HB := kE HB;refine start_ (n := 14) (S := fun w' => w'.cell? ⟨al, 0, none⟩ = some (.int .i64 ((rd_T61 l1 ab).f0)) ∧ w'.cell? ⟨al, 1, none⟩ = some (.int .i64 ((rd_T61 l1 ab).f1)) ∧ w'.cell? ⟨al, 2, none⟩ = some (.int .i64 ((rd_T61 l1 ab).f2)) ∧ w'.cell? ⟨al, 3, none⟩ = some (.int .u64 ((rd_T61 l1 ab).f3)) ∧ w'.cell? ⟨aA, 0, none⟩ = some (.int .i64 av) ∧ w'.cell? ⟨aA, 1, none⟩ = some (.int .i64 ab) ∧ w'.cell? ⟨aA, 2, none⟩ = some (.int .i64 ad) ∧ w'.cell? ⟨aA, 3, none⟩ = some (.int .u64 aC)) (ds := []) (bs 14 0) (by kernel_rfl) rfl rfl ⟨kk af 0, kk af 1, kk af 2, kk af 3, kk aa 0, kk aa 1, kk aa 2, kk aa 3⟩ (fun hHeld => ?_); refine with_tabW tune_folded.tab18 tune_folded.bits18 (fun HT_ HW_ => ?_);generalize wc.drew = jz at aa ae af ag HB hHeld ⊢;refine pu 0 (some 133) (bs 14 1) HT_ ?_;refine pu 1 (some 134) (bs 14 3) HT_ ?_;refine pu 3 (some 136) (bs 14 11) HT_ ?_;refine pu 4 (some 137) (bs 14 27) HT_ ?_;refine pu 6 (some 139) (bs 14 91) HT_ ?_;refine ta 2 (some 135) (bs 14 95) HT_ HW_ hHeld ?_;refine ta 5 (some 138) (bs 14 127) HT_ HW_ hHeld ?_;refine ta 7 (some 140) (bs 14 255) HT_ HW_ hHeld ?_;refine one_ (i := 8) (N := some 141) (bs 14 511) rfl rfl (one_of HT_.out (by kernel_rfl)) (by decide) (fun K hK => ?_);refine goes_ Try.func70 (by kernel_rfl) rfl #[.int .u64 a0, .int .u64 ((rd_T61 l1 ab).f3), .int .u64 aC] (by rfl) rfl rfl (by (try simp only [qM1, qM2, qM3]); first | done | rfl) ?_;(with_reducible refine (qta.calls a0 ((rd_T61 l1 ab).f3) aC ci _ gQ.out).mono ?_);rintro e w' ⟨rfl, ⟨nd, rfl⟩⟩;refine ⟨_, rfl, ?_⟩;refine hK.out _ _ ⟨kk af 0, kk af 1, kk af 2, kk af 3, kk aa 0, kk aa 1, kk aa 2, kk aa 3⟩ (fun hHeld => ?_);clear hK K;refine no (some 141) ?_;refine one_ (i := 9) (N := some 142) (bs 14 1023) rfl rfl (one_of HT_.out (by kernel_rfl)) (by decide) (fun K hK => ?_);refine api_Slot_78.goesT0_ Try.func68 (by kernel_rfl) rfl #[.int .i64 ((rd_T61 l1 ab).f1), .int .u64 ci] (by rfl) rfl rfl rfl (by (try simp only [qM1, qM2, qM3]); first | done | rfl) ?_;(with_reducible refine (tune_folded_2.calls ((rd_T61 l1 ab).f1) ci cZ da db dc gR _ gS.out).mono ?_);rintro e bL ⟨rfl, hb⟩;refine ⟨_, rfl, ?_⟩;replace aa := kU aa hb; replace ae := kU ae hb; replace af := kU af hb; replace ag := kU ag hb; replace HB := kH HB hb;(try clear hb);refine hK.out _ _ ⟨kk af 0, kk af 1, kk af 2, kk af 3, kk aa 0, kk aa 1, kk aa 2, kk aa 3⟩ (fun hHeld => ?_);clear hK K;refine no (some 142) ?_;refine pu 10 (some 143) (bs 14 2047) HT_ ?_;refine pu 11 (some 144) (bs 14 4095) HT_ ?_;refine one_ (i := 12) (N := none) (bs 14 8191) rfl rfl (one_of HT_.out (by kernel_rfl)) (by decide) (fun K hK => ?_);have iV : bL.cell? ⟨aB, 0, none⟩ = some (.int .i64 0) := kk ae 0;have gT := blk_frozen ae.out 0;have dd := aw.out;have de := ak.out;have df := aq.out;have dg := ax.out;have dh := aj.out;have di := ap.out;have iW : bL.cell? ⟨aB, 1, none⟩ = some (.int .i64 0) := kk ae 1;have gU := blk_frozen ae.out 1;have dj := aw.out;have dk := ak.out;have dl := aq.out;have dm := ax.out;have dn := aj.out;have dp := ap.out;have iX : bL.cell? ⟨aB, 2, none⟩ = some (.int .i64 0) := kk ae 2;have gV := blk_frozen ae.out 2;have dq := aw.out;have dr := ak.out;have dt := aq.out;have du := ax.out;have dv := aj.out;have dw := ap.out;have iY : bL.cell? ⟨aB, 3, none⟩ = some (.int .u64 0) := kk ae 3;have gW := blk_frozen ae.out 3;have dx := aw.out;have dy := ak.out;have dz := aq.out;have dA := ax.out;have dB := aj.out;have dC := ap.out;refine skip_ (w1 := ?_) (by rfl) rfl ?_ ?_
        rotate_left
        ·go_simp
         rfl
        refine hK.out _ _ ⟨(kf hHeld.1), (kf hHeld.2.1), (kf hHeld.2.2.1), (kf hHeld.2.2.2.1), (kf hHeld.2.2.2.2.1), (kf hHeld.2.2.2.2.2.1), (kf hHeld.2.2.2.2.2.2.1), (kf hHeld.2.2.2.2.2.2.2)⟩ (fun hHeld => ?_);clear hK K;refine pu 13 (some 7) (bs 14 16383) HT_ ?_;refine done_ (done_of HT_.out (by kernel_rfl)) ?_;(try go_wp2);refine bodyPost_ret (results_ct rfl _ _ aB 61 #[.int .i64 cZ, .int .i64 da, .int .i64 db, .int .u64 dc] (0, 0) _ rfl (kg ae) Try.underlying61 rfl (by kernel_rfl)) rfl ?_;exact ⟨er, kh HB⟩
mutual
def tune_Fold.l0 : Nat → Int → Int → Int → List (S64) → List (S61) → List (S66) → Option ((List (S64)) × (List (S61)) × (List (S66)) × Int)
 | 0, _, _, _, _, _, _ => none
 | k + 1, x0, x21, x22, ab, aa, ad => if x22 < x21 then (tune_Fold.l1 k x0 x22 true x21 x22 ab aa ad) else (some (ab, aa, ad, 0))
def tune_Fold.l1 : Nat → Int → Int → Bool → Int → Int → List (S64) → List (S61) → List (S66) → Option ((List (S64)) × (List (S61)) × (List (S66)) × Int)
 | 0, _, _, _, _, _, _, _, _ => none
 | k + 1, x0, x8, x9, x21, x22, ab, aa, ad => if x9 = true then (if 0 ≤ x8 then (if x8 < (aa.length : Int) then ((tune_folded.f k x0 aa ((rd_T61 aa x8).f0) ((rd_T61 aa x8).f1) ((rd_T61 aa x8).f2) ((rd_T61 aa x8).f3)).bind fun ae => (tune_Fold.l1 k x0 x8 ae.2.2.2.2 x21 x22 ab (aa.set (x8 : Int).toNat (⟨ae.1, ae.2.1, ae.2.2.1, ae.2.2.2.1⟩ : S61)) ad)) else (none)) else (none)) else (tune_Fold.l0 k x0 x21 (wrap64 (x22 + 1)) ab aa ad)
end
def tune_Fold.f (k : Nat) (a0 : Int) (ab : List (S64)) (ad : List (S61)) (ae : List (S66)) : Option ((List (S64)) × (List (S61)) × (List (S66)) × Int) := (circ_Check.f k a0 ab ad ae).bind fun af => (if af = 0 then ((tune_Own.f k ab ad ae).bind fun aa => (tune_Fold.l0 k a0 (aa.2.1.length : Int) 0 aa.1 aa.2.1 aa.2.2)) else (some (([] : List (S64)), ([] : List (S61)), ([] : List (S66)), af)))
theorem tune_Fold.mono_l : ∀ k, (∀ y0 y1 y2 y3 y4 y5, LeO (tune_Fold.l0 k y0 y1 y2 y3 y4 y5) (tune_Fold.l0 (k + 1) y0 y1 y2 y3 y4 y5)) ∧ (∀ y0 y1 y2 y3 y4 y5 y6 y7, LeO (tune_Fold.l1 k y0 y1 y2 y3 y4 y5 y6 y7) (tune_Fold.l1 (k + 1) y0 y1 y2 y3 y4 y5 y6 y7))
 | 0 => ⟨fun _ _ _ _ _ _ r h => by simp [tune_Fold.l0] at h, fun _ _ _ _ _ _ _ _ r h => by simp [tune_Fold.l1] at h⟩
 | k + 1 => by
  obtain ⟨ih0, ih1⟩ := tune_Fold.mono_l k;refine ⟨?_, ?_⟩
  ·intro y0 y1 y2 y3 y4 y5
   unfold tune_Fold.l0
   repeat' first
   | (with_reducible exact ih0 _ _ _ _ _ _)
   | (with_reducible exact ih1 _ _ _ _ _ _ _ _)
   | (with_reducible exact circ_Check.mono _ _ _ _ _)
   | (with_reducible exact tune_Own.mono _ _ _ _)
   | (with_reducible exact tune_folded.mono _ _ _ _ _ _ _)
   | (with_reducible exact LeO.refl _)
   | (with_reducible exact LeO.none _)
   | (with_reducible refine LeO.ite ?_ ?_)
   | (with_reducible refine LeO.bind ?_ (fun _ => ?_))
   | exact ih0 _ _ _ _ _ _
   | exact ih1 _ _ _ _ _ _ _ _
   | exact circ_Check.mono _ _ _ _ _
   | exact tune_Own.mono _ _ _ _
   | exact tune_folded.mono _ _ _ _ _ _ _
   | exact LeO.none _
   | refine LeO.ite ?_ ?_
   | refine LeO.bind ?_ (fun _ => ?_)
  ·intro y0 y1 y2 y3 y4 y5 y6 y7
   unfold tune_Fold.l1
   repeat' first
   | (with_reducible exact ih0 _ _ _ _ _ _)
   | (with_reducible exact ih1 _ _ _ _ _ _ _ _)
   | (with_reducible exact circ_Check.mono _ _ _ _ _)
   | (with_reducible exact tune_Own.mono _ _ _ _)
   | (with_reducible exact tune_folded.mono _ _ _ _ _ _ _)
   | (with_reducible exact LeO.refl _)
   | (with_reducible exact LeO.none _)
   | (with_reducible refine LeO.ite ?_ ?_)
   | (with_reducible refine LeO.bind ?_ (fun _ => ?_))
   | exact ih0 _ _ _ _ _ _
   | exact ih1 _ _ _ _ _ _ _ _
   | exact circ_Check.mono _ _ _ _ _
   | exact tune_Own.mono _ _ _ _
   | exact tune_folded.mono _ _ _ _ _ _ _
   | exact LeO.none _
   | refine LeO.ite ?_ ?_
   | refine LeO.bind ?_ (fun _ => ?_)
theorem tune_Fold.mono : ∀ a0 a1 a2 a3 k, LeO (tune_Fold.f k a0 a1 a2 a3) (tune_Fold.f (k + 1) a0 a1 a2 a3) := by
 intro a0 a1 a2 a3 k;obtain ⟨ih0, ih1⟩ := tune_Fold.mono_l k;unfold tune_Fold.f
 repeat' first
   | (with_reducible exact ih0 _ _ _ _ _ _)
   | (with_reducible exact ih1 _ _ _ _ _ _ _ _)
   | (with_reducible exact circ_Check.mono _ _ _ _ _)
   | (with_reducible exact tune_Own.mono _ _ _ _)
   | (with_reducible exact tune_folded.mono _ _ _ _ _ _ _)
   | (with_reducible exact LeO.refl _)
   | (with_reducible exact LeO.none _)
   | (with_reducible refine LeO.ite ?_ ?_)
   | (with_reducible refine LeO.bind ?_ (fun _ => ?_))
   | exact ih0 _ _ _ _ _ _
   | exact ih1 _ _ _ _ _ _ _ _
   | exact circ_Check.mono _ _ _ _ _
   | exact tune_Own.mono _ _ _ _
   | exact tune_folded.mono _ _ _ _ _ _ _
   | exact LeO.none _
   | refine LeO.ite ?_ ?_
   | refine LeO.bind ?_ (fun _ => ?_)
def tune_Fold.T10 : Bool × List (List Nat × List Nat) := (true, [([], []), ([0], [0]), ([], []), ([], []), ([], []), ([4], [4]), ([], []), ([6], [6]), ([], []), ([7, 8], [7, 8]), ([9], [9]), ([3, 5, 10], [3, 5, 10]), ([11], [11]), ([12], [12]), ([12], [12]), ([1, 2, 0, 1, 2, 3, 4, 5, 6, 7, 8, 9, 10, 11, 12, 13], [1, 2]), ([15, 13, 11, 0, 1, 2, 3, 4, 5, 6, 7, 8, 9, 10, 11, 12, 13], [13, 15]), ([14, 16, 0, 1, 2, 3, 4, 5, 6, 7, 8, 9, 10, 11, 12, 13, 14, 15, 16], [14])])
def tune_Fold.B10 : List Nat := [0, 1, 0, 0, 0, 16, 0, 64, 0, 448, 960, 2040, 4088, 8184, 8184, 16383, 49151, 131071]
theorem tune_Fold.tab10 : rtab .any (opsOf Try.f16 10) = tune_Fold.T10 := by kernel_rfl
theorem tune_Fold.bits10 : waitsOk tune_Fold.T10.2 tune_Fold.B10 = true := by kernel_rfl
theorem tune_Fold.calls (k : Nat) (a0 : Int) (aI : Option Addr) (aJ : Nat) (aq : List (S64)) (aK : Option Addr) (aL : Nat) (ar : List (S61)) (aM : Option Addr) (aN : Nat) (au : List (S66)) (r1 : List (S64)) (r2 : List (S61)) (r3 : List (S66)) (r4 : Int) (w : World) (bo : Kd.C k64 w aI aq.length aq) (bp : aq.length ≤ aJ) (bq : Kd.C k61 w aK ar.length ar) (br : ar.length ≤ aL) (bt : Kd.C k66 w aM au.length au) (bu : au.length ≤ aN) (h : tune_Fold.f k a0 aq ar au = some (r1, r2, r3, r4)) :
  Calls Try.prog 16 #[.int .u64 a0, .agg #[.slice aI aq.length aJ, .slice aK ar.length aL, .slice aM au.length aN]] w fun e w' => ∃ v0_ v1_ v2_ : Value, e = .returned (.tuple #[.agg #[v0_, v1_, v2_], .int .i64 r4]) ∧ Kd.R k64 64 w' w.heap.size (fun _ => True) v0_ r1 ∧ Kd.R k61 61 w' w.heap.size (fun _ => True) v1_ r2 ∧ Kd.S k66 66 w' w.heap.size (fun _ => True) v2_ r3 ∧ Below w.heap.size w w' := by
 have hu26 := Try.underlying26;have hu61 := Try.underlying61;have bc := Aside0.mk bo;have bd := Aside0.mk bp;clear bo bp;have be := Aside0.mk bq;have bf := Aside0.mk br;clear bq br;have bg := Aside0.mk bt;have bh := Aside0.mk bu;clear bt bu;have HB := Aside0.mk (Below.refl w.heap.size w);have H : ((circ_Check.f k a0 aq ar au).bind fun bb => (if bb = 0 then ((tune_Own.f k aq ar au).bind fun aX => (tune_Fold.l0 k a0 (aX.2.1.length : Int) 0 aX.1 aX.2.1 aX.2.2)) else (some (([] : List (S64)), ([] : List (S61)), ([] : List (S66)), bb)))) = some (r1, r2, r3, r4) := h;clear h;replace H := Option.bind_eq_some_iff.mp H;obtain ⟨bb, A30, H⟩ := H;(try dsimp only at H);have A3 := Aside0.mk A30;clear A30
 by_cases c4 : bb = 0
 rotate_left
 ·rw [if_neg c4] at H
  have bC := beq_eq_false_iff_ne.mpr c4;have bD := bne_iff_ne.mpr c4;simp only [Option.some.injEq, Prod.mk.injEq] at H;obtain ⟨rfl, rfl, rfl, rfl⟩ := H;go_enter Try.func16, Try.ntmps16;go_wp2_with (first | ((with_reducible refine gate_dst (N := 3) rfl ?_); refine box_event ?hg (N := 3) ?hd (cs := #[.slice aI aq.length aJ, .slice aK ar.length aL, .slice aM au.length aN]) (t := 26) ?hr ?_; (case hd => rfl); (case hg => rfl); (case hr => first | (go_simp; done) | (go_simp; rfl)); intro bi hg w36 hbox hb; have ae := am hbox; have bE := kG HB hg; have bF := kG HB hg; replace HB := kH HB hb; clear hb hbox hg) | ((with_reducible refine gate_dst (N := 4) rfl ?_); refine box_event ?hg (N := 4) ?hd (cs := #[.slice none 0 0, .slice none 0 0, .slice none 0 0]) (t := 26) ?hr ?_; (case hd => rfl); (case hg => rfl); (case hr => first | (go_simp; done) | (go_simp; rfl)); intro al hg w37 hbox hb; have af := am hbox; have bG := kG HB hg; have bH := kG HB hg; replace HB := kH HB hb; have aw := kP ae hg; have ax := kQ ae hg; replace ae := kU ae hb; clear hb hbox hg; have cd := aw.out; have ce := ax.out; have Z39 := kz3 ae) | ((with_reducible refine gate_callee (f := 37) rfl ?_); refine goesL_ (some 12) rfl rfl Try.func37 (by kernel_rfl) rfl #[.int .u64 a0, .agg #[.slice aI aq.length aJ, .slice aK ar.length aL, .slice aM au.length aN]] rfl (by (try simp only [qM1, qM2, qM3]); first | done | rfl) ?_; (with_reducible refine (circ_Check.calls k a0 _ _ aq _ _ ar _ _ au bb _ ?side1 ?side2 ?side3 ?side4 ?side5 ?side6 A3.out).mono ?_); (case side1 => repeat (first | exact (Kd.C_below bc.out HB.out) | (with_reducible first | refine Kd.C_alloc ?_ _ | refine Kd.C_drewN ?_ _ | refine Kd.C_drew ?_))); (case side2 => exact bd.out); (case side3 => repeat (first | exact (Kd.C_below be.out HB.out) | (with_reducible first | refine Kd.C_alloc ?_ _ | refine Kd.C_drewN ?_ _ | refine Kd.C_drew ?_))); (case side4 => exact bf.out); (case side5 => repeat (first | exact (Kd.C_below bg.out HB.out) | (with_reducible first | refine Kd.C_alloc ?_ _ | refine Kd.C_drewN ?_ _ | refine Kd.C_drew ?_))); (case side6 => exact bh.out); rintro e w40 ⟨rfl, hb⟩; refine ⟨_, rfl, ?_⟩; replace ae := kU ae hb; replace af := kU af hb; replace HB := kH HB hb; (try clear hb); (try clear hb2); (try clear hk); (try clear hi); have Z41 := kz3 af));refine bodyPost_ret (results_ct rfl _ _ al 26 #[.slice none 0 0, .slice none 0 0, .slice none 0 0] (0, 0) _ rfl (kg af) Try.underlying26 rfl (by kernel_rfl)) rfl ?_;exact ⟨_, _, _, er, by first | exact Kd.R_nil _ _ _ _ _ | exact Kd.N_nil _ _ _ _ _ | exact Kd.V_nil _ _ _ _ _ | exact Kd.Q_nil _ _ _ _ _ | exact Kd.S_nil _ _ _ _ _, by first | exact Kd.R_nil _ _ _ _ _ | exact Kd.N_nil _ _ _ _ _ | exact Kd.V_nil _ _ _ _ _ | exact Kd.Q_nil _ _ _ _ _ | exact Kd.S_nil _ _ _ _ _, by first | exact Kd.S_nil _ _ _ _ _ | exact Kd.N_nil _ _ _ _ _ | exact Kd.V_nil _ _ _ _ _ | exact Kd.Q_nil _ _ _ _ _ | exact Kd.R_nil _ _ _ _ _, kh HB⟩
 rw [if_pos c4] at H;have bC := beq_iff_eq.mpr c4;have bD := bne_eq_false_iff_eq.mpr c4;clear c4;replace H := Option.bind_eq_some_iff.mp H;obtain ⟨⟨ao, aD, ap⟩, A50, H⟩ := H;(try dsimp only at H);have A5 := Aside0.mk A50;clear A50;have H' := Aside0.mk H;clear H;go_enter Try.func16, Try.ntmps16;go_wp2_with (first | ((with_reducible refine gate_dst (N := 3) rfl ?_); refine box_event ?hg (N := 3) ?hd (cs := #[.slice aI aq.length aJ, .slice aK ar.length aL, .slice aM au.length aN]) (t := 26) ?hr ?_; (case hd => rfl); (case hg => rfl); (case hr => first | (go_simp; done) | (go_simp; rfl)); intro bi hg w6 hbox hb; have ae := am hbox; have bE := kG HB hg; have bF := kG HB hg; replace HB := kH HB hb; clear hb hbox hg) | ((with_reducible refine gate_dst (N := 4) rfl ?_); refine box_event ?hg (N := 4) ?hd (cs := #[.slice none 0 0, .slice none 0 0, .slice none 0 0]) (t := 26) ?hr ?_; (case hd => rfl); (case hg => rfl); (case hr => first | (go_simp; done) | (go_simp; rfl)); intro al hg w7 hbox hb; have af := am hbox; have bG := kG HB hg; have bH := kG HB hg; replace HB := kH HB hb; have aw := kP ae hg; have ax := kQ ae hg; replace ae := kU ae hb; clear hb hbox hg; have cu := aw.out; have cv := ax.out; have Z9 := kz3 ae) | ((with_reducible refine gate_callee (f := 37) rfl ?_); refine goesL_ (some 12) rfl rfl Try.func37 (by kernel_rfl) rfl #[.int .u64 a0, .agg #[.slice aI aq.length aJ, .slice aK ar.length aL, .slice aM au.length aN]] rfl (by (try simp only [qM1, qM2, qM3]); first | done | rfl) ?_; (with_reducible refine (circ_Check.calls k a0 _ _ aq _ _ ar _ _ au bb _ ?side1 ?side2 ?side3 ?side4 ?side5 ?side6 A3.out).mono ?_); (case side1 => repeat (first | exact (Kd.C_below bc.out HB.out) | (with_reducible first | refine Kd.C_alloc ?_ _ | refine Kd.C_drewN ?_ _ | refine Kd.C_drew ?_))); (case side2 => exact bd.out); (case side3 => repeat (first | exact (Kd.C_below be.out HB.out) | (with_reducible first | refine Kd.C_alloc ?_ _ | refine Kd.C_drewN ?_ _ | refine Kd.C_drew ?_))); (case side4 => exact bf.out); (case side5 => repeat (first | exact (Kd.C_below bg.out HB.out) | (with_reducible first | refine Kd.C_alloc ?_ _ | refine Kd.C_drewN ?_ _ | refine Kd.C_drew ?_))); (case side6 => exact bh.out); rintro e w10 ⟨rfl, hb⟩; refine ⟨_, rfl, ?_⟩; replace ae := kU ae hb; replace af := kU af hb; replace HB := kH HB hb; (try clear hb); (try clear hb2); (try clear hk); (try clear hi); have Z11 := kz3 ae) | ((with_reducible refine gate_callee (f := 38) rfl ?_); refine goesL_ (some 18) rfl rfl Try.func38 (by kernel_rfl) rfl #[.agg #[.slice aI aq.length aJ, .slice aK ar.length aL, .slice aM au.length aN]] rfl (by (try simp only [qM1, qM2, qM3]); first | done | rfl) ?_; (with_reducible refine (tune_Own.calls k _ _ aq _ _ ar _ _ au ao aD ap _ ?side1 ?side2 ?side3 ?side4 ?side5 ?side6 A5.out).mono ?_); (case side1 => repeat (first | exact (Kd.C_below bc.out HB.out) | (with_reducible first | refine Kd.C_alloc ?_ _ | refine Kd.C_drewN ?_ _ | refine Kd.C_drew ?_))); (case side2 => exact bd.out); (case side3 => repeat (first | exact (Kd.C_below be.out HB.out) | (with_reducible first | refine Kd.C_alloc ?_ _ | refine Kd.C_drewN ?_ _ | refine Kd.C_drew ?_))); (case side4 => exact bf.out); (case side5 => repeat (first | exact (Kd.C_below bg.out HB.out) | (with_reducible first | refine Kd.C_alloc ?_ _ | refine Kd.C_drewN ?_ _ | refine Kd.C_drew ?_))); (case side6 => exact bh.out); rintro e w12 ⟨cw, cx, cy, rfl, ho0, ho1, ho2, hb⟩; refine ⟨_, rfl, ?_⟩; have aY := kLR ho0 HB; have aZ := kLR ho1 HB; have ba := kLS ho2 HB; replace ae := kU ae hb; replace af := kU af hb; replace HB := kH HB hb; (try clear hb); (try clear hb2); (try clear hk); (try clear hi); (try clear ho0); (try clear ho1); (try clear ho2)) | ((with_reducible refine gate_dst (N := 7) rfl ?_); refine box_event ?hg (N := 7) ?hd (cs := #[.slice none 0 0, .slice none 0 0, .slice none 0 0]) (t := 26) ?hr ?_; (case hd => rfl); (case hg => rfl); (case hr => first | (go_simp; done) | (go_simp; rfl)); intro an hg w13 hbox hb; replace aY := kR aY hb; replace aZ := kR aZ hb; replace ba := kS ba hb; have ag := am hbox; have cf := kG HB hg; have cg := kG HB hg; replace HB := kH HB hb; have aE := kP ae hg; have aF := kQ ae hg; replace ae := kU ae hb; have aG := kP af hg; have aH := kQ af hg; replace af := kU af hb; clear hb hbox hg; obtain ⟨az, aA, bP⟩ := Kd.R_slice aY.out; subst bP; have ch := aF.out; have ci := aE.out; have cj := aH.out; have ck := aG.out; have Z17 := kz3 ag; obtain ⟨bj, bk, bQ⟩ := Kd.R_slice aZ.out; subst bQ; obtain ⟨aB, aC, bR⟩ := Kd.S_slice ba.out; subst bR));go_loopg [22] k (fun kq v22 w' => ∃ (ad : Int) (aj : List (S61)) (ak : Value), v22 = .int .i64 ad ∧ Aside0 (tune_Fold.l0 kq a0 (aD.length : Int) ad ao aj ap = some (r1, r2, r3, r4)) ∧ Aside0 (kq ≤ k) ∧ Aside0 (Kd.R k64 64 w' w.heap.size (fun _ => True) (.slice az ao.length aA) ao) ∧ Aside0 (Kd.R k61 61 w' w.heap.size (fun _ => True) ak aj) ∧ Aside0 (Kd.S k66 66 w' w.heap.size (fun _ => True) (.slice aB ap.length aC) ap) ∧ Aside0 (w'.heap[bi]? = some (.cells #[(.slice aI aq.length aJ), (.slice aK ar.length aL), (.slice aM au.length aN)] 26 (0, 0))) ∧ Aside0 (w'.heap[al]? = some (.cells #[(.slice none 0 0), (.slice none 0 0), (.slice none 0 0)] 26 (0, 0))) ∧ Aside0 (w'.heap[an]? = some (.cells #[(.slice az ao.length aA), ak, (.slice aB ap.length aC)] 26 (0, 0))) ∧ Aside0 (Below w.heap.size w w'))
 case atStart => exact ⟨(0), (aD), (.slice bj aD.length bk), et, H', ⟨Nat.le_refl _⟩, ⟨by (with_reducible repeat first | apply Kd.R_alloc | apply Kd.R_drewN | apply Kd.R_drew); exact Kd.R_mono (Kd.R_far (p := ⟨an, 2, none⟩) (Kd.R_far (p := ⟨an, 1, none⟩) (Kd.R_far (p := ⟨an, 0, none⟩) (Kd.R_types aY.out ag.out (by decide)) (fun _ hk => hk.2) (.slice az ao.length aA)) (fun _ hk => hk.2) (.slice bj aD.length bk)) (fun _ hk => hk.2) (.slice aB ap.length aC)) (fun _ hk => trivial)⟩, ⟨by (with_reducible repeat first | apply Kd.R_alloc | apply Kd.R_drewN | apply Kd.R_drew); exact Kd.R_mono (Kd.R_far (p := ⟨an, 2, none⟩) (Kd.R_far (p := ⟨an, 1, none⟩) (Kd.R_far (p := ⟨an, 0, none⟩) (Kd.R_types aZ.out ag.out (by decide)) (fun _ hk => hk.2) (.slice az ao.length aA)) (fun _ hk => hk.2) (.slice bj aD.length bk)) (fun _ hk => hk.2) (.slice aB ap.length aC)) (fun _ hk => trivial)⟩, ⟨by (with_reducible repeat first | apply Kd.S_alloc | apply Kd.S_drewN | apply Kd.S_drew); exact Kd.S_mono (Kd.S_far (p := ⟨an, 2, none⟩) (Kd.S_far (p := ⟨an, 1, none⟩) (Kd.S_far (p := ⟨an, 0, none⟩) (Kd.S_types ba.out ag.out (by decide)) (fun _ hk => hk.2) (.slice az ao.length aA)) (fun _ hk => hk.2) (.slice bj aD.length bk)) (fun _ hk => hk.2) (.slice aB ap.length aC)) (fun _ hk => trivial)⟩, ⟨kg ae⟩, ⟨kg af⟩, ⟨kg ag⟩, ⟨kh HB⟩⟩
 case round =>
  clear H';(try clear bC bD Z11 Z17 Z9);obtain ⟨ad, aj, ak, rfl, HA, HK1, ah, aa, ai, ae, af, ag, HB⟩ := hrel
  cases gk with
  | zero => exact absurd HA.out (by simp [tune_Fold.l0])
  | succ k1 =>
   have H := HA.out;clear HA;simp only [tune_Fold.l0] at H
   by_cases c20 : ad < (aD.length : Int)
   rotate_left
   ·rw [if_neg c20] at H
    have bv := decide_eq_false c20;clear c20;simp only [Option.some.injEq, Prod.mk.injEq] at H;obtain ⟨rfl, rfl, rfl, rfl⟩ := H;have cl := aF.out;have cm := aE.out;have cn := aH.out;have co := aG.out;have Z32 := kz3 ag;have cp := ax.out;have cq := aw.out;have Z34 := kz3 af;obtain ⟨bl, bm, bS⟩ := Kd.R_slice aa.out;subst bS;go_wp2;refine bodyPost_ret (results_ct rfl _ _ al 26 #[.slice az ao.length aA, .slice bl aj.length bm, .slice aB ap.length aC] (0, 0) _ rfl (kg af) Try.underlying26 rfl (by kernel_rfl)) rfl ?_;exact ⟨_, _, _, er, by (with_reducible repeat first | apply Kd.R_alloc | apply Kd.R_drewN | apply Kd.R_drew); exact Kd.R_mono (Kd.R_far (p := ⟨al, 2, none⟩) (Kd.R_far (p := ⟨al, 1, none⟩) (Kd.R_far (p := ⟨al, 0, none⟩) (Kd.R_types ah.out af.out (by decide)) (fun _ hk => hk.2) (.slice az ao.length aA)) (fun _ hk => hk.2) (.slice bl aj.length bm)) (fun _ hk => hk.2) (.slice aB ap.length aC)) (fun _ hk => trivial), by (with_reducible repeat first | apply Kd.R_alloc | apply Kd.R_drewN | apply Kd.R_drew); exact Kd.R_mono (Kd.R_far (p := ⟨al, 2, none⟩) (Kd.R_far (p := ⟨al, 1, none⟩) (Kd.R_far (p := ⟨al, 0, none⟩) (Kd.R_types aa.out af.out (by decide)) (fun _ hk => hk.2) (.slice az ao.length aA)) (fun _ hk => hk.2) (.slice bl aj.length bm)) (fun _ hk => hk.2) (.slice aB ap.length aC)) (fun _ hk => trivial), by (with_reducible repeat first | apply Kd.S_alloc | apply Kd.S_drewN | apply Kd.S_drew); exact Kd.S_mono (Kd.S_far (p := ⟨al, 2, none⟩) (Kd.S_far (p := ⟨al, 1, none⟩) (Kd.S_far (p := ⟨al, 0, none⟩) (Kd.S_types ai.out af.out (by decide)) (fun _ hk => hk.2) (.slice az ao.length aA)) (fun _ hk => hk.2) (.slice bl aj.length bm)) (fun _ hk => hk.2) (.slice aB ap.length aC)) (fun _ hk => trivial), kh HB⟩
   rw [if_pos c20] at H;have bv := decide_eq_true c20;clear c20;have H' := Aside0.mk H;clear H;go_wp2;go_loopg [9] k1 (fun kq v9 w' => ∃ (bn : Bool) (ab : List (S61)) (ak : Value), v9 = .bool bn ∧ Aside0 (tune_Fold.l1 kq a0 ad bn (aD.length : Int) ad ao ab ap = some (r1, r2, r3, r4)) ∧ Aside0 (kq ≤ k1) ∧ Aside0 (Kd.R k64 64 w' w.heap.size (fun _ => True) (.slice az ao.length aA) ao) ∧ Aside0 (Kd.R k61 61 w' w.heap.size (fun _ => True) ak ab) ∧ Aside0 (Kd.S k66 66 w' w.heap.size (fun _ => True) (.slice aB ap.length aC) ap) ∧ Aside0 (w'.heap[bi]? = some (.cells #[(.slice aI aq.length aJ), (.slice aK ar.length aL), (.slice aM au.length aN)] 26 (0, 0))) ∧ Aside0 (w'.heap[al]? = some (.cells #[(.slice none 0 0), (.slice none 0 0), (.slice none 0 0)] 26 (0, 0))) ∧ Aside0 (w'.heap[an]? = some (.cells #[(.slice az ao.length aA), ak, (.slice aB ap.length aC)] 26 (0, 0))) ∧ Aside0 (Below w.heap.size w w'))
   case atStart => exact ⟨(true), (aj), (ak), et, H', ⟨Nat.le_refl _⟩, ⟨krR ah⟩, ⟨krR aa⟩, ⟨krS ai⟩, ⟨kg ae⟩, ⟨kg af⟩, ⟨kg ag⟩, ⟨kh HB⟩⟩
   case round =>
    clear H'; (try clear bv);obtain ⟨bn, ab, ak, rfl, HA, HK2, ah, aa, ai, ae, af, ag, HB⟩ := hrel
    cases gk with
    | zero => exact absurd HA.out (by simp [tune_Fold.l1])
    | succ k2 =>
     have H := HA.out;clear HA;simp only [tune_Fold.l1] at H
     by_cases c21 : bn = true
     rotate_left
     ·replace c21 := Bool.eq_false_iff.mpr c21
      subst c21;replace H := ifF H;have H' := Aside0.mk H;clear H;go_wp2;go_roundg k2
      case measure => have := HK1.out; have := HK2.out; omega
      case rel => exact ⟨(wrap64 (ad + 1)), (ab), (ak), et, H', ⟨by have := HK1.out; have := HK2.out; omega⟩, ⟨krR ah⟩, ⟨krR aa⟩, ⟨krS ai⟩, ⟨kg ae⟩, ⟨kg af⟩, ⟨kg ag⟩, ⟨kh HB⟩⟩
     subst c21;replace H := ifT H
     by_cases c22 : 0 ≤ ad
     rotate_left
     ·rw [if_neg c22] at H
      exact absurd H (by simp)
     rw [if_pos c22] at H;have cr := decide_eq_true c22;clear c22
     by_cases c23 : ad < (ab.length : Int)
     rotate_left
     ·rw [if_neg c23] at H
      exact absurd H (by simp)
     rw [if_pos c23] at H;have ct := decide_eq_true c23;clear c23;replace H := Option.bind_eq_some_iff.mp H;obtain ⟨⟨aT, aU, aV, aW, bw⟩, bI, H⟩ := H;(try dsimp only at H);have A24 := Aside0.mk bI;clear bI;obtain ⟨bJ, aS⟩ : ∃ y_ : List (S61), y_ = (ab.set (ad : Int).toNat (⟨aT, aU, aV, aW⟩ : S61)) := ⟨_, rfl⟩
     replace H : (tune_Fold.l1 k2 a0 ad bw (aD.length : Int) ad ao bJ ap) = some (r1, r2, r3, r4) := by first | (rw [aS]; with_reducible exact H) | (have H2_ := (Option.bind_some _ _).symm.trans H; rw [aS]; with_reducible exact H2_) | (have H2_ := (Option.bind_some _ _).symm.trans H; with_reducible exact H2_) | with_reducible exact H | (rw [aS]; exact H) | exact H
     have bK := Aside0.mk aS;clear aS;have H' := Aside0.mk H;clear H;(try go_wp2);replace ah := kFR ah; replace aa := kFR aa; replace ai := kFS ai; replace ae := kD ae; replace af := kD af; replace ag := kD ag; replace HB := kE HB;obtain ⟨cz, bx, bL⟩ := Kd.R_slice aa.out;(first | subst bL | (injection bL with f1_ f2_ f3_; have f4_ := f1_.symm; have f5_ := f3_.symm; clear f1_ f2_ f3_; subst f4_; subst f5_));have bz : 0 ≤ (ad : Int) := od;have bA : ad < (ab.length : Int) := od;obtain ⟨ay, bT, aO, aP, aQ, aR⟩ := at_T61 (Kd.R_reads' aa.out).2.2 ad bz bA;cases bT;replace bz := eq_true bz; replace bA := eq_true bA;refine start_ (n := 18) (S := fun w' => w'.cell? ⟨an, 0, none⟩ = some (.slice az ao.length aA) ∧ w'.cell? ⟨an, 1, none⟩ = some (.slice (some ay) ab.length bx) ∧ w'.cell? ⟨an, 2, none⟩ = some (.slice aB ap.length aC) ∧ w'.cell? (ay.add ((ad).toNat * 4)) = some (.int .i64 ((rd_T61 ab ad).f0)) ∧ w'.cell? ⟨(ay.add ((ad).toNat * 4)).block, (ay.add ((ad).toNat * 4)).off + 1, none⟩ = some (.int .i64 ((rd_T61 ab ad).f1)) ∧ w'.cell? ⟨(ay.add ((ad).toNat * 4)).block, (ay.add ((ad).toNat * 4)).off + 2, none⟩ = some (.int .i64 ((rd_T61 ab ad).f2)) ∧ w'.cell? ⟨(ay.add ((ad).toNat * 4)).block, (ay.add ((ad).toNat * 4)).off + 3, none⟩ = some (.int .u64 ((rd_T61 ab ad).f3))) (ds := [16]) (bs 18 0) (by kernel_rfl) rfl rfl ⟨kk ag 0, kk ag 1, kk ag 2, aO, aP, aQ, aR⟩ (fun hHeld => ?_); refine with_tabW tune_Fold.tab10 tune_Fold.bits10 (fun HT_ HW_ => ?_);generalize wr.drew = w26 at ah aa ai ae af ag HB aO aP aQ aR hHeld ⊢;refine pu 0 (some 27) (bs 18 1) HT_ ?_;refine pu 2 (some 29) (bs 18 5) HT_ ?_;refine pu 3 (some 30) (bs 18 13) HT_ ?_;refine pu 4 (some 31) (bs 18 29) HT_ ?_;refine pu 6 (some 33) (bs 18 93) HT_ ?_;refine pu 8 (some 35) (bs 18 349) HT_ ?_;refine ta 1 (some 28) (bs 18 351) HT_ HW_ hHeld ?_;refine ta 5 (some 32) (bs 18 383) HT_ HW_ hHeld ?_;refine ta 7 (some 34) (bs 18 511) HT_ HW_ hHeld ?_;refine pu 9 (some 36) (bs 18 1023) HT_ ?_;refine ta 10 (some 37) (bs 18 2047) HT_ HW_ hHeld ?_;refine one_ (i := 11) (N := some 38) (bs 18 4095) rfl rfl (one_of HT_.out (by kernel_rfl)) (by decide) (fun K hK => ?_);refine goes_ Try.func39 (by kernel_rfl) rfl #[.int .u64 a0, .slice (some ay) ab.length bx, .agg #[.int .i64 ((rd_T61 ab ad).f0), .int .i64 ((rd_T61 ab ad).f1), .int .i64 ((rd_T61 ab ad).f2), .int .u64 ((rd_T61 ab ad).f3)]] (by rfl) rfl rfl (by (try simp only [qM1, qM2, qM3]); first | done | rfl) ?_;(with_reducible refine (tune_folded.calls k2 a0 _ _ ab ((rd_T61 ab ad).f0) ((rd_T61 ab ad).f1) ((rd_T61 ab ad).f2) ((rd_T61 ab ad).f3) aT aU aV aW bw _ ?side1 ?side2 A24.out).mono ?_);(case side1 => repeat (first | exact (Kd.R_reads' aa.out).2.2 | (with_reducible first | refine Kd.C_alloc ?_ _ | refine Kd.C_drewN ?_ _ | refine Kd.C_drew ?_)));(case side2 => exact (Kd.R_reads' aa.out).2.1);rintro e w28 ⟨rfl, hb⟩;have HS3_ := (hb.cell (World.block_lt_of_cell? _ _ (hHeld.2.2.2.1))).trans (hHeld.2.2.2.1);have HS4_ := (hb.cell (World.block_lt_of_cell? _ _ (hHeld.2.2.2.2.1))).trans (hHeld.2.2.2.2.1);have HS5_ := (hb.cell (World.block_lt_of_cell? _ _ (hHeld.2.2.2.2.2.1))).trans (hHeld.2.2.2.2.2.1);have HS6_ := (hb.cell (World.block_lt_of_cell? _ _ (hHeld.2.2.2.2.2.2))).trans (hHeld.2.2.2.2.2.2);refine ⟨_, rfl, ?_⟩;replace ah := kR ah hb; replace aa := kR aa hb; replace ai := kS ai hb; replace ae := kU ae hb; replace af := kU af hb; replace ag := kU ag hb; replace HB := kH HB hb;(try clear hb);have p25 : 0 ≤ (ad : Int) := od;have q25 : (ad : Int) < ((ab.length : Int) : Int) := od;obtain ⟨av, cA, bM, bN, gl25, cl25, HG25⟩ := Kd.R_form aa.out (by omega);(first | cases bM | (injection bM with ea_ en_ ec_; (first | subst ea_ | (injection ea_ with ea_; subst ea_)); subst ec_; clear en_));have cB := Aside0.mk bN;have bO := Aside0.mk HG25;clear bN gl25 HG25;(first | simp only [add_plain] at aO | skip);(first | simp only [add_plain] at aP | skip);(first | simp only [add_plain] at aQ | skip);(first | simp only [add_plain] at aR | skip);obtain ⟨ce25, hcl25, hM25, hcc25, hfr25⟩ := Kd.R_elem aa.out z61 (ad : Int) p25 q25;obtain rfl := k61_openM hM25;have bU : World.cell? _ ⟨av, (ad : Int).toNat * 4, none⟩ = some (.int .i64 ((rd_T61 ab ad).f0)) := hcc25 0 _ rfl;have bV : World.cell? _ ⟨av, (ad : Int).toNat * 4 + 1, none⟩ = some (.int .i64 ((rd_T61 ab ad).f1)) := hcc25 1 _ rfl;have bW : World.cell? _ ⟨av, (ad : Int).toNat * 4 + 2, none⟩ = some (.int .i64 ((rd_T61 ab ad).f2)) := hcc25 2 _ rfl;have bX : World.cell? _ ⟨av, (ad : Int).toNat * 4 + 3, none⟩ = some (.int .u64 ((rd_T61 ab ad).f3)) := hcc25 3 _ rfl;have bY : World.frozen? _ ⟨av, (ad : Int).toNat * 4, none⟩ = false := hfr25 0;have bZ : World.frozen? _ ⟨av, (ad : Int).toNat * 4 + 1, none⟩ = false := hfr25 1;have ca : World.frozen? _ ⟨av, (ad : Int).toNat * 4 + 2, none⟩ = false := hfr25 2;have cb : World.frozen? _ ⟨av, (ad : Int).toNat * 4 + 3, none⟩ = false := hfr25 3;clear hcl25 hcc25 hfr25 hM25; replace p25 := eq_true p25; replace q25 := eq_true q25;obtain ⟨ce29, hcl29, hM29, hcc29, hfr29⟩ := Kd.R_elem aa.out z61 (ad : Int) od (by have h_ : (ad : Int) < ((ab.length : Int) : Int) := od; first | exact h_ | (have e_ := (Kd.R_reads' aa.out).1; omega) | simpa using h_);obtain rfl := k61_openM hM29;have bB := (Kd.R_seg aa.out (ad : Int) od (by have h_ : (ad : Int) < ((ab.length : Int) : Int) := od; first | exact h_ | (have e_ := (Kd.R_reads' aa.out).1; omega) | simpa using h_) (seg := [.int .i64 aT, .int .i64 aU, .int .i64 aV, .int .u64 aW]) (j := 0) hcl29 hcc29 (show 4 ≤ 4 from by decide) (x' := (⟨aT, aU, aV, aW⟩ : S61)) (k61_mkM _ _ _ (⟨aT, aU, aV, aW⟩ : S61) ) (fun _ hk => hk)).1;rw [← bK.out] at bB;have cc := Aside0.mk bB;clear hcl29 hcc29 hfr29 hM29 bB;refine hK.out _ _ ⟨kk ag 0, kk ag 1, kk ag 2, HS3_, HS4_, HS5_, HS6_⟩ (fun hHeld => ?_);clear hK K;refine no (some 38) ?_;refine pu 12 (some 26) (bs 18 8191) HT_ ?_;refine pu 13 (some 39) (bs 18 16383) HT_ ?_;refine pu 14 (some 40) (bs 18 32767) HT_ ?_;refine pu 15 (some 41) (bs 18 65535) HT_ ?_;refine last_ (i := 16) (N := none) (bs 18 131071) rfl rfl (one_of HT_.out (by kernel_rfl)) (by decide) (fun K hK => ?_);refine skip_ (w1 := ?_) (by rfl) rfl ?_ ?_
     rotate_left
     ·go_simp
      rfl
     refine hK.out _ _ ?_;clear hK K;refine pu 17 (some 9) (bs 18 262143) HT_ ?_;refine done_ (done_of HT_.out (by kernel_rfl)) ?_;(try go_wp2);go_roundg k2
     case measure => have := HK1.out; have := HK2.out; omega
     case rel => exact ⟨(bw), (bJ), (.slice (some ⟨av, 0, none⟩) ab.length bx), et, H', ⟨by have := HK1.out; have := HK2.out; omega⟩, ⟨by (with_reducible repeat first | apply Kd.R_alloc | apply Kd.R_drewN | apply Kd.R_drew); exact Kd.R_mono (Kd.R_far (p := ⟨av, (ad : Int).toNat * 4 + 3, none⟩) (Kd.R_far (p := ⟨av, (ad : Int).toNat * 4 + 2, none⟩) (Kd.R_far (p := ⟨av, (ad : Int).toNat * 4 + 1, none⟩) (Kd.R_far (p := ⟨av, (ad : Int).toNat * 4, none⟩) (Kd.R_types ah.out bO.out (by decide)) (fun _ hk => hk.2) (.int .i64 aT)) (fun _ hk => hk.2) (.int .i64 aU)) (fun _ hk => hk.2) (.int .i64 aV)) (fun _ hk => hk.2) (.int .u64 aW)) (fun _ hk => trivial)⟩, ⟨krR cc⟩, ⟨by (with_reducible repeat first | apply Kd.S_alloc | apply Kd.S_drewN | apply Kd.S_drew); exact Kd.S_mono (Kd.S_far (p := ⟨av, (ad : Int).toNat * 4 + 3, none⟩) (Kd.S_far (p := ⟨av, (ad : Int).toNat * 4 + 2, none⟩) (Kd.S_far (p := ⟨av, (ad : Int).toNat * 4 + 1, none⟩) (Kd.S_far (p := ⟨av, (ad : Int).toNat * 4, none⟩) (Kd.S_types ai.out bO.out (by decide)) (fun _ hk => hk.2) (.int .i64 aT)) (fun _ hk => hk.2) (.int .i64 aU)) (fun _ hk => hk.2) (.int .i64 aV)) (fun _ hk => hk.2) (.int .u64 aW)) (fun _ hk => trivial)⟩, ⟨by (with_reducible repeat first | refine blk_drewN ?_ _ | refine blk_drew ?_ | refine blk_alloc ?_ _); refine blk_far ?_ (by have h_ := Kd.R_ne aa.out ae.out (by decide); intro e_; exact h_ (by rw [e_]; rfl)) _; (with_reducible repeat first | refine blk_drewN ?_ _ | refine blk_drew ?_ | refine blk_alloc ?_ _); refine blk_far ?_ (by have h_ := Kd.R_ne aa.out ae.out (by decide); intro e_; exact h_ (by rw [e_]; rfl)) _; (with_reducible repeat first | refine blk_drewN ?_ _ | refine blk_drew ?_ | refine blk_alloc ?_ _); refine blk_far ?_ (by have h_ := Kd.R_ne aa.out ae.out (by decide); intro e_; exact h_ (by rw [e_]; rfl)) _; (with_reducible repeat first | refine blk_drewN ?_ _ | refine blk_drew ?_ | refine blk_alloc ?_ _); refine blk_far ?_ (by have h_ := Kd.R_ne aa.out ae.out (by decide); intro e_; exact h_ (by rw [e_]; rfl)) _; (with_reducible repeat first | refine blk_drewN ?_ _ | refine blk_drew ?_ | refine blk_alloc ?_ _); exact ae.out⟩, ⟨by (with_reducible repeat first | refine blk_drewN ?_ _ | refine blk_drew ?_ | refine blk_alloc ?_ _); refine blk_far ?_ (by have h_ := Kd.R_ne aa.out af.out (by decide); intro e_; exact h_ (by rw [e_]; rfl)) _; (with_reducible repeat first | refine blk_drewN ?_ _ | refine blk_drew ?_ | refine blk_alloc ?_ _); refine blk_far ?_ (by have h_ := Kd.R_ne aa.out af.out (by decide); intro e_; exact h_ (by rw [e_]; rfl)) _; (with_reducible repeat first | refine blk_drewN ?_ _ | refine blk_drew ?_ | refine blk_alloc ?_ _); refine blk_far ?_ (by have h_ := Kd.R_ne aa.out af.out (by decide); intro e_; exact h_ (by rw [e_]; rfl)) _; (with_reducible repeat first | refine blk_drewN ?_ _ | refine blk_drew ?_ | refine blk_alloc ?_ _); refine blk_far ?_ (by have h_ := Kd.R_ne aa.out af.out (by decide); intro e_; exact h_ (by rw [e_]; rfl)) _; (with_reducible repeat first | refine blk_drewN ?_ _ | refine blk_drew ?_ | refine blk_alloc ?_ _); exact af.out⟩, ⟨by (with_reducible repeat first | refine blk_drewN ?_ _ | refine blk_drew ?_ | refine blk_alloc ?_ _); refine blk_far ?_ (by have h_ := Kd.R_ne aa.out ag.out (by decide); intro e_; exact h_ (by rw [e_]; rfl)) _; (with_reducible repeat first | refine blk_drewN ?_ _ | refine blk_drew ?_ | refine blk_alloc ?_ _); refine blk_far ?_ (by have h_ := Kd.R_ne aa.out ag.out (by decide); intro e_; exact h_ (by rw [e_]; rfl)) _; (with_reducible repeat first | refine blk_drewN ?_ _ | refine blk_drew ?_ | refine blk_alloc ?_ _); refine blk_far ?_ (by have h_ := Kd.R_ne aa.out ag.out (by decide); intro e_; exact h_ (by rw [e_]; rfl)) _; (with_reducible repeat first | refine blk_drewN ?_ _ | refine blk_drew ?_ | refine blk_alloc ?_ _); refine blk_far ?_ (by have h_ := Kd.R_ne aa.out ag.out (by decide); intro e_; exact h_ (by rw [e_]; rfl)) _; (with_reducible repeat first | refine blk_drewN ?_ _ | refine blk_drew ?_ | refine blk_alloc ?_ _); exact ag.out⟩, ⟨kh HB⟩⟩
def qxa.f (aa : Int) (ab : Int) (ad : Int) (ae : Int) : Option (Bool) := if aa = 3 then (some true) else (if aa = 4 then (some true) else (some (aa == 5)))
theorem qxa.calls (aa : Int) (ad : Int) (ae : Int) (af : Int) (r : Bool) (w : World) (h : qxa.f aa ad ae af = some r) :
  Calls Try.prog 36 #[.agg #[.int .i64 aa, .int .i64 ad, .int .i64 ae, .int .u64 af]] w fun e w' => e = .returned (.bool r) ∧ Below w.heap.size w w' := by
 have hu61 := Try.underlying61;have HB := Aside0.mk (Below.refl w.heap.size w);have H : (if aa = 3 then (some true) else (if aa = 4 then (some true) else (some (aa == 5)))) = some r := h;clear h
 by_cases c2 : aa = 3
 ·rw [if_pos c2] at H
  have aj := beq_iff_eq.mpr c2;have ak := bne_eq_false_iff_eq.mpr c2;clear c2;obtain rfl := Option.some.inj H;go_enter Try.func36, Try.ntmps36;go_wp2_with (first | ((with_reducible refine gate_dst (N := 1) rfl ?_); refine box_event ?hg (N := 1) ?hd (cs := #[.int .i64 aa, .int .i64 ad, .int .i64 ae, .int .u64 af]) (t := 61) ?hr ?_; (case hd => rfl); (case hg => rfl); (case hr => first | (go_simp; done) | (go_simp; rfl)); intro ag hg w3 hbox hb; have ab := am hbox; have ah := kG HB hg; have ai := kG HB hg; replace HB := kH HB hb; clear hb hbox hg; have Z4 := kz4 ab));go_ret;exact ⟨er, kh HB⟩
 rw [if_neg c2] at H;have aj := beq_eq_false_iff_ne.mpr c2;have ak := bne_iff_ne.mpr c2
 by_cases c5 : aa = 4
 ·rw [if_pos c5] at H
  have al := beq_iff_eq.mpr c5;have an := bne_eq_false_iff_eq.mpr c5;clear c5;obtain rfl := Option.some.inj H;go_enter Try.func36, Try.ntmps36;go_wp2_with (first | ((with_reducible refine gate_dst (N := 1) rfl ?_); refine box_event ?hg (N := 1) ?hd (cs := #[.int .i64 aa, .int .i64 ad, .int .i64 ae, .int .u64 af]) (t := 61) ?hr ?_; (case hd => rfl); (case hg => rfl); (case hr => first | (go_simp; done) | (go_simp; rfl)); intro ag hg w6 hbox hb; have ab := am hbox; have ah := kG HB hg; have ai := kG HB hg; replace HB := kH HB hb; clear hb hbox hg; have Z7 := kz4 ab));go_ret;exact ⟨er, kh HB⟩
 rw [if_neg c5] at H;have al := beq_eq_false_iff_ne.mpr c5;have an := bne_iff_ne.mpr c5;obtain rfl := Option.some.inj H;go_enter Try.func36, Try.ntmps36;go_wp2_with (first | ((with_reducible refine gate_dst (N := 1) rfl ?_); refine box_event ?hg (N := 1) ?hd (cs := #[.int .i64 aa, .int .i64 ad, .int .i64 ae, .int .u64 af]) (t := 61) ?hr ?_; (case hd => rfl); (case hg => rfl); (case hr => first | (go_simp; done) | (go_simp; rfl)); intro ag hg w8 hbox hb; have ab := am hbox; have ah := kG HB hg; have ai := kG HB hg; replace HB := kH HB hb; clear hb hbox hg; have Z9 := kz4 ab));go_ret;exact ⟨er, kh HB⟩
def qha.l0 : Nat → List Int → List Int → Int → Int → Option (Bool)
 | 0, _, _, _, _ => none
 | k + 1, x0, x1, x12, x13 => if x13 < x12 then (if 0 ≤ x13 then (if x13 < (x0.length : Int) then (if x13 < (x1.length : Int) then (if (rd x0 x13) = (rd x1 x13) then (qha.l0 k x0 x1 x12 (wrap64 (x13 + 1))) else (some false)) else (none)) else (none)) else (none)) else (some true)
def qha.f (k : Nat) (l0 : List Int) (l1 : List Int) : Option (Bool) := if (l0.length : Int) = (l1.length : Int) then (qha.l0 k l0 l1 (l0.length : Int) 0) else (some false)
theorem qha.mono_l : ∀ k, (∀ y0 y1 y2 y3, LeO (qha.l0 k y0 y1 y2 y3) (qha.l0 (k + 1) y0 y1 y2 y3))
 | 0 => fun _ _ _ _ r h => by simp [qha.l0] at h
 | k + 1 => by
  have ih0 := qha.mono_l k
  ·intro y0 y1 y2 y3
   unfold qha.l0
   repeat' first
   | (with_reducible exact ih0 _ _ _ _)
   | (with_reducible exact LeO.refl _)
   | (with_reducible exact LeO.none _)
   | (with_reducible refine LeO.ite ?_ ?_)
   | (with_reducible refine LeO.bind ?_ (fun _ => ?_))
   | exact ih0 _ _ _ _
   | exact LeO.none _
   | refine LeO.ite ?_ ?_
   | refine LeO.bind ?_ (fun _ => ?_)
theorem qha.mono : ∀ a0 a1 k, LeO (qha.f k a0 a1) (qha.f (k + 1) a0 a1) := by
 intro a0 a1 k;have ih0 := qha.mono_l k;unfold qha.f
 repeat' first
   | (with_reducible exact ih0 _ _ _ _)
   | (with_reducible exact LeO.refl _)
   | (with_reducible exact LeO.none _)
   | (with_reducible refine LeO.ite ?_ ?_)
   | (with_reducible refine LeO.bind ?_ (fun _ => ?_))
   | exact ih0 _ _ _ _
   | exact LeO.none _
   | refine LeO.ite ?_ ?_
   | refine LeO.bind ?_ (fun _ => ?_)
theorem qha.calls (k : Nat) (A0 : Option Addr) (c0 : Nat) (l0 : List Int) (A1 : Option Addr) (c1 : Nat) (l1 : List Int) (r : Bool) (w : World) (hr0 : Kd.C (Kd.int .i64) w A0 l0.length l0) (hc0 : l0.length ≤ c0) (hr1 : Kd.C (Kd.int .i64) w A1 l1.length l1) (hc1 : l1.length ≤ c1) (h : qha.f k l0 l1 = some r) :
  Calls Try.prog 13 #[.slice A0 l0.length c0, .slice A1 l1.length c1] w fun e w' => e = .returned (.bool r) ∧ Drawn0 w w' := by
 have HR0 := Aside0.mk hr0;have HC0 := Aside0.mk hc0;clear hr0 hc0;have HR1 := Aside0.mk hr1;have HC1 := Aside0.mk hc1;clear hr1 hc1;have H : (if (l0.length : Int) = (l1.length : Int) then (qha.l0 k l0 l1 (l0.length : Int) 0) else (some false)) = some r := h;clear h
 by_cases c3 : (l0.length : Int) = (l1.length : Int)
 rotate_left
 ·rw [if_neg c3] at H
  have ak := beq_eq_false_iff_ne.mpr c3;have al := bne_iff_ne.mpr c3
  have an : (l0.length == l1.length) = false := by first | simpa using c3 | (simp at c3 ⊢; omega)
  obtain rfl := Option.some.inj H;go_enter Try.func13, Try.ntmps13;go_wp2
  repeat (go_quiet (fail); try go_wp2)
  go_ret;exact ⟨et, by repeat (first | exact Drawn0.refl _ | apply Drawn0.step)⟩
 rw [if_pos c3] at H;have ak := beq_iff_eq.mpr c3;have al := bne_eq_false_iff_eq.mpr c3
 have an : (l0.length == l1.length) = true := by first | simpa using c3 | (simp at c3 ⊢; omega)
 clear c3;have H' := Aside0.mk H;clear H;go_enter Try.func13, Try.ntmps13;go_wp2
 repeat (go_quiet (fail); try go_wp2)
 go_loopg [13] k (fun kq v13 w' => ∃ (aa : Int), v13 = .int .i64 aa ∧ Aside0 (qha.l0 kq l0 l1 (l0.length : Int) aa = some r) ∧ Aside0 (kq ≤ k) ∧ Drawn0 w w')
 case atStart => exact ⟨(0), et, H', ⟨Nat.le_refl _⟩, by repeat (first | exact Drawn0.refl _ | apply Drawn0.step)⟩
 case round =>
  clear H';(try clear ak al an);obtain ⟨aa, rfl, HA, HK1, ⟨m1, rfl⟩⟩ := hrel
  cases gk with
  | zero => exact absurd HA.out (by simp [qha.l0])
  | succ k1 =>
   have H := HA.out;clear HA;simp only [qha.l0] at H
   by_cases c4 : aa < (l0.length : Int)
   rotate_left
   ·rw [if_neg c4] at H
    have aq := decide_eq_false c4;clear c4;obtain rfl := Option.some.inj H;go_wp2
    repeat (go_quiet (fail); try go_wp2)
    go_ret;exact ⟨et, by repeat (first | exact Drawn0.refl _ | apply Drawn0.step)⟩
   rw [if_pos c4] at H;have aq := decide_eq_true c4;clear c4
   by_cases c5 : 0 ≤ aa
   rotate_left
   ·rw [if_neg c5] at H
    exact absurd H (by simp)
   rw [if_pos c5] at H;have av := decide_eq_true c5;clear c5
   by_cases c6 : aa < (l0.length : Int)
   rotate_left
   ·rw [if_neg c6] at H
    exact absurd H (by simp)
   rw [if_pos c6] at H;have aw := decide_eq_true c6;clear c6
   by_cases c7 : aa < (l1.length : Int)
   rotate_left
   ·rw [if_neg c7] at H
    exact absurd H (by simp)
   rw [if_pos c7] at H;have ax := decide_eq_true c7;clear c7
   by_cases c8 : (rd l0 aa) = (rd l1 aa)
   rotate_left
   ·rw [if_neg c8] at H
    have ar := beq_eq_false_iff_ne.mpr c8;have au := bne_iff_ne.mpr c8;obtain rfl := Option.some.inj H;have ab : 0 ≤ (aa : Int) := od;have ad : aa < (l0.length : Int) := od;obtain ⟨ao, ai, ag⟩ := Kd.at_int HR0.out aa ab ad;cases ai;replace ab := eq_true ab; replace ad := eq_true ad;have ae : 0 ≤ (aa : Int) := od;have af : aa < (l1.length : Int) := od;obtain ⟨ap, aj, ah⟩ := Kd.at_int HR1.out aa ae af;cases aj;replace ae := eq_true ae; replace af := eq_true af;go_wp2
    repeat (go_quiet (fail); try go_wp2)
    go_ret;exact ⟨et, by repeat (first | exact Drawn0.refl _ | apply Drawn0.step)⟩
   rw [if_pos c8] at H;have ar := beq_iff_eq.mpr c8;have au := bne_eq_false_iff_eq.mpr c8;clear c8;have H' := Aside0.mk H;clear H;have ab : 0 ≤ (aa : Int) := od;have ad : aa < (l0.length : Int) := od;obtain ⟨ao, ai, ag⟩ := Kd.at_int HR0.out aa ab ad;cases ai;replace ab := eq_true ab; replace ad := eq_true ad;have ae : 0 ≤ (aa : Int) := od;have af : aa < (l1.length : Int) := od;obtain ⟨ap, aj, ah⟩ := Kd.at_int HR1.out aa ae af;cases aj;replace ae := eq_true ae; replace af := eq_true af;go_wp2
   repeat (go_quiet (fail); try go_wp2)
   go_roundg k1
   case measure => have := HK1.out; omega
   case rel => exact ⟨(wrap64 (aa + 1)), et, H', ⟨by have := HK1.out; omega⟩, by repeat (first | exact Drawn0.refl _ | apply Drawn0.step)⟩
theorem rdOf_set_ (xs : List Int) (i v : Int) (h0 : 0 ≤ i) (h1 : i < xs.length) : rdOf 0 (xs.set i.toNat v) i = v := by
 unfold rdOf;rw [List.getD_eq_getElem?_getD, List.getElem?_set_self (by omega)]
 rfl
mutual
def tune_Levels.l0 : Nat → List Int → List (S61) → Int → Int → Option (List Int)
 | 0, _, _, _, _ => none
 | k + 1, x3, x12, x13, x14 => if x14 < x13 then (if 0 ≤ x14 then (if x14 < (x12.length : Int) then (if ((rd_T61 x12 x14).f0) = 3 then (tune_Levels.j1 k x3 x14 true x12 x13 x14 ((rd_T61 x12 x14).f0) ((rd_T61 x12 x14).f1) ((rd_T61 x12 x14).f2) ((rd_T61 x12 x14).f3)) else (if ((rd_T61 x12 x14).f0) = 4 then (tune_Levels.j1 k x3 x14 true x12 x13 x14 ((rd_T61 x12 x14).f0) ((rd_T61 x12 x14).f1) ((rd_T61 x12 x14).f2) ((rd_T61 x12 x14).f3)) else (tune_Levels.j1 k x3 x14 (((rd_T61 x12 x14).f0) == 5) x12 x13 x14 ((rd_T61 x12 x14).f0) ((rd_T61 x12 x14).f1) ((rd_T61 x12 x14).f2) ((rd_T61 x12 x14).f3)))) else (none)) else (none)) else (some x3)
def tune_Levels.j1 : Nat → List Int → Int → Bool → List (S61) → Int → Int → Int → Int → Int → Int → Option (List Int)
 | 0, _, _, _, _, _, _, _, _, _, _ => none
 | k + 1, x3, x4, x6, x12, x13, x14, ad, aa, ab, ae => if x6 = true then (if aa < 0 then (tune_Levels.j2 k x3 x4 x6 x12 x13 x14 true ad aa ab ae) else (if aa ≥ x4 then (tune_Levels.j2 k x3 x4 x6 x12 x13 x14 true ad aa ab ae) else (if ab < 0 then (tune_Levels.j2 k x3 x4 x6 x12 x13 x14 true ad aa ab ae) else (tune_Levels.j2 k x3 x4 x6 x12 x13 x14 (decide (ab ≥ x4)) ad aa ab ae)))) else (if ad = 6 then (if aa < 0 then (tune_Levels.j2 k x3 x4 x6 x12 x13 x14 true ad aa ab ae) else (if aa ≥ x4 then (tune_Levels.j2 k x3 x4 x6 x12 x13 x14 true ad aa ab ae) else (tune_Levels.j2 k x3 x4 x6 x12 x13 x14 false ad aa ab ae))) else (tune_Levels.j2 k x3 x4 x6 x12 x13 x14 false ad aa ab ae))
def tune_Levels.j2 : Nat → List Int → Int → Bool → List (S61) → Int → Int → Bool → Int → Int → Int → Int → Option (List Int)
 | 0, _, _, _, _, _, _, _, _, _, _, _ => none
 | k + 1, x3, x4, x6, x12, x13, x14, x62, ad, aa, ab, ae => if x62 = true then (some ([] : List Int)) else (if x6 = true then (if 0 ≤ aa then (if aa < (x3.length : Int) then (if 0 ≤ ab then (if ab < (x3.length : Int) then (if 0 ≤ x4 then (if x4 < (x3.length : Int) then ((some (x3.set (x4 : Int).toNat (mx (rd x3 aa) (rd x3 ab)) : List Int)).bind fun ag => (if ad = 5 then (tune_Levels.l0 k (ag.set (x4 : Int).toNat (wrap64 ((mx (rd x3 aa) (rd x3 ab)) + 1))) x12 x13 (wrap64 (x14 + 1))) else (tune_Levels.l0 k ag x12 x13 (wrap64 (x14 + 1))))) else (none)) else (none)) else (none)) else (none)) else (none)) else (none)) else (if ad = 6 then (if 0 ≤ aa then (if aa < (x3.length : Int) then (if 0 ≤ x4 then (if x4 < (x3.length : Int) then ((some (x3.set (x4 : Int).toNat (rd x3 aa) : List Int)).bind fun af => (if ad = 5 then (tune_Levels.l0 k (af.set (x4 : Int).toNat (wrap64 ((rd af x4) + 1))) x12 x13 (wrap64 (x14 + 1))) else (tune_Levels.l0 k af x12 x13 (wrap64 (x14 + 1))))) else (none)) else (none)) else (none)) else (none)) else (if ad = 5 then (if 0 ≤ x4 then (if x4 < (x3.length : Int) then (tune_Levels.l0 k (x3.set (x4 : Int).toNat (wrap64 ((rd x3 x4) + 1))) x12 x13 (wrap64 (x14 + 1))) else (none)) else (none)) else (tune_Levels.l0 k x3 x12 x13 (wrap64 (x14 + 1))))))
end
def tune_Levels.f (k : Nat) (ab : List (S64)) (aa : List (S61)) (ad : List (S66)) : Option (List Int) := if 0 ≤ (aa.length : Int) then (if ((aa.length : Int) : Int).toNat ≤ 35184372088832 then (tune_Levels.l0 k (List.replicate ((aa.length : Int) : Int).toNat 0) aa (aa.length : Int) 0) else (none)) else (none)
theorem tune_Levels.mono_l : ∀ k, (∀ y0 y1 y2 y3, LeO (tune_Levels.l0 k y0 y1 y2 y3) (tune_Levels.l0 (k + 1) y0 y1 y2 y3)) ∧ (∀ y0 y1 y2 y3 y4 y5 y6 y7 y8 y9, LeO (tune_Levels.j1 k y0 y1 y2 y3 y4 y5 y6 y7 y8 y9) (tune_Levels.j1 (k + 1) y0 y1 y2 y3 y4 y5 y6 y7 y8 y9)) ∧ (∀ y0 y1 y2 y3 y4 y5 y6 y7 y8 y9 y10, LeO (tune_Levels.j2 k y0 y1 y2 y3 y4 y5 y6 y7 y8 y9 y10) (tune_Levels.j2 (k + 1) y0 y1 y2 y3 y4 y5 y6 y7 y8 y9 y10))
 | 0 => ⟨fun _ _ _ _ r h => by simp [tune_Levels.l0] at h, fun _ _ _ _ _ _ _ _ _ _ r h => by simp [tune_Levels.j1] at h, fun _ _ _ _ _ _ _ _ _ _ _ r h => by simp [tune_Levels.j2] at h⟩
 | k + 1 => by
  obtain ⟨ih0, ih1, ih2⟩ := tune_Levels.mono_l k;refine ⟨?_, ?_, ?_⟩
  ·intro y0 y1 y2 y3
   unfold tune_Levels.l0
   repeat' first
   | (with_reducible exact ih0 _ _ _ _)
   | (with_reducible exact ih1 _ _ _ _ _ _ _ _ _ _)
   | (with_reducible exact ih2 _ _ _ _ _ _ _ _ _ _ _)
   | (with_reducible exact LeO.refl _)
   | (with_reducible exact LeO.none _)
   | (with_reducible refine LeO.ite ?_ ?_)
   | (with_reducible refine LeO.bind ?_ (fun _ => ?_))
   | exact ih0 _ _ _ _
   | exact ih1 _ _ _ _ _ _ _ _ _ _
   | exact ih2 _ _ _ _ _ _ _ _ _ _ _
   | exact LeO.none _
   | refine LeO.ite ?_ ?_
   | refine LeO.bind ?_ (fun _ => ?_)
  ·intro y0 y1 y2 y3 y4 y5 y6 y7 y8 y9
   unfold tune_Levels.j1
   repeat' first
   | (with_reducible exact ih0 _ _ _ _)
   | (with_reducible exact ih1 _ _ _ _ _ _ _ _ _ _)
   | (with_reducible exact ih2 _ _ _ _ _ _ _ _ _ _ _)
   | (with_reducible exact LeO.refl _)
   | (with_reducible exact LeO.none _)
   | (with_reducible refine LeO.ite ?_ ?_)
   | (with_reducible refine LeO.bind ?_ (fun _ => ?_))
   | exact ih0 _ _ _ _
   | exact ih1 _ _ _ _ _ _ _ _ _ _
   | exact ih2 _ _ _ _ _ _ _ _ _ _ _
   | exact LeO.none _
   | refine LeO.ite ?_ ?_
   | refine LeO.bind ?_ (fun _ => ?_)
  ·intro y0 y1 y2 y3 y4 y5 y6 y7 y8 y9 y10
   unfold tune_Levels.j2
   repeat' first
   | (with_reducible exact ih0 _ _ _ _)
   | (with_reducible exact ih1 _ _ _ _ _ _ _ _ _ _)
   | (with_reducible exact ih2 _ _ _ _ _ _ _ _ _ _ _)
   | (with_reducible exact LeO.refl _)
   | (with_reducible exact LeO.none _)
   | (with_reducible refine LeO.ite ?_ ?_)
   | (with_reducible refine LeO.bind ?_ (fun _ => ?_))
   | exact ih0 _ _ _ _
   | exact ih1 _ _ _ _ _ _ _ _ _ _
   | exact ih2 _ _ _ _ _ _ _ _ _ _ _
   | exact LeO.none _
   | refine LeO.ite ?_ ?_
   | refine LeO.bind ?_ (fun _ => ?_)
theorem tune_Levels.mono : ∀ a0 a1 a2 k, LeO (tune_Levels.f k a0 a1 a2) (tune_Levels.f (k + 1) a0 a1 a2) := by
 intro a0 a1 a2 k;obtain ⟨ih0, ih1, ih2⟩ := tune_Levels.mono_l k;unfold tune_Levels.f
 repeat' first
   | (with_reducible exact ih0 _ _ _ _)
   | (with_reducible exact ih1 _ _ _ _ _ _ _ _ _ _)
   | (with_reducible exact ih2 _ _ _ _ _ _ _ _ _ _ _)
   | (with_reducible exact LeO.refl _)
   | (with_reducible exact LeO.none _)
   | (with_reducible refine LeO.ite ?_ ?_)
   | (with_reducible refine LeO.bind ?_ (fun _ => ?_))
   | exact ih0 _ _ _ _
   | exact ih1 _ _ _ _ _ _ _ _ _ _
   | exact ih2 _ _ _ _ _ _ _ _ _ _ _
   | exact LeO.none _
   | refine LeO.ite ?_ ?_
   | refine LeO.bind ?_ (fun _ => ?_)
def tune_Levels.T9 : Bool × List (List Nat × List Nat) := (true, [([], []), ([], []), ([], []), ([], []), ([3], [3]), ([2, 4], [2, 4]), ([5], [5]), ([], []), ([], []), ([8], [8]), ([7, 9], [7, 9]), ([10], [10]), ([6, 11], [6, 11]), ([0, 1, 0, 1, 2, 3, 4, 5, 6, 7, 8, 9, 10, 11, 12], [0, 1]), ([13, 12, 0, 1, 2, 3, 4, 5, 6, 7, 8, 9, 10, 11, 12], [12, 13])])
def tune_Levels.B9 : List Nat := [0, 0, 0, 0, 8, 28, 60, 0, 0, 256, 896, 1920, 4092, 8191, 16383]
theorem tune_Levels.tab9 : rtab .any (opsOf Try.f14 9) = tune_Levels.T9 := by kernel_rfl
theorem tune_Levels.bits9 : waitsOk tune_Levels.T9.2 tune_Levels.B9 = true := by kernel_rfl
theorem tune_Levels.calls (k : Nat) (aP : Option Addr) (aQ : Nat) (aA : List (S64)) (bo : Option Addr) (aR : Nat) (ab : List (S61)) (aS : Option Addr) (aT : Nat) (aB : List (S66)) (r : List Int) (w : World) (bu : Kd.C k64 w aP aA.length aA) (bv : aA.length ≤ aQ) (bw : Kd.C k61 w bo ab.length ab) (bx : ab.length ≤ aR) (bz : Kd.C k66 w aS aB.length aB) (bA : aB.length ≤ aT) (h : tune_Levels.f k aA ab aB = some r) :
  Calls Try.prog 14 #[.agg #[.slice aP aA.length aQ, .slice bo ab.length aR, .slice aS aB.length aT]] w fun e w' => ∃ v0_ : Value, e = .returned (v0_) ∧ Kd.R (Kd.int .i64) 3 w' w.heap.size (fun _ => True) v0_ r ∧ Below w.heap.size w w' := by
 have hu26 := Try.underlying26;have hu61 := Try.underlying61;have dw := Aside0.mk bu;have dx := Aside0.mk bv;clear bu bv;have ca := Aside0.mk bw;have dy := Aside0.mk bx;clear bw bx;have dz := Aside0.mk bz;have dA := Aside0.mk bA;clear bz bA;have HB := Aside0.mk (Below.refl w.heap.size w);have H : (if 0 ≤ (ab.length : Int) then (if ((ab.length : Int) : Int).toNat ≤ 35184372088832 then (tune_Levels.l0 k (List.replicate ((ab.length : Int) : Int).toNat 0) ab (ab.length : Int) 0) else (none)) else (none)) = some r := h;clear h
 by_cases c2 : 0 ≤ (ab.length : Int)
 rotate_left
 ·rw [if_neg c2] at H
  exact absurd H (by simp)
 rw [if_pos c2] at H;have cX := eq_true c2;have cY := decide_eq_true c2;clear c2
 by_cases c3 : ((ab.length : Int) : Int).toNat ≤ 35184372088832
 rotate_left
 ·rw [if_neg c3] at H
  exact absurd H (by simp)
 rw [if_pos c3] at H;have cZ := eq_true c3;have da := decide_eq_true c3;clear c3;obtain ⟨cb, aH⟩ : ∃ y_ : List Int, y_ = (List.replicate ((ab.length : Int) : Int).toNat 0) := ⟨_, rfl⟩
 replace H : (tune_Levels.l0 k cb ab (ab.length : Int) 0) = some r := by first | (rw [aH]; with_reducible exact H) | (have H2_ := (Option.bind_some _ _).symm.trans H; rw [aH]; with_reducible exact H2_) | (have H2_ := (Option.bind_some _ _).symm.trans H; with_reducible exact H2_) | with_reducible exact H | (rw [aH]; exact H) | exact H
 have bB := Aside0.mk aH;clear aH;have H' := Aside0.mk H;clear H;go_enter Try.func14, Try.ntmps14;go_wp2_with (first | ((with_reducible refine gate_dst (N := 1) rfl ?_); refine box_event ?hg (N := 1) ?hd (cs := #[.slice aP aA.length aQ, .slice bo ab.length aR, .slice aS aB.length aT]) (t := 26) ?hr ?_; (case hd => rfl); (case hg => rfl); (case hr => first | (go_simp; done) | (go_simp; rfl)); intro bc hg w4 hbox hb; have af := am hbox; have dB := kG HB hg; have dC := kG HB hg; replace HB := kH HB hb; clear hb hbox hg; have Z5 := kz3 af) | ((with_reducible refine gate_dst (N := 10) rfl ?_); refine Kd.R_make (Kd.int .i64) _ 3 rfl (N := 10) rfl 27 _ _ rfl (ab.length : Int) rfl rfl Try.underlying27 (.int .i64 0) 8 info3 rfl (by decide) (by omega) 0 (ok := fun _ => True) (okp := fun _ => True) rfl (fun _ hk => hk) trivial od (Nat.le_trans (Nat.mul_le_mul_right _ (od : (ab.length : Int).toNat ≤ 35184372088832)) (by omega)) (Below.refl _ _) (Nat.le_refl _) ?_; intro bC w6 ho7 hb hg_ hnew_; clear hg_ hnew_; (first | rw [← bB.out] at ho7 | (simp only [Int.reduceToNat] at ho7; rw [← bB.out] at ho7)); have cc := kLR ho7 HB; replace af := kU af hb; replace HB := kH HB hb; clear hb ho7; have Z8 := kz3 af));go_loopg [14] k (fun kq v14 w' => ∃ (ai : List Int) (aa : Int), v14 = .int .i64 aa ∧ Aside0 (tune_Levels.l0 kq ai ab (ab.length : Int) aa = some r) ∧ Aside0 (kq ≤ k) ∧ Aside0 (Kd.R (Kd.int .i64) 3 w' w.heap.size (fun _ => True) bC ai) ∧ Aside0 (w'.heap[bc]? = some (.cells #[(.slice aP aA.length aQ), (.slice bo ab.length aR), (.slice aS aB.length aT)] 26 (0, 0))) ∧ Aside0 (Below w.heap.size w w'))
 case atStart => exact ⟨(cb), (0), et, H', ⟨Nat.le_refl _⟩, ⟨krR cc⟩, ⟨kg af⟩, ⟨kh HB⟩⟩
 case round =>
  clear H';(try clear cX cY cZ da Z5 Z8);obtain ⟨ai, aa, rfl, HA, HK1, ae, af, HB⟩ := hrel
  cases gk with
  | zero => exact absurd HA.out (by simp [tune_Levels.l0])
  | succ k1 =>
   have H := HA.out;clear HA;simp only [tune_Levels.l0] at H
   by_cases c9 : aa < (ab.length : Int)
   rotate_left
   ·rw [if_neg c9] at H
    have cd := decide_eq_false c9;clear c9;obtain rfl := Option.some.inj H;go_wp2;go_ret;exact ⟨_, er, by (with_reducible repeat first | apply Kd.R_alloc | apply Kd.R_drewN | apply Kd.R_drew); exact ae.out, kh HB⟩
   rw [if_pos c9] at H;have cd := decide_eq_true c9;clear c9
   by_cases c10 : 0 ≤ aa
   rotate_left
   ·rw [if_neg c10] at H
    exact absurd H (by simp)
   rw [if_pos c10] at H;have ce := decide_eq_true c10;clear c10
   by_cases c11 : aa < (ab.length : Int)
   rotate_left
   ·rw [if_neg c11] at H
    exact absurd H (by simp)
   rw [if_pos c11] at H;have cf := decide_eq_true c11;clear c11;have bD := Aside0.mk H;clear H;have bp : 0 ≤ (aa : Int) := od;have bq : aa < (ab.length : Int) := od;obtain ⟨bd, db, au, av, aw, ax⟩ := at_T61 ca.out aa bp bq;cases db;replace au := (HB.out.cell (World.block_lt_of_cell? w _ au)).trans au;replace av := (HB.out.cell (World.block_lt_of_cell? w _ av)).trans av;replace aw := (HB.out.cell (World.block_lt_of_cell? w _ aw)).trans aw;replace ax := (HB.out.cell (World.block_lt_of_cell? w _ ax)).trans ax;replace bp := eq_true bp; replace bq := eq_true bq;go_upto_region 5 with (first | ((with_reducible refine gate_dst (N := 5) rfl ?_); refine box_event ?hg (N := 5) ?hd (cs := #[.int .i64 0, .int .i64 0, .int .i64 0, .int .u64 0]) (t := 61) ?hr ?_; (case hd => rfl); (case hg => rfl); (case hr => first | (go_simp; done) | (go_simp; rfl)); intro aj hg w13 hbox hb; replace ae := kR ae hb; have ad := am hbox; have dD := kG HB hg; have dE := kG HB hg; replace HB := kH HB hb; have ag := kP af hg; have ah := kQ af hg; replace af := kU af hb; clear hb hbox hg; have dF := ah.out; have dG := ag.out; have Z15 := kz4 ad));(try simp only [Act.put, qS1, qS2, qS3]);go_cut [6] (fun v6 wc => ∃ (kq : Nat) (aC : Bool), v6 = .bool aC ∧ Aside0 (tune_Levels.j1 kq ai aa aC ab (ab.length : Int) aa ((rd_T61 ab aa).f0) ((rd_T61 ab aa).f1) ((rd_T61 ab aa).f2) ((rd_T61 ab aa).f3) = some r) ∧ Aside0 (kq ≤ k1) ∧ Aside0 (Kd.R (Kd.int .i64) 3 wc w.heap.size (fun _ => True) bC ai) ∧ Aside0 (wc.heap[bc]? = some (.cells #[(.slice aP aA.length aQ), (.slice (some bd) ab.length aR), (.slice aS aB.length aT)] 26 (0, 0))) ∧ Aside0 (wc.heap[aj]? = some (.cells #[.int .i64 ((rd_T61 ab aa).f0), .int .i64 ((rd_T61 ab aa).f1), .int .i64 ((rd_T61 ab aa).f2), .int .u64 ((rd_T61 ab aa).f3)] 61 (0, 0))) ∧ Aside0 (Below w.heap.size w wc))
   case first =>
    have H := bD.out;clear bD
    by_cases c16 : ((rd_T61 ab aa).f0) = 3
    ·rw [if_pos c16] at H
     have aI := beq_iff_eq.mpr c16;have cg := bne_eq_false_iff_eq.mpr c16;clear c16;(first | rw [aI] | (simp only [i64_w, i32_w]; rw [aI]) | skip);have H' := Aside0.mk H;clear H;have dH := ah.out;have dI := ag.out;have Z18 := kz4 ad;go_wp2;go_meet
     case rel => exact ⟨_, (true), et, H', ⟨by have := HK1.out; first | omega | exact Nat.le_refl _⟩, ⟨by (with_reducible repeat first | apply Kd.R_alloc | apply Kd.R_drewN | apply Kd.R_drew); exact Kd.R_mono (Kd.R_far (p := ⟨aj, 3, none⟩) (Kd.R_far (p := ⟨aj, 2, none⟩) (Kd.R_far (p := ⟨aj, 1, none⟩) (Kd.R_far (p := ⟨aj, 0, none⟩) (Kd.R_types ae.out ad.out (by decide)) (fun _ hk => hk.2) (.int .i64 ((rd_T61 ab aa).f0))) (fun _ hk => hk.2) (.int .i64 ((rd_T61 ab aa).f1))) (fun _ hk => hk.2) (.int .i64 ((rd_T61 ab aa).f2))) (fun _ hk => hk.2) (.int .u64 ((rd_T61 ab aa).f3))) (fun _ hk => trivial)⟩, ⟨kg af⟩, ⟨kg ad⟩, ⟨kh HB⟩⟩
    rw [if_neg c16] at H;have aI := beq_eq_false_iff_ne.mpr c16;have cg := bne_iff_ne.mpr c16;(first | rw [aI] | (simp only [i64_w, i32_w]; rw [aI]) | skip)
    by_cases c19 : ((rd_T61 ab aa).f0) = 4
    rotate_left
    ·rw [if_neg c19] at H
     have ch := beq_eq_false_iff_ne.mpr c19;have ci := bne_iff_ne.mpr c19;have H' := Aside0.mk H;clear H;have dJ := ah.out;have dK := ag.out;have Z23 := kz4 ad;go_wp2;go_meet
     case rel => exact ⟨_, ((((rd_T61 ab aa).f0) == 5)), et, H', ⟨by have := HK1.out; first | omega | exact Nat.le_refl _⟩, ⟨by (with_reducible repeat first | apply Kd.R_alloc | apply Kd.R_drewN | apply Kd.R_drew); exact Kd.R_mono (Kd.R_far (p := ⟨aj, 3, none⟩) (Kd.R_far (p := ⟨aj, 2, none⟩) (Kd.R_far (p := ⟨aj, 1, none⟩) (Kd.R_far (p := ⟨aj, 0, none⟩) (Kd.R_types ae.out ad.out (by decide)) (fun _ hk => hk.2) (.int .i64 ((rd_T61 ab aa).f0))) (fun _ hk => hk.2) (.int .i64 ((rd_T61 ab aa).f1))) (fun _ hk => hk.2) (.int .i64 ((rd_T61 ab aa).f2))) (fun _ hk => hk.2) (.int .u64 ((rd_T61 ab aa).f3))) (fun _ hk => trivial)⟩, ⟨kg af⟩, ⟨kg ad⟩, ⟨kh HB⟩⟩
    rw [if_pos c19] at H;have ch := beq_iff_eq.mpr c19;have ci := bne_eq_false_iff_eq.mpr c19;clear c19;have H' := Aside0.mk H;clear H;have dL := ah.out;have dM := ag.out;have Z21 := kz4 ad;go_wp2;go_meet
    case rel => exact ⟨_, (true), et, H', ⟨by have := HK1.out; first | omega | exact Nat.le_refl _⟩, ⟨by (with_reducible repeat first | apply Kd.R_alloc | apply Kd.R_drewN | apply Kd.R_drew); exact Kd.R_mono (Kd.R_far (p := ⟨aj, 3, none⟩) (Kd.R_far (p := ⟨aj, 2, none⟩) (Kd.R_far (p := ⟨aj, 1, none⟩) (Kd.R_far (p := ⟨aj, 0, none⟩) (Kd.R_types ae.out ad.out (by decide)) (fun _ hk => hk.2) (.int .i64 ((rd_T61 ab aa).f0))) (fun _ hk => hk.2) (.int .i64 ((rd_T61 ab aa).f1))) (fun _ hk => hk.2) (.int .i64 ((rd_T61 ab aa).f2))) (fun _ hk => hk.2) (.int .u64 ((rd_T61 ab aa).f3))) (fun _ hk => trivial)⟩, ⟨kg af⟩, ⟨kg ad⟩, ⟨kh HB⟩⟩
   clear bD;(try clear cd ce cf Z15 au av aw ax bp bq);obtain ⟨kq, aC, rfl, HA, an, ae, af, ad, HB⟩ := hcut
   cases kq with
   | zero => exact absurd HA.out (by simp [tune_Levels.j1])
   | succ dc =>
    have H := HA.out;clear HA;simp only [tune_Levels.j1] at H;have bE := Aside0.mk H;clear H;go_upto_region 6 with (fail);go_cut [62] (fun v62 wc => ∃ (kq : Nat) (aD : Bool), v62 = .bool aD ∧ Aside0 (tune_Levels.j2 kq ai aa aC ab (ab.length : Int) aa aD ((rd_T61 ab aa).f0) ((rd_T61 ab aa).f1) ((rd_T61 ab aa).f2) ((rd_T61 ab aa).f3) = some r) ∧ Aside0 (kq ≤ dc) ∧ Aside0 (Kd.R (Kd.int .i64) 3 wc w.heap.size (fun _ => True) bC ai) ∧ Aside0 (wc.heap[bc]? = some (.cells #[(.slice aP aA.length aQ), (.slice (some bd) ab.length aR), (.slice aS aB.length aT)] 26 (0, 0))) ∧ Aside0 (wc.heap[aj]? = some (.cells #[.int .i64 ((rd_T61 ab aa).f0), .int .i64 ((rd_T61 ab aa).f1), .int .i64 ((rd_T61 ab aa).f2), .int .u64 ((rd_T61 ab aa).f3)] 61 (0, 0))) ∧ Aside0 (Below w.heap.size w wc))
    case first =>
     have H := bE.out;clear bE
     by_cases c25 : aC = true
     ·subst c25
      replace H := ifT H
      by_cases c26 : ((rd_T61 ab aa).f1) < 0
      ·rw [if_pos c26] at H
       have aJ := decide_eq_true c26;clear c26;(first | rw [aJ] | (simp only [i64_w, i32_w]; rw [aJ]) | skip);have H' := Aside0.mk H;clear H;have dN := ah.out;have dO := ag.out;have Z28 := kz4 ad;go_wp2;go_meet
       case rel => exact ⟨_, (true), et, H', ⟨by have := HK1.out; have := an.out; first | omega | exact Nat.le_refl _⟩, ⟨krR ae⟩, ⟨kg af⟩, ⟨kg ad⟩, ⟨kh HB⟩⟩
      rw [if_neg c26] at H;have aJ := decide_eq_false c26;clear c26;(first | rw [aJ] | (simp only [i64_w, i32_w]; rw [aJ]) | skip)
      by_cases c29 : ((rd_T61 ab aa).f1) ≥ aa
      ·rw [if_pos c29] at H
       have cj := decide_eq_true c29;clear c29;have H' := Aside0.mk H;clear H;have dP := ah.out;have dQ := ag.out;have Z31 := kz4 ad;go_wp2;go_meet
       case rel => exact ⟨_, (true), et, H', ⟨by have := HK1.out; have := an.out; first | omega | exact Nat.le_refl _⟩, ⟨krR ae⟩, ⟨kg af⟩, ⟨kg ad⟩, ⟨kh HB⟩⟩
      rw [if_neg c29] at H;have cj := decide_eq_false c29;clear c29
      by_cases c32 : ((rd_T61 ab aa).f2) < 0
      ·rw [if_pos c32] at H
       have ck := decide_eq_true c32;clear c32;have H' := Aside0.mk H;clear H;have dR := ah.out;have dS := ag.out;have Z34 := kz4 ad;go_wp2;go_meet
       case rel => exact ⟨_, (true), et, H', ⟨by have := HK1.out; have := an.out; first | omega | exact Nat.le_refl _⟩, ⟨krR ae⟩, ⟨kg af⟩, ⟨kg ad⟩, ⟨kh HB⟩⟩
      rw [if_neg c32] at H;have ck := decide_eq_false c32;clear c32;have H' := Aside0.mk H;clear H;have dT := ah.out;have dU := ag.out;have Z36 := kz4 ad;go_wp2;go_meet
      case rel => exact ⟨_, (decide (((rd_T61 ab aa).f2) ≥ aa)), et, H', ⟨by have := HK1.out; have := an.out; first | omega | exact Nat.le_refl _⟩, ⟨krR ae⟩, ⟨kg af⟩, ⟨kg ad⟩, ⟨kh HB⟩⟩
     replace c25 := Bool.eq_false_iff.mpr c25;subst c25;replace H := ifF H
     by_cases c37 : ((rd_T61 ab aa).f0) = 6
     rotate_left
     ·rw [if_neg c37] at H
      have cl := beq_eq_false_iff_ne.mpr c37;have cm := bne_iff_ne.mpr c37;have H' := Aside0.mk H;clear H;have dV := ah.out;have dW := ag.out;have Z47 := kz4 ad;go_wp2;go_meet
      case rel => exact ⟨_, (false), et, H', ⟨by have := HK1.out; have := an.out; first | omega | exact Nat.le_refl _⟩, ⟨krR ae⟩, ⟨kg af⟩, ⟨kg ad⟩, ⟨kh HB⟩⟩
     rw [if_pos c37] at H;have cl := beq_iff_eq.mpr c37;have cm := bne_eq_false_iff_eq.mpr c37;clear c37
     by_cases c38 : ((rd_T61 ab aa).f1) < 0
     ·rw [if_pos c38] at H
      have cn := decide_eq_true c38;clear c38;have H' := Aside0.mk H;clear H;have dX := ah.out;have dY := ag.out;have Z40 := kz4 ad;go_wp2;go_meet
      case rel => exact ⟨_, (true), et, H', ⟨by have := HK1.out; have := an.out; first | omega | exact Nat.le_refl _⟩, ⟨krR ae⟩, ⟨kg af⟩, ⟨kg ad⟩, ⟨kh HB⟩⟩
     rw [if_neg c38] at H;have cn := decide_eq_false c38;clear c38
     by_cases c41 : ((rd_T61 ab aa).f1) ≥ aa
     ·rw [if_pos c41] at H
      have co := decide_eq_true c41;clear c41;have H' := Aside0.mk H;clear H;have dZ := ah.out;have ea := ag.out;have Z43 := kz4 ad;go_wp2;go_meet
      case rel => exact ⟨_, (true), et, H', ⟨by have := HK1.out; have := an.out; first | omega | exact Nat.le_refl _⟩, ⟨krR ae⟩, ⟨kg af⟩, ⟨kg ad⟩, ⟨kh HB⟩⟩
     rw [if_neg c41] at H;have co := decide_eq_false c41;clear c41;have H' := Aside0.mk H;clear H;have eb := ah.out;have ec := ag.out;have Z45 := kz4 ad;go_wp2;go_meet
     case rel => exact ⟨_, (false), et, H', ⟨by have := HK1.out; have := an.out; first | omega | exact Nat.le_refl _⟩, ⟨krR ae⟩, ⟨kg af⟩, ⟨kg ad⟩, ⟨kh HB⟩⟩
    clear bE;obtain ⟨kq, aD, rfl, HA, ar, ae, af, ad, HB⟩ := hcut
    cases kq with
    | zero => exact absurd HA.out (by simp [tune_Levels.j2])
    | succ aq =>
     have H := HA.out;clear HA;simp only [tune_Levels.j2] at H
     by_cases c48 : aD = true
     ·subst c48
      replace H := ifT H;obtain rfl := Option.some.inj H;go_wp2;go_ret;exact ⟨_, er, by first | exact Kd.R_nil _ _ _ _ _ | exact Kd.N_nil _ _ _ _ _ | exact Kd.V_nil _ _ _ _ _ | exact Kd.Q_nil _ _ _ _ _ | exact Kd.S_nil _ _ _ _ _, kh HB⟩
     replace c48 := Bool.eq_false_iff.mpr c48;subst c48;replace H := ifF H
     by_cases c49 : aC = true
     rotate_left
     ·replace c49 := Bool.eq_false_iff.mpr c49
      subst c49;replace H := ifF H
      by_cases c74 : ((rd_T61 ab aa).f0) = 6
      rotate_left
      ·rw [if_neg c74] at H
       have cp := beq_eq_false_iff_ne.mpr c74;have cq := bne_iff_ne.mpr c74
       by_cases c96 : ((rd_T61 ab aa).f0) = 5
       rotate_left
       ·rw [if_neg c96] at H
        have cr := beq_eq_false_iff_ne.mpr c96;have ct := bne_iff_ne.mpr c96;have H' := Aside0.mk H;clear H;have dd := ah.out;have de := ag.out;have eE := kz4 ad;go_wp2;go_roundg aq
        case measure => have := HK1.out; have := an.out; have := ar.out; omega
        case rel => exact ⟨(ai), (wrap64 (aa + 1)), et, H', ⟨by have := HK1.out; have := an.out; have := ar.out; omega⟩, ⟨krR ae⟩, ⟨kg af⟩, ⟨kh HB⟩⟩
       rw [if_pos c96] at H;have cr := beq_iff_eq.mpr c96;have ct := bne_eq_false_iff_eq.mpr c96;clear c96
       by_cases c97 : 0 ≤ aa
       rotate_left
       ·rw [if_neg c97] at H
        exact absurd H (by simp)
       rw [if_pos c97] at H;have ed := decide_eq_true c97;clear c97
       by_cases c98 : aa < (ai.length : Int)
       rotate_left
       ·rw [if_neg c98] at H
        exact absurd H (by simp)
       rw [if_pos c98] at H;have ee := decide_eq_true c98;clear c98;obtain ⟨bF, aK⟩ : ∃ y_ : List Int, y_ = (ai.set (aa : Int).toNat (wrap64 ((rd ai aa) + 1))) := ⟨_, rfl⟩
       replace H : (tune_Levels.l0 aq bF ab (ab.length : Int) (wrap64 (aa + 1))) = some r := by first | (rw [aK]; with_reducible exact H) | (have H2_ := (Option.bind_some _ _).symm.trans H; rw [aK]; with_reducible exact H2_) | (have H2_ := (Option.bind_some _ _).symm.trans H; with_reducible exact H2_) | with_reducible exact H | (rw [aK]; exact H) | exact H
       have cu := Aside0.mk aK;clear aK;have H' := Aside0.mk H;clear H;have df := ah.out;have dg := ag.out;have eF := kz4 ad;obtain ⟨ef, cv, cw⟩ := Kd.R_slice ae.out;subst cw;have bG : 0 ≤ (aa : Int) := od;have bH : aa < (ai.length : Int) := od;obtain ⟨eg, dh, br⟩ := Kd.at_int (Kd.R_reads' ae.out).2.2 aa bG bH;cases dh;replace bG := eq_true bG; replace bH := eq_true bH;have p99 : 0 ≤ (aa : Int) := od;have q99 : (aa : Int) < ((ai.length : Int) : Int) := od;obtain ⟨bI, eG, cx, cy, gl99, cl99, HG99⟩ := Kd.R_form ae.out (by omega);(first | cases cx | (injection cx with ea_ en_ ec_; (first | subst ea_ | (injection ea_ with ea_; subst ea_)); subst ec_; clear en_));have di := Aside0.mk cy;have eH := Aside0.mk HG99;clear cy gl99 HG99;(first | simp only [add_plain] at br | skip);obtain ⟨dj, dk⟩ := Kd.R_celln 0 ae.out (aa : Int) p99 q99;replace p99 := eq_true p99; replace q99 := eq_true q99;have be := Kd.R_putg ae.out (aa : Int) (wrap64 ((rd ai aa) + 1));go_wp2_with (first | ((with_reducible refine gate_store (t := 3) (p := 99) rfl ?_); refine store_event (t := 3) (p := 99) (v := ?vo_w104) (w1 := (wc.setCell ⟨bI, (aa : Int).toNat, none⟩ (.int .i64 (wrap64 ((rd ai aa) + 1))))) ?hg ?ho ?hn ?hr ?_; (case ho => rfl); (case hg => rfl); (case hn => rfl); (case hr => first | (go_simp; done) | (go_simp; rfl)); intro bJ hw; have hg : wc.grownBy bJ (some bI) := (by rw [hw]; exact be.2); have hp_ : Kd.R (Kd.int .i64) 3 bJ w.heap.size (fun _ => True) (.slice (some ⟨bI, 0, none⟩) ai.length cv) bF := (by rw [hw, cu.out]; exact be.1); clear be; replace af := kXR af ae hg; replace ad := kXR ad ae hg; replace ae := Aside0.mk (hp_); replace HB := Aside0.mk ((by rw [hw]; exact below_set (HB.out) di.out : Below w.heap.size w bJ)); clear hg hw hp_));go_roundg aq
       case measure => have := HK1.out; have := an.out; have := ar.out; omega
       case rel => exact ⟨(bF), (wrap64 (aa + 1)), et, H', ⟨by have := HK1.out; have := an.out; have := ar.out; omega⟩, ⟨krR ae⟩, ⟨kg af⟩, ⟨kh HB⟩⟩
      rw [if_pos c74] at H;have cp := beq_iff_eq.mpr c74;have cq := bne_eq_false_iff_eq.mpr c74;clear c74
      by_cases c75 : 0 ≤ ((rd_T61 ab aa).f1)
      rotate_left
      ·rw [if_neg c75] at H
       exact absurd H (by simp)
      rw [if_pos c75] at H;have eh := decide_eq_true c75;clear c75
      by_cases c76 : ((rd_T61 ab aa).f1) < (ai.length : Int)
      rotate_left
      ·rw [if_neg c76] at H
       exact absurd H (by simp)
      rw [if_pos c76] at H;have ei := decide_eq_true c76;clear c76
      by_cases c77 : 0 ≤ aa
      rotate_left
      ·rw [if_neg c77] at H
       exact absurd H (by simp)
      rw [if_pos c77] at H;have ej := decide_eq_true c77;clear c77
      by_cases c78 : aa < (ai.length : Int)
      rotate_left
      ·rw [if_neg c78] at H
       exact absurd H (by simp)
      rw [if_pos c78] at H;have ek := decide_eq_true c78;clear c78;obtain ⟨ay, aL⟩ : ∃ y_ : List Int, y_ = (ai.set (aa : Int).toNat (rd ai ((rd_T61 ab aa).f1))) := ⟨_, rfl⟩
      replace H : (if ((rd_T61 ab aa).f0) = 5 then (tune_Levels.l0 aq (ay.set (aa : Int).toNat (wrap64 ((rd ay aa) + 1))) ab (ab.length : Int) (wrap64 (aa + 1))) else (tune_Levels.l0 aq ay ab (ab.length : Int) (wrap64 (aa + 1)))) = some r := by first | (rw [aL]; with_reducible exact H) | (have H2_ := (Option.bind_some _ _).symm.trans H; rw [aL]; with_reducible exact H2_) | (have H2_ := (Option.bind_some _ _).symm.trans H; with_reducible exact H2_) | with_reducible exact H | (rw [aL]; exact H) | exact H
      have bf := Aside0.mk aL;clear aL
      by_cases c80 : ((rd_T61 ab aa).f0) = 5
      rotate_left
      ·rw [if_neg c80] at H
       have cz := beq_eq_false_iff_ne.mpr c80;have cA := bne_iff_ne.mpr c80;have H' := Aside0.mk H;clear H;have el := ah.out;have em := ag.out;have Z91 := kz4 ad;obtain ⟨eI, dl, dm⟩ := Kd.R_slice ae.out;subst dm;have aU : 0 ≤ (((rd_T61 ab aa).f1) : Int) := od;have aV : ((rd_T61 ab aa).f1) < (ai.length : Int) := od;obtain ⟨cB, bK, aE⟩ := Kd.at_int (Kd.R_reads' ae.out).2.2 ((rd_T61 ab aa).f1) aU aV;cases bK;replace aU := eq_true aU; replace aV := eq_true aV;have p79 : 0 ≤ (aa : Int) := od;have q79 : (aa : Int) < ((ai.length : Int) : Int) := od;obtain ⟨az, dn, bg, bh, gl79, cl79, HG79⟩ := Kd.R_form ae.out (by omega);(first | cases bg | (injection bg with ea_ en_ ec_; (first | subst ea_ | (injection ea_ with ea_; subst ea_)); subst ec_; clear en_));have bt := Aside0.mk bh;have dp := Aside0.mk HG79;clear bh gl79 HG79;(first | simp only [add_plain] at aE | skip);obtain ⟨bL, bM⟩ := Kd.R_celln 0 ae.out (aa : Int) p79 q79;replace p79 := eq_true p79; replace q79 := eq_true q79;have bN := Kd.R_putg ae.out (aa : Int) (rd ai ((rd_T61 ab aa).f1));go_wp2_with (first | ((with_reducible refine gate_store (t := 3) (p := 90) rfl ?_); refine store_event (t := 3) (p := 90) (v := ?vo_w94) (w1 := (wc.setCell ⟨az, (aa : Int).toNat, none⟩ (.int .i64 (rd ai ((rd_T61 ab aa).f1))))) ?hg ?ho ?hn ?hr ?_; (case ho => rfl); (case hg => rfl); (case hn => rfl); (case hr => first | (go_simp; done) | (go_simp; rfl)); intro w94 hw; have hg : wc.grownBy w94 (some az) := (by rw [hw]; exact bN.2); have hp_ : Kd.R (Kd.int .i64) 3 w94 w.heap.size (fun _ => True) (.slice (some ⟨az, 0, none⟩) ai.length dl) ay := (by rw [hw, bf.out]; exact bN.1); clear bN; replace af := kXR af ae hg; replace ad := kXR ad ae hg; replace ae := Aside0.mk (hp_); replace HB := Aside0.mk ((by rw [hw]; exact below_set (HB.out) bt.out : Below w.heap.size w w94)); clear hg hw hp_; have Z95 := kz4 ad));go_roundg aq
       case measure => have := HK1.out; have := an.out; have := ar.out; omega
       case rel => exact ⟨(ay), (wrap64 (aa + 1)), et, H', ⟨by have := HK1.out; have := an.out; have := ar.out; omega⟩, ⟨krR ae⟩, ⟨kg af⟩, ⟨kh HB⟩⟩
      rw [if_pos c80] at H;have cz := beq_iff_eq.mpr c80;have cA := bne_eq_false_iff_eq.mpr c80;clear c80;obtain ⟨bO, aM⟩ : ∃ y_ : List Int, y_ = (ay.set (aa : Int).toNat (wrap64 ((rd ay aa) + 1))) := ⟨_, rfl⟩
      replace H : (tune_Levels.l0 aq bO ab (ab.length : Int) (wrap64 (aa + 1))) = some r := by first | (rw [aM]; with_reducible exact H) | (have H2_ := (Option.bind_some _ _).symm.trans H; rw [aM]; with_reducible exact H2_) | (have H2_ := (Option.bind_some _ _).symm.trans H; with_reducible exact H2_) | with_reducible exact H | (rw [aM]; exact H) | exact H
      have cC := Aside0.mk aM;clear aM;have H' := Aside0.mk H;clear H;have en := ah.out;have eo := ag.out;have Z83 := kz4 ad;obtain ⟨eJ, cD, dq⟩ := Kd.R_slice ae.out;subst dq;have aU : 0 ≤ (((rd_T61 ab aa).f1) : Int) := od;have aV : ((rd_T61 ab aa).f1) < (ai.length : Int) := od;obtain ⟨cB, bK, aE⟩ := Kd.at_int (Kd.R_reads' ae.out).2.2 ((rd_T61 ab aa).f1) aU aV;cases bK;replace aU := eq_true aU; replace aV := eq_true aV;have p79 : 0 ≤ (aa : Int) := od;have q79 : (aa : Int) < ((ai.length : Int) : Int) := od;obtain ⟨az, dn, bg, bh, gl79, cl79, HG79⟩ := Kd.R_form ae.out (by omega);(first | cases bg | (injection bg with ea_ en_ ec_; (first | subst ea_ | (injection ea_ with ea_; subst ea_)); subst ec_; clear en_));have bt := Aside0.mk bh;have dp := Aside0.mk HG79;clear bh gl79 HG79;(first | simp only [add_plain] at aE | skip);obtain ⟨bL, bM⟩ := Kd.R_celln 0 ae.out (aa : Int) p79 q79;replace p79 := eq_true p79; replace q79 := eq_true q79;have bP := Kd.R_putg ae.out (aa : Int) (rd ai ((rd_T61 ab aa).f1));go_wp2_with (first | ((with_reducible refine gate_store (t := 3) (p := 90) rfl ?_); refine store_event (t := 3) (p := 90) (v := ?vo_w86) (w1 := (wc.setCell ⟨az, (aa : Int).toNat, none⟩ (.int .i64 (rd ai ((rd_T61 ab aa).f1))))) ?hg ?ho ?hn ?hr ?_; (case ho => rfl); (case hg => rfl); (case hn => rfl); (case hr => first | (go_simp; done) | (go_simp; rfl)); intro w86 hw; have hg : wc.grownBy w86 (some az) := (by rw [hw]; exact bP.2); have hp_ : Kd.R (Kd.int .i64) 3 w86 w.heap.size (fun _ => True) (.slice (some ⟨az, 0, none⟩) ai.length cD) ay := (by rw [hw, bf.out]; exact bP.1); clear bP; replace af := kXR af ae hg; replace ad := kXR ad ae hg; replace ae := Aside0.mk (hp_); replace HB := Aside0.mk ((by rw [hw]; exact below_set (HB.out) bt.out : Below w.heap.size w w86)); clear hg hw hp_; have Z87 := kz4 ad; have bQ : 0 ≤ (aa : Int) := od; have bR : aa < (ay.length : Int) := (by have h_ : (aa : Int) < ((ai.length : Int) : Int) := od; first | (have e_ := (Kd.R_reads' ae.out).1; omega) | simpa only [bf.out, List.length_set] using h_); have ql141 : ((aa : Int) < ((ai.length : Int) : Int)) = True := eq_true od; obtain ⟨cE, dr, aF⟩ := Kd.at_int (Kd.R_reads' ae.out).2.2 aa bQ bR; obtain rfl : (⟨az, 0, none⟩ : Addr) = cE := (by injection dr); (first | simp only [add_plain] at aF | simp only [add_at] at aF | simp only [Addr.add, Nat.zero_add] at aF | skip); replace bQ := eq_true bQ; replace bR := eq_true bR; have p81 : 0 ≤ (aa : Int) := od; have q81 : (aa : Int) < ((ai.length : Int) : Int) := od; obtain ⟨dt, du⟩ := Kd.R_celln 0 ae.out (aa : Int) p81 q81; replace p81 := eq_true p81; replace q81 := eq_true q81; obtain ⟨ep, eq⟩ := Kd.R_celln 0 ae.out (aa : Int) od od; have bS := Kd.R_putg ae.out (aa : Int) (wrap64 ((rd ay aa) + 1))) | ((with_reducible refine gate_store (t := 3) (p := 99) rfl ?_); refine store_event (t := 3) (p := 99) (v := ?vo_w89) (w1 := (w86.setCell ⟨az, (aa : Int).toNat, none⟩ (.int .i64 (wrap64 ((rd ay aa) + 1))))) ?hg ?ho ?hn ?hr ?_; (case ho => rfl); (case hg => rfl); (case hn => rfl); (case hr => first | (go_simp; done) | (go_simp; rfl)); intro w89 hw; have hg : w86.grownBy w89 (some az) := (by rw [hw]; exact bS.2); have hp_ : Kd.R (Kd.int .i64) 3 w89 w.heap.size (fun _ => True) (.slice (some ⟨az, 0, none⟩) ai.length cD) bO := (by rw [hw, cC.out]; exact bS.1); clear bS; replace af := kXR af ae hg; replace ad := kXR ad ae hg; replace ae := Aside0.mk (hp_); replace HB := Aside0.mk ((by rw [hw]; exact below_set (HB.out) bt.out : Below w.heap.size w w89)); clear hg hw hp_));go_roundg aq
      case measure => have := HK1.out; have := an.out; have := ar.out; omega
      case rel => exact ⟨(bO), (wrap64 (aa + 1)), et, H', ⟨by have := HK1.out; have := an.out; have := ar.out; omega⟩, ⟨krR ae⟩, ⟨kg af⟩, ⟨kh HB⟩⟩
     subst c49;replace H := ifT H
     by_cases c50 : 0 ≤ ((rd_T61 ab aa).f1)
     rotate_left
     ·rw [if_neg c50] at H
      exact absurd H (by simp)
     rw [if_pos c50] at H;have es := decide_eq_true c50;clear c50
     by_cases c51 : ((rd_T61 ab aa).f1) < (ai.length : Int)
     rotate_left
     ·rw [if_neg c51] at H
      exact absurd H (by simp)
     rw [if_pos c51] at H;have eu := decide_eq_true c51;clear c51
     by_cases c52 : 0 ≤ ((rd_T61 ab aa).f2)
     rotate_left
     ·rw [if_neg c52] at H
      exact absurd H (by simp)
     rw [if_pos c52] at H;have ev := decide_eq_true c52;clear c52
     by_cases c53 : ((rd_T61 ab aa).f2) < (ai.length : Int)
     rotate_left
     ·rw [if_neg c53] at H
      exact absurd H (by simp)
     rw [if_pos c53] at H;have ew := decide_eq_true c53;clear c53;obtain ⟨ak, bi⟩ : ∃ j_ : Int, (mx (rd ai ((rd_T61 ab aa).f1)) (rd ai ((rd_T61 ab aa).f2))) = j_ := ⟨_, rfl⟩
     replace H : (if 0 ≤ aa then (if aa < (ai.length : Int) then ((some (ai.set (aa : Int).toNat (ak) : List Int)).bind fun aG => (if ((rd_T61 ab aa).f0) = 5 then (tune_Levels.l0 aq (aG.set (aa : Int).toNat (wrap64 ((ak) + 1))) ab (ab.length : Int) (wrap64 (aa + 1))) else (tune_Levels.l0 aq aG ab (ab.length : Int) (wrap64 (aa + 1))))) else (none)) else (none)) = some r := by first | (rw [bi] at H; exact H) | (simp only [bi] at H ⊢; exact H)
     have hji54_ : (if (rd ai ((rd_T61 ab aa).f1)) < (rd ai ((rd_T61 ab aa).f2)) then (rd ai ((rd_T61 ab aa).f2)) else (rd ai ((rd_T61 ab aa).f1))) = ak := bi
     by_cases c55 : 0 ≤ aa
     rotate_left
     ·rw [if_neg c55] at H
      exact absurd H (by simp)
     rw [if_pos c55] at H;have ex := decide_eq_true c55;clear c55
     by_cases c56 : aa < (ai.length : Int)
     rotate_left
     ·rw [if_neg c56] at H
      exact absurd H (by simp)
     rw [if_pos c56] at H;have ey := decide_eq_true c56;clear c56;obtain ⟨aG, aN⟩ : ∃ y_ : List Int, y_ = (ai.set (aa : Int).toNat (ak)) := ⟨_, rfl⟩
     replace H : (if ((rd_T61 ab aa).f0) = 5 then (tune_Levels.l0 aq (aG.set (aa : Int).toNat (wrap64 ((ak) + 1))) ab (ab.length : Int) (wrap64 (aa + 1))) else (tune_Levels.l0 aq aG ab (ab.length : Int) (wrap64 (aa + 1)))) = some r := by first | (rw [aN]; with_reducible exact H) | (have H2_ := (Option.bind_some _ _).symm.trans H; rw [aN]; with_reducible exact H2_) | (have H2_ := (Option.bind_some _ _).symm.trans H; with_reducible exact H2_) | with_reducible exact H | (rw [aN]; exact H) | exact H
     have bj := Aside0.mk aN;clear aN
     by_cases c58 : ((rd_T61 ab aa).f0) = 5
     rotate_left
     ·rw [if_neg c58] at H
      have cF := beq_eq_false_iff_ne.mpr c58;have cG := bne_iff_ne.mpr c58;have H' := Aside0.mk H;clear H;(try go_wp2);replace ae := kFR ae; replace af := kD af; replace ad := kD ad; replace HB := kE HB;obtain ⟨eK, eL, cH⟩ := Kd.R_slice ae.out;(first | subst cH | (injection cH with f1_ f2_ f3_; have f4_ := f1_.symm; have f5_ := f3_.symm; clear f1_ f2_ f3_; subst f4_; subst f5_));have aW : 0 ≤ (((rd_T61 ab aa).f1) : Int) := od;have aX : ((rd_T61 ab aa).f1) < (ai.length : Int) := od;obtain ⟨bk, bT, ao⟩ := Kd.at_int (Kd.R_reads' ae.out).2.2 ((rd_T61 ab aa).f1) aW aX;cases bT;replace aW := eq_true aW; replace aX := eq_true aX;have aY : 0 ≤ (((rd_T61 ab aa).f2) : Int) := od;have aZ : ((rd_T61 ab aa).f2) < (ai.length : Int) := od;obtain ⟨bl, bU, ap⟩ := Kd.at_int (Kd.R_reads' ae.out).2.2 ((rd_T61 ab aa).f2) aY aZ;obtain rfl : bk = bl := (by injection bU);replace aY := eq_true aY; replace aZ := eq_true aZ;have p57 : 0 ≤ (aa : Int) := od;have q57 : (aa : Int) < ((ai.length : Int) : Int) := od;obtain ⟨al, dv, bm, bn, gl57, cl57, HG57⟩ := Kd.R_form ae.out (by omega);(first | cases bm | (injection bm with ea_ en_ ec_; (first | subst ea_ | (injection ea_ with ea_; subst ea_)); subst ec_; clear en_));have cI := Aside0.mk bn;have bV := Aside0.mk HG57;clear bn gl57 HG57;(first | simp only [add_plain] at ao | skip);(first | simp only [add_plain] at ap | skip);obtain ⟨ba, bb⟩ := Kd.R_celln 0 ae.out (aa : Int) p57 q57;replace p57 := eq_true p57; replace q57 := eq_true q57;have bW := Kd.R_putn ae.out (aa : Int) ak;rw [← bj.out] at bW;have cJ := Aside0.mk bW;clear bW;refine start_ (n := 15) (S := fun w' => w'.cell? ⟨aj, 0, none⟩ = some (.int .i64 ((rd_T61 ab aa).f0)) ∧ w'.cell? ⟨aj, 1, none⟩ = some (.int .i64 ((rd_T61 ab aa).f1)) ∧ w'.cell? ⟨aj, 2, none⟩ = some (.int .i64 ((rd_T61 ab aa).f2)) ∧ w'.cell? ⟨aj, 3, none⟩ = some (.int .u64 ((rd_T61 ab aa).f3)) ∧ w'.cell? ⟨al, (((rd_T61 ab aa).f1)).toNat, none⟩ = some (.int .i64 (rd ai ((rd_T61 ab aa).f1))) ∧ w'.cell? ⟨al, (((rd_T61 ab aa).f2)).toNat, none⟩ = some (.int .i64 (rd ai ((rd_T61 ab aa).f2)))) (ds := [14]) (bs 15 0) (by kernel_rfl) rfl rfl ⟨kk ad 0, kk ad 1, kk ad 2, kk ad 3, ao, ap⟩ (fun hHeld => ?_); refine with_tabW tune_Levels.tab9 tune_Levels.bits9 (fun HT_ HW_ => ?_);generalize wc.drew = w69 at ae af ad HB bV cJ bb ao ap ba hHeld ⊢;refine pu 0 (some 65) (bs 15 1) HT_ ?_;refine pu 1 (some 66) (bs 15 3) HT_ ?_;refine pu 2 (some 67) (bs 15 7) HT_ ?_;refine pu 3 (some 68) (bs 15 15) HT_ ?_;refine pu 7 (some 72) (bs 15 143) HT_ ?_;refine pu 8 (some 73) (bs 15 399) HT_ ?_;refine ta 4 (some 69) (bs 15 415) HT_ HW_ hHeld ?_;refine pu 5 (some 70) (bs 15 447) HT_ ?_;refine ta 6 (some 71) (bs 15 511) HT_ HW_ hHeld ?_;refine ta 9 (some 74) (bs 15 1023) HT_ HW_ hHeld ?_;refine pu 10 (some 75) (bs 15 2047) HT_ ?_;refine ta 11 (some 76) (bs 15 4095) HT_ HW_ hHeld ?_;refine pu 12 (some 77) (bs 15 8191) HT_ ?_;refine pu 13 (some 78) (bs 15 16383) HT_ ?_;refine last_ (i := 14) (N := none) (bs 15 32767) rfl rfl (one_of HT_.out (by kernel_rfl)) (by decide) (fun K hK => ?_);refine skip_ (w1 := ?_) (by rfl) rfl ?_ ?_
      rotate_left
      ·go_simp
       rfl
      refine hK.out _ _ ?_;clear hK K;refine done_ (done_of HT_.out (by kernel_rfl)) ?_;have ez := ah.out;have eA := ag.out;have cP : (w69.setCell ⟨al, (aa : Int).toNat, none⟩ (.int .i64 ak)).cell? ⟨aj, 0, none⟩ = some (.int .i64 ((rd_T61 ab aa).f0)) := (blk_cell (blk_far (p := ⟨al, (aa : Int).toNat, none⟩) ad.out (by have h_ := Kd.R_ne ae.out ad.out (by decide); intro e_; exact h_ (by rw [e_]; rfl)) (.int .i64 ak)) 0).trans rfl;have cQ : (w69.setCell ⟨al, (aa : Int).toNat, none⟩ (.int .i64 ak)).cell? ⟨aj, 1, none⟩ = some (.int .i64 ((rd_T61 ab aa).f1)) := (blk_cell (blk_far (p := ⟨al, (aa : Int).toNat, none⟩) ad.out (by have h_ := Kd.R_ne ae.out ad.out (by decide); intro e_; exact h_ (by rw [e_]; rfl)) (.int .i64 ak)) 1).trans rfl;have cR : (w69.setCell ⟨al, (aa : Int).toNat, none⟩ (.int .i64 ak)).cell? ⟨aj, 2, none⟩ = some (.int .i64 ((rd_T61 ab aa).f2)) := (blk_cell (blk_far (p := ⟨al, (aa : Int).toNat, none⟩) ad.out (by have h_ := Kd.R_ne ae.out ad.out (by decide); intro e_; exact h_ (by rw [e_]; rfl)) (.int .i64 ak)) 2).trans rfl;have cS : (w69.setCell ⟨al, (aa : Int).toNat, none⟩ (.int .i64 ak)).cell? ⟨aj, 3, none⟩ = some (.int .u64 ((rd_T61 ab aa).f3)) := (blk_cell (blk_far (p := ⟨al, (aa : Int).toNat, none⟩) ad.out (by have h_ := Kd.R_ne ae.out ad.out (by decide); intro e_; exact h_ (by rw [e_]; rfl)) (.int .i64 ak)) 3).trans rfl;have cT := blk_frozen ad.out 0;have cU := blk_frozen ad.out 1;have cV := blk_frozen ad.out 2;have cW := blk_frozen ad.out 3;(try go_wp2);go_roundg aq
      case measure => have := HK1.out; have := an.out; have := ar.out; omega
      case rel => exact ⟨(aG), (wrap64 (aa + 1)), et, H', ⟨by have := HK1.out; have := an.out; have := ar.out; omega⟩, ⟨krR cJ⟩, ⟨by (with_reducible repeat first | refine blk_drewN ?_ _ | refine blk_drew ?_ | refine blk_alloc ?_ _); refine blk_far ?_ (by have h_ := Kd.R_ne ae.out af.out (by decide); intro e_; exact h_ (by rw [e_]; rfl)) _; (with_reducible repeat first | refine blk_drewN ?_ _ | refine blk_drew ?_ | refine blk_alloc ?_ _); exact af.out⟩, ⟨kh HB⟩⟩
     rw [if_pos c58] at H;have cF := beq_iff_eq.mpr c58;have cG := bne_eq_false_iff_eq.mpr c58;clear c58;obtain ⟨bX, aO⟩ : ∃ y_ : List Int, y_ = (aG.set (aa : Int).toNat (wrap64 ((ak) + 1))) := ⟨_, rfl⟩
     replace H : (tune_Levels.l0 aq bX ab (ab.length : Int) (wrap64 (aa + 1))) = some r := by first | (rw [aO]; with_reducible exact H) | (have H2_ := (Option.bind_some _ _).symm.trans H; rw [aO]; with_reducible exact H2_) | (have H2_ := (Option.bind_some _ _).symm.trans H; with_reducible exact H2_) | with_reducible exact H | (rw [aO]; exact H) | exact H
     have cK := Aside0.mk aO;clear aO;have H' := Aside0.mk H;clear H;(try go_wp2);replace ae := kFR ae; replace af := kD af; replace ad := kD ad; replace HB := kE HB;obtain ⟨eM, cL, cM⟩ := Kd.R_slice ae.out;(first | subst cM | (injection cM with f1_ f2_ f3_; have f4_ := f1_.symm; have f5_ := f3_.symm; clear f1_ f2_ f3_; subst f4_; subst f5_));have aW : 0 ≤ (((rd_T61 ab aa).f1) : Int) := od;have aX : ((rd_T61 ab aa).f1) < (ai.length : Int) := od;obtain ⟨bk, bT, ao⟩ := Kd.at_int (Kd.R_reads' ae.out).2.2 ((rd_T61 ab aa).f1) aW aX;cases bT;replace aW := eq_true aW; replace aX := eq_true aX;have aY : 0 ≤ (((rd_T61 ab aa).f2) : Int) := od;have aZ : ((rd_T61 ab aa).f2) < (ai.length : Int) := od;obtain ⟨bl, bU, ap⟩ := Kd.at_int (Kd.R_reads' ae.out).2.2 ((rd_T61 ab aa).f2) aY aZ;obtain rfl : bk = bl := (by injection bU);replace aY := eq_true aY; replace aZ := eq_true aZ;have p57 : 0 ≤ (aa : Int) := od;have q57 : (aa : Int) < ((ai.length : Int) : Int) := od;obtain ⟨al, dv, bm, bn, gl57, cl57, HG57⟩ := Kd.R_form ae.out (by omega);(first | cases bm | (injection bm with ea_ en_ ec_; (first | subst ea_ | (injection ea_ with ea_; subst ea_)); subst ec_; clear en_));have cI := Aside0.mk bn;have bV := Aside0.mk HG57;clear bn gl57 HG57;(first | simp only [add_plain] at ao | skip);(first | simp only [add_plain] at ap | skip);obtain ⟨ba, bb⟩ := Kd.R_celln 0 ae.out (aa : Int) p57 q57;replace p57 := eq_true p57; replace q57 := eq_true q57;have bY := Kd.R_putn ae.out (aa : Int) ak;rw [← bj.out] at bY;have cN := Aside0.mk bY;clear bY;refine start_ (n := 15) (S := fun w' => w'.cell? ⟨aj, 0, none⟩ = some (.int .i64 ((rd_T61 ab aa).f0)) ∧ w'.cell? ⟨aj, 1, none⟩ = some (.int .i64 ((rd_T61 ab aa).f1)) ∧ w'.cell? ⟨aj, 2, none⟩ = some (.int .i64 ((rd_T61 ab aa).f2)) ∧ w'.cell? ⟨aj, 3, none⟩ = some (.int .u64 ((rd_T61 ab aa).f3)) ∧ w'.cell? ⟨al, (((rd_T61 ab aa).f1)).toNat, none⟩ = some (.int .i64 (rd ai ((rd_T61 ab aa).f1))) ∧ w'.cell? ⟨al, (((rd_T61 ab aa).f2)).toNat, none⟩ = some (.int .i64 (rd ai ((rd_T61 ab aa).f2)))) (ds := [14]) (bs 15 0) (by kernel_rfl) rfl rfl ⟨kk ad 0, kk ad 1, kk ad 2, kk ad 3, ao, ap⟩ (fun hHeld => ?_); refine with_tabW tune_Levels.tab9 tune_Levels.bits9 (fun HT_ HW_ => ?_);generalize wc.drew = w61 at ae af ad HB bV cN bb ao ap ba hHeld ⊢;refine pu 0 (some 65) (bs 15 1) HT_ ?_;refine pu 1 (some 66) (bs 15 3) HT_ ?_;refine pu 2 (some 67) (bs 15 7) HT_ ?_;refine pu 3 (some 68) (bs 15 15) HT_ ?_;refine pu 7 (some 72) (bs 15 143) HT_ ?_;refine pu 8 (some 73) (bs 15 399) HT_ ?_;refine ta 4 (some 69) (bs 15 415) HT_ HW_ hHeld ?_;refine pu 5 (some 70) (bs 15 447) HT_ ?_;refine ta 6 (some 71) (bs 15 511) HT_ HW_ hHeld ?_;refine ta 9 (some 74) (bs 15 1023) HT_ HW_ hHeld ?_;refine pu 10 (some 75) (bs 15 2047) HT_ ?_;refine ta 11 (some 76) (bs 15 4095) HT_ HW_ hHeld ?_;refine pu 12 (some 77) (bs 15 8191) HT_ ?_;refine pu 13 (some 78) (bs 15 16383) HT_ ?_;refine last_ (i := 14) (N := none) (bs 15 32767) rfl rfl (one_of HT_.out (by kernel_rfl)) (by decide) (fun K hK => ?_);refine skip_ (w1 := ?_) (by rfl) rfl ?_ ?_
     rotate_left
     ·go_simp
      rfl
     refine hK.out _ _ ?_;clear hK K;refine done_ (done_of HT_.out (by kernel_rfl)) ?_;have n0_ : Aside0 (Kd.R (Kd.int .i64) 3 (w61.setCell ⟨al, (aa : Int).toNat, none⟩ (.int .i64 ak)) w.heap.size (fun _ => True) (.slice (some ⟨al, 0, none⟩) ai.length cL) aG) := ⟨krR cN⟩;have n1_ : Aside0 ((w61.setCell ⟨al, (aa : Int).toNat, none⟩ (.int .i64 ak)).heap[bc]? = some (.cells #[.slice aP aA.length aQ, .slice (some bd) ab.length aR, .slice aS aB.length aT] 26 (0, 0))) := ⟨by (with_reducible repeat first | refine blk_drewN ?_ _ | refine blk_drew ?_ | refine blk_alloc ?_ _); refine blk_far ?_ (by have h_ := Kd.R_ne ae.out af.out (by decide); intro e_; exact h_ (by rw [e_]; rfl)) _; (with_reducible repeat first | refine blk_drewN ?_ _ | refine blk_drew ?_ | refine blk_alloc ?_ _); exact af.out⟩;have n2_ : Aside0 ((w61.setCell ⟨al, (aa : Int).toNat, none⟩ (.int .i64 ak)).heap[aj]? = some (.cells #[.int .i64 ((rd_T61 ab aa).f0), .int .i64 ((rd_T61 ab aa).f1), .int .i64 ((rd_T61 ab aa).f2), .int .u64 ((rd_T61 ab aa).f3)] 61 (0, 0))) := ⟨by (with_reducible repeat first | refine blk_drewN ?_ _ | refine blk_drew ?_ | refine blk_alloc ?_ _); refine blk_far ?_ (by have h_ := Kd.R_ne ae.out ad.out (by decide); intro e_; exact h_ (by rw [e_]; rfl)) _; (with_reducible repeat first | refine blk_drewN ?_ _ | refine blk_drew ?_ | refine blk_alloc ?_ _); exact ad.out⟩;have n3_ : Aside0 (Below w.heap.size w (w61.setCell ⟨al, (aa : Int).toNat, none⟩ (.int .i64 ak))) := ⟨kh HB⟩;(try clear ae af ad HB);generalize (w61.setCell ⟨al, (aa : Int).toNat, none⟩ (.int .i64 ak)) = w64 at n0_ n1_ n2_ n3_ ⊢;have ae := n0_; have af := n1_; have ad := n2_; have HB := n3_; clear n0_ n1_ n2_ n3_;have eB := ah.out;have eC := ag.out;have Z66 := kz4 ad;have p59 : 0 ≤ (aa : Int) := od;have q59 : (aa : Int) < ((ai.length : Int) : Int) := od;replace p59 := eq_true p59; replace q59 := eq_true q59;have p60 : 0 ≤ (aa : Int) := od;have q60 : (aa : Int) < ((ai.length : Int) : Int) := od;replace p60 := eq_true p60; replace q60 := eq_true q60;obtain ⟨cO, eD⟩ := Kd.R_celln 0 ae.out (aa : Int) od od;rw [show rdOf 0 aG aa = ak from by rw [bj.out]; exact rdOf_set_ _ _ _ od od] at cO;have bZ := Kd.R_putg ae.out (aa : Int) (wrap64 ((ak) + 1));(try go_wp2_with (first | ((with_reducible refine gate_store (t := 3) (p := 99) rfl ?_); refine store_event (t := 3) (p := 99) (v := ?vo_w68) (w1 := (w64.setCell ⟨al, (aa : Int).toNat, none⟩ (.int .i64 (wrap64 ((ak) + 1))))) ?hg ?ho ?hn ?hr ?_; (case ho => rfl); (case hg => rfl); (case hn => rfl); (case hr => first | (go_simp; done) | (go_simp; rfl)); intro w68 hw; have hg : w64.grownBy w68 (some al) := (by rw [hw]; exact bZ.2); have hp_ : Kd.R (Kd.int .i64) 3 w68 w.heap.size (fun _ => True) (.slice (some ⟨al, 0, none⟩) ai.length cL) bX := (by rw [hw, cK.out]; exact bZ.1); clear bZ; replace af := kXR af ae hg; replace ad := kXR ad ae hg; replace ae := Aside0.mk (hp_); replace HB := Aside0.mk ((by rw [hw]; exact below_set (HB.out) cI.out : Below w.heap.size w w68)); clear hg hw hp_)));go_roundg aq
     case measure => have := HK1.out; have := an.out; have := ar.out; omega
     case rel => exact ⟨(bX), (wrap64 (aa + 1)), et, H', ⟨by have := HK1.out; have := an.out; have := ar.out; omega⟩, ⟨krR ae⟩, ⟨kg af⟩, ⟨kh HB⟩⟩
end Go.Proofs.Ytmlbliggbkfjnaa.J
