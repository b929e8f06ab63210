/- Part 5 of the proof of TwiceCuts: what the functions compute as plain Lean functions, that the machine comes to just these answers, and that the answer is true; no conditions. -/
import Derived.Test.YtjjnfobeeflnhaaTwiceCutsZ0
import Derived.Test.YtjjnfobeeflnhaaTwiceCutsZ1
import Derived.Test.YtjjnfobeeflnhaaTwiceCutsZ2
import Derived.Test.YtjjnfobeeflnhaaTwiceCutsZ3
import Derived.Test.YtjjnfobeeflnhaaTwiceCutsZ4
import Derived.Test.YtjjnfobeeflnhaaRows
import Derived.WalkKit
import Derived.ProofKit
import Derived.OpenShut
import Derived.ShutString
import Derived.ChangeOld
import Derived.Below
import Derived.SizedLaws
/- Rows drawn from a tape, rows without noughts at the end, rows compared: what the words tell. -/
namespace Go.Proofs.Ytjjnfobeeflnhaa.L
open Go.RowKit Go.Proofs.YtjjnfobeeflnhaaW.PrintWords Go.Proofs.Ytjjnfobeeflnhaa.J
set_option linter.unusedVariables false
set_option linter.unusedSimpArgs false

/-! rows compared -/
theorem same_loop (a b : List Int) (hl : a.length = b.length) (hs : a.length ≤ maxLen) : ∀ (m i : Nat), i + m = a.length → Ev (fun k => juntoref01_Same.l0 k a b (a.length : Int) (i : Int)) (decide (a.drop i = b.drop i))
  | 0, i, hi => by
    have e : a.drop i = b.drop i := by rw [List.drop_of_length_le (by omega), List.drop_of_length_le (by omega)]
    rw [decide_eq_true e]
    refine Ev.step (f := fun k => some true) (fun k => ?_) (Ev.now _)
    simp only [juntoref01_Same.l0]
    rw [if_neg (by omega)]
  | m + 1, i, hi => by
    have hm : (a.length : Int) ≤ 9223372036854775807 := by simp only [maxLen] at hs; omega
    have h1 : i < a.length := by omega
    have h2 : i < b.length := by omega
    have ra : rd a (i : Int) = a[i] := by simp [rd, List.getD_eq_getElem?_getD, h1]
    have rb : rd b (i : Int) = b[i] := by simp [rd, List.getD_eq_getElem?_getD, h2]
    by_cases e : a[i] = b[i]
    · have e2 : decide (a.drop i = b.drop i) = decide (a.drop (i + 1) = b.drop (i + 1)) := by
        rw [List.drop_eq_getElem_cons h1, List.drop_eq_getElem_cons h2, e]
        exact decide_eq_decide.2 ⟨fun h => (List.cons.inj h).2, fun h => by rw [h]⟩
      rw [e2]
      refine Ev.step (f := fun k => juntoref01_Same.l0 k a b (a.length : Int) ((i + 1 : Nat) : Int)) (fun k => ?_) (same_loop a b hl hs m (i + 1) (by omega))
      conv => lhs; simp only [juntoref01_Same.l0]
      rw [if_pos (by omega), if_pos (by omega), if_pos (by omega), if_pos (by omega), ra, rb, if_pos e, w64_small (by omega) (by omega)]
      rfl
    · have e2 : decide (a.drop i = b.drop i) = false := by
        rw [List.drop_eq_getElem_cons h1, List.drop_eq_getElem_cons h2]
        exact decide_eq_false fun h => e (List.cons.inj h).1
      rw [e2]
      refine Ev.step (f := fun k => some false) (fun k => ?_) (Ev.now _)
      simp only [juntoref01_Same.l0]
      rw [if_pos (by omega), if_pos (by omega), if_pos (by omega), if_pos (by omega), ra, rb, if_neg e]
theorem same_at (a b : List Int) (hs : a.length ≤ maxLen) : Ev (fun k => juntoref01_Same.f k a b) (decide (a = b)) := by
  unfold juntoref01_Same.f
  by_cases h : a.length = b.length
  · have := same_loop a b h hs a.length 0 (by omega)
    rw [List.drop_zero, List.drop_zero] at this
    exact Ev.congr (fun k => if_pos (by omega)) this
  · rw [decide_eq_false (fun e => h (by rw [e]))]
    exact Ev.congr (fun k => if_neg (by omega)) (Ev.now _)
theorem same_self (a : List Int) (hs : a.length ≤ maxLen) : Ev (fun k => juntoref01_Same.f k a a) true := by
  have := same_at a a hs
  rwa [decide_eq_true rfl] at this

/-! rows without noughts at the end -/
theorem trim_loop (l : List Int) (hl : l.length < 17592186044416) : ∀ (n : Nat), n ≤ l.length → Ev (fun k => juntoref02_Trim.l0 k l (n : Int)) (shortI (l.take n))
  | 0, _ => by
    refine Ev.step (f := fun k => some []) (fun k => ?_) (Ev.now _)
    simp only [juntoref02_Trim.l0]
    rw [if_neg (by omega)]
    simp
  | n + 1, hn => by
    have hw : wrap64 (((n + 1 : Nat) : Int) - 1) = (n : Int) := by unfold wrap64; omega
    have hr : rd l (n : Int) = l[n] := by simp [rd, List.getD_eq_getElem?_getD, show n < l.length by omega]
    rw [List.take_succ_eq_append_getElem (by omega), shortI_snoc]
    by_cases hz : l[n] = 0
    · rw [if_pos hz]
      refine Ev.step (f := fun k => juntoref02_Trim.l0 k l (n : Int)) (fun k => ?_) (trim_loop l hl n (by omega))
      conv => lhs; simp only [juntoref02_Trim.l0]
      rw [hw, if_pos (by omega), if_pos (by omega), if_pos (by omega), hr, if_pos hz]
    · rw [if_neg hz]
      refine Ev.step (f := fun k => some (l.take n ++ [l[n]])) (fun k => ?_) (Ev.now _)
      conv => lhs; simp only [juntoref02_Trim.l0]
      rw [hw, if_pos (by omega), if_pos (by omega), if_pos (by omega), hr, if_neg hz, Option.bind_some, if_pos (by omega), if_pos (by omega)]
      rw [show (((n + 1 : Nat) : Int)).toNat = n + 1 by omega, List.take_succ_eq_append_getElem (by omega)]
      rw [if_pos (by simp; omega)]; rfl
theorem trim_at (l : List Int) (hl : l.length < 17592186044416) : Ev (fun k => juntoref02_Trim.f k l) (shortI l) := by
  have := trim_loop l hl l.length (Nat.le_refl _)
  rw [List.take_length] at this
  exact this
section
variable {q : Nat} [NeZero q]
theorem trim_fp (f : List (Fin q)) (hl : f.length ≤ 1000000000) : Ev (fun k => juntoref02_Trim.f k (oI f)) (oI (Fld.trim f)) := by
  rw [← short_oI]
  exact trim_at _ (by rw [oI_length]; omega)

/-! rows drawn from a tape -/
/-- The residue of a number. -/
def resid (q : Nat) [NeZero q] (x : Int) : Fin q := Fin.ofNat q (x % (q : Int)).toNat
/-- The first n numbers of a tape. -/
def drawn (q : Nat) [NeZero q] (tape : List Int) (n : Nat) : List (Fin q) := Fld.mk n (fun i => resid q (tape.getD i 0))
end

end Go.Proofs.Ytjjnfobeeflnhaa.L

/- The reference's words over the residues modulo a prime: sums, differences, products, inverses. -/
namespace Go.Proofs.Ytjjnfobeeflnhaa.L
open Go.RowKit Go.Proofs.YtjjnfobeeflnhaaW.PrintWords Go.Proofs.Ytjjnfobeeflnhaa.J
set_option linter.unusedVariables false
set_option linter.unusedSimpArgs false

section
variable {q : Nat} [NeZero q]
theorem cof_fp (f : List (Fin q)) (i : Nat) : juntoref02_at.f (oI f) (i : Int) = some (nI (Fld.co f i)) := by
  unfold juntoref02_at.f
  rw [oI_length]
  by_cases h : i < f.length
  · rw [if_pos (by omega), if_pos (by omega), rd_oI]
  · rw [if_neg (by omega), Fld.co_ge (by omega), nI_zero]
theorem add_loop (hq : q ≤ 65537) (f g : List (Fin q)) (n : Nat) (hn : n ≤ 1000000000) : ∀ (m i : Nat), i + m = n →
    Ev (fun k => juntoref02_Add.l0 k (q : Int) (oI f) (oI g) (oI (fill n i fun j => Fld.co f j + Fld.co g j)) (n : Int) (i : Int)) (oI (Fld.trim (Fld.mk n fun j => Fld.co f j + Fld.co g j)))
  | 0, i, hi => by
    obtain rfl : i = n := by omega
    refine Ev.step (f := fun k => (juntoref02_Trim.f k (oI (Fld.mk i fun j => Fld.co f j + Fld.co g j))).bind fun t => some t) (fun k => ?_) (Ev.bind (trim_fp _ (by rw [Fld.mk_length]; exact hn)) (Ev.now _))
    simp only [juntoref02_Add.l0]
    rw [if_neg (by omega), fill_all]
  | m + 1, i, hi => by
    refine Ev.step (f := fun k => juntoref02_Add.l0 k (q : Int) (oI f) (oI g) (oI (fill n (i + 1) fun j => Fld.co f j + Fld.co g j)) (n : Int) ((i + 1 : Nat) : Int)) (fun k => ?_) (add_loop hq f g n hn m (i + 1) (by omega))
    conv => lhs; simp only [juntoref02_Add.l0]
    rw [if_pos (by omega), cof_fp, Option.bind_some, cof_fp, Option.bind_some, add_fp hq, Option.bind_some, if_pos (by omega), if_pos (by rw [oI_length, fill_length]; omega), Int.toNat_natCast, oI_set, fill_set n i (fun j => Fld.co f j + Fld.co g j), w64_small (by omega) (by omega)]
    rfl
theorem add_rows (hq : q ≤ 65537) (f g : List (Fin q)) (hf : f.length ≤ 1000000000) (hg : g.length ≤ 1000000000) : Ev (fun k => juntoref02_Add.f k (q : Int) (oI f) (oI g)) (oI (Fld.trim (Fld.add f g))) := by
  have h := add_loop hq f g (max f.length g.length) (by omega) (max f.length g.length) 0 (by omega)
  rw [fill_zero, ← oI_zeros] at h
  refine Ev.congr (fun k => ?_) h
  have e : mx ((oI f).length : Int) ((oI g).length : Int) = ((max f.length g.length : Nat) : Int) := by
    rw [oI_length, oI_length]; unfold mx; split <;> omega
  unfold juntoref02_Add.f
  rw [e, if_pos (by omega), Int.toNat_natCast, if_pos (by omega), Option.bind_some]
  simp
theorem scale_loop (hq : q ≤ 65537) (f : List (Fin q)) (c : Fin q) (hf : f.length ≤ 1000000000) : ∀ (m i : Nat), i + m = f.length →
    Ev (fun k => juntoref02_Scale.l0 k (q : Int) (oI f) (nI c) (oI (fill f.length i fun j => Fld.co f j * c)) (f.length : Int) (i : Int)) (oI (Fld.trim (Fld.mk f.length fun j => Fld.co f j * c)))
  | 0, i, hi => by
    obtain rfl : i = f.length := by omega
    refine Ev.step (f := fun k => (juntoref02_Trim.f k (oI (Fld.mk f.length fun j => Fld.co f j * c))).bind fun t => some t) (fun k => ?_) (Ev.bind (trim_fp _ (by rw [Fld.mk_length]; exact hf)) (Ev.now _))
    simp only [juntoref02_Scale.l0]
    rw [if_neg (by omega), fill_all]
  | m + 1, i, hi => by
    refine Ev.step (f := fun k => juntoref02_Scale.l0 k (q : Int) (oI f) (nI c) (oI (fill f.length (i + 1) fun j => Fld.co f j * c)) (f.length : Int) ((i + 1 : Nat) : Int)) (fun k => ?_) (scale_loop hq f c hf m (i + 1) (by omega))
    conv => lhs; simp only [juntoref02_Scale.l0]
    rw [if_pos (by omega), if_pos (by omega), if_pos (by rw [oI_length]; omega), rd_oI, mul_fp hq, Option.bind_some, if_pos (by rw [oI_length, fill_length]; omega), Int.toNat_natCast, oI_set, fill_set f.length i (fun j => Fld.co f j * c), w64_small (by omega) (by omega)]
    rfl
theorem scale_rows (hq : q ≤ 65537) (f : List (Fin q)) (c : Fin q) (hf : f.length ≤ 1000000000) : Ev (fun k => juntoref02_Scale.f k (q : Int) (oI f) (nI c)) (oI (Fld.trim (Fld.smul c f))) := by
  have e : Fld.Eqv (Fld.mk f.length fun j => Fld.co f j * c) (Fld.smul c f) := fun i => by
    rw [Fld.co_mk, Fld.co_smul]
    split
    · grind
    · rw [Fld.co_ge (f := f) (by omega)]; grind
  rw [← Fld.trim_congr e]
  have h := scale_loop hq f c hf f.length 0 (by omega)
  rw [fill_zero, ← oI_zeros] at h
  refine Ev.congr (fun k => ?_) h
  unfold juntoref02_Scale.f
  rw [oI_length, if_pos (by omega), if_pos (by omega), Int.toNat_natCast]
  rfl
theorem minus_one (h1 : 1 < q) (hq : q ≤ 65537) : IntKind.u64.wrap ((q : Int) - 1) = nI (0 - 1 : Fin q) := by
  rw [u64_small (by omega) (by omega), nI_sub, nI_zero, nI_one h1, Int.zero_add, Int.emod_eq_of_lt (by omega) (by omega)]
theorem sub_rows (h1 : 1 < q) (hq : q ≤ 65537) (f g : List (Fin q)) (hf : f.length ≤ 1000000000) (hg : g.length ≤ 1000000000) : Ev (fun k => juntoref02_Sub.f k (q : Int) (oI f) (oI g)) (oI (Fld.trim (Fld.sub f g))) := by
  have e : Fld.Eqv (Fld.add f (Fld.trim (Fld.smul (0 - 1) g))) (Fld.sub f g) := fun i => by
    rw [Fld.co_add, Fld.co_sub, Fld.trim_co _ i, Fld.co_smul]; grind
  rw [← Fld.trim_congr e]
  unfold juntoref02_Sub.f
  rw [minus_one h1 hq]
  refine Ev.bind (scale_rows hq g (0 - 1) hg) (Ev.bind (add_rows hq f _ hf ?_) (Ev.now _))
  have := Fld.trim_length_le (Fld.smul (0 - 1) g)
  rw [Fld.smul_length] at this
  omega
theorem rmul_inner (hq : q ≤ 65537) (f g : List (Fin q)) (i : Nat) (hi : i < f.length) (hf : f.length ≤ 1000000) (hg : g.length ≤ 1000000) {r : List Int} (next : ∀ h : List (Fin q), h.length = f.length + g.length → At2 f g h (i + 1) 0 → Ev (fun k => juntoref02_Mul.l0 k (q : Int) (oI f) (oI g) (oI h) (f.length : Int) ((i + 1 : Nat) : Int)) r) : ∀ (m j : Nat) (h : List (Fin q)), j + m = g.length → h.length = f.length + g.length → At2 f g h i j →
    Ev (fun k => juntoref02_Mul.l1 k (q : Int) (oI f) (oI g) (oI h) (i : Int) (f.length : Int) (i : Int) (g.length : Int) (j : Int)) r
  | 0, j, h, hj, hh, H => by
    refine Ev.step (f := fun k => juntoref02_Mul.l0 k (q : Int) (oI f) (oI g) (oI h) (f.length : Int) ((i + 1 : Nat) : Int)) (fun k => ?_) (next h hh (H.round (by omega)))
    conv => lhs; simp only [juntoref02_Mul.l1]
    rw [if_neg (by omega), w64_small (by omega) (by omega)]
    rfl
  | m + 1, j, h, hj, hh, H => by
    refine Ev.step (f := fun k => juntoref02_Mul.l1 k (q : Int) (oI f) (oI g) (oI (h.set (i + j) (Fld.co h (i + j) + Fld.co f i * Fld.co g j))) (i : Int) (f.length : Int) (i : Int) (g.length : Int) ((j + 1 : Nat) : Int)) (fun k => ?_) (rmul_inner hq f g i hi hf hg next m (j + 1) _ (by omega) (by rw [List.length_set]; exact hh) (H.next (by omega)))
    conv => lhs; simp only [juntoref02_Mul.l1]
    have hw : wrap64 ((i : Int) + (j : Int)) = ((i + j : Nat) : Int) := by rw [w64_small (by omega) (by omega)]; omega
    rw [if_pos (by omega), hw, if_pos (by omega), if_pos (by rw [oI_length]; omega), if_pos (by omega), if_pos (by rw [oI_length]; omega), if_pos (by omega), if_pos (by rw [oI_length]; omega), rd_oI, rd_oI, rd_oI, mul_fp hq, Option.bind_some, add_fp hq, Option.bind_some, Int.toNat_natCast, oI_set, w64_small (by omega) (by omega)]
    rfl
theorem rmul_outer (hq : q ≤ 65537) (f g : List (Fin q)) (hf : f.length ≤ 1000000) (hg : g.length ≤ 1000000) : ∀ (m i : Nat) (h : List (Fin q)), i + m = f.length → h.length = f.length + g.length → At2 f g h i 0 →
    Ev (fun k => juntoref02_Mul.l0 k (q : Int) (oI f) (oI g) (oI h) (f.length : Int) (i : Int)) (oI (Fld.trim (Fld.mul f g)))
  | 0, i, h, hi, hh, H => by
    rw [← H.last (by omega)]
    refine Ev.step (f := fun k => (juntoref02_Trim.f k (oI h)).bind fun t => some t) (fun k => ?_) (Ev.bind (trim_fp _ (by omega)) (Ev.now _))
    simp only [juntoref02_Mul.l0]
    rw [if_neg (by omega)]
  | m + 1, i, h, hi, hh, H => by
    refine Ev.step (f := fun k => juntoref02_Mul.l1 k (q : Int) (oI f) (oI g) (oI h) (i : Int) (f.length : Int) (i : Int) (g.length : Int) ((0 : Nat) : Int)) (fun k => ?_) (rmul_inner hq f g i (by omega) hf hg (fun h' hh' H' => rmul_outer hq f g hf hg m (i + 1) h' (by omega) hh' H') g.length 0 h (by omega) hh H)
    conv => lhs; simp only [juntoref02_Mul.l0]
    rw [if_pos (by omega), oI_length]
    rfl
theorem rmul_rows (hq : q ≤ 65537) (f g : List (Fin q)) (hf : f.length ≤ 1000000) (hg : g.length ≤ 1000000) : Ev (fun k => juntoref02_Mul.f k (q : Int) (oI f) (oI g)) (oI (Fld.trim (Fld.mul f g))) := by
  refine Ev.congr (fun k => ?_) (rmul_outer hq f g hf hg f.length 0 (List.replicate (f.length + g.length) 0) (by omega) (by simp) (At2.start f g _))
  have hw : wrap64 (((oI f).length : Int) + ((oI g).length : Int)) = ((f.length + g.length : Nat) : Int) := by
    rw [oI_length, oI_length, w64_small (by omega) (by omega)]; omega
  unfold juntoref02_Mul.f
  rw [hw, if_pos (by omega), Int.toNat_natCast, if_pos (by omega), ← oI_zeros, oI_length]
  rfl
theorem rsub_fp (hq : q ≤ 65537) (a b : Fin q) : juntoref01_Sub.f (q : Int) (nI a) (nI b) = some (nI (a - b)) := by
  have hp := q_pos (q := q)
  have ha := nI_range a
  have hb := nI_range b
  unfold juntoref01_Sub.f
  rw [if_neg (by omega), u64_small (n := nI a + (q : Int)) (by omega) (by omega), u64_small (by omega) (by omega), Int.tmod_eq_emod_of_nonneg (by omega), nI_sub]
theorem pow_plus (a : Fin q) (m n : Nat) : a ^ (m + n) = a ^ m * a ^ n := by
  induction n with
  | zero => rw [Nat.add_zero]; grind
  | succ n ih =>
    have e : a ^ (m + (n + 1)) = a ^ (m + n) * a := by rw [show m + (n + 1) = (m + n) + 1 by omega]; grind
    have e' : a ^ (n + 1) = a ^ n * a := by grind
    rw [e, e', ih]; grind
theorem rpow_at (h1 : 1 < q) (hq : q ≤ 65537) (a : Fin q) : ∀ (n e : Nat), e ≤ n → e ≤ 65537 → Ev (fun k => juntoref01_Pow.f k (q : Int) (nI a) (e : Int)) (nI (a ^ e))
  | n, e, h, he => by
    by_cases h0 : e = 0
    · subst h0
      rw [show a ^ 0 = (1 : Fin q) by grind, nI_one h1]
      refine Ev.step (f := fun k => some 1) (fun k => ?_) (Ev.now _)
      simp only [juntoref01_Pow.f]
      rw [if_pos (by omega)]
    · cases n with
      | zero => omega
      | succ n =>
        have hd : IntKind.u64.wrap (Int.tdiv (e : Int) 2) = ((e / 2 : Nat) : Int) := by
          rw [Int.tdiv_eq_ediv_of_nonneg (by omega), u64_small (by omega) (by omega)]; omega
        have hm : Int.tmod (e : Int) 2 = ((e % 2 : Nat) : Int) := by
          rw [Int.tmod_eq_emod_of_nonneg (by omega)]; omega
        have ih := rpow_at h1 hq a n (e / 2) (by omega) (by omega)
        by_cases h2 : e % 2 = 1
        · have ee : a ^ e = a ^ (e / 2) * a ^ (e / 2) * a := by
            have h3 : e = e / 2 + e / 2 + 1 := by omega
            have h4 : a ^ e = a ^ (e / 2 + e / 2 + 1) := by rw [← h3]
            rw [h4, pow_plus, pow_plus, show a ^ 1 = a by grind]
          rw [ee]
          refine Ev.step (f := fun k => (juntoref01_Pow.f k (q : Int) (nI a) ((e / 2 : Nat) : Int)).bind fun t => (juntoref01_Mul.f (q : Int) t t).bind fun u => (juntoref01_Mul.f (q : Int) u (nI a)).bind fun v => some v) (fun k => ?_) (Ev.bind ih ?_)
          · simp only [juntoref01_Pow.f]
            rw [if_neg (by omega), hd, hm, h2]
            rfl
          · rw [mul_fp hq, Option.bind_some, mul_fp hq, Option.bind_some]
            exact Ev.now _
        · have ee : a ^ e = a ^ (e / 2) * a ^ (e / 2) := by
            have h3 : e = e / 2 + e / 2 := by omega
            have h4 : a ^ e = a ^ (e / 2 + e / 2) := by rw [← h3]
            rw [h4, pow_plus]
          rw [ee]
          refine Ev.step (f := fun k => (juntoref01_Pow.f k (q : Int) (nI a) ((e / 2 : Nat) : Int)).bind fun t => (juntoref01_Mul.f (q : Int) t t).bind fun u => some u) (fun k => ?_) (Ev.bind ih ?_)
          · simp only [juntoref01_Pow.f]
            rw [if_neg (by omega), hd, hm]
            simp only [show ¬ (((e % 2 : Nat) : Int) = 1) by omega, if_false]
          · rw [mul_fp hq, Option.bind_some]
            exact Ev.now _
theorem rinv_fp (h1 : 2 < q) (hq : q ≤ 65537) (a : Fin q) : Ev (fun k => juntoref01_Inv.f k (q : Int) (nI a)) (nI (Fld.inv a)) := by
  unfold juntoref01_Inv.f
  have e : IntKind.u64.wrap ((q : Int) - 2) = ((q - 2 : Nat) : Int) := by rw [u64_small (by omega) (by omega)]; omega
  rw [e]
  exact Ev.bind (rpow_at (by omega) hq a (q - 2) (q - 2) (Nat.le_refl _) (by omega)) (Ev.now _)

end

/-! parties as numbers -/
theorem numbers_loop (l : List Int) (hs : l.length ≤ 1000000000) : ∀ (m i : Nat) (out : List Int), i + m = l.length → out.length = i → Ev (fun k => juntoref04_Numbers.l0 k out l (l.length : Int) (i : Int)) (out ++ (l.drop i).map fun x => IntKind.u64.wrap x)
  | 0, i, out, hi, ho => by
    rw [List.drop_of_length_le (by omega), List.map_nil, List.append_nil]
    refine Ev.step (f := fun k => some out) (fun k => ?_) (Ev.now _)
    simp only [juntoref04_Numbers.l0]
    rw [if_neg (by omega)]
  | m + 1, i, out, hi, ho => by
    have hlt : i < l.length := by omega
    have hr : rd l (i : Int) = l[i] := by simp [rd, List.getD_eq_getElem?_getD, hlt]
    have e : out ++ (l.drop i).map (fun x => IntKind.u64.wrap x) = (out ++ [IntKind.u64.wrap l[i]]) ++ (l.drop (i + 1)).map fun x => IntKind.u64.wrap x := by
      rw [List.drop_eq_getElem_cons hlt, List.map_cons, List.append_assoc]; rfl
    rw [e]
    refine Ev.step (f := fun k => juntoref04_Numbers.l0 k (out ++ [IntKind.u64.wrap l[i]]) l (l.length : Int) ((i + 1 : Nat) : Int)) (fun k => ?_) (numbers_loop l hs m (i + 1) (out ++ [IntKind.u64.wrap l[i]]) (by omega) (by rw [List.length_append, ho]; rfl))
    conv => lhs; simp only [juntoref04_Numbers.l0]
    rw [if_pos (by omega), if_pos (by omega), if_pos (by omega), if_pos (by omega), hr, w64_small (by omega) (by omega)]
    rfl
theorem ref_numbers (l : List Int) (hs : l.length ≤ 1000000000) : Ev (fun k => juntoref04_Numbers.f k l) (l.map fun x => IntKind.u64.wrap x) := by
  have h := numbers_loop l hs l.length 0 [] (by omega) rfl
  rw [List.drop_zero, List.nil_append] at h
  exact h
theorem places_eq : ∀ k a b c d, share_Places.l0 k a b c d = juntoref04_Numbers.l0 k a b c d
  | 0, _, _, _, _ => rfl
  | k + 1, a, b, c, d => by simp only [share_Places.l0, juntoref04_Numbers.l0, places_eq k]
theorem share_places (l : List Int) (hs : l.length ≤ 1000000000) : Ev (fun k => share_Places.f k l) (l.map fun x => IntKind.u64.wrap x) :=
  Ev.congr (fun k => places_eq _ _ _ _ _) (ref_numbers l hs)

/-! tests of rows of coefficients -/
/-- What both tests of a row answer: 0, 2 or 3. -/
def withinV (p : Int) (l : List Int) : Int := if (l.length : Int) > 201 then 3 else belowV p l
theorem ref_rowok (p : Int) (l : List Int) (hl : l.length ≤ maxLen) : Ev (fun k => juntoref02_Within.f k p l) (withinV p l) := by
  unfold juntoref02_Within.f withinV
  by_cases h : (l.length : Int) > 201
  · simp only [h, if_true]; exact Ev.now _
  · simp only [h, if_false]
    exact Ev.bind (ref_within p l hl) (Ev.now _)
def isV (p : Int) : List (List Int) → Int
  | [] => 0
  | f :: fs => if withinV p f = 0 then isV p fs else withinV p f
theorem is_loop (p : Int) (l : List (List Int)) (hn : l.length ≤ 1000000) (hl : ∀ f ∈ l, f.length ≤ maxLen) : ∀ (m i : Nat), i + m = l.length → Ev (fun k => poly_Is.l0 k p l (l.length : Int) (i : Int)) (isV p (l.drop i))
  | 0, i, hi => by
    rw [List.drop_of_length_le (by omega), isV]
    refine Ev.step (f := fun k => some 0) (fun k => ?_) (Ev.now _)
    simp only [poly_Is.l0]
    rw [if_neg (by omega)]
  | m + 1, i, hi => by
    have hlt : i < l.length := by omega
    have hr : rd_L3 l (i : Int) = l[i] := by simp [rd_L3, List.getD_eq_getElem?_getD, hlt]
    rw [List.drop_eq_getElem_cons hlt, isV]
    by_cases h3 : ((l[i]).length : Int) > 201
    · have e : withinV p l[i] = 3 := by unfold withinV; rw [if_pos h3]
      rw [e, if_neg (by decide)]
      refine Ev.step (f := fun k => some 3) (fun k => ?_) (Ev.now _)
      simp only [poly_Is.l0]
      rw [if_pos (by omega), if_pos (by omega), if_pos (by omega), hr, if_pos h3]
    · have e : withinV p l[i] = belowV p l[i] := by unfold withinV; rw [if_neg h3]
      rw [e]
      refine Ev.step (f := fun k => (field_Below.f k p l[i]).bind fun t => if t = 0 then poly_Is.l0 k p l (l.length : Int) ((i + 1 : Nat) : Int) else some t) (fun k => ?_) (Ev.bind (field_below p _ (hl _ (List.getElem_mem hlt))) ?_)
      · conv => lhs; simp only [poly_Is.l0]
        rw [if_pos (by omega), if_pos (by omega), if_pos (by omega), hr, if_neg h3, w64_small (by omega) (by omega)]
        rfl
      · by_cases h0 : belowV p l[i] = 0
        · simp only [h0, if_true]
          exact is_loop p l hn hl m (i + 1) (by omega)
        · simp only [h0, if_false]
          exact Ev.now _
theorem poly_is (p : Int) (l : List (List Int)) (hn : l.length ≤ 1000000) (hl : ∀ f ∈ l, f.length ≤ maxLen) (hp : isP p = true) : Ev (fun k => poly_Is.f k p l) (isV p l) := by
  unfold poly_Is.f
  refine Ev.bind (field_is p) ?_
  simp only [hp, if_true]
  have h := is_loop p l hn hl l.length 0 (by omega)
  rw [List.drop_zero] at h
  exact h

end Go.Proofs.Ytjjnfobeeflnhaa.L

/- Division with rest of polynomials over the residues modulo a prime: one step, and that there is but one answer. Plain Lean, no program in sight. -/
namespace Go.Proofs.Ytjjnfobeeflnhaa.Fld
set_option linter.unusedVariables false
set_option linter.unusedSimpArgs false

section
variable {p : Nat} [NeZero p]

/-- c times x to the k times g. -/
def shiftc (c : Fin p) (k : Nat) (g : List (Fin p)) : List (Fin p) := List.replicate k 0 ++ smul c g
theorem co_zeros_app (k : Nat) (g : List (Fin p)) (s : Nat) : co (List.replicate k 0 ++ g) s = if k ≤ s then co g (s - k) else 0 := by
  unfold co
  rw [List.getD_eq_getElem?_getD, List.getD_eq_getElem?_getD]
  by_cases h : k ≤ s
  · rw [if_pos h, List.getElem?_append_right (by simpa using h)]; simp
  · rw [if_neg h, List.getElem?_append_left (by simp; omega), List.getElem?_replicate, if_pos (by omega)]; rfl
theorem co_shiftc (c : Fin p) (k : Nat) (g : List (Fin p)) (s : Nat) : co (shiftc c k g) s = if k ≤ s then c * co g (s - k) else 0 := by
  unfold shiftc
  rw [co_zeros_app, co_smul]
theorem co_set' (f : List (Fin p)) (i : Nat) (a : Fin p) (hi : i < f.length) (s : Nat) : co (f.set i a) s = if s = i then a else co f s := by
  unfold co
  rw [List.getD_eq_getElem?_getD, List.getD_eq_getElem?_getD]
  by_cases h : s = i
  · subst h; rw [if_pos rfl, List.getElem?_set_self hi]; rfl
  · rw [if_neg h, List.getElem?_set_ne (by omega)]
theorem mul_set {quo g : List (Fin p)} {k : Nat} {c : Fin p} (hk : k < quo.length) (h0 : co quo k = 0) : Eqv (mul (quo.set k c) g) (add (mul quo g) (shiftc c k g)) := fun s => by
  have e : ∀ i, co (quo.set k c) i = co quo i + (if i = k then c else 0) := fun i => by
    rw [co_set' _ _ _ hk]
    by_cases h : i = k
    · rw [if_pos h, if_pos h, h, h0]; grind
    · rw [if_neg h, if_neg h]; grind
  rw [co_add, co_mul, co_mul, cv_congr e (fun _ => rfl), cv_add', co_shiftc]
  congr 1
  unfold cv
  by_cases h : k ≤ s
  · rw [if_pos h, sm_one (k := k) (by omega)]
    · show (if k = k then c else 0) * _ = _
      rw [if_pos rfl]
    · intro i _ hi
      show (if i = k then c else 0) * _ = _
      rw [if_neg hi]; grind
  · rw [if_neg h]
    refine sm_zero fun i hi => ?_
    show (if i = k then c else 0) * _ = _
    rw [if_neg (by omega)]; grind
theorem div_step {f quo g rest rest' : List (Fin p)} {k : Nat} {c : Fin p} (H : Eqv f (add (mul quo g) rest)) (hk : k < quo.length) (h0 : co quo k = 0) (hr : ∀ s, co rest' s = co rest s - (if k ≤ s then c * co g (s - k) else 0)) : Eqv f (add (mul (quo.set k c) g) rest') := fun s => by
  have h1 := H s
  have h2 := mul_set (g := g) (c := c) hk h0 s
  rw [co_add] at h1 h2
  rw [co_add, h1, h2, hr, co_shiftc]
  grind
theorem div_unique (hp : Pr p) {g Q Q' R R' : List (Fin p)} (hg : trim g ≠ []) (h : Eqv (add (mul Q g) R) (add (mul Q' g) R')) (hR : (trim R).length < (trim g).length) (hR' : (trim R').length < (trim g).length) : Eqv Q Q' ∧ Eqv R R' := by
  have hD : Eqv (mul (sub Q Q') g) (sub R' R) := fun i => by
    have h1 := h i
    rw [co_add, co_add] at h1
    rw [sub_mul Q Q' g i, co_sub, co_sub]
    grind
  by_cases hd : trim (sub Q Q') = []
  · have hQ : Eqv Q Q' := fun i => by
      have : co (sub Q Q') i = 0 := by rw [← trim_co (sub Q Q') i, hd, co_nil]
      rw [co_sub] at this
      grind
    refine ⟨hQ, fun i => ?_⟩
    have h1 := h i
    have h2 := hQ.mul (Eqv.refl g) i
    rw [co_add, co_add, h2] at h1
    grind
  · exfalso
    have h1 := trim_mul_length hp hd hg
    rw [trim_congr hD] at h1
    have h2 := trim_length_of (f := sub R' R) (n := (trim g).length - 1) (fun i hi => by
      rw [co_sub, ← trim_co R' i, ← trim_co R i, co_ge (f := trim R') (by omega), co_ge (f := trim R) (by omega)]; grind)
    have h3 := List.length_pos_iff.2 hd
    have h4 := List.length_pos_iff.2 hg
    omega
end
end Go.Proofs.Ytjjnfobeeflnhaa.Fld

/- Small facts about numbers that came in, setups and rows. -/
namespace Go.Proofs.Ytjjnfobeeflnhaa.L
open Go.RowKit Go.Proofs.YtjjnfobeeflnhaaW.PrintWords Go.Proofs.Ytjjnfobeeflnhaa.J

theorem u64_wf {n : Int} (h : (Lit.int .u64 n).wf = true) : 0 ≤ n ∧ n < 18446744073709551616 := by
  simp [Lit.wf, IntKind.min, IntKind.max, IntKind.signed, IntKind.bits] at h
  omega

theorem setupV_two {p n t : Int} (h : setupV p n t ≠ 0) : setupV p n t = 2 := by
  unfold setupV at h ⊢
  split
  · rename_i h'
    rw [if_pos h'] at h
    exact absurd rfl h
  · rfl

theorem belowV_zero {p : Int} {l : List Int} (h : belowV p l = 0) : ∀ x ∈ l, x < p := by
  unfold belowV at h
  split at h
  · assumption
  · cases h

/-- A setup that is one: its numbers. -/
theorem setupV_small {p n t : Int} (h : setupV p n t = 0) : 3 ≤ p ∧ p ≤ 65537 ∧ 1 ≤ n ∧ n ≤ 13 ∧ 0 ≤ t ∧ t ≤ 3 ∧ 4 * t + 1 ≤ n ∧ n < p := by
  obtain ⟨hp, h1, h2, h4, h5, h6⟩ := setupV_ok h
  have hp2 := (isP_iff p).1 hp
  omega

end Go.Proofs.Ytjjnfobeeflnhaa.L

/- Both ways to divide with rest answer alike, and what they answer. -/
namespace Go.Proofs.Ytjjnfobeeflnhaa.L
open Go.RowKit Go.Proofs.YtjjnfobeeflnhaaW.PrintWords Go.Proofs.Ytjjnfobeeflnhaa.J
set_option linter.unusedVariables false
set_option linter.unusedSimpArgs false

theorem pr_of_isP {q : Nat} (h : isP (q : Int) = true) : Fld.Pr q := by
  obtain ⟨h1, h2, h3⟩ := (isP_iff _).1 h
  refine Fld.pr_of_trial (by omega) fun d hd hdd h0 => h3 (d : Int) (by omega) (by exact_mod_cast hdd) (by exact_mod_cast h0)

section
variable {q : Nat} [NeZero q]
/-- What a division with rest answers. -/
def DivOf (f g Q R : List (Fin q)) : Prop := Fld.trim Q = Q ∧ Fld.trim R = R ∧ Fld.Eqv f (Fld.add (Fld.mul Q g) R) ∧ R.length < (Fld.trim g).length ∧ Q.length ≤ f.length
theorem DivOf.unique (hp : Fld.Pr q) {f g Q R Q' R' : List (Fin q)} (hg : Fld.trim g ≠ []) (h : DivOf f g Q R) (h' : DivOf f g Q' R') : Q = Q' ∧ R = R' := by
  obtain ⟨a1, a2, a3, a4, _⟩ := h
  obtain ⟨b1, b2, b3, b4, _⟩ := h'
  obtain ⟨c1, c2⟩ := Fld.div_unique hp hg (a3.symm.trans b3) (by rw [a2]; exact a4) (by rw [b2]; exact b4)
  exact ⟨by rw [← a1, ← b1, Fld.trim_congr c1], by rw [← a2, ← b2, Fld.trim_congr c2]⟩

theorem lead_zero (hp : Fld.Pr q) {G : List (Fin q)} (hG : G ≠ []) (hGt : Fld.trim G = G) (r : Fin q) : r - r * Fld.inv (Fld.co G (G.length - 1)) * Fld.co G (G.length - 1) = 0 := by
  have h := Fld.inv_mul hp (Fld.Tr.last hGt hG)
  generalize Fld.inv (Fld.co G (G.length - 1)) = v at *
  grind

/-! the program's -/
/-- The rest while one multiple is taken away. -/
def stepL (rest G : List (Fin q)) (k : Nat) (c : Fin q) (j : Nat) : List (Fin q) := Fld.mk rest.length (fun s => Fld.co rest s - (if k ≤ s ∧ s < k + j then c * Fld.co G (s - k) else 0))
theorem stepL_length (rest G : List (Fin q)) (k : Nat) (c : Fin q) (j : Nat) : (stepL rest G k c j).length = rest.length := Fld.mk_length _ _
theorem stepL_co (rest G : List (Fin q)) (k : Nat) (c : Fin q) (j s : Nat) (hs : s < rest.length) : Fld.co (stepL rest G k c j) s = Fld.co rest s - (if k ≤ s ∧ s < k + j then c * Fld.co G (s - k) else 0) := by
  unfold stepL
  rw [Fld.co_mk, if_pos hs]
theorem stepL_zero (rest G : List (Fin q)) (k : Nat) (c : Fin q) : stepL rest G k c 0 = rest := by
  apply List.ext_getElem (stepL_length _ _ _ _ _)
  intro i h1 h2
  rw [← Fld.co_lt h1, stepL_co _ _ _ _ _ _ h2, if_neg (by omega), Fld.co_lt h2]; grind
theorem stepL_set (rest G : List (Fin q)) (k : Nat) (c : Fin q) (j : Nat) (h : k + j < rest.length) : (stepL rest G k c j).set (k + j) (Fld.co (stepL rest G k c j) (k + j) - c * Fld.co G j) = stepL rest G k c (j + 1) := by
  apply List.ext_getElem (by rw [List.length_set, stepL_length, stepL_length])
  intro i h1 h2
  have hi : i < rest.length := by rw [stepL_length] at h2; exact h2
  rw [← Fld.co_lt h1, ← Fld.co_lt h2, co_set _ _ _ (by rw [stepL_length]; exact h), stepL_co _ _ _ _ _ _ hi, stepL_co _ _ _ _ _ _ h, stepL_co _ _ _ _ _ _ hi]
  by_cases e : i = k + j
  · subst e
    rw [if_pos rfl, if_neg (by omega), if_pos (by omega), show k + j - k = j by omega]; grind
  · rw [if_neg e]
    by_cases e' : k ≤ i ∧ i < k + j
    · rw [if_pos e', if_pos (by omega)]
    · rw [if_neg e', if_neg (by omega)]
theorem over_inner (hq : q ≤ 65537) (G rest quo : List (Fin q)) (hd c : Fin q) (k : Nat) (hG : G.length ≤ 1000000) (hR : rest.length ≤ 1000000) (hk : k + G.length ≤ rest.length) {r : List Int × List Int}
    (next : Ev (fun n => poly_Over.l0 n (q : Int) (oI G) (oI (stepL rest G k c G.length)) (oI quo) (nI hd) ((k : Int) - 1)) r) (m : Nat) : ∀ j : Nat, j + m = G.length →
    Ev (fun n => poly_Over.l1 n (q : Int) (oI G) (oI (stepL rest G k c j)) (oI quo) (nI hd) (k : Int) (nI c) (oI G) (G.length : Int) (j : Int)) r := by
  induction m with
  | zero =>
    intro j hj
    obtain rfl : j = G.length := by omega
    refine Ev.step (f := fun n => poly_Over.l0 n (q : Int) (oI G) (oI (stepL rest G k c G.length)) (oI quo) (nI hd) ((k : Int) - 1)) (fun n => ?_) next
    have hw : wrap64 ((k : Int) - 1) = (k : Int) - 1 := w64_small (by omega) (by omega)
    conv => lhs; simp only [poly_Over.l1]
    rw [if_neg (by omega), hw]
  | succ m ih =>
    intro j hj
    have hw : wrap64 ((j : Int) + 1) = ((j + 1 : Nat) : Int) := by rw [w64_small (by omega) (by omega)]; omega
    have hw2 : wrap64 ((k : Int) + (j : Int)) = ((k + j : Nat) : Int) := by rw [w64_small (by omega) (by omega)]; omega
    refine Ev.step (f := fun n => poly_Over.l1 n (q : Int) (oI G) (oI (stepL rest G k c (j + 1))) (oI quo) (nI hd) (k : Int) (nI c) (oI G) (G.length : Int) ((j + 1 : Nat) : Int)) (fun n => ?_) (ih (j + 1) (by omega))
    conv => lhs; simp only [poly_Over.l1]
    rw [if_pos (by omega), if_pos (by omega), if_pos (by rw [oI_length]; omega), hw2, if_pos (by omega), if_pos (by rw [oI_length, stepL_length]; omega), rd_oI, rd_oI, times_fp hq, Option.bind_some, minus_fp hq, Option.bind_some, Int.toNat_natCast, oI_set, stepL_set _ _ _ _ _ (by omega), hw]
theorem over_loop (hp : Fld.Pr q) (hq : q ≤ 65537) (F G : List (Fin q)) (hG : G ≠ []) (hGt : Fld.trim G = G) (hGl : G.length ≤ 1000000) (hFl : F.length ≤ 1000000) (hle : G.length ≤ F.length) (K : Nat) : ∀ (quo rest : List (Fin q)), K ≤ quo.length → quo.length + G.length = F.length + 1 → rest.length = F.length → Fld.Eqv F (Fld.add (Fld.mul quo G) rest) →
    (∀ s, K + G.length ≤ s + 1 → Fld.co rest s = 0) → (∀ s, s < K → Fld.co quo s = 0) → ∃ Q R, Ev (fun n => poly_Over.l0 n (q : Int) (oI G) (oI rest) (oI quo) (nI (Fld.inv (Fld.co G (G.length - 1)))) ((K : Int) - 1)) (oI Q, oI R) ∧ DivOf F G Q R := by
  have hg := List.length_pos_iff.2 hG
  induction K with
  | zero =>
    intro quo rest hK hqu hrl hE hz hq0
    refine ⟨Fld.trim quo, Fld.trim rest, ?_, Fld.trim_trim _, Fld.trim_trim _, fun i => ?_, ?_, ?_⟩
    · refine Ev.step (f := fun n => (poly_Short.f n (oI quo)).bind fun t954 => ((poly_Short.f n (oI rest)).bind fun t957 => (some (t954, t957)))) (fun n => ?_) (Ev.bind (short_fp _ (by omega)) (Ev.bind (short_fp _ (by omega)) (Ev.now _)))
      simp only [poly_Over.l0]
      rw [if_neg (by omega)]
    · rw [hE i]
      exact (((Fld.trim_co quo).mul (Fld.Eqv.refl G)).add (Fld.trim_co rest)).symm i
    · rw [hGt]
      have := Fld.trim_length_of (f := rest) (n := G.length - 1) (fun i hi => hz i (by omega))
      omega
    · have := Fld.trim_length_le quo
      omega
  | succ k ih =>
    intro quo rest hK hqu hrl hE hz hq0
    obtain ⟨c, hc⟩ : ∃ c, Aside0 (c = Fld.co rest (k + G.length - 1) * Fld.inv (Fld.co G (G.length - 1))) := ⟨_, ⟨rfl⟩⟩
    have hw1 : wrap64 ((k : Int) + (G.length : Int)) = ((k + G.length : Nat) : Int) := by rw [w64_small (by omega) (by omega)]; omega
    have hw2 : wrap64 (((k + G.length : Nat) : Int) - 1) = ((k + G.length - 1 : Nat) : Int) := by rw [w64_small (by omega) (by omega)]; omega
    have hk1 : ((k + 1 : Nat) : Int) - 1 = (k : Int) := by omega
    have hco : ∀ s, Fld.co (stepL rest G k c G.length) s = Fld.co rest s - (if k ≤ s then c * Fld.co G (s - k) else 0) := fun s => by
      by_cases hs : s < rest.length
      · rw [stepL_co _ _ _ _ _ _ hs]
        by_cases h1 : k ≤ s
        · by_cases h2 : s < k + G.length
          · rw [if_pos ⟨h1, h2⟩, if_pos h1]
          · rw [if_neg (by omega), if_pos h1, Fld.co_ge (f := G) (by omega)]; grind
        · rw [if_neg (by omega), if_neg h1]
      · rw [Fld.co_ge (by rw [stepL_length]; omega), Fld.co_ge (f := rest) (by omega)]
        by_cases h1 : k ≤ s
        · rw [if_pos h1, Fld.co_ge (f := G) (by omega)]; grind
        · omega
    obtain ⟨Q, R, hev, hdiv⟩ := ih (quo.set k c) (stepL rest G k c G.length) (by rw [List.length_set]; omega) (by rw [List.length_set]; exact hqu) (by rw [stepL_length]; exact hrl)
      (Fld.div_step hE (by omega) (hq0 k (by omega)) hco)
      (fun s hs => by
        rw [hco, if_pos (by omega)]
        by_cases e : s = k + G.length - 1
        · rw [e, hc.out, show k + G.length - 1 - k = G.length - 1 by omega]
          exact lead_zero hp hG hGt _
        · rw [hz s (by omega), Fld.co_ge (f := G) (by omega)]; grind)
      (fun s hs => by rw [co_set _ _ _ (by omega), if_neg (by omega)]; exact hq0 s (by omega))
    refine ⟨Q, R, ?_, hdiv⟩
    have hl := over_inner hq G rest (quo.set k c) (Fld.inv (Fld.co G (G.length - 1))) c k hGl (by omega) (by omega) hev G.length 0 (by omega)
    rw [stepL_zero] at hl
    refine Ev.step (f := fun n => poly_Over.l1 n (q : Int) (oI G) (oI rest) (oI (quo.set k c)) (nI (Fld.inv (Fld.co G (G.length - 1)))) (k : Int) (nI c) (oI G) (G.length : Int) ((0 : Nat) : Int)) (fun n => ?_) hl
    conv => lhs; simp only [poly_Over.l0]
    rw [hk1, oI_length, hw1, hw2, if_pos (by omega), if_pos (by omega), if_pos (by rw [oI_length]; omega), rd_oI, times_fp hq, Option.bind_some, if_pos (by omega), if_pos (by rw [oI_length]; omega), ← hc.out, Int.toNat_natCast, oI_set]
    rfl
theorem over_rows (hp : Fld.Pr q) (h1 : 2 < q) (hq : q ≤ 65537) (f g : List (Fin q)) (hg : Fld.trim g ≠ []) (hf : f.length ≤ 1000000) (hgl : g.length ≤ 1000000) : ∃ Q R, Ev (fun n => poly_Over.f n (q : Int) (oI f) (oI g)) (oI Q, oI R) ∧ DivOf f g Q R := by
  have hlf := Fld.trim_length_le f
  have hlg := Fld.trim_length_le g
  have hg0 := List.length_pos_iff.2 hg
  have back : ∀ Q R : List (Fin q), DivOf (Fld.trim f) (Fld.trim g) Q R → DivOf f g Q R := fun Q R h =>
    ⟨h.1, h.2.1, (Fld.trim_co f).symm.trans (h.2.2.1.trans (((Fld.Eqv.refl Q).mul (Fld.trim_co g)).add (Fld.Eqv.refl R))), by have := h.2.2.2.1; rwa [Fld.trim_trim] at this, by have := h.2.2.2.2; omega⟩
  by_cases hlt : (Fld.trim f).length < (Fld.trim g).length
  · refine ⟨[], Fld.trim f, ?_, back _ _ ⟨rfl, Fld.trim_trim _, fun i => ?_, by rw [Fld.trim_trim]; exact hlt, by simp⟩⟩
    · unfold poly_Over.f
      refine Ev.bind (short_fp f (by omega)) (Ev.bind (short_fp g (by omega)) ?_)
      exact Ev.congr (fun n => if_pos (by rw [oI_length, oI_length]; omega)) (Ev.now _)
    · rw [Fld.co_add, mul_nil_left, Fld.co_nil]; grind
  · have hz : Fld.Eqv (Fld.mul (List.replicate ((Fld.trim f).length - (Fld.trim g).length + 1) 0) (Fld.trim g)) [] := fun i => by
      rw [Fld.co_mul, Fld.co_nil]
      exact Fld.sm_zero fun j _ => by rw [co_zeros]; grind
    obtain ⟨Q, R, hev, hdiv⟩ := over_loop hp hq (Fld.trim f) (Fld.trim g) hg (Fld.trim_trim _) (by omega) (by omega) (by omega) ((Fld.trim f).length - (Fld.trim g).length + 1) (List.replicate ((Fld.trim f).length - (Fld.trim g).length + 1) 0) (Fld.trim f)
      (by simp) (by simp; omega) rfl (fun i => by rw [Fld.co_add, hz i, Fld.co_nil]; grind) (fun s hs => Fld.co_ge (by omega)) (fun s _ => co_zeros _ _)
    refine ⟨Q, R, ?_, back _ _ hdiv⟩
    have hw1 : wrap64 (((Fld.trim f).length : Int) - ((Fld.trim g).length : Int)) = (((Fld.trim f).length - (Fld.trim g).length : Nat) : Int) := by rw [w64_small (by omega) (by omega)]; omega
    have hw2 : wrap64 ((((Fld.trim f).length - (Fld.trim g).length : Nat) : Int) + 1) = (((Fld.trim f).length - (Fld.trim g).length + 1 : Nat) : Int) := by rw [w64_small (by omega) (by omega)]; omega
    have hw3 : wrap64 (((Fld.trim g).length : Int) - 1) = (((Fld.trim g).length - 1 : Nat) : Int) := by rw [w64_small (by omega) (by omega)]; omega
    have hw4 : wrap64 ((((Fld.trim f).length - (Fld.trim g).length + 1 : Nat) : Int) - 1) = (((Fld.trim f).length - (Fld.trim g).length + 1 : Nat) : Int) - 1 := w64_small (by omega) (by omega)
    unfold poly_Over.f
    refine Ev.bind (short_fp f (by omega)) (Ev.bind (short_fp g (by omega)) ?_)
    refine Ev.congr (fun n => ?_) (Ev.bind (f := fun n t => poly_Over.l0 n (q : Int) (oI (Fld.trim g)) (oI (Fld.trim f)) (oI (List.replicate ((Fld.trim f).length - (Fld.trim g).length + 1) 0)) t ((((Fld.trim f).length - (Fld.trim g).length + 1 : Nat) : Int) - 1)) (over_fp h1 hq (Fld.co (Fld.trim g) ((Fld.trim g).length - 1))) hev)
    rw [oI_length, oI_length, if_neg (by omega), hw1, hw2, if_pos (by omega), Int.toNat_natCast, if_pos (by omega), Option.bind_some, hw3, if_pos (by omega), if_pos (by omega), rd_oI, List.length_replicate, hw4, oI_zeros (q := q)]

/-! the reference's -/
theorem divide_loop (hp : Fld.Pr q) (h1 : 2 < q) (hq : q ≤ 65537) (F G : List (Fin q)) (hG : G ≠ []) (hGt : Fld.trim G = G) (hGl : G.length ≤ 1000000) (hFl : F.length ≤ 1000000) (m : Nat) : ∀ (quo f : List (Fin q)), f.length ≤ m → f.length ≤ F.length → quo.length = F.length → Fld.trim f = f → Fld.Eqv F (Fld.add (Fld.mul quo G) f) →
    (∀ s, s + G.length ≤ f.length → Fld.co quo s = 0) → ∃ Q R, Ev (fun n => juntoref02_Divide.l0 n (q : Int) (oI f) (oI G) (oI quo) (nI (Fld.inv (Fld.co G (G.length - 1))))) (oI Q, oI R) ∧ DivOf F G Q R := by
  have hg := List.length_pos_iff.2 hG
  have stop : ∀ (quo f : List (Fin q)), f.length < G.length → f.length ≤ F.length → quo.length = F.length → Fld.trim f = f → Fld.Eqv F (Fld.add (Fld.mul quo G) f) → ∃ Q R, Ev (fun n => juntoref02_Divide.l0 n (q : Int) (oI f) (oI G) (oI quo) (nI (Fld.inv (Fld.co G (G.length - 1))))) (oI Q, oI R) ∧ DivOf F G Q R := by
    intro quo f hlt hfF hql hft hE
    refine ⟨Fld.trim quo, f, ?_, Fld.trim_trim _, hft, fun i => ?_, by rw [hGt]; exact hlt, ?_⟩
    · refine Ev.step (f := fun n => (juntoref02_Trim.f n (oI quo)).bind fun t1012 => (some (t1012, oI f))) (fun n => ?_) (Ev.bind (trim_fp _ (by omega)) (Ev.now _))
      simp only [juntoref02_Divide.l0]
      rw [if_neg (by rw [oI_length, oI_length]; omega)]
    · rw [hE i]
      exact (((Fld.trim_co quo).mul (Fld.Eqv.refl G)).add (Fld.Eqv.refl f)).symm i
    · have := Fld.trim_length_le quo
      omega
  induction m with
  | zero =>
    intro quo f hm hfF hql hft hE hz
    exact stop quo f (by omega) hfF hql hft hE
  | succ m ih =>
    intro quo f hm hfF hql hft hE hz
    by_cases hlt : f.length < G.length
    · exact stop quo f hlt hfF hql hft hE
    obtain ⟨k, hk⟩ : ∃ k, k = f.length - G.length := ⟨_, rfl⟩
    obtain ⟨c, hc⟩ : ∃ c, Aside0 (c = Fld.co f (f.length - 1) * Fld.inv (Fld.co G (G.length - 1))) := ⟨_, ⟨rfl⟩⟩
    obtain ⟨f', hf'⟩ : ∃ f', Aside0 (f' = Fld.trim (Fld.sub f (List.replicate k 0 ++ Fld.trim (Fld.smul c G)))) := ⟨_, ⟨rfl⟩⟩
    have hw1 : wrap64 ((f.length : Int) - 1) = ((f.length - 1 : Nat) : Int) := by rw [w64_small (by omega) (by omega)]; omega
    have hw2 : wrap64 ((f.length : Int) - (G.length : Int)) = (k : Int) := by rw [w64_small (by omega) (by omega)]; omega
    have hco : ∀ s, Fld.co f' s = Fld.co f s - (if k ≤ s then c * Fld.co G (s - k) else 0) := fun s => by
      rw [hf'.out, Fld.trim_co _ s, Fld.co_sub, Fld.co_zeros_app, Fld.trim_co _ (s - k), Fld.co_smul]
    have hl' : f'.length ≤ f.length - 1 := by
      have e : Fld.trim f' = f' := by rw [hf'.out, Fld.trim_trim]
      rw [← e]
      refine Fld.trim_length_of fun s hs => ?_
      rw [hco, if_pos (by omega)]
      by_cases es : s = f.length - 1
      · rw [es, hc.out, show f.length - 1 - k = G.length - 1 by omega]
        exact lead_zero hp hG hGt _
      · rw [Fld.co_ge (f := f) (by omega), Fld.co_ge (f := G) (by omega)]; grind
    obtain ⟨Q, R, hev, hdiv⟩ := ih (quo.set k c) f' (by omega) (by omega) (by rw [List.length_set]; exact hql) (by rw [hf'.out, Fld.trim_trim])
      (Fld.div_step hE (by omega) (hz k (by omega)) hco)
      (fun s hs => by rw [co_set _ _ _ (by omega), if_neg (by omega)]; exact hz s (by omega))
    refine ⟨Q, R, ?_, hdiv⟩
    have hls := Fld.trim_length_le (Fld.smul c G)
    rw [Fld.smul_length] at hls
    have happ : List.replicate k (0 : Int) ++ oI (Fld.trim (Fld.smul c G)) = oI (List.replicate k 0 ++ Fld.trim (Fld.smul c G)) := by rw [oI_append, ← oI_zeros]
    rw [hf'.out] at hev
    refine Ev.step (f := fun n => (juntoref02_Scale.f n (q : Int) (oI G) (nI c)).bind fun t1003 => (if (List.replicate k (0 : Int)).length + t1003.length < 17592186044416 then ((juntoref02_Sub.f n (q : Int) (oI f) (List.replicate k (0 : Int) ++ t1003)).bind fun t1009 => (juntoref02_Divide.l0 n (q : Int) t1009 (oI G) (oI (quo.set k c)) (nI (Fld.inv (Fld.co G (G.length - 1)))))) else (none))) (fun n => ?_) (Ev.bind (scale_rows hq G c (by omega)) ?_)
    · conv => lhs; simp only [juntoref02_Divide.l0]
      rw [oI_length, oI_length, if_pos (by omega), hw1, if_pos (by omega), if_pos (by omega), rd_oI, mul_fp hq, Option.bind_some, hw2, if_pos (by omega), if_pos (by rw [oI_length]; omega), Int.toNat_natCast, if_pos (by omega), Option.bind_some, ← hc.out, oI_set]
    · refine Ev.congr (fun n => if_pos (by rw [List.length_replicate, oI_length]; omega)) ?_
      rw [happ]
      exact Ev.bind (sub_rows (by omega) hq f _ (by omega) (by rw [List.length_append, List.length_replicate]; omega)) hev
theorem divide_rows (hp : Fld.Pr q) (h1 : 2 < q) (hq : q ≤ 65537) (f g : List (Fin q)) (hg : Fld.trim g ≠ []) (hf : f.length ≤ 1000000) (hgl : g.length ≤ 1000000) : ∃ Q R, Ev (fun n => juntoref02_Divide.f n (q : Int) (oI f) (oI g)) (oI Q, oI R) ∧ DivOf f g Q R := by
  have hlf := Fld.trim_length_le f
  have hlg := Fld.trim_length_le g
  have hg0 := List.length_pos_iff.2 hg
  have hz : Fld.Eqv (Fld.mul (List.replicate (Fld.trim f).length 0) (Fld.trim g)) [] := fun i => by
    rw [Fld.co_mul, Fld.co_nil]
    exact Fld.sm_zero fun j _ => by rw [co_zeros]; grind
  obtain ⟨Q, R, hev, h⟩ := divide_loop hp h1 hq (Fld.trim f) (Fld.trim g) hg (Fld.trim_trim _) (by omega) (by omega) (Fld.trim f).length (List.replicate (Fld.trim f).length 0) (Fld.trim f) (Nat.le_refl _) (Nat.le_refl _) (by simp) (Fld.trim_trim _)
    (fun i => by rw [Fld.co_add, hz i, Fld.co_nil]; grind) (fun s _ => co_zeros _ _)
  refine ⟨Q, R, ?_, h.1, h.2.1, (Fld.trim_co f).symm.trans (h.2.2.1.trans (((Fld.Eqv.refl Q).mul (Fld.trim_co g)).add (Fld.Eqv.refl R))), by have := h.2.2.2.1; rwa [Fld.trim_trim] at this, by have := h.2.2.2.2; omega⟩
  have hw3 : wrap64 (((Fld.trim g).length : Int) - 1) = (((Fld.trim g).length - 1 : Nat) : Int) := by rw [w64_small (by omega) (by omega)]; omega
  unfold juntoref02_Divide.f
  refine Ev.bind (trim_fp f (by omega)) (Ev.bind (trim_fp g (by omega)) ?_)
  refine Ev.congr (fun n => ?_) (Ev.bind (f := fun n t => juntoref02_Divide.l0 n (q : Int) (oI (Fld.trim f)) (oI (Fld.trim g)) (oI (List.replicate (Fld.trim f).length 0)) t) (rinv_fp h1 hq (Fld.co (Fld.trim g) ((Fld.trim g).length - 1))) hev)
  rw [oI_length, oI_length, if_pos (by omega), Int.toNat_natCast, if_pos (by omega), hw3, if_pos (by omega), if_pos (by omega), rd_oI, oI_zeros (q := q)]
end

end Go.Proofs.Ytjjnfobeeflnhaa.L

/- Both polynomials that are 1 at 0 and 0 at given places, as the words tell them. -/
namespace Go.Proofs.Ytjjnfobeeflnhaa.L
open Go.RowKit Go.Proofs.YtjjnfobeeflnhaaW.PrintWords Go.Proofs.Ytjjnfobeeflnhaa.J
set_option linter.unusedVariables false
set_option linter.unusedSimpArgs false

section
variable {q : Nat} [NeZero q]
/-! the polynomial that is 1 at 0 and 0 at places -/
def gone (f : List (Fin q)) : List (Fin q) → List (Fin q)
  | [] => f
  | x :: xs => gone (Fld.trim (Fld.mul f [1, 0 - Fld.inv x])) xs
theorem gone_length (xs : List (Fin q)) : ∀ f : List (Fin q), (gone f xs).length ≤ f.length + xs.length := by
  induction xs with
  | nil => intro f; simp [gone]
  | cons x xs ih =>
    intro f
    have h1 := ih (Fld.trim (Fld.mul f [1, 0 - Fld.inv x]))
    have h2 := Fld.trim_mul_le f [1, 0 - Fld.inv x]
    simp only [List.length_cons, List.length_nil] at h2 ⊢
    rw [gone]; omega
theorem oI_drop_cons (xs : List (Fin q)) (i : Nat) (h : i < xs.length) : xs.drop i = Fld.co xs i :: xs.drop (i + 1) := by
  rw [List.drop_eq_getElem_cons h, Fld.co_lt h]
theorem gone_loop (h1 : 2 < q) (hq : q ≤ 65537) (xs : List (Fin q)) (hx : xs.length ≤ 1000) (m : Nat) : ∀ (i : Nat) (f : List (Fin q)), i + m = xs.length → f.length ≤ i + 1 →
    Ev (fun k => poly_Gone.l0 k (q : Int) (oI f) (oI xs) (xs.length : Int) (i : Int)) (oI (gone f (xs.drop i))) := by
  induction m with
  | zero =>
    intro i f hi hf
    rw [List.drop_of_length_le (by omega), gone]
    refine Ev.step (f := fun k => some (oI f)) (fun k => ?_) (Ev.now _)
    simp only [poly_Gone.l0]
    rw [if_neg (by omega)]
  | succ m ih =>
    intro i f hi hf
    rw [oI_drop_cons xs i (by omega), gone]
    have hw : wrap64 ((i : Int) + 1) = ((i + 1 : Nat) : Int) := by rw [w64_small (by omega) (by omega)]; omega
    have hl := Fld.trim_mul_le f [1, 0 - Fld.inv (Fld.co xs i)]
    simp only [List.length_cons, List.length_nil] at hl
    refine Ev.step (f := fun k => (field_Over.f k (q : Int) (nI (Fld.co xs i))).bind fun t => (field_Minus.f (q : Int) 0 t).bind fun u => (poly_Times.f k (q : Int) (oI f) [1, u]).bind fun v => poly_Gone.l0 k (q : Int) v (oI xs) (xs.length : Int) ((i + 1 : Nat) : Int)) (fun k => ?_) (Ev.bind (over_fp h1 hq _) ?_)
    · conv => lhs; simp only [poly_Gone.l0]
      rw [if_pos (by omega), if_pos (by omega), if_pos (by rw [oI_length]; omega), rd_oI, hw]
    · have e0 : (0 : Int) = nI (0 : Fin q) := nI_zero.symm
      have e1 : ∀ u : Fin q, [(1 : Int), nI u] = oI [1, u] := fun u => by rw [oI_cons, oI_cons, nI_one (by omega)]; rfl
      rw [e0, minus_fp hq]
      simp only [Option.bind_some]
      rw [e1]
      exact Ev.bind (times_rows hq f _ (by omega) (by simp)) (ih (i + 1) _ (by omega) (by omega))
theorem gone_rows (h1 : 2 < q) (hq : q ≤ 65537) (xs : List (Fin q)) (hx : xs.length ≤ 1000) : Ev (fun k => poly_Gone.f k (q : Int) (oI xs)) (oI (gone [1] xs)) := by
  have h := gone_loop h1 hq xs hx xs.length 0 [1] (by omega) (by simp)
  rw [List.drop_zero] at h
  refine Ev.congr (fun k => ?_) h
  unfold poly_Gone.f
  rw [oI_length, oI_cons, nI_one (by omega)]
  rfl
theorem away_loop (h1 : 2 < q) (hq : q ≤ 65537) (xs : List (Fin q)) (hx : xs.length ≤ 1000) (m : Nat) : ∀ (i : Nat) (f : List (Fin q)), i + m = xs.length → f.length ≤ i + 1 →
    Ev (fun k => juntoref02_Away.l0 k (q : Int) (oI f) (oI xs) (xs.length : Int) (i : Int)) (oI (gone f (xs.drop i))) := by
  induction m with
  | zero =>
    intro i f hi hf
    rw [List.drop_of_length_le (by omega), gone]
    refine Ev.step (f := fun k => some (oI f)) (fun k => ?_) (Ev.now _)
    simp only [juntoref02_Away.l0]
    rw [if_neg (by omega)]
  | succ m ih =>
    intro i f hi hf
    rw [oI_drop_cons xs i (by omega), gone]
    have hw : wrap64 ((i : Int) + 1) = ((i + 1 : Nat) : Int) := by rw [w64_small (by omega) (by omega)]; omega
    have hl := Fld.trim_mul_le f [1, 0 - Fld.inv (Fld.co xs i)]
    simp only [List.length_cons, List.length_nil] at hl
    refine Ev.step (f := fun k => (juntoref01_Inv.f k (q : Int) (nI (Fld.co xs i))).bind fun t => (juntoref01_Sub.f (q : Int) 0 t).bind fun u => (juntoref02_Mul.f k (q : Int) (oI f) [1, u]).bind fun v => juntoref02_Away.l0 k (q : Int) v (oI xs) (xs.length : Int) ((i + 1 : Nat) : Int)) (fun k => ?_) (Ev.bind (rinv_fp h1 hq _) ?_)
    · conv => lhs; simp only [juntoref02_Away.l0]
      rw [if_pos (by omega), if_pos (by omega), if_pos (by rw [oI_length]; omega), rd_oI, hw]
    · have e0 : (0 : Int) = nI (0 : Fin q) := nI_zero.symm
      have e1 : ∀ u : Fin q, [(1 : Int), nI u] = oI [1, u] := fun u => by rw [oI_cons, oI_cons, nI_one (by omega)]; rfl
      have hs : juntoref01_Sub.f (q : Int) 0 (nI (Fld.inv (Fld.co xs i))) = some (nI (0 - Fld.inv (Fld.co xs i))) := by
        have := rsub_fp hq 0 (Fld.inv (Fld.co xs i))
        rwa [nI_zero] at this
      rw [hs]
      refine Ev.bind (Ev.now _) ?_
      rw [e1]
      exact Ev.bind (rmul_rows hq f _ (by omega) (by simp)) (ih (i + 1) _ (by omega) (by omega))
theorem away_rows (h1 : 2 < q) (hq : q ≤ 65537) (xs : List (Fin q)) (hx : xs.length ≤ 1000) : Ev (fun k => juntoref02_Away.f k (q : Int) (oI xs)) (oI (gone [1] xs)) := by
  have h := away_loop h1 hq xs hx xs.length 0 [1] (by omega) (by simp)
  rw [List.drop_zero] at h
  refine Ev.congr (fun k => ?_) h
  unfold juntoref02_Away.f
  rw [oI_length, oI_cons, nI_one (by omega)]
  rfl
end


end Go.Proofs.Ytjjnfobeeflnhaa.L

/- Both ways to share a polynomial answer alike, and what they answer. -/
namespace Go.Proofs.Ytjjnfobeeflnhaa.L
open Go.RowKit Go.Proofs.YtjjnfobeeflnhaaW.PrintWords Go.Proofs.Ytjjnfobeeflnhaa.J
set_option linter.unusedVariables false
set_option linter.unusedSimpArgs false

theorem isV_one (p : Int) (l : List Int) : isV p [l] = withinV p l := by
  rw [isV, isV]; split
  · rename_i h; exact h.symm
  · rfl
theorem withinV_zero {p : Int} {l : List Int} (h : withinV p l = 0) : l.length ≤ 201 ∧ ∀ x ∈ l, x < p := by
  unfold withinV at h
  split at h
  · cases h
  · exact ⟨by omega, belowV_zero h⟩
section
variable {q : Nat}
theorem rows_of {l : List Int} (h : withinV (q : Int) l = 0) (hu : ∀ c ∈ l, 0 ≤ c) : ∃ f : List (Fin q), oI f = l ∧ f.length ≤ 201 := by
  obtain ⟨h1, h2⟩ := withinV_zero h
  obtain ⟨f, hf⟩ := oI_of (q := q) (fun c hc => ⟨hu c hc, h2 c hc⟩)
  exact ⟨f, hf, by rw [← hf, oI_length] at h1; exact h1⟩
end
end Go.Proofs.Ytjjnfobeeflnhaa.L

/- The statement ShareSetups as plain Lean: both tests of a setup and both tests of a list of corrupted parties answer alike. -/
namespace Go.Proofs.Ytjjnfobeeflnhaa.L
open Go.RowKit Go.Proofs.YtjjnfobeeflnhaaW.PrintWords Go.Proofs.Ytjjnfobeeflnhaa.J
set_option linter.unusedVariables false
set_option linter.unusedSimpArgs false

def riseV (n : Int) : Int → List Int → Bool
  | _, [] => true
  | prev, x :: xs => if x ≤ prev then false else if x > n then false else riseV n x xs

def corrV (p n t : Int) (l : List Int) : Int :=
  if setupV2 p n t = 0 then (if (l.length : Int) > t then 2 else if riseV n 0 l = true then 0 else 2) else setupV2 p n t
where setupV2 (p n t : Int) : Int := setupV p n t

theorem rd_at (l : List Int) (i : Nat) (h : i < l.length) : rd l (i : Int) = l[i] := by
  simp [rd, List.getD_eq_getElem?_getD, h]

theorem share_rise (p n t : Int) (l : List Int) (hs : l.length ≤ maxLen) : ∀ (m i : Nat) (prev : Int), i + m = l.length → Ev (fun k => share_Corrupted.l0 k prev l (l.length : Int) (i : Int) p n t) (if riseV n prev (l.drop i) = true then 0 else 2)
  | 0, i, prev, hi => by
    rw [List.drop_of_length_le (by omega)]
    refine Ev.step (f := fun k => some 0) (fun k => ?_) (Ev.now _)
    simp only [share_Corrupted.l0]
    rw [if_neg (by omega)]
  | m + 1, i, prev, hi => by
    have hm : (l.length : Int) ≤ 9223372036854775807 := by simp only [maxLen] at hs; omega
    have hlt : i < l.length := by omega
    rw [List.drop_eq_getElem_cons hlt]
    unfold riseV
    by_cases h1 : l[i] ≤ prev
    · simp only [h1, if_true, Bool.false_eq_true, if_false]
      refine Ev.step (f := fun k => some 2) (fun k => ?_) (Ev.now _)
      simp only [share_Corrupted.l0]
      rw [if_pos (by omega), if_pos (by omega), if_pos (by omega), rd_at l i hlt, if_pos h1]
    · by_cases h2 : l[i] > n
      · simp only [h1, h2, if_true, Bool.false_eq_true, if_false]
        refine Ev.step (f := fun k => some 2) (fun k => ?_) (Ev.now _)
        simp only [share_Corrupted.l0]
        rw [if_pos (by omega), if_pos (by omega), if_pos (by omega), rd_at l i hlt, if_neg h1, if_pos h2]
      · simp only [h1, h2, if_false]
        refine Ev.step (f := fun k => share_Corrupted.l0 k l[i] l (l.length : Int) ((i + 1 : Nat) : Int) p n t) (fun k => ?_) (share_rise p n t l hs m (i + 1) l[i] (by omega))
        conv => lhs; simp only [share_Corrupted.l0]
        rw [if_pos (by omega), if_pos (by omega), if_pos (by omega), rd_at l i hlt, if_neg h1, if_neg h2, w64_small (by omega) (by omega)]
        rfl

theorem ref_rise (n : Int) (l : List Int) (hs : l.length ≤ maxLen) : ∀ (m i : Nat) (prev : Int), i + m = l.length → 0 ≤ prev → (i = 0 → prev = 0) → (∀ h : 0 < i ∧ i - 1 < l.length, prev = l[i - 1]'h.2 ∧ 1 ≤ prev) →
    Ev (fun k => juntoref04_Rising.l0 k n l l (l.length : Int) (i : Int)) (riseV n prev (l.drop i))
  | 0, i, prev, hi, hp, hz, hq => by
    rw [List.drop_of_length_le (by omega)]
    refine Ev.step (f := fun k => some true) (fun k => ?_) (Ev.now _)
    simp only [juntoref04_Rising.l0]
    rw [if_neg (by omega)]
  | m + 1, i, prev, hi, hp, hz, hq => by
    have hm : (l.length : Int) ≤ 9223372036854775807 := by simp only [maxLen] at hs; omega
    have hlt : i < l.length := by omega
    rw [List.drop_eq_getElem_cons hlt]
    unfold riseV
    by_cases h0 : l[i] < 1
    · have h1 : l[i] ≤ prev := by omega
      simp only [h1, if_true]
      refine Ev.step (f := fun k => some false) (fun k => ?_) (Ev.now _)
      simp only [juntoref04_Rising.l0]
      rw [if_pos (by omega), if_pos (by omega), if_pos (by omega), rd_at l i hlt, if_pos h0]
    · by_cases h2 : l[i] > n
      · have e : (if l[i] ≤ prev then false else if l[i] > n then false else riseV n l[i] (l.drop (i + 1))) = false := by
          split
          · rfl
          · first | rfl | rw [if_pos h2]
        rw [e]
        refine Ev.step (f := fun k => some false) (fun k => ?_) (Ev.now _)
        simp only [juntoref04_Rising.l0]
        rw [if_pos (by omega), if_pos (by omega), if_pos (by omega), rd_at l i hlt, if_neg h0, if_pos h2]
      · have next : ¬ l[i] ≤ prev → Ev (fun k => juntoref04_Rising.l0 k n l l (l.length : Int) ((i + 1 : Nat) : Int)) (if l[i] ≤ prev then false else if l[i] > n then false else riseV n l[i] (l.drop (i + 1))) := by
          intro h1
          rw [if_neg h1, if_neg h2]
          exact ref_rise n l hs m (i + 1) l[i] (by omega) (by omega) (by omega) (fun h => ⟨rfl, by omega⟩)
        by_cases hi0 : i = 0
        · have hpz := hz hi0
          refine Ev.step (f := fun k => juntoref04_Rising.l0 k n l l (l.length : Int) ((i + 1 : Nat) : Int)) (fun k => ?_) (next (by omega))
          conv => lhs; simp only [juntoref04_Rising.l0]
          rw [if_pos (by omega), if_pos (by omega), if_pos (by omega), rd_at l i hlt, if_neg h0, if_neg h2, if_neg (by omega), w64_small (by omega) (by omega)]
          rfl
        · obtain ⟨hp1, hp2⟩ := hq ⟨by omega, by omega⟩
          have hr : rd l (((i - 1 : Nat)) : Int) = prev := by rw [rd_at l (i - 1) (by omega)]; exact hp1.symm
          have hw : wrap64 ((i : Int) - 1) = ((i - 1 : Nat) : Int) := by rw [w64_small (by omega) (by omega)]; omega
          by_cases h1 : l[i] ≤ prev
          · rw [if_pos h1]
            refine Ev.step (f := fun k => some false) (fun k => ?_) (Ev.now _)
            simp only [juntoref04_Rising.l0]
            rw [if_pos (by omega), if_pos (by omega), if_pos (by omega), rd_at l i hlt, if_neg h0, if_neg h2, if_pos (by omega), hw, if_pos (by omega), if_pos (by omega), hr, if_pos (by omega)]
          · refine Ev.step (f := fun k => juntoref04_Rising.l0 k n l l (l.length : Int) ((i + 1 : Nat) : Int)) (fun k => ?_) (next h1)
            conv => lhs; simp only [juntoref04_Rising.l0]
            rw [if_pos (by omega), if_pos (by omega), if_pos (by omega), rd_at l i hlt, if_neg h0, if_neg h2, if_pos (by omega), hw, if_pos (by omega), if_pos (by omega), hr, if_neg (by omega), w64_small (by omega) (by omega)]
            rfl

theorem share_corr (p n t : Int) (l : List Int) (hs : l.length ≤ maxLen) : Ev (fun k => share_Corrupted.f k p n t l) (corrV p n t l) := by
  unfold share_Corrupted.f corrV corrV.setupV2
  refine Ev.bind (share_setup p n t) ?_
  by_cases h0 : setupV p n t = 0
  · simp only [h0, if_true]
    by_cases h1 : (l.length : Int) > t
    · simp only [h1, if_true]
      exact Ev.now _
    · simp only [h1, if_false]
      exact share_rise p n t l hs l.length 0 0 (by omega)
  · simp only [h0, if_false]
    exact Ev.now _

theorem ref_corr (p n t : Int) (l : List Int) (hs : l.length ≤ maxLen) : Ev (fun k => juntoref04_Corrupted.f k p n t l) (corrV p n t l) := by
  unfold juntoref04_Corrupted.f corrV corrV.setupV2
  refine Ev.bind (ref_setup p n t) ?_
  by_cases h0 : setupV p n t = 0
  · simp only [h0, if_true]
    by_cases h1 : (l.length : Int) > t
    · simp only [h1, if_true]
      exact Ev.now _
    · simp only [h1, if_false]
      have h := ref_rise n l hs l.length 0 0 (by omega) (by omega) (fun _ => rfl) (fun h => by omega)
      refine Ev.bind (a := riseV n 0 l) h ?_
      by_cases h2 : riseV n 0 l = true
      · simp only [h2, if_true]
        exact Ev.now _
      · simp only [h2, if_false]
        exact Ev.now _
  · simp only [h0, if_false]
    exact Ev.now _

end Go.Proofs.Ytjjnfobeeflnhaa.L

/- Both ways to move a polynomial to another secret answer alike, and what they answer. -/
namespace Go.Proofs.Ytjjnfobeeflnhaa.L
open Go.RowKit Go.Proofs.YtjjnfobeeflnhaaW.PrintWords Go.Proofs.Ytjjnfobeeflnhaa.J
set_option linter.unusedVariables false
set_option linter.unusedSimpArgs false

theorem rise_mem {n : Int} : ∀ {l : List Int} {prev : Int}, riseV n prev l = true → ∀ x ∈ l, prev < x ∧ x ≤ n
  | [], _, _, x, hx => by cases hx
  | a :: l, prev, h, x, hx => by
    unfold riseV at h
    split at h
    · cases h
    · split at h
      · cases h
      · rcases List.mem_cons.1 hx with rfl | h'
        · omega
        · have := rise_mem h x h'
          omega
theorem corrV_zero {p n t : Int} {l : List Int} (h : corrV p n t l = 0) : setupV p n t = 0 ∧ (l.length : Int) ≤ t ∧ riseV n 0 l = true := by
  unfold corrV corrV.setupV2 at h
  split at h
  · split at h
    · cases h
    · split at h
      · exact ⟨by assumption, by omega, by assumption⟩
      · cases h
  · contradiction
theorem corrV_two {p n t : Int} {l : List Int} (h : corrV p n t l ≠ 0) : corrV p n t l = 2 := by
  unfold corrV corrV.setupV2 at h ⊢
  split
  · rename_i h0
    rw [if_pos h0] at h
    split
    · rfl
    · rename_i h1
      rw [if_neg h1] at h
      split
      · rename_i h2
        rw [if_pos h2] at h
        exact absurd rfl h
      · rfl
  · rename_i h0
    exact setupV_two h0
section
variable {q : Nat}
theorem places_of {n : Int} {l : List Int} (hr : riseV n 0 l = true) (hn : n < (q : Int)) (hq : q ≤ 65537) : ∃ xs : List (Fin q), oI xs = l ∧ (l.map fun x => IntKind.u64.wrap x) = oI xs ∧ xs.length = l.length := by
  have hm := rise_mem hr
  have e : (l.map fun x => IntKind.u64.wrap x) = l := by
    conv => rhs; rw [← List.map_id l]
    apply List.map_congr_left
    intro x hx
    have := hm x hx
    exact u64_small (by omega) (by omega)
  obtain ⟨xs, hxs⟩ := oI_of (q := q) (l := l) (fun c hc => by have := hm c hc; omega)
  exact ⟨xs, hxs, by rw [e, hxs], by rw [← hxs, oI_length]⟩
end
end Go.Proofs.Ytjjnfobeeflnhaa.L

/- The chapter's example holds; a number or an error as the law asks it. -/
namespace Go.Proofs.Ytjjnfobeeflnhaa.L
open Go.RowKit Go.Proofs.YtjjnfobeeflnhaaW.PrintWords Go.Proofs.Ytjjnfobeeflnhaa.J

theorem alive07 : Ev (fun k => juntolaw07_alive.f k) true := Ev.of juntolaw07_alive.mono (k := 40) (by decide +kernel)

end Go.Proofs.Ytjjnfobeeflnhaa.L

/- What the law's own words ask of an answer. -/
namespace Go.Proofs.Ytjjnfobeeflnhaa.L
open Go.RowKit Go.Proofs.YtjjnfobeeflnhaaW.PrintWords Go.Proofs.Ytjjnfobeeflnhaa.J

theorem list07_same (l : List Int) (hl : l.length ≤ maxLen) : Ev (fun k => juntolaw07_list.f k l 0 l 0) true := by
  unfold juntolaw07_list.f
  simp only [if_true]
  exact Ev.bind (same_self l hl) (Ev.now _)
theorem list07_bad (e : Int) (h : e ≠ 0) : Ev (fun k => juntolaw07_list.f k [] e [] e) true := by
  unfold juntolaw07_list.f
  simp only [h, if_true, if_false]
  exact Ev.now _

end Go.Proofs.Ytjjnfobeeflnhaa.L

/- The statement TwiceCuts as plain Lean. -/
namespace Go.Proofs.Ytjjnfobeeflnhaa.L
open Go.RowKit Go.Proofs.YtjjnfobeeflnhaaW.PrintWords Go.Proofs.Ytjjnfobeeflnhaa.J
set_option linter.unusedVariables false
set_option linter.unusedSimpArgs false

section
variable {q : Nat} [NeZero q]
theorem gone_co0 : ∀ (xs f : List (Fin q)), Fld.co (gone f xs) 0 = Fld.co f 0
  | [], f => rfl
  | x :: xs, f => by
    rw [gone, gone_co0 xs, Fld.trim_co _ 0, Fld.co_mul]
    unfold Fld.cv
    show (0 : Fin q) + Fld.co f 0 * Fld.co [1, 0 - Fld.inv x] (0 - 0) = _
    rw [Nat.sub_zero, Fld.co_cons_zero]; grind
theorem gone_ne (hp : Fld.Pr q) (xs : List (Fin q)) : Fld.trim (gone [1] xs) ≠ [] := by
  intro h
  have h0 := gone_co0 xs [1]
  rw [← Fld.trim_co (gone [1] xs) 0, h, Fld.co_nil, Fld.co_cons_zero] at h0
  exact Fld.one_ne_zero hp h0.symm
end

theorem cuts_bad (p n t e : Int) (c d : List Int) (h : e ≠ 0) : Ev (fun k => juntolaw07_TwiceCuts.j0 k c d [] [] e e p n t) true := by
  refine Ev.step (f := fun k => (juntolaw07_list.f k [] e [] e).bind fun t1038 => (if t1038 = true then ((juntolaw07_alive.f k).bind fun t1039 => (some t1039)) else (some false))) (fun k => ?_) (Ev.bind (list07_bad e h) ?_)
  · simp only [juntolaw07_TwiceCuts.j0]
    rw [if_neg h]
    simp
  · simp only [if_true]
    exact Ev.bind alive07 (Ev.now _)

theorem twiceCuts (x0_0 : Int) (x0_1 : Int) (x0_2 : Int) (x1 : List Int) (x2 : List Int) (w0_0 : (Lit.int .u64 x0_0).wf = true) (w0_1 : (Lit.int .i64 x0_1).wf = true) (w0_2 : (Lit.int .i64 x0_2).wf = true)
    (w1 : x1.length ≤ maxLen ∧ x1.length * 8 ≤ 140737488351232 ∧ ∀ x1' ∈ x1, (Lit.int .i64 x1').wf = true) (w2 : x2.length ≤ maxLen ∧ x2.length * 8 ≤ 140737488351232 ∧ ∀ x2' ∈ x2, (Lit.int .u64 x2').wf = true) : ∃ k, juntolaw07_TwiceCuts.f k x0_0 x0_1 x0_2 x1 x2 = some true := by
  suffices h : Ev (fun k => juntolaw07_TwiceCuts.f k x0_0 x0_1 x0_2 x1 x2) true from h.rounds
  have hu : ∀ c ∈ x2, 0 ≤ c := fun c hc => (u64_wf (w2.2.2 c hc)).1
  unfold juntolaw07_TwiceCuts.f
  by_cases hc : corrV x0_0 x0_1 x0_2 x1 = 0
  · obtain ⟨h0, hlt, hr⟩ := corrV_zero hc
    have hh := setupV_small h0
    by_cases hw : withinV x0_0 x2 = 0
    · have hp1 := (setupV_ok h0).1
      obtain ⟨q, rfl⟩ : ∃ q : Nat, x0_0 = (q : Int) := ⟨x0_0.toNat, by omega⟩
      have hz : NeZero q := ⟨by omega⟩
      obtain ⟨d, rfl, hd⟩ := rows_of hw hu
      have hq : q ≤ 65537 := by omega
      have h2 : 2 < q := by omega
      have hp := pr_of_isP hp1
      obtain ⟨xs, _, hxs, hxl⟩ := places_of (q := q) hr (by omega) hq
      have hgl := gone_length xs [1]
      rw [List.length_singleton] at hgl
      obtain ⟨Q, R, hev, hdiv⟩ := over_rows hp h2 hq d (gone [1] xs) (gone_ne hp xs) (by omega) (by omega)
      obtain ⟨Q', R', hev', hdiv'⟩ := divide_rows hp h2 hq d (gone [1] xs) (gone_ne hp xs) (by omega) (by omega)
      obtain ⟨e1, e2⟩ := hdiv.unique hp (gone_ne hp xs) hdiv'
      subst e1 e2
      have hQl := hdiv.2.2.2.2
      have rcut : Ev (fun k => juntoref07_Cut.f k (q : Int) x0_1 x0_2 x1 (oI d)) (oI (gone [1] xs), oI Q, ((R.length : Int) == 0)) := by
        unfold juntoref07_Cut.f
        refine Ev.bind (ref_numbers x1 (by omega)) ?_
        rw [hxs]
        refine Ev.bind (away_rows h2 hq xs (by omega)) (Ev.bind hev' ?_)
        rw [oI_length]
        exact Ev.now _
      have cut : Ev (fun k => twice_Cut.f k (q : Int) x0_1 x0_2 x1 (oI d)) (if (R.length : Int) > 0 then ([], [], 12) else (oI (gone [1] xs), oI Q, 0)) := by
        unfold twice_Cut.f
        refine Ev.bind (share_corr _ _ _ _ w1.1) ?_
        simp only [hc, if_true]
        refine Ev.bind (poly_is (q : Int) [oI d] (by simp) (fun g hg => by rw [List.mem_singleton.1 hg]; exact w2.1) hp1) ?_
        rw [isV_one]
        simp only [hw, if_true]
        refine Ev.bind (share_places x1 (by omega)) ?_
        rw [hxs]
        refine Ev.bind (gone_rows h2 hq xs (by omega)) (Ev.bind hev ?_)
        rw [oI_length]
        split <;> exact Ev.now _
      refine Ev.bind cut (Ev.bind (ref_corr _ _ _ _ w1.1) ?_)
      simp only [hc, if_true]
      refine Ev.bind (ref_rowok _ _ w2.1) ?_
      simp only [hw]
      by_cases hR : (R.length : Int) > 0
      · simp only [hR, if_true]
        have eb : ((R.length : Int) == 0) = false := by rw [beq_eq_false_iff_ne]; omega
        rw [eb] at rcut
        refine Ev.step (f := fun k => (juntoref07_Cut.f k (q : Int) x0_1 x0_2 x1 (oI d)).bind fun bt1040 => (if bt1040.2.2 = true then ((juntolaw07_list.f k [] 12 bt1040.1 0).bind fun t1047 => (if t1047 = true then ((juntoref01_Same.f k [] bt1040.2.1).bind fun t1048 => (some t1048)) else (some false))) else ((juntolaw07_list.f k [] 12 ([] : List Int) 12).bind fun t1049 => (if t1049 = true then ((juntolaw07_alive.f k).bind fun t1050 => (some t1050)) else (some false))))) (fun k => by simp [juntolaw07_TwiceCuts.j0]) ?_
        refine Ev.bind rcut ?_
        simp only [Bool.false_eq_true, if_false]
        refine Ev.bind (list07_bad 12 (by decide)) ?_
        simp only [if_true]
        exact Ev.bind alive07 (Ev.now _)
      · simp only [hR, if_false]
        have eb : ((R.length : Int) == 0) = true := by rw [beq_iff_eq]; omega
        rw [eb] at rcut
        refine Ev.step (f := fun k => (juntoref07_Cut.f k (q : Int) x0_1 x0_2 x1 (oI d)).bind fun bt1040 => (if bt1040.2.2 = true then ((juntolaw07_list.f k (oI (gone [1] xs)) 0 bt1040.1 0).bind fun t1047 => (if t1047 = true then ((juntoref01_Same.f k (oI Q) bt1040.2.1).bind fun t1048 => (some t1048)) else (some false))) else ((juntolaw07_list.f k (oI (gone [1] xs)) 0 ([] : List Int) 12).bind fun t1049 => (if t1049 = true then (if ((oI Q).length : Int) = 0 then ((juntolaw07_alive.f k).bind fun t1050 => (some t1050)) else (some false)) else (some false))))) (fun k => by simp only [juntolaw07_TwiceCuts.j0, if_true]) ?_
        refine Ev.bind rcut ?_
        simp only [if_true]
        refine Ev.bind (list07_same _ (by rw [oI_length]; simp only [maxLen]; omega)) ?_
        simp only [if_true]
        exact Ev.bind (same_self _ (by rw [oI_length]; simp only [maxLen]; omega)) (Ev.now _)
    · have cut : Ev (fun k => twice_Cut.f k x0_0 x0_1 x0_2 x1 x2) ([], [], withinV x0_0 x2) := by
        unfold twice_Cut.f
        refine Ev.bind (share_corr _ _ _ _ w1.1) ?_
        simp only [hc, if_true]
        refine Ev.bind (poly_is x0_0 [x2] (by simp) (fun g hg => by rw [List.mem_singleton.1 hg]; exact w2.1) (setupV_ok h0).1) ?_
        rw [isV_one]
        simp only [hw, if_false]
        exact Ev.now _
      refine Ev.bind cut (Ev.bind (ref_corr _ _ _ _ w1.1) ?_)
      simp only [hc, if_true]
      exact Ev.bind (ref_rowok _ _ w2.1) (cuts_bad _ _ _ _ _ _ hw)
  · have cut : Ev (fun k => twice_Cut.f k x0_0 x0_1 x0_2 x1 x2) ([], [], 2) := by
      unfold twice_Cut.f
      refine Ev.bind (share_corr _ _ _ _ w1.1) ?_
      simp only [hc, if_false]
      rw [corrV_two hc]
      exact Ev.now _
    refine Ev.bind cut (Ev.bind (ref_corr _ _ _ _ w1.1) ?_)
    simp only [hc, if_false]
    rw [corrV_two hc]
    exact cuts_bad _ _ _ _ _ _ (by decide)

end Go.Proofs.Ytjjnfobeeflnhaa.L

/- The row of TwiceCuts: for every input the call returns true and changes nothing; no conditions. Out of the contract of the function and the plain law. -/
namespace Go.Proofs.Ytjjnfobeeflnhaa.twiceCuts
open Go.ChangeShapes Go.WideShapes Go.ChangeAt Go.RowKit Go.Proofs.YtjjnfobeeflnhaaW.PrintWords Go.Proofs.Ytjjnfobeeflnhaa.J Go.Proofs.Ytjjnfobeeflnhaa.Op
set_option linter.unusedVariables false
theorem own : ownKnob Try.prog.godebug = none := by kernel_rfl
theorem laidOut : laidOutB Try.prog = true := by kernel_rfl
set_option maxRecDepth 100000 in
theorem op0 : Opens Try.prog (Kd.pair (Kd.int .u64) (Kd.pair (Kd.int .i64) (Kd.int .i64))) 24 (fun x => (fun n => (Lit.int .u64 n).wf = true) x.1 ∧ (fun x => (fun n => (Lit.int .i64 n).wf = true) x.1 ∧ (fun n => (Lit.int .i64 n).wf = true) x.2) x.2) := (op_agg Try.underlying24 (opL_cons (by kernel_rfl) (by kernel_rfl) (op_int Try.underlying22) (by kernel_rfl) (opL_cons (by kernel_rfl) (by kernel_rfl) (op_int Try.underlying3) (by kernel_rfl) (opL_one (by kernel_rfl) (by kernel_rfl) (op_int Try.underlying3)))))
set_option maxRecDepth 100000 in
theorem op1 : Opens Try.prog (Kd.slice 3 (Kd.int .i64)) 63 (fun l => l.length ≤ maxLen ∧ l.length * 8 ≤ 140737488351232 ∧ ∀ a ∈ l, (fun n => (Lit.int .i64 n).wf = true) a) := (op_slice Try.underlying63 (by kernel_rfl) (by kernel_rfl) (op_int Try.underlying3))
set_option maxRecDepth 100000 in
theorem op2 : Opens Try.prog (Kd.slice 22 (Kd.int .u64)) 31 (fun l => l.length ≤ maxLen ∧ l.length * 8 ≤ 140737488351232 ∧ ∀ a ∈ l, (fun n => (Lit.int .u64 n).wf = true) a) := (op_slice Try.underlying31 (by kernel_rfl) (by kernel_rfl) (op_int Try.underlying22))
set_option maxRecDepth 100000 in
theorem lifted (os : Os) (started : os.Started) (H : Type) (enc : TypeId × Value → H) :
    ReturnsInHanded {} Try.checked os 19 .any (Rows.twiceCutsSpec.pre6 enc Try.prog Try.f19 Rows.twiceCutsRow.domain false) (Rows.twiceCutsSpec.post enc Try.prog Try.f19 false true false false) := by
  refine returnsInHanded_of_change_sized (C := Try.checked) own started (by kernel_rfl) Try.func19
    (ChangeSpec.witness6 (enc := enc) (C := Try.checked) false ⟨#[], #[.agg #[.int .u64 0, .int .i64 0, .int .i64 0], .slice none 0 0, .slice none 0 0], []⟩ 8 (by kernel_rfl) (by kernel_rfl) (by kernel_rfl) (by kernel_rfl)) ?_
  intro W base args ds gs before hval0 hW hcnd hsz0 _
  have hsz : (DataW.weightsEach Try.prog (Try.f19.params.toList ++ Rows.twiceCutsSpec.plain.varTypes Try.prog) (ds ++ gs)).all (· ≤ reachBytes) = true := hsz0
  have hval : ∀ (j : Nat) t v, Try.f19.params[j]? = some t → args[j]? = some v → Value.okWide Try.prog W .any base t v := hval0
  have hW' := hW
  obtain ⟨p, q, hA0, hV, rfl, hfz, hnd⟩ := hW
  have hA : DataW.TrodAll enc Try.prog W 0 (fun _ => true) true Try.f19.params.toList args.toList ds p := hA0
  rw [Try.params19] at hA hval hsz
  obtain ⟨v0, vs0, d0, ds0, p0, q0, hargs, rfl, rfl, h0, r0⟩ := trodAll_cons hA
  obtain ⟨v1, vs1, d1, ds1, p1, q1, rfl, rfl, rfl, h1, r1⟩ := trodAll_cons r0
  obtain ⟨v2, vs2, d2, ds2, p2, q2, rfl, rfl, rfl, h2, r2⟩ := trodAll_cons r1
  obtain ⟨rfl, rfl, rfl⟩ := trodAll_nil r2
  obtain rfl : args = #[v0, v1, v2] := by cases args; simp_all
  obtain ⟨rfl, rfl⟩ := trodVars_none hV
  have k0 := h0
  have lt0 : ∀ x ∈ p0, x.block < W.heap.size := by obtain ⟨m, hm⟩ := k0; exact DataW.trod_lt m _ _ _ hm
  obtain ⟨cs0, rfl, hn0⟩ := okWide_agg Try.underlying24 (hval 0 24 v0 rfl rfl)
  obtain ⟨⟨x0_0, x0_1, x0_2⟩, K0, ⟨w0_0, w0_1, w0_2⟩⟩ := arg op0 (by show cs0.toList.length = _; rw [Array.length_toList, hn0]; kernel_rfl) h0 hsz (j := 0) rfl rfl
  obtain ⟨g0_0, rg0_0, qg0_0, l0_0, M0_0⟩ := K0
  have l0_0' : g0_0 = [Value.int .u64 x0_0] := l0_0
  obtain ⟨g0_1, rg0_1, qg0_1, l0_1, M0_1⟩ := M0_0
  have l0_1' : g0_1 = [Value.int .i64 x0_1] := l0_1
  have M0_1' : rg0_1 = [Value.int .i64 x0_2] := M0_1
  obtain rfl : cs0 = #[.int .u64 x0_0, .int .i64 x0_1, .int .i64 x0_2] := by
    apply Array.toList_inj.1
    have z0 : cs0.toList = _ := qg0_0
    rw [z0, l0_0', qg0_1, l0_1', M0_1']
    rfl
  have k1 := h1
  have lt1 : ∀ x ∈ p1, x.block < W.heap.size := by obtain ⟨m, hm⟩ := k1; exact DataW.trod_lt m _ _ _ hm
  obtain ⟨a1, len1, cap1, rfl⟩ := okWide_slice Try.underlying63 (hval 1 63 v1 rfl rfl)
  obtain ⟨x1, ⟨A1, c1, e1, hc1, hr1⟩, w1⟩ := arg op1 rfl h1 hsz (j := 1) rfl rfl
  have e1' : [Value.slice a1 len1 cap1] = [Value.slice A1 x1.length c1] := e1
  obtain ⟨rfl, rfl, rfl⟩ : a1 = A1 ∧ len1 = x1.length ∧ cap1 = c1 := by simpa using e1'
  have k2 := h2
  have lt2 : ∀ x ∈ p2, x.block < W.heap.size := by obtain ⟨m, hm⟩ := k2; exact DataW.trod_lt m _ _ _ hm
  obtain ⟨a2, len2, cap2, rfl⟩ := okWide_slice Try.underlying31 (hval 2 31 v2 rfl rfl)
  obtain ⟨x2, ⟨A2, c2, e2, hc2, hr2⟩, w2⟩ := arg op2 rfl h2 hsz (j := 2) rfl rfl
  have e2' : [Value.slice a2 len2 cap2] = [Value.slice A2 x2.length c2] := e2
  obtain ⟨rfl, rfl, rfl⟩ : a2 = A2 ∧ len2 = x2.length ∧ cap2 = c2 := by simpa using e2'
  clear hA0 hval0 hsz0 hsz
  obtain ⟨k, h⟩ := L.twiceCuts x0_0 x0_1 x0_2 x1 x2 w0_0 w0_1 w0_2 w1 w2
  refine (juntolaw07_TwiceCuts.calls k x0_0 x0_1 x0_2 _ _ x1 _ _ x2 true W hr1 hc1 hr2 hc2 h).mono fun e W' ⟨he, bel⟩ => ?_
  subst he
  exact ⟨_, rfl, _, _, _, [], _, [], hW', trodAll_mk1 (shut_bool Try.underlying4 _), (trodAll_cons_mk (Below.trod laidOut (by kernel_rfl) (of_decide_eq_true (by kernel_rfl)) k0 bel lt0) (trodAll_cons_mk (Below.trod laidOut (by kernel_rfl) (of_decide_eq_true (by kernel_rfl)) k1 bel lt1) (trodAll_cons_mk (Below.trod laidOut (by kernel_rfl) (of_decide_eq_true (by kernel_rfl)) k2 bel lt2) trodAll_mk0))), rfl, bel.frame _, fun h => by cases h⟩
set_option maxRecDepth 100000 in
theorem closed : joinedFacts Try.pinned.checked.prog 19 Try.f19 Rows.twiceCutsSpec Rows.twiceCutsRow = true := by
  unfold joinedFacts
  repeat' with_reducible refine Bool.and_eq_true_iff.2 ⟨?_, ?_⟩
  all_goals first
    | with_reducible exact Facts.enters
    | (rw [Facts.final]; kernel_rfl)
    | (rw [Facts.made]; kernel_rfl)
    | kernel_rfl
theorem over : Rows.twiceCutsRow.holds Try.pinned (OpenSpec.ofChange Rows.twiceCutsSpec) :=
  OpenClaim.holds_of_wide 19 Try.f19 rfl rfl rfl rfl rfl rfl rfl ⟨rfl, rfl, rfl, rfl, rfl⟩ rfl rfl rfl rfl rfl (by kernel_rfl) Try.func19 closed
    (of_decide_eq_true (by kernel_rfl)) (by unfold Func.isWrapper; first | (rw [if_pos (by decide +kernel)]; kernel_rfl) | (rw [if_neg (by decide +kernel)]; exact ⟨rfl, rfl⟩))
    (fun os started H enc _ => lifted os started H enc)
theorem proved : Rows.TwiceCutsSaid := over
#print axioms proved
end Go.Proofs.Ytjjnfobeeflnhaa.twiceCuts
namespace Go.Proofs.Ytjjnfobeeflnhaa
/-- The row, under a short name, for the claim. -/
theorem twiceCuts_holds : Rows.TwiceCutsSaid := twiceCuts.proved
end Go.Proofs.Ytjjnfobeeflnhaa
