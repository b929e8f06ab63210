/- Part 5 of the proof of ShareNothing: what the functions compute as plain Lean functions, that the machine comes to just these answers, and that the answer is true; no conditions. -/
import Derived.Test.YtjjnfobeeflnhaaShareNothingZ0
import Derived.Test.YtjjnfobeeflnhaaShareNothingZ1
import Derived.Test.YtjjnfobeeflnhaaShareNothingZ2
import Derived.Test.YtjjnfobeeflnhaaShareNothingZ3
import Derived.Test.YtjjnfobeeflnhaaShareNothingZ4
/- Both ways to share a polynomial answer alike, and what they answer. -/
namespace Go.Proofs.Ytjjnfobeeflnhaa.L
open Go.RowKit Go.Proofs.YtjjnfobeeflnhaaW.PrintWords Go.Proofs.Ytjjnfobeeflnhaa.J
set_option linter.unusedVariables false
set_option linter.unusedSimpArgs false

theorem isV_one (p : Int) (l : List Int) : isV p [l] = withinV p l := by
  rw [isV, isV]; split
  · rename_i h; exact h.symm
  · rfl
theorem withinV_ne (p : Int) (l : List Int) (h : l.length ≤ 201) : withinV p l = belowV p l := by
  unfold withinV
  rw [if_neg (by omega)]
section
variable {q : Nat} [NeZero q]
/-- The point of party i + 1. -/
def pt (q : Nat) [NeZero q] (i : Nat) : Fin q := resid q ((i : Int) + 1)
theorem nI_pt {i : Nat} (h : i + 1 < q) : nI (pt q i) = (i : Int) + 1 := by
  unfold pt
  rw [nI_resid, Int.emod_eq_of_lt (by omega) (by omega)]
/-- The shares of a polynomial. -/
def sharesF (f : List (Fin q)) (n : Nat) : List (Fin q) := Fld.mk n (fun i => Fld.ev f (pt q i))
end
section
variable {q : Nat}
theorem mk_succ (n : Nat) (F : Nat → Fin q) : Fld.mk (n + 1) F = Fld.mk n F ++ [F n] := by
  unfold Fld.mk; rw [List.range_succ]; simp
end
section
variable {q : Nat} [NeZero q]
theorem of_loop (hq : q ≤ 65537) (f : List (Fin q)) (n : Nat) (t : Int) (hn : n < q) (m : Nat) : ∀ i : Nat, i + m = n → Ev (fun k => share_Of.l0 k (oI f) (oI (fill n i fun j => Fld.ev f (pt q j))) (n : Int) (i : Int) (q : Int) (n : Int) t) (oI (sharesF f n)) := by
  induction m with
  | zero =>
    intro i hi
    obtain rfl : i = n := by omega
    refine Ev.step (f := fun k => some (oI (sharesF f i))) (fun k => ?_) (Ev.now _)
    simp only [share_Of.l0]
    rw [if_neg (by omega), fill_all]
    rfl
  | succ m ih =>
    intro i hi
    have hw : wrap64 ((i : Int) + 1) = ((i + 1 : Nat) : Int) := by rw [w64_small (by omega) (by omega)]; omega
    have hp : IntKind.u64.wrap ((i + 1 : Nat) : Int) = nI (pt q i) := by rw [u64_small (by omega) (by omega), nI_pt (by omega)]; omega
    refine Ev.step (f := fun k => share_Of.l0 k (oI f) (oI (fill n (i + 1) fun j => Fld.ev f (pt q j))) (n : Int) ((i + 1 : Nat) : Int) (q : Int) (n : Int) t) (fun k => ?_) (ih (i + 1) (by omega))
    conv => lhs; simp only [share_Of.l0]
    rw [if_pos (by omega), hw, hp, at_rows hq, Option.bind_some, if_pos (by omega), if_pos (by rw [oI_length, fill_length]; omega), Int.toNat_natCast, oI_set, fill_set n i (fun j => Fld.ev f (pt q j))]
theorem share_of (hq : q ≤ 65537) (f : List (Fin q)) (n : Nat) (t : Int) (hn : n < q) : Ev (fun k => share_Of.f k (q : Int) (n : Int) t (oI f)) (oI (sharesF f n)) := by
  have h := of_loop hq f n t hn n 0 (by omega)
  rw [fill_zero, ← oI_zeros] at h
  refine Ev.congr (fun k => ?_) h
  unfold share_Of.f
  rw [if_pos (by omega), Int.toNat_natCast, if_pos (by omega), Option.bind_some]
  simp
theorem share_shares_ok (hq : q ≤ 65537) (f : List (Fin q)) (hf : f.length ≤ 201) (n : Nat) (t : Int) (h0 : setupV (q : Int) (n : Int) t = 0) : Ev (fun k => share_Shares.f k (q : Int) (n : Int) t (oI f)) (oI (sharesF f n), 0) := by
  have hh := setupV_small h0
  have hi : isV (q : Int) [oI f] = 0 := by
    rw [isV_one, withinV_ne _ _ (by rw [oI_length]; exact hf)]
    unfold belowV
    rw [if_pos (fun x hx => (oI_range f x hx).2)]
  unfold share_Shares.f
  refine Ev.bind (share_setup _ _ _) ?_
  simp only [h0, if_true]
  refine Ev.bind (poly_is (q : Int) [oI f] (by simp) (fun g hg => by rw [List.mem_singleton.1 hg, oI_length]; simp only [maxLen]; omega) (setupV_ok h0).1) ?_
  simp only [hi, if_true]
  exact Ev.bind (share_of hq f n t (by omega)) (Ev.now _)
end
end Go.Proofs.Ytjjnfobeeflnhaa.L

/- Interpolation over the residues modulo a prime: by differences (Newton) and by basis polynomials (Lagrange). Plain Lean, no program in sight. -/
namespace Go.Proofs.Ytjjnfobeeflnhaa.Fld
set_option linter.unusedVariables false
set_option linter.unusedSimpArgs false

section
variable {p : Nat} [NeZero p]

theorem ev_lin (b : Fin p) (z : Fin p) : ev [b, 1] z = z + b := by
  rw [ev_cons, ev_cons, ev_nil]; grind
theorem ev_one (c z : Fin p) : ev [c] z = c := by rw [ev_cons, ev_nil]; grind

/-- The product of x minus the places from a on, m of them. -/
def wp (x : Nat → Fin p) (a : Nat) : Nat → List (Fin p)
  | 0 => [1]
  | m + 1 => mul [-(x (a + m)), 1] (wp x a m)
/-- The polynomial by differences, from its end on. -/
def hn (x d : Nat → Fin p) (n : Nat) : Nat → List (Fin p)
  | 0 => []
  | m + 1 => trim (add (trim (mul (hn x d n m) [-(x (n - (m + 1))), 1])) [d (n - (m + 1))])
/-! by basis polynomials -/
/-- One basis polynomial: the factors of the first m places but i. -/
def un (x : Nat → Fin p) (i : Nat) : Nat → List (Fin p)
  | 0 => [1]
  | m + 1 => if m = i then un x i m else trim (smul (inv (x i - x m)) (trim (mul (un x i m) [-(x m), 1])))
theorem ev_un (x : Nat → Fin p) (i m : Nat) (z : Fin p) : ev (un x i (m + 1)) z = if m = i then ev (un x i m) z else ev (un x i m) z * ((z - x m) * inv (x i - x m)) := by
  rw [un]
  split
  · rfl
  · rw [(trim_co _).ev, ev_smul, (trim_co _).ev, ev_mul, ev_lin]; grind
theorem un_self (hp : Pr p) (x : Nat → Fin p) (n i : Nat) (hi : i < n) (hx : ∀ i j, i < n → j < n → x i = x j → i = j) : ∀ m, m ≤ n → ev (un x i m) (x i) = 1
  | 0, _ => by rw [un, ev_one]
  | m + 1, h => by
    rw [ev_un, un_self hp x n i hi hx m (by omega)]
    split
    · rfl
    · rename_i hne
      rw [mul_inv hp (fun e => hne (hx m i (by omega) hi (by grind)))]; grind
theorem un_other (x : Nat → Fin p) (i j m : Nat) (hj : j < m) (hne : j ≠ i) : ev (un x i m) (x j) = 0 := by
  induction m with
  | zero => omega
  | succ m ih =>
    rw [ev_un]
    by_cases e : j = m
    · subst e; rw [if_neg hne]; grind
    · rw [ih (by omega)]; split <;> grind
theorem un_length (x : Nat → Fin p) (i : Nat) : ∀ m, (un x i m).length ≤ (if i < m then m else m + 1)
  | 0 => by simp [un]
  | m + 1 => by
    have ih := un_length x i m
    rw [un]
    by_cases e : m = i
    · subst e
      rw [if_pos rfl, if_pos (by omega)]
      rw [if_neg (by omega)] at ih; exact ih
    · rw [if_neg e]
      have h1 := trim_length_le (smul (inv (x i - x m)) (trim (mul (un x i m) [-(x m), 1])))
      rw [smul_length] at h1
      have h2 := trim_mul_le (un x i m) [-(x m), 1]
      simp only [List.length_cons, List.length_nil] at h2
      split at ih <;> split <;> omega
/-- The sum of the first m basis polynomials times the values. -/
def lg (x y : Nat → Fin p) (n : Nat) : Nat → List (Fin p)
  | 0 => []
  | m + 1 => trim (add (lg x y n m) (trim (smul (y m) (un x m n))))
theorem ev_lg (x y : Nat → Fin p) (n m : Nat) (z : Fin p) : ev (lg x y n (m + 1)) z = ev (lg x y n m) z + y m * ev (un x m n) z := by
  rw [lg, (trim_co _).ev, ev_add, (trim_co _).ev, ev_smul]
theorem lg_tr (x y : Nat → Fin p) (n m : Nat) : trim (lg x y n m) = lg x y n m := by
  cases m with
  | zero => rfl
  | succ m => rw [lg, trim_trim]
theorem lg_length (x y : Nat → Fin p) (n m : Nat) (hm : m ≤ n) : (lg x y n m).length ≤ n := by
  induction m with
  | zero => simp [lg]
  | succ m ih =>
    have h1 := trim_length_le (add (lg x y n m) (trim (smul (y m) (un x m n))))
    rw [add_length] at h1
    have h2 := trim_length_le (smul (y m) (un x m n))
    rw [smul_length] at h2
    have h3 := un_length x m n
    rw [if_pos (by omega)] at h3
    have := ih (by omega)
    rw [lg]; omega
theorem lg_at (hp : Pr p) (x y : Nat → Fin p) (n : Nat) (hx : ∀ i j, i < n → j < n → x i = x j → i = j) (k : Nat) (hk : k < n) : ∀ m, m ≤ n → ev (lg x y n m) (x k) = if k < m then y k else 0
  | 0, _ => by rw [lg, ev_nil, if_neg (by omega)]
  | m + 1, h => by
    rw [ev_lg, lg_at hp x y n hx k hk m (by omega)]
    by_cases e : k = m
    · subst e; rw [un_self hp x n k hk hx n (Nat.le_refl _), if_neg (by omega), if_pos (by omega)]; grind
    · rw [un_other x m k n hk e]
      by_cases h' : k < m
      · rw [if_pos h', if_pos (by omega)]; grind
      · rw [if_neg h', if_neg (by omega)]; grind
end
end Go.Proofs.Ytjjnfobeeflnhaa.Fld

/- Both ways to lay a polynomial through points tell the same one: what the words tell. -/
namespace Go.Proofs.Ytjjnfobeeflnhaa.L
open Go.RowKit Go.Proofs.YtjjnfobeeflnhaaW.PrintWords Go.Proofs.Ytjjnfobeeflnhaa.J
set_option linter.unusedVariables false
set_option linter.unusedSimpArgs false

section
variable {q : Nat} [NeZero q]
/-- Points of residues. -/
def ptsF (n : Nat) (X Y : Nat → Fin q) : List S86 := (List.range n).map fun i => (⟨nI (X i), nI (Y i)⟩ : S86)
end
section
variable {q : Nat}
theorem ptsF_length (n : Nat) (X Y : Nat → Fin q) : (ptsF n X Y).length = n := by simp [ptsF]
theorem rd_ptsF (n : Nat) (X Y : Nat → Fin q) (i : Nat) (h : i < n) : rd_T86 (ptsF n X Y) (i : Int) = (⟨nI (X i), nI (Y i)⟩ : S86) := by
  simp [rd_T86, ptsF, List.getD_eq_getElem?_getD, h]
end
section
variable {q : Nat} [NeZero q]
theorem mk_co (n : Nat) (F : Nat → Fin q) (i : Nat) (h : i < n) : Fld.co (Fld.mk n F) i = F i := by rw [Fld.co_mk, if_pos h]
end
section
variable {q : Nat}
theorem mk_congr {n : Nat} {F G : Nat → Fin q} (h : ∀ i, i < n → F i = G i) : Fld.mk n F = Fld.mk n G := by
  unfold Fld.mk
  exact List.map_congr_left fun i hi => h i (List.mem_range.1 hi)
end
section
variable {q : Nat} [NeZero q]
/-! the program's -/
/-! the reference's -/
end
section
variable {q : Nat}
theorem places_loop (n : Nat) (hn : n ≤ 1000) (X Y : Nat → Fin q) (m : Nat) : ∀ i : Nat, i + m = n → Ev (fun k => juntoref02_Places.l0 k (oI (Fld.mk i X)) (ptsF n X Y) (n : Int) (i : Int)) (oI (Fld.mk n X)) := by
  induction m with
  | zero =>
    intro i hi
    obtain rfl : i = n := by omega
    refine Ev.step (f := fun k => some (oI (Fld.mk i X))) (fun k => ?_) (Ev.now _)
    simp only [juntoref02_Places.l0]
    rw [if_neg (by omega)]
  | succ m ih =>
    intro i hi
    have hw : wrap64 ((i : Int) + 1) = ((i + 1 : Nat) : Int) := by rw [w64_small (by omega) (by omega)]; omega
    have h := ih (i + 1) (by omega)
    rw [mk_succ, oI_append] at h
    refine Ev.step (f := fun k => juntoref02_Places.l0 k (oI (Fld.mk i X) ++ oI [X i]) (ptsF n X Y) (n : Int) ((i + 1 : Nat) : Int)) (fun k => ?_) h
    conv => lhs; simp only [juntoref02_Places.l0]
    rw [if_pos (by omega), if_pos (by omega), if_pos (by rw [ptsF_length]; omega), if_pos (by rw [oI_length, Fld.mk_length]; omega), rd_ptsF n X Y i (by omega), hw]
    rfl
theorem places_rows (n : Nat) (hn : n ≤ 1000) (X Y : Nat → Fin q) : Ev (fun k => juntoref02_Places.f k (ptsF n X Y)) (oI (Fld.mk n X)) := by
  refine Ev.congr (fun k => ?_) (places_loop n hn X Y n 0 (by omega))
  unfold juntoref02_Places.f
  rw [ptsF_length]
  rfl
end
section
variable {q : Nat} [NeZero q]
theorem un_short (X : Nat → Fin q) (i m : Nat) : (Fld.un X i m).length ≤ m + 1 := by
  have := Fld.un_length X i m
  split at this <;> omega
theorem unit_loop (h1 : 2 < q) (hq : q ≤ 65537) (n : Nat) (hn : n ≤ 1000) (X : Nat → Fin q) (i : Nat) (hi : i < n) (m : Nat) : ∀ j : Nat, j + m = n →
    Ev (fun k => juntoref02_unit.l0 k (q : Int) (oI (Fld.mk n X)) (i : Int) (oI (Fld.un X i j)) (oI (Fld.mk n X)) (n : Int) (j : Int)) (oI (Fld.un X i n)) := by
  induction m with
  | zero =>
    intro j hj
    obtain rfl : j = n := by omega
    refine Ev.step (f := fun k => some (oI (Fld.un X i j))) (fun k => ?_) (Ev.now _)
    simp only [juntoref02_unit.l0]
    rw [if_neg (by omega)]
  | succ m ih =>
    intro j hj
    have hw : wrap64 ((j : Int) + 1) = ((j + 1 : Nat) : Int) := by rw [w64_small (by omega) (by omega)]; omega
    have h := ih (j + 1) (by omega)
    have hl := un_short X i j
    rw [Fld.un] at h
    by_cases e : j = i
    · rw [if_pos e] at h
      refine Ev.step (f := fun k => juntoref02_unit.l0 k (q : Int) (oI (Fld.mk n X)) (i : Int) (oI (Fld.un X i j)) (oI (Fld.mk n X)) (n : Int) ((j + 1 : Nat) : Int)) (fun k => ?_) h
      conv => lhs; simp only [juntoref02_unit.l0]
      rw [if_pos (by omega), if_pos (by omega), if_pos (by rw [oI_length, Fld.mk_length]; omega), if_pos (by omega), hw]
    · rw [if_neg e] at h
      have hm : juntoref01_Sub.f (q : Int) 0 (nI (X j)) = some (nI (-(X j))) := by
        have := rsub_fp hq 0 (X j)
        rw [nI_zero] at this
        rw [this, show (0 : Fin q) - X j = -(X j) by grind]
      have e1 : [nI (-(X j)), (1 : Int)] = oI [-(X j), 1] := by rw [oI_cons, oI_cons, nI_one (by omega)]; rfl
      have hl2 := Fld.trim_mul_le (Fld.un X i j) [-(X j), 1]
      simp only [List.length_cons, List.length_nil] at hl2
      refine Ev.step (f := fun k => (juntoref02_Mul.f k (q : Int) (oI (Fld.un X i j)) (oI [-(X j), 1])).bind fun t754 => (juntoref01_Inv.f k (q : Int) (nI (X i - X j))).bind fun t759 => (juntoref02_Scale.f k (q : Int) t754 t759).bind fun t760 => juntoref02_unit.l0 k (q : Int) (oI (Fld.mk n X)) (i : Int) t760 (oI (Fld.mk n X)) (n : Int) ((j + 1 : Nat) : Int)) (fun k => ?_) (Ev.bind (rmul_rows hq _ _ (by omega) (by simp)) (Ev.bind (rinv_fp h1 hq _) (Ev.bind (scale_rows hq _ _ (by omega)) h)))
      conv => lhs; simp only [juntoref02_unit.l0]
      rw [if_pos (by omega), if_pos (by omega), if_pos (by rw [oI_length, Fld.mk_length]; omega), if_neg (by omega), rd_oI, rd_oI, mk_co n X j (by omega), mk_co n X i hi, hm, Option.bind_some, e1, hw]
      simp only [show (0 : Int) ≤ (i : Int) by omega, show ((i : Int) < ((oI (Fld.mk n X)).length : Int)) by rw [oI_length, Fld.mk_length]; omega, if_true, rsub_fp hq, Option.bind_some]
theorem unit_rows (h1 : 2 < q) (hq : q ≤ 65537) (n : Nat) (hn : n ≤ 1000) (X : Nat → Fin q) (i : Nat) (hi : i < n) : Ev (fun k => juntoref02_unit.f k (q : Int) (oI (Fld.mk n X)) (i : Int)) (oI (Fld.un X i n)) := by
  refine Ev.congr (fun k => ?_) (unit_loop h1 hq n hn X i hi n 0 (by omega))
  unfold juntoref02_unit.f
  rw [oI_length, Fld.mk_length, Fld.un, oI_cons, nI_one (by omega)]
  rfl
theorem through_loop (h1 : 2 < q) (hq : q ≤ 65537) (n : Nat) (hn : n ≤ 1000) (X Y : Nat → Fin q) (m : Nat) : ∀ i : Nat, i + m = n →
    Ev (fun k => juntoref02_Through.l0 k (q : Int) (ptsF n X Y) (oI (Fld.lg X Y n i)) (ptsF n X Y) (n : Int) (i : Int)) (oI (Fld.lg X Y n n)) := by
  induction m with
  | zero =>
    intro i hi
    obtain rfl : i = n := by omega
    refine Ev.step (f := fun k => some (oI (Fld.lg X Y i i))) (fun k => ?_) (Ev.now _)
    simp only [juntoref02_Through.l0]
    rw [if_neg (by omega)]
  | succ m ih =>
    intro i hi
    have hw : wrap64 ((i : Int) + 1) = ((i + 1 : Nat) : Int) := by rw [w64_small (by omega) (by omega)]; omega
    have h := ih (i + 1) (by omega)
    rw [Fld.lg] at h
    have hl := un_short X i n
    have hl2 := Fld.trim_length_le (Fld.smul (Y i) (Fld.un X i n))
    rw [Fld.smul_length] at hl2
    have hl3 := Fld.lg_length X Y n i (by omega)
    refine Ev.step (f := fun k => (juntoref02_Places.f k (ptsF n X Y)).bind fun t770 => (juntoref02_unit.f k (q : Int) t770 (i : Int)).bind fun t773 => (juntoref02_Scale.f k (q : Int) t773 (nI (Y i))).bind fun t776 => (juntoref02_Add.f k (q : Int) (oI (Fld.lg X Y n i)) t776).bind fun t779 => juntoref02_Through.l0 k (q : Int) (ptsF n X Y) t779 (ptsF n X Y) (n : Int) ((i + 1 : Nat) : Int)) (fun k => ?_) (Ev.bind (places_rows n hn X Y) (Ev.bind (unit_rows h1 hq n hn X i (by omega)) (Ev.bind (scale_rows hq _ _ (by omega)) (Ev.bind (add_rows hq _ _ (by omega) (by omega)) h))))
    conv => lhs; simp only [juntoref02_Through.l0]
    rw [if_pos (by omega), if_pos (by omega), if_pos (by rw [ptsF_length]; omega), rd_ptsF n X Y i (by omega), hw]
theorem through_rows (h1 : 2 < q) (hq : q ≤ 65537) (n : Nat) (hn : n ≤ 1000) (X Y : Nat → Fin q) : Ev (fun k => juntoref02_Through.f k (q : Int) (ptsF n X Y)) (oI (Fld.lg X Y n n)) := by
  refine Ev.congr (fun k => ?_) (through_loop h1 hq n hn X Y n 0 (by omega))
  unfold juntoref02_Through.f
  rw [ptsF_length]
  rfl

/-! shares as points -/
end

end Go.Proofs.Ytjjnfobeeflnhaa.L

/- The statement ShareSetups as plain Lean: both tests of a setup and both tests of a list of corrupted parties answer alike. -/
namespace Go.Proofs.Ytjjnfobeeflnhaa.L
open Go.RowKit Go.Proofs.YtjjnfobeeflnhaaW.PrintWords Go.Proofs.Ytjjnfobeeflnhaa.J
set_option linter.unusedVariables false
set_option linter.unusedSimpArgs false

def riseV (n : Int) : Int → List Int → Bool
  | _, [] => true
  | prev, x :: xs => if x ≤ prev then false else if x > n then false else riseV n x xs

theorem rd_at (l : List Int) (i : Nat) (h : i < l.length) : rd l (i : Int) = l[i] := by
  simp [rd, List.getD_eq_getElem?_getD, h]

theorem ref_rise (n : Int) (l : List Int) (hs : l.length ≤ maxLen) : ∀ (m i : Nat) (prev : Int), i + m = l.length → 0 ≤ prev → (i = 0 → prev = 0) → (∀ h : 0 < i ∧ i - 1 < l.length, prev = l[i - 1]'h.2 ∧ 1 ≤ prev) →
    Ev (fun k => juntoref04_Rising.l0 k n l l (l.length : Int) (i : Int)) (riseV n prev (l.drop i))
  | 0, i, prev, hi, hp, hz, hq => by
    rw [List.drop_of_length_le (by omega)]
    refine Ev.step (f := fun k => some true) (fun k => ?_) (Ev.now _)
    simp only [juntoref04_Rising.l0]
    rw [if_neg (by omega)]
  | m + 1, i, prev, hi, hp, hz, hq => by
    have hm : (l.length : Int) ≤ 9223372036854775807 := by simp only [maxLen] at hs; omega
    have hlt : i < l.length := by omega
    rw [List.drop_eq_getElem_cons hlt]
    unfold riseV
    by_cases h0 : l[i] < 1
    · have h1 : l[i] ≤ prev := by omega
      simp only [h1, if_true]
      refine Ev.step (f := fun k => some false) (fun k => ?_) (Ev.now _)
      simp only [juntoref04_Rising.l0]
      rw [if_pos (by omega), if_pos (by omega), if_pos (by omega), rd_at l i hlt, if_pos h0]
    · by_cases h2 : l[i] > n
      · have e : (if l[i] ≤ prev then false else if l[i] > n then false else riseV n l[i] (l.drop (i + 1))) = false := by
          split
          · rfl
          · first | rfl | rw [if_pos h2]
        rw [e]
        refine Ev.step (f := fun k => some false) (fun k => ?_) (Ev.now _)
        simp only [juntoref04_Rising.l0]
        rw [if_pos (by omega), if_pos (by omega), if_pos (by omega), rd_at l i hlt, if_neg h0, if_pos h2]
      · have next : ¬ l[i] ≤ prev → Ev (fun k => juntoref04_Rising.l0 k n l l (l.length : Int) ((i + 1 : Nat) : Int)) (if l[i] ≤ prev then false else if l[i] > n then false else riseV n l[i] (l.drop (i + 1))) := by
          intro h1
          rw [if_neg h1, if_neg h2]
          exact ref_rise n l hs m (i + 1) l[i] (by omega) (by omega) (by omega) (fun h => ⟨rfl, by omega⟩)
        by_cases hi0 : i = 0
        · have hpz := hz hi0
          refine Ev.step (f := fun k => juntoref04_Rising.l0 k n l l (l.length : Int) ((i + 1 : Nat) : Int)) (fun k => ?_) (next (by omega))
          conv => lhs; simp only [juntoref04_Rising.l0]
          rw [if_pos (by omega), if_pos (by omega), if_pos (by omega), rd_at l i hlt, if_neg h0, if_neg h2, if_neg (by omega), w64_small (by omega) (by omega)]
          rfl
        · obtain ⟨hp1, hp2⟩ := hq ⟨by omega, by omega⟩
          have hr : rd l (((i - 1 : Nat)) : Int) = prev := by rw [rd_at l (i - 1) (by omega)]; exact hp1.symm
          have hw : wrap64 ((i : Int) - 1) = ((i - 1 : Nat) : Int) := by rw [w64_small (by omega) (by omega)]; omega
          by_cases h1 : l[i] ≤ prev
          · rw [if_pos h1]
            refine Ev.step (f := fun k => some false) (fun k => ?_) (Ev.now _)
            simp only [juntoref04_Rising.l0]
            rw [if_pos (by omega), if_pos (by omega), if_pos (by omega), rd_at l i hlt, if_neg h0, if_neg h2, if_pos (by omega), hw, if_pos (by omega), if_pos (by omega), hr, if_pos (by omega)]
          · refine Ev.step (f := fun k => juntoref04_Rising.l0 k n l l (l.length : Int) ((i + 1 : Nat) : Int)) (fun k => ?_) (next h1)
            conv => lhs; simp only [juntoref04_Rising.l0]
            rw [if_pos (by omega), if_pos (by omega), if_pos (by omega), rd_at l i hlt, if_neg h0, if_neg h2, if_pos (by omega), hw, if_pos (by omega), if_pos (by omega), hr, if_neg (by omega), w64_small (by omega) (by omega)]
            rfl

theorem alive04 : Ev (fun k => juntolaw04_alive.f k) true := Ev.of juntolaw04_alive.mono (k := 60) (by decide +kernel)

end Go.Proofs.Ytjjnfobeeflnhaa.L

/- Both ways to divide with rest answer alike, and what they answer. -/
namespace Go.Proofs.Ytjjnfobeeflnhaa.L
open Go.RowKit Go.Proofs.YtjjnfobeeflnhaaW.PrintWords Go.Proofs.Ytjjnfobeeflnhaa.J
set_option linter.unusedVariables false
set_option linter.unusedSimpArgs false

theorem pr_of_isP {q : Nat} (h : isP (q : Int) = true) : Fld.Pr q := by
  obtain ⟨h1, h2, h3⟩ := (isP_iff _).1 h
  refine Fld.pr_of_trial (by omega) fun d hd hdd h0 => h3 (d : Int) (by omega) (by exact_mod_cast hdd) (by exact_mod_cast h0)

section
variable {q : Nat} [NeZero q]
/-! the program's -/
/-! the reference's -/
end

end Go.Proofs.Ytjjnfobeeflnhaa.L

/- Both ways to draw a sharing polynomial answer alike, and what they answer. -/
namespace Go.Proofs.Ytjjnfobeeflnhaa.L
open Go.RowKit Go.Proofs.YtjjnfobeeflnhaaW.PrintWords Go.Proofs.Ytjjnfobeeflnhaa.J
set_option linter.unusedVariables false
set_option linter.unusedSimpArgs false

section
variable {q : Nat} [NeZero q]
theorem drawn_length (tape : List Int) (n : Nat) : (drawn q tape n).length = n := Fld.mk_length _ _
theorem share_draw (hq : q ≤ 65537) (s : Fin q) (d : Nat) (hd : d ≤ 1000) (tape : List Int) (hs : tape.length ≤ 17592186044415) (hu : ∀ c ∈ tape, 0 ≤ c) : Ev (fun k => share_Draw.f k (q : Int) (nI s) (d : Int) tape) (oI (Fld.trim (s :: drawn q tape d)), tape.drop d) := by
  unfold share_Draw.f
  refine Ev.bind (take_fp hq tape hs hu d (by omega)) (Ev.bind (Ev.now _) ?_)
  refine Ev.congr (fun k => if_pos ?_) ?_
  · rw [oI_length, drawn_length]; show 1 + d < _; omega
  · exact Ev.bind (short_fp (s :: drawn q tape d) (by rw [List.length_cons, drawn_length]; omega)) (Ev.now _)
theorem share_make_ok (hq : q ≤ 65537) (n t : Int) (h0 : setupV (q : Int) n t = 0) (s : Fin q) (d : Nat) (hn : (d : Int) < n) (tape : List Int) (hs : tape.length ≤ 17592186044415) (hu : ∀ c ∈ tape, 0 ≤ c) : Ev (fun k => share_Make.f k (q : Int) n t (nI s) (d : Int) tape) (oI (Fld.trim (s :: drawn q tape d)), tape.drop d, 0) := by
  have hh := setupV_small h0
  have hr := nI_range s
  unfold share_Make.f
  refine Ev.bind (share_setup _ n t) ?_
  simp only [h0, if_true]
  simp only [show ¬ (nI s ≥ (q : Int)) by omega, show ¬ ((d : Int) < 0) by omega, show ¬ ((d : Int) ≥ n) by omega, if_false]
  exact Ev.bind (share_draw hq s d (by omega) tape hs hu) (Ev.now _)
end
end Go.Proofs.Ytjjnfobeeflnhaa.L

/- Both ways to move a polynomial to another secret answer alike, and what they answer. -/
namespace Go.Proofs.Ytjjnfobeeflnhaa.L
open Go.RowKit Go.Proofs.YtjjnfobeeflnhaaW.PrintWords Go.Proofs.Ytjjnfobeeflnhaa.J
set_option linter.unusedVariables false
set_option linter.unusedSimpArgs false

theorem rise_mem {n : Int} : ∀ {l : List Int} {prev : Int}, riseV n prev l = true → ∀ x ∈ l, prev < x ∧ x ≤ n
  | [], _, _, x, hx => by cases hx
  | a :: l, prev, h, x, hx => by
    unfold riseV at h
    split at h
    · cases h
    · split at h
      · cases h
      · rcases List.mem_cons.1 hx with rfl | h'
        · omega
        · have := rise_mem h x h'
          omega
section
variable {q : Nat}
theorem places_of {n : Int} {l : List Int} (hr : riseV n 0 l = true) (hn : n < (q : Int)) (hq : q ≤ 65537) : ∃ xs : List (Fin q), oI xs = l ∧ (l.map fun x => IntKind.u64.wrap x) = oI xs ∧ xs.length = l.length := by
  have hm := rise_mem hr
  have e : (l.map fun x => IntKind.u64.wrap x) = l := by
    conv => rhs; rw [← List.map_id l]
    apply List.map_congr_left
    intro x hx
    have := hm x hx
    exact u64_small (by omega) (by omega)
  obtain ⟨xs, hxs⟩ := oI_of (q := q) (l := l) (fun c hc => by have := hm c hc; omega)
  exact ⟨xs, hxs, by rw [e, hxs], by rw [← hxs, oI_length]⟩
end
end Go.Proofs.Ytjjnfobeeflnhaa.L

/- The statement ShareThere as plain Lean. -/
namespace Go.Proofs.Ytjjnfobeeflnhaa.L
open Go.RowKit Go.Proofs.YtjjnfobeeflnhaaW.PrintWords Go.Proofs.Ytjjnfobeeflnhaa.J
set_option linter.unusedVariables false
set_option linter.unusedSimpArgs false

section
variable {q : Nat} [NeZero q]
theorem at_first (f : List (Fin q)) : Fld.ev f 0 = Fld.co f 0 := by
  cases f with
  | nil => rw [Fld.ev_nil, Fld.co_nil]
  | cons a f => rw [Fld.ev_cons, Fld.co_cons_zero]; grind
end

end Go.Proofs.Ytjjnfobeeflnhaa.L
