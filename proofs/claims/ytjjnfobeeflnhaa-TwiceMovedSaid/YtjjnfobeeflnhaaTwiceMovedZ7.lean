/- Part 7 of the proof of TwiceMoved: what the functions compute as plain Lean functions, that the machine comes to just these answers, and that the answer is true; no conditions. -/
import Derived.Test.YtjjnfobeeflnhaaTwiceMovedZ0
import Derived.Test.YtjjnfobeeflnhaaTwiceMovedZ1
import Derived.Test.YtjjnfobeeflnhaaTwiceMovedZ2
import Derived.Test.YtjjnfobeeflnhaaTwiceMovedZ3
import Derived.Test.YtjjnfobeeflnhaaTwiceMovedZ4
import Derived.Test.YtjjnfobeeflnhaaTwiceMovedZ5
import Derived.Test.YtjjnfobeeflnhaaTwiceMovedZ6
import Derived.Test.YtjjnfobeeflnhaaRows
import Derived.WalkKit
import Derived.ProofKit
import Derived.OpenShut
import Derived.ShutString
import Derived.ChangeOld
import Derived.Below
import Derived.SizedLaws
set_option maxHeartbeats 1000000
set_option maxRecDepth 100000
/- What works on two rows of coefficients tells: tests, products, divisions, greatest common divisors. -/
namespace Go.Proofs.Ytjjnfobeeflnhaa.L
open Go.RowKit Go.Proofs.YtjjnfobeeflnhaaW.PrintWords Go.Proofs.Ytjjnfobeeflnhaa.J
set_option linter.unusedVariables false
set_option linter.unusedSimpArgs false
section
variable {q : Nat}
theorem within_oI (f : List (Fin q)) (h : f.length ≤ 201) : withinV (q : Int) (oI f) = 0 := by
  rw [withinV_ne _ _ (by rw [oI_length]; exact h)]
  unfold belowV
  rw [if_pos (fun x hx => (oI_range f x hx).2)]
theorem oI_max (f : List (Fin q)) (h : f.length ≤ 1000) : (oI f).length ≤ maxLen := by rw [oI_length]; simp only [maxLen]; omega
end
section
variable {q : Nat} [NeZero q]
def Dvd (d f : List (Fin q)) : Prop := ∃ c, Fld.Eqv f (Fld.mul c d)
theorem Dvd.nil (d : List (Fin q)) : Dvd d [] := ⟨[], Fld.Eqv.refl _⟩
end
end Go.Proofs.Ytjjnfobeeflnhaa.L
/- The statement PolyValued as plain Lean. -/
namespace Go.Proofs.Ytjjnfobeeflnhaa.L
open Go.RowKit Go.Proofs.YtjjnfobeeflnhaaW.PrintWords Go.Proofs.Ytjjnfobeeflnhaa.J
set_option linter.unusedVariables false
set_option linter.unusedSimpArgs false
section
variable {q : Nat} [NeZero q]
theorem minusI_fp (hq : q ≤ 65537) (f g : List (Fin q)) : minusI (q : Int) (oI f) (oI g) = oI (Fld.trim (Fld.sub f g)) :=
  zip_fp (fun a b => (field_Minus.f (q : Int) a b).getD 0) (fun a b => a - b) (fun a b => by simp only [minus_fp hq, Option.getD_some]) f g
theorem minus_rows (hq : q ≤ 65537) (f g : List (Fin q)) (hf : f.length ≤ 1000000000) (hg : g.length ≤ 1000000000) : Ev (fun k => poly_Minus.f k (q : Int) (oI f) (oI g)) (oI (Fld.trim (Fld.sub f g))) := by
  have hz : (q : Int) ≠ 0 := by have := q_pos (q := q); omega
  have h := minusI_spec (q : Int) (oI f) (oI g) hz (by rw [oI_length, oI_length]; omega) (2 * max (oI f).length (oI g).length + 2) (by omega)
  rw [minusI_fp hq] at h
  exact Ev.of (poly_Minus.mono _ _ _) h
end
end Go.Proofs.Ytjjnfobeeflnhaa.L
/- A mask whose high values are less by a product: what the program's call answers, and the laws of it. -/
namespace Go.Proofs.Ytjjnfobeeflnhaa.L
open Go.RowKit Go.Proofs.YtjjnfobeeflnhaaW.PrintWords Go.Proofs.Ytjjnfobeeflnhaa.J
set_option linter.unusedVariables false
set_option linter.unusedSimpArgs false
section
variable {q : Nat} [NeZero q]
def mvF (l : List (List (Fin q))) (z b : List (Fin q)) (k : Nat) : List (Fin q) := Fld.trim (Fld.sub (l.getD k []) (Fld.trim (Fld.smul (Fld.co b k) z)))
def mvL (l : List (List (Fin q))) (z b : List (Fin q)) (n : Nat) : List (List (Fin q)) := (List.range n).map (mvF l z b)
theorem mvL_length (l : List (List (Fin q))) (z b : List (Fin q)) (n : Nat) : (mvL l z b n).length = n := by simp [mvL]
theorem mvF_co (l : List (List (Fin q))) (z b : List (Fin q)) (k i : Nat) : Fld.co (mvF l z b k) i = Fld.co (l.getD k []) i - Fld.co b k * Fld.co z i := by
  rw [mvF, Fld.trim_co _ i, Fld.co_sub, Fld.trim_co _ i, Fld.co_smul]
theorem mvF_ev (l : List (List (Fin q))) (z b : List (Fin q)) (k : Nat) (x : Fin q) : Fld.ev (mvF l z b k) x = Fld.ev (l.getD k []) x - Fld.co b k * Fld.ev z x := by
  rw [mvF, (Fld.trim_co _).ev, Fld.ev_sub, (Fld.trim_co _).ev, Fld.ev_smul]
theorem mvF_length (l : List (List (Fin q))) (z b : List (Fin q)) (k w : Nat) (hl : ∀ f ∈ l, f.length ≤ w) (hz : z.length ≤ w) : (mvF l z b k).length ≤ w := by
  have h : (l.getD k []).length ≤ w := by
    rw [List.getD_eq_getElem?_getD]
    by_cases hk : k < l.length
    · rw [List.getElem?_eq_getElem hk]; exact hl _ (List.getElem_mem hk)
    · rw [List.getElem?_eq_none (by omega)]; exact Nat.zero_le _
  have h1 := Fld.trim_length_le (Fld.smul (Fld.co b k) z)
  rw [Fld.smul_length] at h1
  have h2 := Fld.trim_length_le (Fld.sub (l.getD k []) (Fld.trim (Fld.smul (Fld.co b k) z)))
  rw [Fld.sub_length] at h2
  unfold mvF
  omega
theorem mvL_rows (l : List (List (Fin q))) (z b : List (Fin q)) (n w : Nat) (hl : ∀ f ∈ l, f.length ≤ w) (hz : z.length ≤ w) : ∀ f ∈ mvL l z b n, f.length ≤ w := fun f hf => by
  obtain ⟨k, _, rfl⟩ := List.mem_map.1 hf
  exact mvF_length l z b k w hl hz
def mvO (l : List (List (Fin q))) (z b : List (Fin q)) (n i : Nat) : List (List Int) := (mvL l z b i).map oI ++ List.replicate (n - i) []
theorem mvO_length (l : List (List (Fin q))) (z b : List (Fin q)) (n i : Nat) (h : i ≤ n) : (mvO l z b n i).length = n := by simp [mvO, mvL]; omega
theorem mvL_succ (l : List (List (Fin q))) (z b : List (Fin q)) (i : Nat) : mvL l z b (i + 1) = mvL l z b i ++ [mvF l z b i] := by simp [mvL, List.range_succ]
theorem mvO_set (l : List (List (Fin q))) (z b : List (Fin q)) (n i : Nat) (h : i < n) : (mvO l z b n i).set i (oI (mvF l z b i)) = mvO l z b n (i + 1) := by
  obtain ⟨m, rfl⟩ : ∃ m, n = i + 1 + m := ⟨n - (i + 1), by omega⟩
  unfold mvO
  rw [mvL_succ, List.map_append, show i + 1 + m - i = m + 1 by omega, show i + 1 + m - (i + 1) = m by omega, List.replicate_succ]
  have hl : ((mvL l z b i).map oI).length = i := by simp [mvL]
  rw [List.set_append_right _ _ (by omega), hl, Nat.sub_self, List.set_cons_zero, List.append_assoc]
  rfl
end
section
variable {q : Nat}
theorem rd_map (l : List (List (Fin q))) (i : Nat) : rd_L3 (l.map oI) (i : Int) = oI (l.getD i []) := by
  simp only [rd_L3, Int.toNat_natCast, List.getD_eq_getElem?_getD, List.getElem?_map]
  by_cases h : i < l.length
  · rw [List.getElem?_eq_getElem h]; rfl
  · rw [List.getElem?_eq_none (by omega)]; rfl
end
section
variable {q : Nat} [NeZero q]
theorem moved_loop (hq : q ≤ 65537) (p n t : Int) (l : List (List (Fin q))) (z b : List (Fin q)) (hl : l.length ≤ 1000) (hr : ∀ f ∈ l, f.length ≤ 1000) (hz : z.length ≤ 1000) (m : Nat) : ∀ i : Nat, i + m = l.length →
    Ev (fun k => qfb.l0 k (oI z) (oI b) (mvO l z b l.length i) (l.map oI) (l.length : Int) (i : Int) (q : Int) n t) ((mvL l z b l.length).map oI, 0) := by
  induction m with
  | zero =>
    intro i hi
    obtain rfl : i = l.length := by omega
    refine Ev.step (f := fun k => some ((mvL l z b l.length).map oI, 0)) (fun k => ?_) (Ev.now _)
    conv => lhs; simp only [qfb.l0]
    rw [if_neg (by omega)]
    simp [mvO]
  | succ m ih =>
    intro i hi
    have hw : wrap64 ((i : Int) + 1) = ((i + 1 : Nat) : Int) := by rw [w64_small (by omega) (by omega)]; omega
    have h := ih (i + 1) (by omega)
    rw [← mvO_set l z b l.length i (by omega)] at h
    have hgl : (l.getD i []).length ≤ 1000 := by
      rw [List.getD_eq_getElem?_getD, List.getElem?_eq_getElem (show i < l.length by omega)]
      exact hr _ (List.getElem_mem _)
    have h1 := Fld.trim_length_le (Fld.smul (Fld.co b i) z)
    rw [Fld.smul_length] at h1
    have hby := by_rows hq z (Fld.co b i) (by omega)
    have hmi := minus_rows hq (l.getD i []) (Fld.trim (Fld.smul (Fld.co b i) z)) (by omega) (by omega)
    have hlen := mvO_length l z b l.length i (by omega)
    refine Ev.step (f := fun k => (poly_By.f k (q : Int) (oI z) (nI (Fld.co b i))).bind fun v => (poly_Minus.f k (q : Int) (oI (l.getD i [])) v).bind fun u => qfb.l0 k (oI z) (oI b) ((mvO l z b l.length i).set i u) (l.map oI) (l.length : Int) ((i + 1 : Nat) : Int) (q : Int) n t) (fun k => ?_) (Ev.bind hby (Ev.bind hmi h))
    conv => lhs; simp only [qfb.l0]
    rw [if_pos (by omega), if_pos (by omega), if_pos (by rw [List.length_map]; omega), rd_map, hw]
    simp only [hlen, show ((i : Int) < (l.length : Int)) by omega, if_true, Int.toNat_natCast]
    by_cases hb : (i : Int) < ((oI b).length : Int)
    · rw [if_pos hb, rd_oI]
    · rw [oI_length] at hb
      rw [oI_length, if_neg hb, Fld.co_ge (f := b) (by omega), nI_zero]
theorem pre_ok (p t : Int) (row : List Int) (hl : row.length ≤ maxLen) (ht : (row.length : Int) ≤ t + 1) (hw : wrap64 (t + 1) = t + 1) (hb : belowV p row = 0) {c : Nat → Option (List (List Int) × Int)} {r : List (List Int) × Int} (h : Ev c r) : Ev (fun k => qfb.pre k p t row (c k)) r := by
  unfold qfb.pre
  simp only [hw, show ¬ ((row.length : Int) > t + 1) by omega, if_false]
  have hf := field_below p row hl
  rw [hb] at hf
  refine Ev.bind hf ?_
  simp only [if_true]
  exact h
end
section
variable {q : Nat}
theorem belowV_oI (f : List (Fin q)) : belowV (q : Int) (oI f) = 0 := by
  unfold belowV
  rw [if_pos fun x hx => (oI_range f x hx).2]
end
section
variable {q : Nat} [NeZero q]
theorem moved_ok (hq : q ≤ 65537) (n : Int) (t : Nat) (ht : t ≤ 3) (l : List (List (Fin q))) (z b : List (Fin q)) (hc : checkV (q : Int) n (t : Int) (l.map oI) = 0) (hl : l.length = t + 1) (hr : ∀ f ∈ l, f.length ≤ t + 1) (hz : z.length ≤ t + 1) (hb : b.length ≤ t + 1) :
    Ev (fun k => qfb.f k (q : Int) n (t : Int) (l.map oI) (oI z) (oI b)) ((mvL l z b l.length).map oI, 0) := by
  have hw : wrap64 ((t : Int) + 1) = (t : Int) + 1 := w64_small (by omega) (by omega)
  have loop := moved_loop hq (q : Int) n (t : Int) l z b (by omega) (fun f hf => by have := hr f hf; omega) (by omega) l.length 0 (by omega)
  have e0 : mvO l z b l.length 0 = List.replicate l.length [] := by simp [mvO, mvL]
  rw [e0] at loop
  unfold qfb.f
  refine Ev.bind (twice_check (q : Int) n (t : Int) (l.map oI) (fun f hf => by obtain ⟨g, hg, rfl⟩ := List.mem_map.1 hf; have := hr g hg; exact oI_max g (by omega))) ?_
  simp only [hc, if_true]
  refine pre_ok _ _ _ (oI_max z (by omega)) (by rw [oI_length]; omega) hw (belowV_oI z) (pre_ok _ _ _ (oI_max b (by omega)) (by rw [oI_length]; omega) hw (belowV_oI b) ?_)
  simp only [List.length_map, show (0 : Int) ≤ (l.length : Int) by omega, if_true, Int.toNat_natCast, show l.length ≤ 11728124029610 by omega]
  exact loop
theorem whole_sum : ∀ (l : List (List (Fin q))) (s : Nat), Fld.co (wholeF l) s = Fld.sm l.length fun k => if k ≤ s then Fld.co (l.getD k []) (s - k) else 0
  | [], s => by
    have : wholeF ([] : List (List (Fin q))) = [] := rfl
    rw [this, Fld.co_nil]
    rfl
  | f :: fs, s => by
    rw [co_whole, List.length_cons, Fld.sm_front, if_pos (Nat.zero_le _), Nat.sub_zero]
    have e0 : (f :: fs).getD 0 [] = f := rfl
    rw [e0]
    congr 1
    by_cases h : 1 ≤ s
    · rw [if_pos h, whole_sum fs (s - 1)]
      refine Fld.sm_congr fun k hk => ?_
      have e1 : (f :: fs).getD (k + 1) [] = fs.getD k [] := by simp
      rw [e1]
      by_cases h2 : k ≤ s - 1
      · rw [if_pos h2, if_pos (by omega), show s - 1 - k = s - (k + 1) by omega]
      · rw [if_neg h2, if_neg (by omega)]
    · rw [if_neg h]
      symm
      refine Fld.sm_zero fun k hk => ?_
      rw [if_neg (by omega)]
theorem whole_moved (l : List (List (Fin q))) (z b : List (Fin q)) (hb : b.length ≤ l.length) : wholeF (mvL l z b l.length) = Fld.trim (Fld.sub (wholeF l) (Fld.trim (Fld.mul z b))) := by
  rw [← whole_tr (mvL l z b l.length)]
  refine Fld.trim_congr fun s => ?_
  have hc : Fld.co (Fld.mul z b) s = Fld.sm l.length fun k => if k ≤ s then Fld.co b k * Fld.co z (s - k) else 0 := by
    rw [Fld.mul_comm z b s, Fld.co_mul]
    unfold Fld.cv
    by_cases h : l.length ≤ s + 1
    · rw [Fld.sm_more h fun i h1 h2 => by rw [Fld.co_ge (f := b) (by omega)]; grind]
      exact Fld.sm_congr fun i hi => by rw [if_pos (by omega)]
    · rw [Fld.sm_more (n := s + 1) (m := l.length) (by omega) fun i h1 h2 => by rw [if_neg (by omega)]]
      exact Fld.sm_congr fun i hi => by rw [if_pos (by omega)]
  rw [whole_sum, mvL_length, Fld.co_sub, Fld.trim_co _ s, hc, whole_sum l s]
  have hsub : ∀ (n : Nat) (g h : Nat → Fin q), Fld.sm n g - Fld.sm n h = Fld.sm n fun i => g i - h i := fun n g h => by
    induction n with
    | zero => rw [Fld.sm, Fld.sm, Fld.sm]; grind
    | succ n ih => rw [Fld.sm_succ, Fld.sm_succ, Fld.sm_succ, ← ih]; grind
  rw [hsub]
  refine Fld.sm_congr fun k hk => ?_
  have e : (mvL l z b l.length).getD k [] = mvF l z b k := by
    rw [List.getD_eq_getElem?_getD]
    simp [mvL, hk]
  rw [e, mvF_co]
  by_cases h : k ≤ s
  · rw [if_pos h, if_pos h, if_pos h]
  · rw [if_neg h, if_neg h, if_neg h]; grind
end
end Go.Proofs.Ytjjnfobeeflnhaa.L
/- The statement TwiceMoved as plain Lean. -/
namespace Go.Proofs.Ytjjnfobeeflnhaa.L
open Go.RowKit Go.Proofs.YtjjnfobeeflnhaaW.PrintWords Go.Proofs.Ytjjnfobeeflnhaa.J
set_option linter.unusedVariables false
set_option linter.unusedSimpArgs false
theorem moved_out (p n t : Int) (l : List (List Int)) (X Y : List Int) (a b : Int) (c : List Int) : Ev (fun k => qea.j0 k l true p n t X Y a b c) true :=
  Ev.step (f := fun k => (qwb.f k).bind fun t => some t) (fun k => by simp only [qea.j0, if_true]) (Ev.bind alive07 (Ev.now _))
section
variable {q : Nat} [NeZero q]
theorem keeps_loop (hp : Fld.Pr q) (h1 : 1 < q) (hq : q ≤ 65537) (n t : Int) (l : List (List (Fin q))) (z b xs : List (Fin q)) (hl : l.length ≤ 1000) (hr : ∀ f ∈ l, f.length ≤ 1000) (hz : z.length ≤ 1000) (hzero : ∀ x ∈ xs, Fld.ev z x = 0) (i : Nat) (hi : i < xs.length)
    (next : Ev (fun k => qea.l0 k (l.map oI) ((mvL l z b l.length).map oI) (oI xs) (xs.length : Int) ((i + 1 : Nat) : Int) (q : Int) n t) true) (hs : xs.length ≤ 1000) (m : Nat) : ∀ j : Nat, j + m = l.length →
    Ev (fun k => qea.l1 k (l.map oI) ((mvL l z b l.length).map oI) (nI (Fld.co xs i)) (oI xs) (xs.length : Int) (i : Int) (l.length : Int) (j : Int) (q : Int) n t) true := by
  induction m with
  | zero =>
    intro j hj
    have hw : wrap64 ((i : Int) + 1) = ((i + 1 : Nat) : Int) := by rw [w64_small (by omega) (by omega)]; omega
    refine Ev.step (f := fun k => qea.l0 k (l.map oI) ((mvL l z b l.length).map oI) (oI xs) (xs.length : Int) ((i + 1 : Nat) : Int) (q : Int) n t) (fun k => ?_) next
    conv => lhs; simp only [qea.l1]
    rw [if_neg (by omega), hw]
  | succ m ih =>
    intro j hj
    have hw : wrap64 ((j : Int) + 1) = ((j + 1 : Nat) : Int) := by rw [w64_small (by omega) (by omega)]; omega
    have hx := nI_range (Fld.co xs i)
    have hu : IntKind.u64.wrap (nI (Fld.co xs i)) = nI (Fld.co xs i) := u64_small hx.1 (by omega)
    have hgl : (l.getD j []).length ≤ 1000 := by
      rw [List.getD_eq_getElem?_getD, List.getElem?_eq_getElem (show j < l.length by omega)]
      exact hr _ (List.getElem_mem _)
    have hm : Fld.co xs i ∈ xs := by rw [Fld.co_lt hi]; exact List.getElem_mem _
    have e1 := eval_rows h1 hq (l.getD j []) (Fld.co xs i) (by omega)
    have hml := mvF_length l z b j 1000 hr hz
    have e2 := eval_rows h1 hq (mvF l z b j) (Fld.co xs i) (by omega)
    rw [mvF_ev, hzero _ hm, show Fld.ev (l.getD j []) (Fld.co xs i) - Fld.co b j * 0 = Fld.ev (l.getD j []) (Fld.co xs i) by grind] at e2
    have er : rd_L3 ((mvL l z b l.length).map oI) (j : Int) = oI (mvF l z b j) := by
      rw [rd_map]
      congr 1
      rw [List.getD_eq_getElem?_getD]
      simp [mvL, show j < l.length by omega]
    refine Ev.step (f := fun k => (qkb.f k (q : Int) (oI (l.getD j [])) (nI (Fld.co xs i))).bind fun t1159 => (qkb.f k (q : Int) (oI (mvF l z b j)) (nI (Fld.co xs i))).bind fun t1161 => if t1159 = t1161 then qea.l1 k (l.map oI) ((mvL l z b l.length).map oI) (nI (Fld.co xs i)) (oI xs) (xs.length : Int) (i : Int) (l.length : Int) ((j + 1 : Nat) : Int) (q : Int) n t else some false) (fun k => ?_) (Ev.bind e1 (Ev.bind e2 ?_))
    · conv => lhs; simp only [qea.l1]
      rw [if_pos (by omega), if_pos (by omega), if_pos (by rw [List.length_map]; omega), rd_map, hu, hw]
      simp only [show ((j : Int) < (((mvL l z b l.length).map oI).length : Int)) by rw [List.length_map, mvL_length]; omega, if_true, er]
    · simp only [if_true]
      exact ih (j + 1) (by omega)
theorem keeps_outer (hp : Fld.Pr q) (h1 : 1 < q) (hq : q ≤ 65537) (n t : Int) (l : List (List (Fin q))) (z b xs : List (Fin q)) (hl : l.length ≤ 1000) (hr : ∀ f ∈ l, f.length ≤ 1000) (hz : z.length ≤ 1000) (hzero : ∀ x ∈ xs, Fld.ev z x = 0) (hs : xs.length ≤ 1000) (m : Nat) : ∀ i : Nat, i + m = xs.length →
    Ev (fun k => qea.l0 k (l.map oI) ((mvL l z b l.length).map oI) (oI xs) (xs.length : Int) (i : Int) (q : Int) n t) true := by
  induction m with
  | zero =>
    intro i hi
    refine Ev.step (f := fun k => (qwb.f k).bind fun t => some t) (fun k => ?_) (Ev.bind alive07 (Ev.now _))
    conv => lhs; simp only [qea.l0]
    rw [if_neg (by omega)]
  | succ m ih =>
    intro i hi
    refine Ev.step (f := fun k => qea.l1 k (l.map oI) ((mvL l z b l.length).map oI) (nI (Fld.co xs i)) (oI xs) (xs.length : Int) (i : Int) (l.length : Int) ((0 : Nat) : Int) (q : Int) n t) (fun k => ?_) (keeps_loop hp h1 hq n t l z b xs hl hr hz hzero i (by omega) (ih (i + 1) (by omega)) hs l.length 0 (by omega))
    conv => lhs; simp only [qea.l0]
    rw [if_pos (by omega), if_pos (by omega), if_pos (by rw [oI_length]; omega), rd_oI, List.length_map]
    rfl
theorem shift_div (X Y z : List (Fin q)) (A B : Fin q) : Fld.Eqv (Fld.sub (Fld.mul (Fld.add X (Fld.smul A z)) (Fld.add Y (Fld.smul B z))) (Fld.mul X Y)) (Fld.mul (Fld.add (Fld.add (Fld.smul B X) (Fld.smul A Y)) (Fld.smul (A * B) z)) z) := fun s => by
  have e1 := Fld.add_mul X (Fld.smul A z) (Fld.add Y (Fld.smul B z)) s
  have e2 := Fld.mul_add X Y (Fld.smul B z) s
  have e3 := Fld.mul_smul B X z s
  have e4 := Fld.smul_mul A z (Fld.add Y (Fld.smul B z)) s
  have e5 := Fld.mul_add z Y (Fld.smul B z) s
  have e6 := Fld.mul_smul B z z s
  have f1 := Fld.add_mul (Fld.add (Fld.smul B X) (Fld.smul A Y)) (Fld.smul (A * B) z) z s
  have f2 := Fld.add_mul (Fld.smul B X) (Fld.smul A Y) z s
  have f3 := Fld.smul_mul B X z s
  have f4 := Fld.smul_mul A Y z s
  have f5 := Fld.smul_mul (A * B) z z s
  have g1 := Fld.mul_comm z Y s
  simp only [Fld.co_add, Fld.co_sub, Fld.co_smul] at *
  rw [e1, e2, e3, e4, e5, e6, f1, f2, f3, f4, f5, g1]
  grind
end
section
variable {q : Nat} [NeZero q]
def shF (X z : List (Fin q)) (A : Fin q) : List (Fin q) := Fld.trim (Fld.add X (Fld.trim (Fld.smul A z)))
theorem sh_length (X z : List (Fin q)) (A : Fin q) (w : Nat) (hX : X.length ≤ w) (hz : z.length ≤ w) : (shF X z A).length ≤ w := by
  have h1 := Fld.trim_length_le (Fld.smul A z)
  have h2 := Fld.trim_length_le (Fld.add X (Fld.trim (Fld.smul A z)))
  rw [Fld.smul_length] at h1
  rw [Fld.add_length] at h2
  unfold shF
  omega
theorem sh_eqv (X z : List (Fin q)) (A : Fin q) : Fld.Eqv (shF X z A) (Fld.add X (Fld.smul A z)) := (Fld.trim_co _).trans ((Fld.Eqv.refl X).add (Fld.trim_co _))
theorem sh_rows (hq : q ≤ 65537) (X z : List (Fin q)) (A : Fin q) (hX : X.length ≤ 1000) (hz : z.length ≤ 1000) {f : Nat → List Int → Option Bool} (h : Ev (fun k => f k (oI (shF X z A))) true) :
    Ev (fun k => (qdb.f k (q : Int) (oI z) (nI A)).bind fun u => (qxa.f k (q : Int) (oI X) u).bind fun v => f k v) true := by
  have h1 := Fld.trim_length_le (Fld.smul A z)
  rw [Fld.smul_length] at h1
  exact Ev.bind (scale_rows hq z A (by omega)) (Ev.bind (add_rows hq X (Fld.trim (Fld.smul A z)) (by omega) (by omega)) h)
def dfF (X Y z : List (Fin q)) (A B : Fin q) : List (Fin q) := Fld.trim (Fld.sub (Fld.trim (Fld.mul (shF X z A) (shF Y z B))) (Fld.trim (Fld.mul X Y)))
theorem df_length (X Y z : List (Fin q)) (A B : Fin q) (w : Nat) (hX : X.length ≤ w) (hY : Y.length ≤ w) (hz : z.length ≤ w) : (dfF X Y z A B).length ≤ 2 * w := by
  have h1 := Fld.trim_mul_le (shF X z A) (shF Y z B)
  have h2 := Fld.trim_mul_le X Y
  have h3 := Fld.trim_length_le (Fld.sub (Fld.trim (Fld.mul (shF X z A) (shF Y z B))) (Fld.trim (Fld.mul X Y)))
  rw [Fld.sub_length] at h3
  have h4 := sh_length X z A w hX hz
  have h5 := sh_length Y z B w hY hz
  unfold dfF
  omega
theorem df_eqv (X Y z : List (Fin q)) (A B : Fin q) : Fld.Eqv (dfF X Y z A B) (Fld.mul (Fld.add (Fld.add (Fld.smul B X) (Fld.smul A Y)) (Fld.smul (A * B) z)) z) := by
  refine (Fld.trim_co _).trans (Fld.Eqv.trans (Fld.Eqv.sub ?_ (Fld.trim_co _)) (shift_div X Y z A B))
  exact (Fld.trim_co _).trans ((sh_eqv X z A).mul (sh_eqv Y z B))
theorem df_quot (hp : Fld.Pr q) (h2 : 2 < q) (hq : q ≤ 65537) (X Y z : List (Fin q)) (A B : Fin q) (w : Nat) (hw : w ≤ 100) (hX : X.length ≤ w) (hY : Y.length ≤ w) (hz : z.length ≤ w) (hzne : Fld.trim z ≠ []) :
    ∃ Q, Ev (fun n => qnb.f n (q : Int) (oI (dfF X Y z A B)) (oI z)) (oI Q, []) ∧ Q.length ≤ w ∧ Fld.Eqv (dfF X Y z A B) (Fld.mul Q z) := by
  have hl := df_length X Y z A B w hX hY hz
  have he := df_eqv X Y z A B
  obtain ⟨Q, R, hev, hdiv⟩ := over_rows hp h2 hq (dfF X Y z A B) z hzne (by omega) (by omega)
  have huni := Fld.div_unique hp hzne (Q := Q) (R := R) (Q' := Fld.add (Fld.add (Fld.smul B X) (Fld.smul A Y)) (Fld.smul (A * B) z)) (R' := []) (hdiv.2.2.1.symm.trans (fun i => by rw [he i, Fld.co_add, Fld.co_nil]; grind)) (by rw [hdiv.2.1]; exact hdiv.2.2.2.1) (by rw [Fld.trim_nil]; exact List.length_pos_iff.2 hzne)
  have hR : R = [] := by rw [← hdiv.2.1, Fld.trim_congr huni.2]; rfl
  subst hR
  refine ⟨Q, hev, ?_, hdiv.2.2.1.trans (fun i => by rw [Fld.co_add, Fld.co_nil]; grind)⟩
  rw [← hdiv.1, Fld.trim_congr huni.1]
  have := Fld.trim_length_le (Fld.add (Fld.add (Fld.smul B X) (Fld.smul A Y)) (Fld.smul (A * B) z))
  rw [Fld.add_length, Fld.add_length, Fld.smul_length, Fld.smul_length, Fld.smul_length] at this
  omega
theorem df_cut (h2 : 2 < q) (hq : q ≤ 65537) (n t : Int) (c : List Int) (xs d Q : List (Fin q)) (hcl : c.length ≤ maxLen) (hcl2 : c.length ≤ 1000) (hxl : xs.length ≤ 1000) (hp1 : isP (q : Int) = true) (hc : corrV (q : Int) n t c = 0) (hxs : (c.map fun x => IntKind.u64.wrap x) = oI xs) (hd : d.length ≤ 201)
    (hev : Ev (fun n => qnb.f n (q : Int) (oI d) (oI (gone [1] xs))) (oI Q, [])) : Ev (fun k => twice_Cut.f k (q : Int) n t c (oI d)) (oI (gone [1] xs), oI Q, 0) := by
  have hwd : withinV (q : Int) (oI d) = 0 := within_oI d hd
  unfold twice_Cut.f
  refine Ev.bind (share_corr _ _ _ _ hcl) ?_
  simp only [hc, if_true]
  refine Ev.bind (poly_is (q : Int) [oI d] (by simp) (fun g hg => by rw [List.mem_singleton.1 hg]; exact oI_max d (by omega)) hp1) ?_
  rw [isV_one]
  simp only [hwd, if_true]
  refine Ev.bind (share_places c (by omega)) ?_
  rw [hxs]
  exact Ev.bind (gone_rows h2 hq xs hxl) (Ev.bind hev (Ev.now _))
theorem sum_same (X Y z W Q : List (Fin q)) (A B : Fin q) (h : Fld.Eqv (dfF X Y z A B) (Fld.mul Q z)) :
    Fld.trim (Fld.add (Fld.trim (Fld.mul (shF X z A) (shF Y z B))) (Fld.trim (Fld.sub W (Fld.trim (Fld.mul z Q))))) = Fld.trim (Fld.add (Fld.trim (Fld.mul X Y)) W) := Fld.trim_congr fun i => by
  have e1 : Fld.co (dfF X Y z A B) i = Fld.co (Fld.trim (Fld.mul (shF X z A) (shF Y z B))) i - Fld.co (Fld.trim (Fld.mul X Y)) i := by rw [dfF, Fld.trim_co _ i, Fld.co_sub]
  have e2 := h i
  have e3 := Fld.mul_comm Q z i
  rw [Fld.co_add, Fld.co_add, Fld.trim_co (Fld.sub W (Fld.trim (Fld.mul z Q))) i, Fld.co_sub, Fld.trim_co (Fld.mul z Q) i]
  rw [e1, e3] at e2
  grind
theorem moved_j1 (hp : Fld.Pr q) (h2 : 2 < q) (hq : q ≤ 65537) (n : Int) (t : Nat) (ht : t ≤ 3) (hs : setupV (q : Int) n (t : Int) = 0) (l : List (List (Fin q))) (hlen : l.length = t + 1) (hr : ∀ g ∈ l, g.length ≤ t + 1) (hmax : ∀ g ∈ l.map oI, g.length ≤ maxLen) (h0 : checkV (q : Int) n (t : Int) (l.map oI) = 0)
    (X Y z xs Q : List (Fin q)) (A B : Fin q) (c : List Int) (hX : X.length ≤ t + 1) (hY : Y.length ≤ t + 1) (hz : z.length ≤ t + 1) (hQ : Q.length ≤ t + 1) (hxe : oI xs = c) (hxl : xs.length ≤ 1000) (hzero : ∀ x ∈ xs, Fld.ev z x = 0) (hdQ : Fld.Eqv (dfF X Y z A B) (Fld.mul Q z)) :
    Ev (fun k => qea.j1 k (l.map oI) (oI z) (oI (Fld.trim (Fld.mul X Y))) (oI (Fld.trim (Fld.mul (shF X z A) (shF Y z B)))) (oI Q) false (q : Int) n (t : Int) (oI X) (oI Y) (nI A) (nI B) c) true := by
  have HS := Aside0.mk hs
  have H0 := Aside0.mk h0
  clear hs h0
  have hm := moved_ok hq n t ht l z Q H0.out hlen hr hz hQ
  have hml : (mvL l z Q l.length).length = t + 1 := by rw [mvL_length, hlen]
  have hmr := mvL_rows l z Q l.length (t + 1) hr hz
  have h0m_ := check_of n t HS.out (mvL l z Q l.length) hml hmr
  have h0m := Aside0.mk h0m_
  clear h0m_
  have wl := whole_ok hq n (t : Int) l (by omega) (fun g hg => by have := hr g hg; omega) hmax H0.out
  have wm := whole_ok hq n (t : Int) (mvL l z Q l.length) (by omega) (fun g hg => by have := hmr g hg; omega) (fun g hg => by obtain ⟨u, hu, rfl⟩ := List.mem_map.1 hg; have := hmr u hu; exact oI_max u (by omega)) h0m.out
  rw [whole_moved l z Q (by omega)] at wm
  have lW := whole_length (t + 1) (by omega) l hr
  generalize wholeF l = W at *
  have hsum := sum_same X Y z W Q A B hdQ
  have lzQ := Fld.trim_mul_le z Q
  have lV := Fld.trim_length_le (Fld.sub W (Fld.trim (Fld.mul z Q)))
  rw [Fld.sub_length] at lV
  have mzq := rmul_rows hq z Q (by omega) (by omega)
  have svw := sub_rows (by omega) hq W (Fld.trim (Fld.mul z Q)) (by omega) (by omega)
  have lx := sh_length X z A (t + 1) hX hz
  have ly := sh_length Y z B (t + 1) hY hz
  have lnow := Fld.trim_mul_le (shF X z A) (shF Y z B)
  have lwas := Fld.trim_mul_le X Y
  have an := add_rows hq (Fld.trim (Fld.mul (shF X z A) (shF Y z B))) (Fld.trim (Fld.sub W (Fld.trim (Fld.mul z Q)))) (by omega) (by omega)
  have aw := add_rows hq (Fld.trim (Fld.mul X Y)) W (by omega) (by omega)
  rw [hsum] at an
  have las := Fld.trim_length_le (Fld.add (Fld.trim (Fld.mul X Y)) W)
  rw [Fld.add_length] at las
  have loop := keeps_outer hp (by omega) hq n (t : Int) l z Q xs (by omega) (fun g hg => by have := hr g hg; omega) (by omega) hzero hxl xs.length 0 (by omega)
  have j2 : Ev (fun k => qea.j2 k (l.map oI) ((mvL l z Q l.length).map oI) false (q : Int) n (t : Int) (oI X) (oI Y) (nI A) (nI B) c) true := by
    refine Ev.step (f := fun k => qea.l0 k (l.map oI) ((mvL l z Q l.length).map oI) (oI xs) (xs.length : Int) ((0 : Nat) : Int) (q : Int) n (t : Int)) (fun k => ?_) loop
    simp only [qea.j2, Bool.false_eq_true, if_false]
    rw [← hxe, oI_length]
    rfl
  have e : ((((mvL l z Q l.length).map oI).length : Int) != ((l.map oI).length : Int)) = false := by rw [List.length_map, List.length_map, mvL_length]; simp
  have mV := oI_max (Fld.trim (Fld.sub W (Fld.trim (Fld.mul z Q)))) (by omega)
  have mS := oI_max (Fld.trim (Fld.add (Fld.trim (Fld.mul X Y)) W)) (by omega)
  clear lzQ lV lx ly lnow lwas las lW loop hsum hmr hml h0m
  refine Ev.step (fun k => by (conv => lhs; simp only [qea.j1, Bool.false_eq_true, if_false]); first | done | rfl) ?_
  refine Ev.bind hm (Ev.bind wl (Ev.bind wm ?_))
  simp only [if_true]
  refine Ev.bind mzq (Ev.bind svw (Ev.bind (same_self _ mV) ?_))
  simp only [if_true]
  refine Ev.bind an (Ev.bind aw (Ev.bind (same_self _ mS) ?_))
  simp only [if_true]
  rw [e]
  exact j2
theorem moved_core (hp : Fld.Pr q) (h2 : 2 < q) (hq : q ≤ 65537) (hp1 : isP (q : Int) = true) (n : Int) (t : Nat) (ht : t ≤ 3) (hs : setupV (q : Int) n (t : Int) = 0) (l : List (List (Fin q))) (hlen : l.length = t + 1) (hr : ∀ g ∈ l, g.length ≤ t + 1) (hmax : ∀ g ∈ l.map oI, g.length ≤ maxLen) (h0 : checkV (q : Int) n (t : Int) (l.map oI) = 0)
    (X Y xs : List (Fin q)) (A B : Fin q) (c : List Int) (hX : X.length ≤ t + 1) (hY : Y.length ≤ t + 1) (hxl : xs.length ≤ t) (hxe : oI xs = c) (hxs : (c.map fun x => IntKind.u64.wrap x) = oI xs) (hcl : c.length ≤ maxLen) (hc : corrV (q : Int) n (t : Int) c = 0) (hnz : ∀ x ∈ xs, x ≠ 0) :
    Ev (fun k => qea.j0 k (l.map oI) false (q : Int) n (t : Int) (oI X) (oI Y) (nI A) (nI B) c) true := by
  have HP1 := Aside0.mk hp1
  have HC := Aside0.mk hc
  have HS := Aside0.mk hs
  have H0 := Aside0.mk h0
  clear hp1 hc hs h0
  have hw : wrap64 ((t : Int) + 1) = (t : Int) + 1 := w64_small (by omega) (by omega)
  have hcl2 : c.length = xs.length := by rw [← hxe, oI_length]
  have hgl := gone_length xs [1]
  rw [List.length_singleton] at hgl
  have hzne := gone_ne hp xs
  have hzero : ∀ x ∈ xs, Fld.ev (gone [1] xs) x = 0 := fun x hx => gone_root hp xs [1] x hx (hnz x hx)
  have wz := away_rows h2 hq xs (by omega)
  have hz : (gone [1] xs).length ≤ t + 1 := by omega
  obtain ⟨Q, hev, hQ, hdQ⟩ := df_quot hp h2 hq X Y (gone [1] xs) A B (t + 1) (by omega) hX hY hz hzne
  have hd := df_length X Y (gone [1] xs) A B (t + 1) hX hY hz
  have cut := df_cut h2 hq n (t : Int) c xs (dfF X Y (gone [1] xs) A B) Q hcl (by omega) (by omega) HP1.out HC.out hxs (by omega) hev
  have j1 := moved_j1 hp h2 hq n t ht HS.out l hlen hr hmax H0.out X Y (gone [1] xs) xs Q A B c hX hY hz hQ hxe (by omega) hzero hdQ
  generalize gone [1] xs = z at *
  have lx := sh_length X z A (t + 1) hX hz
  have ly := sh_length Y z B (t + 1) hY hz
  have lnow := Fld.trim_mul_le (shF X z A) (shF Y z B)
  have lwas := Fld.trim_mul_le X Y
  have mw := rmul_rows hq X Y (by omega) (by omega)
  have mn_ := rmul_rows hq (shF X z A) (shF Y z B) (by omega) (by omega)
  have sd := sub_rows (by omega) hq (Fld.trim (Fld.mul (shF X z A) (shF Y z B))) (Fld.trim (Fld.mul X Y)) (by omega) (by omega)
  have mz := oI_max z (by omega)
  have num := ref_numbers c (by omega)
  rw [hxs] at num
  have e : decide (((oI Q).length : Int) > wrap64 ((t : Int) + 1)) = false := by rw [hw, oI_length]; exact decide_eq_false (by omega)
  have x1 : X.length ≤ 1000 := by omega
  have y1 : Y.length ≤ 1000 := by omega
  have z1 : z.length ≤ 1000 := by omega
  clear lx ly lnow lwas hzero hzne hgl hd hev hdQ hQ hw hr hlen
  refine Ev.step (fun k => by (conv => lhs; simp only [qea.j0, Bool.false_eq_true, if_false]); first | done | rfl) ?_
  refine Ev.bind num (Ev.bind wz ?_)
  refine sh_rows hq X z A x1 z1 (f := fun k t1104 => ((qdb.f k (q : Int) (oI z) (nI B)).bind fun t1107 => ((qxa.f k (q : Int) (oI Y) t1107).bind fun t1110 => ((qra.f k (q : Int) (oI X) (oI Y)).bind fun t1113 => ((qra.f k (q : Int) t1104 t1110).bind fun t1116 => ((juntoref02_Sub.f k (q : Int) t1116 t1113).bind fun t1119 => ((twice_Cut.f k (q : Int) n (t : Int) c t1119).bind fun bt1122 => (if bt1122.2.2 = 0 then ((qqa.f k bt1122.1 (oI z)).bind fun t1129 => (if t1129 = true then (qea.j1 k (l.map oI) (oI z) t1113 t1116 bt1122.2.1 (decide ((bt1122.2.1.length : Int) > (wrap64 ((t : Int) + 1)))) (q : Int) n (t : Int) (oI X) (oI Y) (nI A) (nI B) c) else (qea.j1 k (l.map oI) (oI z) t1113 t1116 bt1122.2.1 true (q : Int) n (t : Int) (oI X) (oI Y) (nI A) (nI B) c))) else (qea.j1 k (l.map oI) (oI z) t1113 t1116 bt1122.2.1 true (q : Int) n (t : Int) (oI X) (oI Y) (nI A) (nI B) c))))))))) ?_
  refine sh_rows hq Y z B y1 z1 (f := fun k t1110 => ((qra.f k (q : Int) (oI X) (oI Y)).bind fun t1113 => ((qra.f k (q : Int) (oI (shF X z A)) t1110).bind fun t1116 => ((juntoref02_Sub.f k (q : Int) t1116 t1113).bind fun t1119 => ((twice_Cut.f k (q : Int) n (t : Int) c t1119).bind fun bt1122 => (if bt1122.2.2 = 0 then ((qqa.f k bt1122.1 (oI z)).bind fun t1129 => (if t1129 = true then (qea.j1 k (l.map oI) (oI z) t1113 t1116 bt1122.2.1 (decide ((bt1122.2.1.length : Int) > (wrap64 ((t : Int) + 1)))) (q : Int) n (t : Int) (oI X) (oI Y) (nI A) (nI B) c) else (qea.j1 k (l.map oI) (oI z) t1113 t1116 bt1122.2.1 true (q : Int) n (t : Int) (oI X) (oI Y) (nI A) (nI B) c))) else (qea.j1 k (l.map oI) (oI z) t1113 t1116 bt1122.2.1 true (q : Int) n (t : Int) (oI X) (oI Y) (nI A) (nI B) c))))))) ?_
  refine Ev.bind mw (Ev.bind mn_ (Ev.bind sd (Ev.bind cut ?_)))
  simp only [if_true]
  refine Ev.bind (same_self _ mz) ?_
  simp only [if_true]
  rw [e]
  exact j1
end
theorem len_of {a : Nat} {t : Int} {n : Nat} (ht : t = (n : Int)) (h : ¬ ((a : Int) > t + 1)) : a ≤ n + 1 := by omega
theorem len_201 {a : Nat} {t : Int} (ht : t ≤ 3) (h : ¬ ((a : Int) > t + 1)) : a ≤ 201 := by omega
theorem nat_of {p : Int} (h : 3 ≤ p) : ∃ q : Nat, p = (q : Int) := ⟨p.toNat, by omega⟩
theorem nat_of0 {p : Int} (h : 0 ≤ p) : ∃ q : Nat, p = (q : Int) := ⟨p.toNat, by omega⟩
theorem within_of {p : Int} {l : List Int} {t : Int} (ht : t ≤ 3) (h : ¬ ((l.length : Int) > t + 1)) (hb : belowV p l = 0) : withinV p l = 0 := by
  rw [withinV_ne _ _ (len_201 ht h)]; exact hb
theorem lt_of_not {a p : Int} (h : ¬ a ≥ p) : a < p := by omega
theorem ne_pos {q : Nat} [NeZero q] {l : List Int} {n : Int} (hm : ∀ x ∈ l, 0 < x ∧ x ≤ n) {xs : List (Fin q)} (e : oI xs = l) : ∀ x ∈ xs, x ≠ 0 := fun x hx e0 => by
  rw [← e] at hm
  have := hm _ (List.mem_map.2 ⟨x, hx, rfl⟩)
  rw [e0, nI_zero] at this
  omega
theorem twiceMoved (x0_0 : Int) (x0_1 : Int) (x0_2 : Int) (x1 : List (List Int)) (x2_0 : List Int) (x2_1 : List Int) (x2_2 : Int) (x2_3 : Int) (x2_4 : List Int) (w0_0 : (Lit.int .u64 x0_0).wf = true) (w0_1 : (Lit.int .i64 x0_1).wf = true) (w0_2 : (Lit.int .i64 x0_2).wf = true) (w1 : x1.length ≤ maxLen ∧ x1.length * 24 ≤ 140737488351232 ∧ ∀ x1' ∈ x1, x1'.length ≤ maxLen ∧ x1'.length * 8 ≤ 140737488351232 ∧ ∀ x1'' ∈ x1', (Lit.int .u64 x1'').wf = true) (w2_0 : x2_0.length ≤ maxLen ∧ x2_0.length * 8 ≤ 140737488351232 ∧ ∀ x2_0' ∈ x2_0, (Lit.int .u64 x2_0').wf = true) (w2_1 : x2_1.length ≤ maxLen ∧ x2_1.length * 8 ≤ 140737488351232 ∧ ∀ x2_1' ∈ x2_1, (Lit.int .u64 x2_1').wf = true) (w2_2 : (Lit.int .u64 x2_2).wf = true) (w2_3 : (Lit.int .u64 x2_3).wf = true) (w2_4 : x2_4.length ≤ maxLen ∧ x2_4.length * 8 ≤ 140737488351232 ∧ ∀ x2_4' ∈ x2_4, (Lit.int .i64 x2_4').wf = true) : ∃ k, qea.f k x0_0 x0_1 x0_2 x1 x2_0 x2_1 x2_2 x2_3 x2_4 = some true := by
  suffices h : Ev (fun k => qea.f k x0_0 x0_1 x0_2 x1 x2_0 x2_1 x2_2 x2_3 x2_4) true from h.rounds
  have hu : ∀ c ∈ x2_0, 0 ≤ c := fun c hc => (u64_wf (w2_0.2.2 c hc)).1
  have hv : ∀ c ∈ x2_1, 0 ≤ c := fun c hc => (u64_wf (w2_1.2.2 c hc)).1
  have hA := (u64_wf w2_2).1
  have hB := (u64_wf w2_3).1
  unfold qea.f
  refine Ev.bind (ref_check _ _ _ _ w1.1 (fun f hf => (w1.2.2 f hf).1)) ?_
  by_cases h0 : checkV x0_0 x0_1 x0_2 x1 = 0
  · simp only [h0, if_true]
    refine Ev.bind (ref_corr _ _ _ _ w2_4.1) ?_
    by_cases hc : corrV x0_0 x0_1 x0_2 x2_4 = 0
    · simp only [hc, if_true]
      obtain ⟨hs, hlt, hrise⟩ := corrV_zero hc
      have hh := setupV_small hs
      have hw : wrap64 (x0_2 + 1) = x0_2 + 1 := w64_small (by omega) (by omega)
      rw [hw]
      by_cases b1 : (x2_0.length : Int) > x0_2 + 1
      · simp only [b1, if_true]; exact moved_out _ _ _ _ _ _ _ _ _
      · simp only [b1, if_false]
        by_cases b2 : (x2_1.length : Int) > x0_2 + 1
        · simp only [b2, if_true]; exact moved_out _ _ _ _ _ _ _ _ _
        · simp only [b2, if_false]
          refine Ev.bind (ref_within _ _ w2_0.1) ?_
          by_cases b3 : belowV x0_0 x2_0 = 0
          · simp only [b3, if_true]
            refine Ev.bind (ref_within _ _ w2_1.1) ?_
            by_cases b4 : belowV x0_0 x2_1 = 0
            · simp only [b4, if_true]
              by_cases b5 : x2_2 ≥ x0_0
              · simp only [b5, if_true]; exact moved_out _ _ _ _ _ _ _ _ _
              · simp only [b5, if_false]
                by_cases b6 : x2_3 ≥ x0_0
                · simp only [b6, decide_true]; exact moved_out _ _ _ _ _ _ _ _ _
                · simp only [b6, decide_false]
                  have hp1 := (setupV_ok hs).1
                  have b5' := lt_of_not b5
                  have b6' := lt_of_not b6
                  obtain ⟨h3, hq, hn1, hn13, ht0, ht3, hnt, hnp⟩ := hh
                  have c1 := within_of ht3 b1 b3
                  have c2 := within_of ht3 b2 b4
                  obtain ⟨q, rfl⟩ := nat_of h3
                  have hz : NeZero q := ⟨fun e => by rw [e] at h3; exact absurd h3 (by decide)⟩
                  have hp := pr_of_isP hp1
                  have h2 : 2 < q := Int.ofNat_lt.1 (Int.lt_of_lt_of_le (by decide : (2 : Int) < 3) h3)
                  have hq' : q ≤ 65537 := Int.ofNat_le.1 hq
                  obtain ⟨t, rfl⟩ := nat_of0 ht0
                  have ht3' : t ≤ 3 := Int.ofNat_le.1 ht3
                  have l1 := len_of rfl b1
                  have l2 := len_of rfl b2
                  have lc : x2_4.length ≤ t := Int.ofNat_le.1 hlt
                  obtain ⟨f, fs, rfl, hfl, hrow, hmax⟩ := mask_of h0 (fun f hf c hc => (u64_wf ((w1.2.2 f hf).2.2 c hc)).1) q rfl
                  obtain ⟨X, rfl, hX⟩ := rows_of c1 hu
                  obtain ⟨Y, rfl, hY⟩ := rows_of c2 hv
                  obtain ⟨A, rfl⟩ := nI_of (q := q) hA b5'
                  obtain ⟨B, rfl⟩ := nI_of (q := q) hB b6'
                  rw [oI_length] at l1 l2
                  obtain ⟨xs, hxe, hxs, hxl⟩ := places_of (q := q) hrise hnp hq'
                  have hnz := ne_pos (rise_mem hrise) hxe
                  have hlen : (f :: fs).length = t + 1 := by rw [List.length_cons, Int.ofNat_inj.1 hfl.1]
                  have hr : ∀ g ∈ f :: fs, g.length ≤ t + 1 := fun g hg => Int.ofNat_le.1 (hrow g hg)
                  rw [← hxl] at lc
                  exact moved_core hp h2 hq' hp1 x0_1 t ht3' hs (f :: fs) hlen hr hmax h0 X Y xs A B x2_4 l1 l2 lc hxe hxs w2_4.1 hc hnz
            · simp only [b4, if_false]; exact moved_out _ _ _ _ _ _ _ _ _
          · simp only [b3, if_false]; exact moved_out _ _ _ _ _ _ _ _ _
    · simp only [hc, if_false]; exact moved_out _ _ _ _ _ _ _ _ _
  · simp only [h0, if_false]
    exact moved_out _ _ _ _ _ _ _ _ _
end Go.Proofs.Ytjjnfobeeflnhaa.L
/- The row of TwiceMoved: for every input the call returns true and changes nothing; no conditions. Out of the contract of the function and the plain law. -/
namespace Go.Proofs.Ytjjnfobeeflnhaa.twiceMoved
open Go.ChangeShapes Go.WideShapes Go.ChangeAt Go.RowKit Go.Proofs.YtjjnfobeeflnhaaW.PrintWords Go.Proofs.Ytjjnfobeeflnhaa.J Go.Proofs.Ytjjnfobeeflnhaa.Op
set_option linter.unusedVariables false
theorem own : ownKnob Try.prog.godebug = none := by kernel_rfl
theorem laidOut : laidOutB Try.prog = true := by kernel_rfl
theorem op0 : Opens Try.prog (Kd.pair (Kd.int .u64) (Kd.pair (Kd.int .i64) (Kd.int .i64))) 24 (fun x => (fun n => (Lit.int .u64 n).wf = true) x.1 ∧ (fun x => (fun n => (Lit.int .i64 n).wf = true) x.1 ∧ (fun n => (Lit.int .i64 n).wf = true) x.2) x.2) := (op_agg Try.underlying24 (opL_cons (by kernel_rfl) (by kernel_rfl) (op_int Try.underlying22) (by kernel_rfl) (opL_cons (by kernel_rfl) (by kernel_rfl) (op_int Try.underlying3) (by kernel_rfl) (opL_one (by kernel_rfl) (by kernel_rfl) (op_int Try.underlying3)))))
theorem op1 : Opens Try.prog (Kd.slice 31 (Kd.slice 22 (Kd.int .u64))) 25 (fun l => l.length ≤ maxLen ∧ l.length * 24 ≤ 140737488351232 ∧ ∀ a ∈ l, (fun l => l.length ≤ maxLen ∧ l.length * 8 ≤ 140737488351232 ∧ ∀ a ∈ l, (fun n => (Lit.int .u64 n).wf = true) a) a) := (op_slice Try.underlying25 (by kernel_rfl) (by kernel_rfl) (op_slice Try.underlying31 (by kernel_rfl) (by kernel_rfl) (op_int Try.underlying22)))
theorem op2 : Opens Try.prog (Kd.pair (Kd.slice 22 (Kd.int .u64)) (Kd.pair (Kd.slice 22 (Kd.int .u64)) (Kd.pair (Kd.int .u64) (Kd.pair (Kd.int .u64) (Kd.slice 3 (Kd.int .i64)))))) 107 (fun x => (fun l => l.length ≤ maxLen ∧ l.length * 8 ≤ 140737488351232 ∧ ∀ a ∈ l, (fun n => (Lit.int .u64 n).wf = true) a) x.1 ∧ (fun x => (fun l => l.length ≤ maxLen ∧ l.length * 8 ≤ 140737488351232 ∧ ∀ a ∈ l, (fun n => (Lit.int .u64 n).wf = true) a) x.1 ∧ (fun x => (fun n => (Lit.int .u64 n).wf = true) x.1 ∧ (fun x => (fun n => (Lit.int .u64 n).wf = true) x.1 ∧ (fun l => l.length ≤ maxLen ∧ l.length * 8 ≤ 140737488351232 ∧ ∀ a ∈ l, (fun n => (Lit.int .i64 n).wf = true) a) x.2) x.2) x.2) x.2) := (op_agg Try.underlying107 (opL_cons (by kernel_rfl) (by kernel_rfl) (op_slice Try.underlying31 (by kernel_rfl) (by kernel_rfl) (op_int Try.underlying22)) (by kernel_rfl) (opL_cons (by kernel_rfl) (by kernel_rfl) (op_slice Try.underlying31 (by kernel_rfl) (by kernel_rfl) (op_int Try.underlying22)) (by kernel_rfl) (opL_cons (by kernel_rfl) (by kernel_rfl) (op_int Try.underlying22) (by kernel_rfl) (opL_cons (by kernel_rfl) (by kernel_rfl) (op_int Try.underlying22) (by kernel_rfl) (opL_one (by kernel_rfl) (by kernel_rfl) (op_slice Try.underlying63 (by kernel_rfl) (by kernel_rfl) (op_int Try.underlying3))))))))
theorem lifted (os : Os) (started : os.Started) (H : Type) (enc : TypeId × Value → H) :
    ReturnsInHanded {} Try.checked os 20 .any (Rows.twiceMovedSpec.pre6 enc Try.prog Try.f20 Rows.twiceMovedRow.domain false) (Rows.twiceMovedSpec.post enc Try.prog Try.f20 false true false false) := by
  refine returnsInHanded_of_change_sized (C := Try.checked) own started (by kernel_rfl) Try.func20
    (ChangeSpec.witness6 (enc := enc) (C := Try.checked) false ⟨#[], #[.agg #[.int .u64 0, .int .i64 0, .int .i64 0], .slice none 0 0, .agg #[.slice none 0 0, .slice none 0 0, .int .u64 0, .int .u64 0, .slice none 0 0]], []⟩ 8 (by kernel_rfl) (by kernel_rfl) (by kernel_rfl) (by kernel_rfl)) ?_
  intro W base args ds gs before hval0 hW hcnd hsz0 _
  have hsz : (DataW.weightsEach Try.prog (Try.f20.params.toList ++ Rows.twiceMovedSpec.plain.varTypes Try.prog) (ds ++ gs)).all (· ≤ reachBytes) = true := hsz0
  have hval : ∀ (j : Nat) t v, Try.f20.params[j]? = some t → args[j]? = some v → Value.okWide Try.prog W .any base t v := hval0
  have hW' := hW
  obtain ⟨p, q, hA0, hV, rfl, hfz, hnd⟩ := hW
  have hA : DataW.TrodAll enc Try.prog W 0 (fun _ => true) true Try.f20.params.toList args.toList ds p := hA0
  rw [Try.params20] at hA hval hsz
  obtain ⟨v0, vs0, d0, ds0, p0, q0, hargs, rfl, rfl, h0, r0⟩ := trodAll_cons hA
  obtain ⟨v1, vs1, d1, ds1, p1, q1, rfl, rfl, rfl, h1, r1⟩ := trodAll_cons r0
  obtain ⟨v2, vs2, d2, ds2, p2, q2, rfl, rfl, rfl, h2, r2⟩ := trodAll_cons r1
  obtain ⟨rfl, rfl, rfl⟩ := trodAll_nil r2
  obtain rfl : args = #[v0, v1, v2] := by cases args; simp_all
  obtain ⟨rfl, rfl⟩ := trodVars_none hV
  have k0 := h0
  have lt0 : ∀ x ∈ p0, x.block < W.heap.size := by obtain ⟨m, hm⟩ := k0; exact DataW.trod_lt m _ _ _ hm
  obtain ⟨cs0, rfl, hn0⟩ := okWide_agg Try.underlying24 (hval 0 24 v0 rfl rfl)
  obtain ⟨⟨x0_0, x0_1, x0_2⟩, K0, ⟨w0_0, w0_1, w0_2⟩⟩ := arg op0 (by show cs0.toList.length = _; rw [Array.length_toList, hn0]; kernel_rfl) h0 hsz (j := 0) rfl rfl
  obtain ⟨g0_0, rg0_0, qg0_0, l0_0, M0_0⟩ := K0
  have l0_0' : g0_0 = [Value.int .u64 x0_0] := l0_0
  obtain ⟨g0_1, rg0_1, qg0_1, l0_1, M0_1⟩ := M0_0
  have l0_1' : g0_1 = [Value.int .i64 x0_1] := l0_1
  have M0_1' : rg0_1 = [Value.int .i64 x0_2] := M0_1
  obtain rfl : cs0 = #[.int .u64 x0_0, .int .i64 x0_1, .int .i64 x0_2] := by
    apply Array.toList_inj.1
    have z0 : cs0.toList = _ := qg0_0
    rw [z0, l0_0', qg0_1, l0_1', M0_1']
    rfl
  have k1 := h1
  have lt1 : ∀ x ∈ p1, x.block < W.heap.size := by obtain ⟨m, hm⟩ := k1; exact DataW.trod_lt m _ _ _ hm
  obtain ⟨a1, len1, cap1, rfl⟩ := okWide_slice Try.underlying25 (hval 1 25 v1 rfl rfl)
  obtain ⟨x1, ⟨A1, c1, e1, hc1, hr1⟩, w1⟩ := arg op1 rfl h1 hsz (j := 1) rfl rfl
  have e1' : [Value.slice a1 len1 cap1] = [Value.slice A1 x1.length c1] := e1
  obtain ⟨rfl, rfl, rfl⟩ : a1 = A1 ∧ len1 = x1.length ∧ cap1 = c1 := by simpa using e1'
  have k2 := h2
  have lt2 : ∀ x ∈ p2, x.block < W.heap.size := by obtain ⟨m, hm⟩ := k2; exact DataW.trod_lt m _ _ _ hm
  obtain ⟨cs2, rfl, hn2⟩ := okWide_agg Try.underlying107 (hval 2 107 v2 rfl rfl)
  obtain ⟨⟨x2_0, x2_1, x2_2, x2_3, x2_4⟩, K2, ⟨w2_0, w2_1, w2_2, w2_3, w2_4⟩⟩ := arg op2 (by show cs2.toList.length = _; rw [Array.length_toList, hn2]; kernel_rfl) h2 hsz (j := 2) rfl rfl
  obtain ⟨g2_0, rg2_0, qg2_0, l2_0, M2_0⟩ := K2
  obtain ⟨A2_0, c2_0, l2_0', hc2_0, hr2_0⟩ := l2_0
  obtain ⟨g2_1, rg2_1, qg2_1, l2_1, M2_1⟩ := M2_0
  obtain ⟨A2_1, c2_1, l2_1', hc2_1, hr2_1⟩ := l2_1
  obtain ⟨g2_2, rg2_2, qg2_2, l2_2, M2_2⟩ := M2_1
  have l2_2' : g2_2 = [Value.int .u64 x2_2] := l2_2
  obtain ⟨g2_3, rg2_3, qg2_3, l2_3, M2_3⟩ := M2_2
  have l2_3' : g2_3 = [Value.int .u64 x2_3] := l2_3
  obtain ⟨A2_4, c2_4, M2_3', hc2_4, hr2_4⟩ := M2_3
  obtain rfl : cs2 = #[.slice A2_0 x2_0.length c2_0, .slice A2_1 x2_1.length c2_1, .int .u64 x2_2, .int .u64 x2_3, .slice A2_4 x2_4.length c2_4] := by
    apply Array.toList_inj.1
    have z2 : cs2.toList = _ := qg2_0
    rw [z2, l2_0', qg2_1, l2_1', qg2_2, l2_2', qg2_3, l2_3', M2_3']
    rfl
  clear hA0 hval0 hsz0 hsz
  obtain ⟨k, h⟩ := L.twiceMoved x0_0 x0_1 x0_2 x1 x2_0 x2_1 x2_2 x2_3 x2_4 w0_0 w0_1 w0_2 w1 w2_0 w2_1 w2_2 w2_3 w2_4
  refine (qea.calls k x0_0 x0_1 x0_2 _ _ x1 _ _ x2_0 _ _ x2_1 x2_2 x2_3 _ _ x2_4 true W hr1 hc1 hr2_0 hc2_0 hr2_1 hc2_1 hr2_4 hc2_4 h).mono fun e W' ⟨he, bel⟩ => ?_
  subst he
  exact ⟨_, rfl, _, _, _, [], _, [], hW', trodAll_mk1 (shut_bool Try.underlying4 _), (trodAll_cons_mk (Below.trod laidOut (by kernel_rfl) (of_decide_eq_true (by kernel_rfl)) k0 bel lt0) (trodAll_cons_mk (Below.trod laidOut (by kernel_rfl) (of_decide_eq_true (by kernel_rfl)) k1 bel lt1) (trodAll_cons_mk (Below.trod laidOut (by kernel_rfl) (of_decide_eq_true (by kernel_rfl)) k2 bel lt2) trodAll_mk0))), rfl, bel.frame _, fun h => by cases h⟩
theorem closed : joinedFacts Try.pinned.checked.prog 20 Try.f20 Rows.twiceMovedSpec Rows.twiceMovedRow = true := by
  unfold joinedFacts
  repeat' with_reducible refine Bool.and_eq_true_iff.2 ⟨?_, ?_⟩
  all_goals first
    | with_reducible exact Facts.enters
    | (rw [Facts.final]; kernel_rfl)
    | (rw [Facts.made]; kernel_rfl)
    | kernel_rfl
theorem over : Rows.twiceMovedRow.holds Try.pinned (OpenSpec.ofChange Rows.twiceMovedSpec) :=
  OpenClaim.holds_of_wide 20 Try.f20 rfl rfl rfl rfl rfl rfl rfl ⟨rfl, rfl, rfl, rfl, rfl⟩ rfl rfl rfl rfl rfl (by kernel_rfl) Try.func20 closed
    (of_decide_eq_true (by kernel_rfl)) (by unfold Func.isWrapper; first | (rw [if_pos (by decide +kernel)]; kernel_rfl) | (rw [if_neg (by decide +kernel)]; exact ⟨rfl, rfl⟩))
    (fun os started H enc _ => lifted os started H enc)
theorem proved : Rows.TwiceMovedSaid := over
#print axioms proved
end Go.Proofs.Ytjjnfobeeflnhaa.twiceMoved
namespace Go.Proofs.Ytjjnfobeeflnhaa
theorem twiceMoved_holds : Rows.TwiceMovedSaid := twiceMoved.proved
end Go.Proofs.Ytjjnfobeeflnhaa
