/- Part 9 of the proof of ShareBack: what the functions compute as plain Lean functions, that the machine comes to just these answers, and that the answer is true; no conditions. -/
import Derived.Test.YtjjnfobeeflnhaaShareBackZ0
import Derived.Test.YtjjnfobeeflnhaaShareBackZ1
import Derived.Test.YtjjnfobeeflnhaaShareBackZ2
import Derived.Test.YtjjnfobeeflnhaaShareBackZ3
import Derived.Test.YtjjnfobeeflnhaaShareBackZ4
import Derived.Test.YtjjnfobeeflnhaaShareBackZ5
import Derived.Test.YtjjnfobeeflnhaaShareBackZ6
import Derived.Test.YtjjnfobeeflnhaaShareBackZ7
import Derived.Test.YtjjnfobeeflnhaaShareBackZ8
import Derived.Test.YtjjnfobeeflnhaaRows
import Derived.WalkKit
import Derived.ProofKit
import Derived.OpenShut
import Derived.ShutString
import Derived.ChangeOld
import Derived.Below
import Derived.SizedLaws
set_option linter.unusedSimpArgs false
set_option linter.unusedVariables false
set_option maxRecDepth 100000
/- The polynomial through points: what the program's call answers, and the reference's test of points. -/
namespace Go.Proofs.Ytjjnfobeeflnhaa.L
open Go.RowKit Go.Proofs.YtjjnfobeeflnhaaW.PrintWords Go.Proofs.Ytjjnfobeeflnhaa.J
def pointsV (p : Int) (l : List S86) : Int := if ∀ x ∈ l, x.f0 < p ∧ x.f1 < p then (if (l.map (·.f0)).Nodup then 0 else 6) else 2
theorem rd_T86_at (l : List S86) (i : Nat) (h : i < l.length) : rd_T86 l (i : Int) = l[i] := by
  simp [rd_T86, List.getD_eq_getElem?_getD, h]
theorem belowV_pair (p a b : Int) : belowV p [a, b] = if a < p ∧ b < p then 0 else 2 := by
  unfold belowV
  simp
theorem pts_bad {p : Int} {l : List S86} {i : Nat} (hi : i < l.length) (h : ¬ (l[i].f0 < p ∧ l[i].f1 < p)) : pointsV p l = 2 := by
  unfold pointsV
  rw [if_neg fun hc => h (hc _ (List.getElem_mem hi))]
theorem thr_loop (p : Int) (l : List S86) (hl : l.length ≤ 1000) (G : List Int) (hG : pointsV p l = 0 → Ev (fun k => qza.f k p l) G) (m : Nat) : ∀ i : Nat, i + m = l.length → (∀ x ∈ l.take i, x.f0 < p ∧ x.f1 < p) →
    Ev (fun k => qlb.l0 k p l ((l.take i).map (·.f0)) l (l.length : Int) (i : Int)) (if pointsV p l = 0 then G else [], pointsV p l) := by
  induction m with
  | zero =>
    intro i hi h
    rw [List.take_of_length_le (by omega)] at h ⊢
    refine Ev.step (f := fun k => (qeb.f k (l.map (·.f0))).bind fun t => if t = true then (qza.f k p l).bind fun u => some (u, 0) else some ([], 6)) (fun k => ?_) (Ev.bind (unlike_at _ (by rw [List.length_map]; omega)) ?_)
    · simp only [qlb.l0]
      rw [if_neg (by omega)]
    unfold pointsV at hG ⊢
    rw [if_pos h] at hG ⊢
    by_cases hn : (l.map (·.f0)).Nodup
    · rw [if_pos hn] at hG ⊢
      simp only [hn, decide_true, if_true]
      exact Ev.bind (hG rfl) (Ev.now _)
    · rw [if_neg hn]
      simp only [hn, decide_false, Bool.false_eq_true, if_false, show ¬ ((6 : Int) = 0) by decide]
      exact Ev.now _
  | succ m ih =>
    intro i hi h
    have hw : wrap64 ((i : Int) + 1) = ((i + 1 : Nat) : Int) := by rw [w64_small (by omega) (by omega)]; omega
    have hlt : i < l.length := by omega
    have hlen : ((l.take i).map (·.f0)).length = i := by rw [List.length_map, List.length_take]; omega
    have hb := field_below p [l[i].f0, l[i].f1] (by simp [maxLen])
    rw [belowV_pair] at hb
    refine Ev.step (f := fun k => (qcb.f k p [l[i].f0, l[i].f1]).bind fun t => if t = 0 then qlb.l0 k p l ((l.take i).map (·.f0) ++ [l[i].f0]) l (l.length : Int) ((i + 1 : Nat) : Int) else some ([], t)) (fun k => ?_) (Ev.bind hb ?_)
    · conv => lhs; simp only [qlb.l0]
      rw [if_pos (by omega), if_pos (by omega), if_pos (by omega), rd_T86_at l i hlt, hw]
      simp only [show ((l.take i).map (·.f0)).length < 17592186044416 by omega, if_true]
    · by_cases hok : l[i].f0 < p ∧ l[i].f1 < p
      · simp only [hok, and_self, if_true]
        have e : (l.take i).map (·.f0) ++ [l[i].f0] = (l.take (i + 1)).map (·.f0) := by
          rw [List.take_succ_eq_append_getElem hlt, List.map_append]; rfl
        rw [e]
        refine ih (i + 1) (by omega) fun x hx => ?_
        rw [List.take_succ_eq_append_getElem hlt] at hx
        rcases List.mem_append.1 hx with hx | hx
        · exact h x hx
        · rw [List.mem_singleton.1 hx]; exact hok
      · rw [pts_bad hlt hok]
        simp only [hok, if_false, show ¬ ((2 : Int) = 0) by decide]
        exact Ev.now _
def throughV (p : Int) (l : List S86) : Int := if isP p = true then (if (l.length : Int) > 201 then 3 else pointsV p l) else 2
theorem thr_prog (p : Int) (l : List S86) (G : List Int) (hG : throughV p l = 0 → Ev (fun k => qza.f k p l) G) : Ev (fun k => qlb.f k p l) (if throughV p l = 0 then G else [], throughV p l) := by
  unfold throughV at hG ⊢
  unfold qlb.f
  refine Ev.bind (field_is p) ?_
  by_cases hp : isP p = true
  · simp only [hp, if_true] at hG ⊢
    by_cases hb : (l.length : Int) > 201
    · simp only [hb, if_true, show ¬ ((3 : Int) = 0) by decide, if_false]
      exact Ev.now _
    · simp only [hb, if_false] at hG ⊢
      exact thr_loop p l (by omega) G hG l.length 0 (by omega) (fun x hx => by simp at hx)
  · simp only [hp, if_false, Bool.false_eq_true, show ¬ ((2 : Int) = 0) by decide]
    exact Ev.now _
end Go.Proofs.Ytjjnfobeeflnhaa.L
/- The statement ShareBack as plain Lean. -/
namespace Go.Proofs.Ytjjnfobeeflnhaa.L
open Go.RowKit Go.Proofs.YtjjnfobeeflnhaaW.PrintWords Go.Proofs.Ytjjnfobeeflnhaa.J
section
variable {q : Nat} [NeZero q]
theorem lg_back (hp : Fld.Pr q) (X : Nat → Fin q) (F : List (Fin q)) (m : Nat) (hx : ∀ i j, i < m → j < m → X i = X j → i = j) (ht : (Fld.trim F).length ≤ m) : Fld.lg X (fun i => Fld.ev F (X i)) m m = Fld.trim F := by
  have hl := Fld.lg_length X (fun i => Fld.ev F (X i)) m m (Nat.le_refl _)
  have hn : (Fld.mk m X).Nodup := by
    unfold Fld.mk
    exact List.pairwise_map.2 (List.Pairwise.imp_of_mem (fun ha hb hne h => hne (hx _ _ (List.mem_range.1 ha) (List.mem_range.1 hb) h)) List.nodup_range)
  have e := Fld.unique hp hn (f := Fld.lg X (fun i => Fld.ev F (X i)) m m) (g := Fld.trim F) (by rw [Fld.lg_tr, Fld.mk_length]; exact hl) (by rw [Fld.trim_trim, Fld.mk_length]; exact ht) (fun x hx' => by
    obtain ⟨i, hi, rfl⟩ := List.mem_map.1 hx'
    have hi' := List.mem_range.1 hi
    rw [Fld.lg_at hp X _ m hx i hi' m (Nat.le_refl _), if_pos hi']
    exact ((Fld.trim_co F).ev _).symm)
  rw [← Fld.lg_tr, Fld.trim_congr e, Fld.trim_trim]
end
section
variable {q : Nat}
theorem pointsV_at (X Y : Nat → Fin q) (m : Nat) (hx : ∀ i j, i < m → j < m → X i = X j → i = j) : pointsV (q : Int) (ptsF m X Y) = 0 := by
  unfold pointsV
  rw [if_pos, if_pos]
  · unfold ptsF
    rw [List.map_map]
    exact List.pairwise_map.2 (List.Pairwise.imp_of_mem (fun ha hb hne h => hne (hx _ _ (List.mem_range.1 ha) (List.mem_range.1 hb) (nI_inj h))) List.nodup_range)
  · intro x hx
    unfold ptsF at hx
    obtain ⟨i, _, rfl⟩ := List.mem_map.1 hx
    exact ⟨(nI_range _).2, (nI_range _).2⟩
end
section
variable {q : Nat} [NeZero q]
theorem secret_back (hisP : isP (q : Int) = true) (hp : Fld.Pr q) (h2 : 2 < q) (hq : q ≤ 65537) (X : Nat → Fin q) (F : List (Fin q)) (m d : Nat) (hx : ∀ i j, i < m → j < m → X i = X j → i = j) (ht : (Fld.trim F).length ≤ d + 1) (hm : d + 1 ≤ m) (hm2 : m ≤ 201) :
    Ev (fun k => qhb.f k (q : Int) (d : Int) (ptsF m X fun i => Fld.ev F (X i))) (nI (Fld.ev F 0), 0) := by
  have fit := fit_rows h2 hq m (by omega) X (fun i => Fld.ev F (X i))
  rw [Fld.hn_lg hp X _ m hx, lg_back hp X F m hx (by omega)] at fit
  have hV : throughV (q : Int) (ptsF m X fun i => Fld.ev F (X i)) = 0 := by
    unfold throughV
    rw [if_pos hisP, ptsF_length, if_neg (by omega), pointsV_at X _ m hx]
  have prog := thr_prog (q : Int) (ptsF m X fun i => Fld.ev F (X i)) (oI (Fld.trim F)) (fun _ => fit)
  rw [hV, if_pos rfl] at prog
  have hw : wrap64 ((d : Int) + 1) = (d : Int) + 1 := w64_small (by omega) (by omega)
  have ha := at_rows hq (Fld.trim F) 0
  rw [nI_zero, (Fld.trim_co F).ev 0] at ha
  unfold qhb.f
  refine Ev.bind (field_is _) ?_
  simp only [hisP, if_true, show ¬ ((d : Int) < 0) by omega, if_false, decide_eq_false (show ¬ ((d : Int) > 200) by omega)]
  refine Ev.step (f := fun k => (qlb.f k (q : Int) (ptsF m X fun i => Fld.ev F (X i))).bind fun bt1797 => (if bt1797.2 = 0 then (if (((ptsF m X fun i => Fld.ev F (X i)).length : Nat) : Int) < (wrap64 ((d : Int) + 1)) then (some (0, 11)) else (if (bt1797.1.length : Int) > (wrap64 ((d : Int) + 1)) then (some (0, 12)) else ((qzb.f (q : Int) bt1797.1 0).bind fun t1801 => (some (t1801, 0))))) else (some (0, bt1797.2)))) (fun k => by simp only [qhb.j0, Bool.false_eq_true, if_false]) (Ev.bind prog ?_)
  simp only [if_true, ptsF_length, hw, oI_length, show ¬ ((m : Int) < (d : Int) + 1) by omega, show ¬ (((Fld.trim F).length : Int) > (d : Int) + 1) by omega, if_false]
  rw [ha]
  exact Ev.bind (Ev.now _) (Ev.now _)
theorem pts_shares (F : List (Fin q)) (n : Nat) : ptsF n (pt q) (Fld.co (sharesF F n)) = ptsF n (pt q) (fun i => Fld.ev F (pt q i)) := by
  unfold ptsF
  refine List.map_congr_left fun i hi => ?_
  unfold sharesF
  rw [mk_co _ _ _ (List.mem_range.1 hi)]
end
section
variable {q : Nat}
theorem pts_drop (X Y : Nat → Fin q) (n j : Nat) : (ptsF n X Y).drop j = ptsF (n - j) (fun i => X (j + i)) (fun i => Y (j + i)) := by
  unfold ptsF
  apply List.ext_getElem (by simp)
  intro i h1 h2
  simp
end
section
variable {q : Nat} [NeZero q]
theorem sum_two (f g : List (Fin q)) (n : Nat) : sumF [sharesF f n, sharesF g n] n = sharesF (Fld.add f g) n := by
  unfold sumF
  simp only [sumsF]
  unfold adding sharesF
  refine mk_congr fun i hi => ?_
  rw [if_pos hi, mk_co _ _ _ hi, if_pos hi, co_zeros, mk_co _ _ _ hi, mk_co _ _ _ hi, Fld.ev_add]
  grind
theorem scale_one (f : List (Fin q)) (c : Fin q) (n : Nat) : (Fld.mk n fun j => Fld.co (sharesF f n) j * c) = sharesF (Fld.smul c f) n := by
  unfold sharesF
  refine mk_congr fun i hi => ?_
  rw [mk_co _ _ _ hi, Fld.ev_smul]
  grind
theorem sharesF_length (F : List (Fin q)) (n : Nat) : (sharesF F n).length = n := Fld.mk_length _ _
theorem areV_oI (F : List (Fin q)) (n : Nat) : areV (q : Int) (n : Int) (oI (sharesF F n)) = 0 := by
  unfold areV
  rw [if_pos (by rw [oI_length, sharesF_length])]
  unfold belowV
  rw [if_pos (fun x hx => (oI_range _ x hx).2)]
theorem fits_back (hp : Fld.Pr q) (h2 : 2 < q) (hq : q ≤ 65537) (F : List (Fin q)) (n d : Nat) (t : Int) (h0 : setupV (q : Int) (n : Int) t = 0) (ht : (Fld.trim F).length ≤ d + 1) : Ev (fun k => qrb.f k (q : Int) (n : Int) t (d : Int) (oI (sharesF F n))) (true, 0) := by
  have hh := setupV_small h0
  have hl := sharesF_length F n
  unfold qrb.f
  refine Ev.bind (share_setup _ _ _) ?_
  simp only [h0, if_true, show ¬ ((d : Int) < 0) by omega, if_false]
  refine Ev.bind (share_are_one _ _ _ _ (by rw [oI_length, hl]; simp only [maxLen]; omega)) ?_
  rw [areV_oI]
  by_cases hg : (d : Int) ≥ (n : Int)
  · refine Ev.step (f := fun k => some (true, 0)) (fun k => ?_) (Ev.now _)
    simp [qrb.j0, hg]
  · have hx : ∀ i j, i < n → j < n → pt q i = pt q j → i = j := fun i j hi hj h => pt_inj (by omega) (by omega) h
    have fit := fit_rows h2 hq n (by omega) (pt q) (fun i => Fld.ev F (pt q i))
    rw [Fld.hn_lg hp (pt q) _ n hx, lg_back hp (pt q) F n hx (by omega)] at fit
    have pts := share_points (sharesF F n) (by rw [hl]; omega) (by rw [hl]; omega)
    rw [hl, pts_shares] at pts
    have hw : wrap64 ((d : Int) + 1) = (d : Int) + 1 := w64_small (by omega) (by omega)
    refine Ev.step (f := fun k => (qyb.f k (oI (sharesF F n))).bind fun t916 => ((qza.f k (q : Int) t916).bind fun t919 => (some (decide ((t919.length : Int) ≤ (wrap64 ((d : Int) + 1))), 0)))) (fun k => ?_) (Ev.bind pts (Ev.bind fit ?_))
    · simp only [qrb.j0]
      rw [if_neg (by decide), if_neg hg]
    · rw [oI_length, hw, decide_eq_true (by omega)]
      exact Ev.now _
theorem points_back (hq : q ≤ 65537) (F : List (Fin q)) (n : Nat) (hn : n ≤ 1000) (hn2 : n < q) : Ev (fun k => qua.f k (oI (sharesF F n))) (ptsF n (pt q) (fun i => Fld.ev F (pt q i))) := by
  have h := ref_points (sharesF F n) (by rw [sharesF_length]; exact hn) (by rw [sharesF_length]; exact hn2)
  rwa [sharesF_length, pts_shares] at h
end
theorem back_out04 (c p n t a da b db : Int) (l m : List Int) : Ev (fun k => qka.j0 k c true p n t a da l b db m) true :=
  Ev.step (f := fun k => (qnb.f k).bind fun t => some t) (fun k => by simp only [qka.j0, if_true]) (Ev.bind alive04 (Ev.now _))
theorem back_round (c p n t a da b db e1 e2 d : Int) (l m x s y : List Int) (L : List (List Int)) (i : Nat) (hi : i < L.length) (hs : L.length ≤ 1000) (hf : Ev (fun k => qrb.f k p n t d L[i]) (true, 0)) (hl : (L[i].length : Int) = n)
    (next : Ev (fun k => qka.l0 k c d e1 e2 x s y L (L.length : Int) ((i + 1 : Nat) : Int) p n t a da l b db m) true) : Ev (fun k => qka.l0 k c d e1 e2 x s y L (L.length : Int) (i : Int) p n t a da l b db m) true := by
  have hw : wrap64 ((i : Int) + 1) = ((i + 1 : Nat) : Int) := w64_small (by omega) (by omega)
  refine Ev.step (f := fun k => (qrb.f k p n t d (rd_L3 L (i : Int))).bind fun bt => (if bt.1 = true then (if ((rd_L3 L (i : Int)).length : Int) = n then (qka.l0 k c d e1 e2 x s y L (L.length : Int) (wrap64 ((i : Int) + 1)) p n t a da l b db m) else (some false)) else (some false))) (fun k => ?_) ?_
  · simp only [qka.l0]
    rw [if_pos (by omega), if_pos (by omega), if_pos (by omega)]
  · rw [row_at3 L i hi, hw]
    refine Ev.bind hf ?_
    simp only [if_true, hl]
    exact next
section
variable {q : Nat} [NeZero q]
theorem back_tail (hisP : isP (q : Int) = true) (hp : Fld.Pr q) (h2 : 2 < q) (hq : q ≤ 65537) (n d : Nat) (t : Int) (hn : n ≤ 13) (hnq : n < q) (hd : d < n) (A B c : Fin q) (f g : List (Fin q)) (hfA : Fld.ev f 0 = A) (hgB : Fld.ev g 0 = B)
    (hf : (Fld.trim f).length ≤ d + 1) (hg : (Fld.trim (Fld.add f g)).length ≤ d + 1) (hc : (Fld.trim (Fld.smul c f)).length ≤ d + 1) (L : List (List Int)) (da db : Int) (l m : List Int) :
    Ev (fun k => qka.l0 k (nI c) (d : Int) 0 0 (oI (sharesF f n)) (oI (sharesF (Fld.add f g) n)) (oI (sharesF (Fld.smul c f) n)) L (L.length : Int) (L.length : Int) (q : Int) (n : Int) t (nI A) da l (nI B) db m) true := by
  have hw0 : wrap64 ((n : Int) - 1) = (n : Int) - 1 := w64_small (by omega) (by omega)
  have hw : wrap64 (wrap64 ((n : Int) - 1) - (d : Int)) = ((n - 1 - d : Nat) : Int) := by rw [hw0, w64_small (by omega) (by omega)]; omega
  have hx : ∀ i j, i < n → j < n → pt q i = pt q j → i = j := fun i j hi hj h => pt_inj (by omega) (by omega) h
  have hm : n - (n - 1 - d) = d + 1 := by omega
  have hcA : c * A = A * c := by grind
  refine Ev.step (f := fun k => qka.l0 (k + 1) (nI c) (d : Int) 0 0 (oI (sharesF f n)) (oI (sharesF (Fld.add f g) n)) (oI (sharesF (Fld.smul c f) n)) L (L.length : Int) (L.length : Int) (q : Int) (n : Int) t (nI A) da l (nI B) db m) (fun k => rfl) ?_
  simp only [qka.l0, Int.lt_irrefl, if_false, hw]
  refine Ev.bind (points_back hq f n (by omega) hnq) ?_
  simp only [ptsF_length, show (0 : Int) ≤ ((n - 1 - d : Nat) : Int) by omega, show ((n - 1 - d : Nat) : Int) ≤ (n : Int) by omega, if_true, Int.toNat_natCast, pts_drop, hm]
  refine Ev.bind (secret_back hisP hp h2 hq (fun i => pt q (n - 1 - d + i)) f (d + 1) d (fun i j hi hj h => by have := hx _ _ (by omega) (by omega) h; omega) hf (Nat.le_refl _) (by omega)) ?_
  refine Ev.bind (points_back hq (Fld.add f g) n (by omega) hnq) ?_
  refine Ev.bind (secret_back hisP hp h2 hq (pt q) (Fld.add f g) n d hx hg (by omega) (by omega)) ?_
  refine Ev.bind (points_back hq (Fld.smul c f) n (by omega) hnq) ?_
  refine Ev.bind (secret_back hisP hp h2 hq (pt q) (Fld.smul c f) n d hx hc (by omega) (by omega)) ?_
  simp only [hfA, Fld.ev_add, hgB, Fld.ev_smul, hcA, if_true]
  refine Ev.bind (a := nI (A + B)) (by rw [add_fp hq]; exact Ev.now _) ?_
  simp only [if_true]
  refine Ev.bind (a := nI (A * c)) (by rw [mul_fp hq]; exact Ev.now _) ?_
  simp only [if_true]
  exact Ev.bind alive04 (Ev.now _)
theorem back_main (hisP : isP (q : Int) = true) (hp : Fld.Pr q) (h2 : 2 < q) (hq : q ≤ 65537) (n d : Nat) (t db : Int) (h0 : setupV (q : Int) (n : Int) t = 0) (hd : d < n) (A B c : Fin q) (l m : List Int) (hl : l.length ≤ 17592186044415) (hlu : ∀ x ∈ l, 0 ≤ x) (hm : m.length ≤ 17592186044415) (hmu : ∀ x ∈ m, 0 ≤ x) :
    Ev (fun k => qka.j0 k (nI c) false (q : Int) (n : Int) t (nI A) (d : Int) l (nI B) db m) true := by
  have hh := setupV_small h0
  obtain ⟨f, hF⟩ : ∃ f, f = Fld.trim (A :: drawn q l d) := ⟨_, rfl⟩
  obtain ⟨g, hG⟩ : ∃ g, g = Fld.trim (B :: drawn q m d) := ⟨_, rfl⟩
  have hfl : f.length ≤ d + 1 := by
    have := Fld.trim_length_le (A :: drawn q l d)
    rw [List.length_cons, drawn_length] at this
    rw [hF]; exact this
  have hgl : g.length ≤ d + 1 := by
    have := Fld.trim_length_le (B :: drawn q m d)
    rw [List.length_cons, drawn_length] at this
    rw [hG]; exact this
  have hfA : Fld.ev f 0 = A := by
    rw [hF, (Fld.trim_co _).ev 0, Fld.ev_cons]; grind
  have hgB : Fld.ev g 0 = B := by
    rw [hG, (Fld.trim_co _).ev 0, Fld.ev_cons]; grind
  have hf : (Fld.trim f).length ≤ d + 1 := Nat.le_trans (Fld.trim_length_le _) hfl
  have hg : (Fld.trim (Fld.add f g)).length ≤ d + 1 := Nat.le_trans (Fld.trim_length_le _) (by rw [Fld.add_length]; omega)
  have hc : (Fld.trim (Fld.smul c f)).length ≤ d + 1 := Nat.le_trans (Fld.trim_length_le _) (by rw [Fld.smul_length]; omega)
  refine Ev.step (f := fun k => qka.j0 (k + 1) (nI c) false (q : Int) (n : Int) t (nI A) (d : Int) l (nI B) db m) (fun k => rfl) ?_
  simp only [qka.j0, Bool.false_eq_true, if_false]
  have m1 := share_make_ok hq (n : Int) t h0 A d (by omega) l hl hlu
  have m2 := share_make_ok hq (n : Int) t h0 B d (by omega) m hm hmu
  rw [← hF] at m1
  rw [← hG] at m2
  have hsum := share_sum_ok hq t [sharesF f n, sharesF g n] n h0 (by simp only [List.map_cons, List.map_nil, arsV, areV_oI, if_true]) (by simp) (fun x hx => by
    rcases List.mem_cons.1 hx with rfl | hx
    · exact sharesF_length _ _
    · rw [List.mem_singleton.1 hx]; exact sharesF_length _ _)
  rw [sum_two] at hsum
  simp only [List.map_cons, List.map_nil] at hsum
  have hsc := share_scale_ok hq (sharesF f n) c n t (sharesF_length _ _) h0
  rw [scale_one] at hsc
  refine Ev.bind m1 (Ev.bind m2 (Ev.bind (share_shares_ok hq f (by omega) n t h0) (Ev.bind (share_shares_ok hq g (by omega) n t h0) (Ev.bind hsum (Ev.bind hsc ?_)))))
  simp only [Option.bind_some]
  have len : ∀ F : List (Fin q), ((oI (sharesF F n)).length : Int) = (n : Int) := fun F => by rw [oI_length, sharesF_length]
  refine back_round _ _ _ _ _ _ _ _ _ _ _ _ _ _ _ _ [oI (sharesF f n), oI (sharesF (Fld.add f g) n), oI (sharesF (Fld.smul c f) n)] 0 (by simp) (by simp) (fits_back hp h2 hq f n d t h0 hf) (len f) ?_
  refine back_round _ _ _ _ _ _ _ _ _ _ _ _ _ _ _ _ [oI (sharesF f n), oI (sharesF (Fld.add f g) n), oI (sharesF (Fld.smul c f) n)] 1 (by simp) (by simp) (fits_back hp h2 hq (Fld.add f g) n d t h0 hg) (len _) ?_
  refine back_round _ _ _ _ _ _ _ _ _ _ _ _ _ _ _ _ [oI (sharesF f n), oI (sharesF (Fld.add f g) n), oI (sharesF (Fld.smul c f) n)] 2 (by simp) (by simp) (fits_back hp h2 hq (Fld.smul c f) n d t h0 hc) (len _) ?_
  exact back_tail hisP hp h2 hq n d t (by omega) (by omega) hd A B c f g hfA hgB hf hg hc _ _ _ _ _
end
theorem shareBack (x0_0 : Int) (x0_1 : Int) (x0_2 : Int) (x1_0 : Int) (x1_1 : Int) (x1_2 : List Int) (x1_3 : Int) (x1_4 : Int) (x1_5 : List Int) (x2 : Int) (w0_0 : (Lit.int .u64 x0_0).wf = true) (w0_1 : (Lit.int .i64 x0_1).wf = true) (w0_2 : (Lit.int .i64 x0_2).wf = true) (w1_0 : (Lit.int .u64 x1_0).wf = true) (w1_1 : (Lit.int .i64 x1_1).wf = true)
    (w1_2 : x1_2.length ≤ maxLen ∧ x1_2.length * 8 ≤ 140737488351232 ∧ ∀ x1_2' ∈ x1_2, (Lit.int .u64 x1_2').wf = true) (w1_3 : (Lit.int .u64 x1_3).wf = true) (w1_4 : (Lit.int .i64 x1_4).wf = true)
    (w1_5 : x1_5.length ≤ maxLen ∧ x1_5.length * 8 ≤ 140737488351232 ∧ ∀ x1_5' ∈ x1_5, (Lit.int .u64 x1_5').wf = true) (w2 : (Lit.int .u64 x2).wf = true) : ∃ k, qka.f k x0_0 x0_1 x0_2 x1_0 x1_1 x1_2 x1_3 x1_4 x1_5 x2 = some true := by
  suffices h : Ev (fun k => qka.f k x0_0 x0_1 x0_2 x1_0 x1_1 x1_2 x1_3 x1_4 x1_5 x2) true from h.rounds
  have ha := (u64_wf w1_0).1
  have hb := (u64_wf w1_3).1
  have hc := (u64_wf w2).1
  unfold qka.f
  refine Ev.bind (ref_setup _ _ _) ?_
  by_cases h0 : setupV x0_0 x0_1 x0_2 = 0
  · have hh := setupV_small h0
    have hw : wrap64 (x0_1 - 1) = x0_1 - 1 := w64_small (by omega) (by omega)
    simp only [h0, if_true, hw]
    by_cases h1 : x1_0 ≥ x0_0
    · simp only [h1, if_true]; exact back_out04 _ _ _ _ _ _ _ _ _ _
    by_cases h2 : x1_3 ≥ x0_0
    · simp only [h1, h2, if_true, if_false]; exact back_out04 _ _ _ _ _ _ _ _ _ _
    by_cases h3 : x1_1 < 0
    · simp only [h1, h2, h3, if_true, if_false]; exact back_out04 _ _ _ _ _ _ _ _ _ _
    by_cases h4 : x1_1 > x0_1 - 1
    · simp only [h1, h2, h3, h4, if_true, if_false]; exact back_out04 _ _ _ _ _ _ _ _ _ _
    by_cases h5 : x2 ≥ x0_0
    · simp only [h1, h2, h3, h4, if_false, decide_eq_true h5]; exact back_out04 _ _ _ _ _ _ _ _ _ _
    simp only [h1, h2, h3, h4, if_false, decide_eq_false h5]
    have hp1 := (setupV_ok h0).1
    obtain ⟨q, rfl⟩ : ∃ q : Nat, x0_0 = (q : Int) := ⟨x0_0.toNat, by omega⟩
    have hz : NeZero q := ⟨by omega⟩
    obtain ⟨n, rfl⟩ : ∃ n : Nat, x0_1 = (n : Int) := ⟨x0_1.toNat, by omega⟩
    obtain ⟨d, rfl⟩ : ∃ d : Nat, x1_1 = (d : Int) := ⟨x1_1.toNat, by omega⟩
    obtain ⟨A, rfl⟩ := nI_of (q := q) ha (by omega)
    obtain ⟨B, rfl⟩ := nI_of (q := q) hb (by omega)
    obtain ⟨c, rfl⟩ := nI_of (q := q) hc (by omega)
    exact back_main hp1 (pr_of_isP hp1) (by omega) (by omega) n d x0_2 _ h0 (by omega) A B c _ _ (by have := w1_2.2.1; omega) (fun c hc => (u64_wf (w1_2.2.2 c hc)).1) (by have := w1_5.2.1; omega) (fun c hc => (u64_wf (w1_5.2.2 c hc)).1)
  · simp only [h0, if_false]; exact back_out04 _ _ _ _ _ _ _ _ _ _
end Go.Proofs.Ytjjnfobeeflnhaa.L
/- The row of ShareBack: for every input the call returns true and changes nothing; no conditions. Out of the contract of the function and the plain law. -/
namespace Go.Proofs.Ytjjnfobeeflnhaa.shareBack
open Go.ChangeShapes Go.WideShapes Go.ChangeAt Go.RowKit Go.Proofs.YtjjnfobeeflnhaaW.PrintWords Go.Proofs.Ytjjnfobeeflnhaa.J Go.Proofs.Ytjjnfobeeflnhaa.Op
theorem own : ownKnob Try.prog.godebug = none := by kernel_rfl
theorem laidOut : laidOutB Try.prog = true := by kernel_rfl
theorem op0 : Opens Try.prog (Kd.pair (Kd.int .u64) (Kd.pair (Kd.int .i64) (Kd.int .i64))) 24 (fun x => (fun n => (Lit.int .u64 n).wf = true) x.1 ∧ (fun x => (fun n => (Lit.int .i64 n).wf = true) x.1 ∧ (fun n => (Lit.int .i64 n).wf = true) x.2) x.2) := (op_agg Try.underlying24 (opL_cons (by kernel_rfl) (by kernel_rfl) (op_int Try.underlying22) (by kernel_rfl) (opL_cons (by kernel_rfl) (by kernel_rfl) (op_int Try.underlying3) (by kernel_rfl) (opL_one (by kernel_rfl) (by kernel_rfl) (op_int Try.underlying3)))))
theorem op1 : Opens Try.prog (Kd.pair (Kd.pair (Kd.int .u64) (Kd.pair (Kd.int .i64) (Kd.slice 22 (Kd.int .u64)))) (Kd.pair (Kd.int .u64) (Kd.pair (Kd.int .i64) (Kd.slice 22 (Kd.int .u64))))) 133 (fun x => (fun x => (fun n => (Lit.int .u64 n).wf = true) x.1 ∧ (fun x => (fun n => (Lit.int .i64 n).wf = true) x.1 ∧ (fun l => l.length ≤ maxLen ∧ l.length * 8 ≤ 140737488351232 ∧ ∀ a ∈ l, (fun n => (Lit.int .u64 n).wf = true) a) x.2) x.2) x.1 ∧ (fun x => (fun n => (Lit.int .u64 n).wf = true) x.1 ∧ (fun x => (fun n => (Lit.int .i64 n).wf = true) x.1 ∧ (fun l => l.length ≤ maxLen ∧ l.length * 8 ≤ 140737488351232 ∧ ∀ a ∈ l, (fun n => (Lit.int .u64 n).wf = true) a) x.2) x.2) x.2) := (op_array2 Try.underlying133 (by kernel_rfl) (op_agg Try.underlying67 (opL_cons (by kernel_rfl) (by kernel_rfl) (op_int Try.underlying22) (by kernel_rfl) (opL_cons (by kernel_rfl) (by kernel_rfl) (op_int Try.underlying3) (by kernel_rfl) (opL_one (by kernel_rfl) (by kernel_rfl) (op_slice Try.underlying31 (by kernel_rfl) (by kernel_rfl) (op_int Try.underlying22)))))))
theorem op2 : Opens Try.prog (Kd.int .u64) 22 (fun n => (Lit.int .u64 n).wf = true) := (op_int Try.underlying22)
theorem lifted (os : Os) (started : os.Started) (H : Type) (enc : TypeId × Value → H) :
    ReturnsInHanded {} Try.checked os 35 .any (Rows.shareBackSpec.pre6 enc Try.prog Try.f35 Rows.shareBackRow.domain false) (Rows.shareBackSpec.post enc Try.prog Try.f35 false true false false) := by
  refine returnsInHanded_of_change_sized (C := Try.checked) own started (by kernel_rfl) Try.func35
    (ChangeSpec.witness6 (enc := enc) (C := Try.checked) false ⟨#[], #[.agg #[.int .u64 0, .int .i64 0, .int .i64 0], .agg #[.int .u64 0, .int .i64 0, .slice none 0 0, .int .u64 0, .int .i64 0, .slice none 0 0], .int .u64 0], []⟩ 8 (by kernel_rfl) (by kernel_rfl) (by kernel_rfl) (by kernel_rfl)) ?_
  intro W base args ds gs before hval0 hW hcnd hsz0 _
  have hsz : (DataW.weightsEach Try.prog (Try.f35.params.toList ++ Rows.shareBackSpec.plain.varTypes Try.prog) (ds ++ gs)).all (· ≤ reachBytes) = true := hsz0
  have hval : ∀ (j : Nat) t v, Try.f35.params[j]? = some t → args[j]? = some v → Value.okWide Try.prog W .any base t v := hval0
  have hW' := hW
  obtain ⟨p, q, hA0, hV, rfl, hfz, hnd⟩ := hW
  have hA : DataW.TrodAll enc Try.prog W 0 (fun _ => true) true Try.f35.params.toList args.toList ds p := hA0
  rw [Try.params35] at hA hval hsz
  obtain ⟨v0, vs0, d0, ds0, p0, q0, hargs, rfl, rfl, h0, r0⟩ := trodAll_cons hA
  obtain ⟨v1, vs1, d1, ds1, p1, q1, rfl, rfl, rfl, h1, r1⟩ := trodAll_cons r0
  obtain ⟨v2, vs2, d2, ds2, p2, q2, rfl, rfl, rfl, h2, r2⟩ := trodAll_cons r1
  obtain ⟨rfl, rfl, rfl⟩ := trodAll_nil r2
  obtain rfl : args = #[v0, v1, v2] := by cases args; simp_all
  obtain ⟨rfl, rfl⟩ := trodVars_none hV
  have k0 := h0
  have lt0 : ∀ x ∈ p0, x.block < W.heap.size := by obtain ⟨m, hm⟩ := k0; exact DataW.trod_lt m _ _ _ hm
  obtain ⟨cs0, rfl, hn0⟩ := okWide_agg Try.underlying24 (hval 0 24 v0 rfl rfl)
  obtain ⟨⟨x0_0, x0_1, x0_2⟩, K0, ⟨w0_0, w0_1, w0_2⟩⟩ := arg op0 (by show cs0.toList.length = _; rw [Array.length_toList, hn0]; kernel_rfl) h0 hsz (j := 0) rfl rfl
  obtain ⟨g0_0, rg0_0, qg0_0, l0_0, M0_0⟩ := K0
  have l0_0' : g0_0 = [Value.int .u64 x0_0] := l0_0
  obtain ⟨g0_1, rg0_1, qg0_1, l0_1, M0_1⟩ := M0_0
  have l0_1' : g0_1 = [Value.int .i64 x0_1] := l0_1
  have M0_1' : rg0_1 = [Value.int .i64 x0_2] := M0_1
  obtain rfl : cs0 = #[.int .u64 x0_0, .int .i64 x0_1, .int .i64 x0_2] := by
    apply Array.toList_inj.1
    have z0 : cs0.toList = _ := qg0_0
    rw [z0, l0_0', qg0_1, l0_1', M0_1']
    rfl
  have k1 := h1
  have lt1 : ∀ x ∈ p1, x.block < W.heap.size := by obtain ⟨m, hm⟩ := k1; exact DataW.trod_lt m _ _ _ hm
  obtain ⟨cs1, rfl, hn1⟩ := okWide_arr Try.underlying133 (hval 1 133 v1 rfl rfl)
  obtain ⟨⟨⟨x1_0, x1_1, x1_2⟩, ⟨x1_3, x1_4, x1_5⟩⟩, K1, ⟨⟨w1_0, w1_1, w1_2⟩, ⟨w1_3, w1_4, w1_5⟩⟩⟩ := arg op1 (by show cs1.toList.length = _; rw [Array.length_toList, hn1]; kernel_rfl) h1 hsz (j := 1) rfl rfl
  obtain ⟨g1_0, rg1_0, qg1_0, l1_0, M1_0⟩ := K1
  obtain ⟨g1_1, rg1_1, qg1_1, l1_1, M1_1⟩ := l1_0
  have l1_1' : g1_1 = [Value.int .u64 x1_0] := l1_1
  obtain ⟨g1_2, rg1_2, qg1_2, l1_2, M1_2⟩ := M1_1
  have l1_2' : g1_2 = [Value.int .i64 x1_1] := l1_2
  obtain ⟨A1_2, c1_2, M1_2', hc1_2, hr1_2⟩ := M1_2
  obtain ⟨g1_3, rg1_3, qg1_3, l1_3, M1_3⟩ := M1_0
  have l1_3' : g1_3 = [Value.int .u64 x1_3] := l1_3
  obtain ⟨g1_4, rg1_4, qg1_4, l1_4, M1_4⟩ := M1_3
  have l1_4' : g1_4 = [Value.int .i64 x1_4] := l1_4
  obtain ⟨A1_5, c1_5, M1_4', hc1_5, hr1_5⟩ := M1_4
  obtain rfl : cs1 = #[.int .u64 x1_0, .int .i64 x1_1, .slice A1_2 x1_2.length c1_2, .int .u64 x1_3, .int .i64 x1_4, .slice A1_5 x1_5.length c1_5] := by
    apply Array.toList_inj.1
    have z1 : cs1.toList = _ := qg1_0
    rw [z1, qg1_1, l1_1', qg1_2, l1_2', M1_2', qg1_3, l1_3', qg1_4, l1_4', M1_4']
    rfl
  have k2 := h2
  have lt2 : ∀ x ∈ p2, x.block < W.heap.size := by obtain ⟨m, hm⟩ := k2; exact DataW.trod_lt m _ _ _ hm
  obtain ⟨x2, rfl⟩ := okWide_int Try.underlying22 (hval 2 22 v2 rfl rfl)
  obtain ⟨y2, e2, w2⟩ := arg op2 rfl h2 hsz (j := 2) rfl rfl
  have e2' : [Value.int .u64 x2] = [Value.int .u64 y2] := e2
  obtain rfl : x2 = y2 := by simpa using e2'
  clear hA0 hval0 hsz0 hsz
  obtain ⟨k, h⟩ := L.shareBack x0_0 x0_1 x0_2 x1_0 x1_1 x1_2 x1_3 x1_4 x1_5 x2 w0_0 w0_1 w0_2 w1_0 w1_1 w1_2 w1_3 w1_4 w1_5 w2
  refine (qka.calls k x0_0 x0_1 x0_2 x1_0 x1_1 _ _ x1_2 x1_3 x1_4 _ _ x1_5 x2 true W hr1_2 hc1_2 hr1_5 hc1_5 h).mono fun e W' ⟨he, bel⟩ => ?_
  subst he
  exact ⟨_, rfl, _, _, _, [], _, [], hW', trodAll_mk1 (shut_bool Try.underlying4 _), (trodAll_cons_mk (Below.trod laidOut (by kernel_rfl) (of_decide_eq_true (by kernel_rfl)) k0 bel lt0) (trodAll_cons_mk (Below.trod laidOut (by kernel_rfl) (of_decide_eq_true (by kernel_rfl)) k1 bel lt1) (trodAll_cons_mk (Below.trod laidOut (by kernel_rfl) (of_decide_eq_true (by kernel_rfl)) k2 bel lt2) trodAll_mk0))), rfl, bel.frame _, fun h => by cases h⟩
theorem closed : joinedFacts Try.pinned.checked.prog 35 Try.f35 Rows.shareBackSpec Rows.shareBackRow = true := by
  unfold joinedFacts
  repeat' with_reducible refine Bool.and_eq_true_iff.2 ⟨?_, ?_⟩
  all_goals first
    | with_reducible exact Facts.enters
    | (rw [Facts.final]; kernel_rfl)
    | (rw [Facts.made]; kernel_rfl)
    | kernel_rfl
theorem over : Rows.shareBackRow.holds Try.pinned (OpenSpec.ofChange Rows.shareBackSpec) :=
  OpenClaim.holds_of_wide 35 Try.f35 rfl rfl rfl rfl rfl rfl rfl ⟨rfl, rfl, rfl, rfl, rfl⟩ rfl rfl rfl rfl rfl (by kernel_rfl) Try.func35 closed
    (of_decide_eq_true (by kernel_rfl)) (by unfold Func.isWrapper; first | (rw [if_pos (by decide +kernel)]; kernel_rfl) | (rw [if_neg (by decide +kernel)]; exact ⟨rfl, rfl⟩))
    (fun os started H enc _ => lifted os started H enc)
theorem proved : Rows.ShareBackSaid := over
#print axioms proved
end Go.Proofs.Ytjjnfobeeflnhaa.shareBack
namespace Go.Proofs.Ytjjnfobeeflnhaa
theorem shareBack_holds : Rows.ShareBackSaid := shareBack.proved
end Go.Proofs.Ytjjnfobeeflnhaa
