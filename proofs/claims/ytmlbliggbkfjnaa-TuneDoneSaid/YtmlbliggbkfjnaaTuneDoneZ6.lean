/- Part 6 of the proof of TuneDone: what the functions compute as plain Lean functions, that the machine comes to just these answers, and that the answer is true; no conditions. -/
import Derived.Test.YtmlbliggbkfjnaaTuneDoneZ0
import Derived.Test.YtmlbliggbkfjnaaTuneDoneZ1
import Derived.Test.YtmlbliggbkfjnaaTuneDoneZ2
import Derived.Test.YtmlbliggbkfjnaaTuneDoneZ3
import Derived.Test.YtmlbliggbkfjnaaTuneDoneZ4
import Derived.Test.YtmlbliggbkfjnaaTuneDoneZ5
import Derived.Test.YtmlbliggbkfjnaaRows
import Derived.WalkKit
import Derived.ProofKit
import Derived.OpenShut
import Derived.ShutString
import Derived.ChangeOld
import Derived.Below
import Derived.SizedLaws
set_option linter.unusedSimpArgs false
set_option linter.unusedVariables false
set_option maxRecDepth 100000
/- Both ways to leave out gates that nobody asks for answer alike, and what they answer. -/
namespace Go.Proofs.Ytmlbliggbkfjnaa.L
open Go.RowKit Go.Proofs.YtmlbliggbkfjnaaW.PrintWords Go.Proofs.Ytmlbliggbkfjnaa.J
def markG (a : List Bool) (l : List Int) : List Bool := l.foldl (fun a y => a.set y.toNat true) a
def markX (a : List Bool) (x : List S66) : List Bool := x.foldl (fun a e => markG a e.f1) a
theorem markG_len (l : List Int) : ∀ a, (markG a l).length = a.length := by
  unfold markG
  induction l with
  | nil => intro a; rfl
  | cons y l ih => intro a; rw [List.foldl_cons, ih, List.length_set]
theorem markX_len (x : List S66) : ∀ a, (markX a x).length = a.length := by
  unfold markX
  induction x with
  | nil => intro a; rfl
  | cons e x ih => intro a; rw [List.foldl_cons, ih, markG_len]
theorem markG_iff (l : List Int) : ∀ (a : List Bool), (∀ y ∈ l, 0 ≤ y ∧ y < a.length) → ∀ i : Int, 0 ≤ i → (atB (markG a l) i = true ↔ atB a i = true ∨ i ∈ l) := by
  unfold markG
  induction l with
  | nil => intro a _ i _; simp
  | cons y l ih =>
    intro a h i i0;have hy := h y (List.mem_cons_self ..);rw [List.foldl_cons, ih _ (fun z hz => by rw [List.length_set]; exact h z (List.mem_cons_of_mem _ hz)) i i0, atB_set hy.1 hy.2 i0, List.mem_cons]
    constructor
    · rintro ((q | q) | q)
      · exact .inl q
      · exact .inr (.inl q)
      · exact .inr (.inr q)
    · rintro (q | q | q)
      · exact .inl (.inl q)
      · exact .inl (.inr q)
      · exact .inr q
theorem markX_iff (x : List S66) : ∀ (a : List Bool), (∀ e ∈ x, ∀ y ∈ e.f1, 0 ≤ y ∧ y < a.length) → ∀ i : Int, 0 ≤ i → (atB (markX a x) i = true ↔ atB a i = true ∨ ∃ e ∈ x, i ∈ e.f1) := by
  unfold markX
  induction x with
  | nil => intro a _ i _; simp
  | cons e x ih =>
    intro a h i i0;rw [List.foldl_cons, ih _ (fun z hz => by rw [markG_len]; exact h z (List.mem_cons_of_mem _ hz)) i i0, markG_iff e.f1 a (h e (List.mem_cons_self ..)) i i0]
    constructor
    · rintro ((q | q) | ⟨z, q1, q2⟩)
      · exact .inl q
      · exact .inr ⟨e, List.mem_cons_self .., q⟩
      · exact .inr ⟨z, List.mem_cons_of_mem _ q1, q2⟩
    · rintro (q | ⟨z, q1, q2⟩)
      · exact .inl (.inl q)
      · rcases List.mem_cons.1 q1 with rfl | q1
        · exact .inl (.inr q2)
        · exact .inr ⟨z, q1, q2⟩
theorem atB_none (n : Nat) (i : Int) : atB (List.replicate n false) i = false := by
  unfold atB;rw [List.getD_eq_getElem?_getD, List.getElem?_replicate]
  split <;> rfl
def asked (g : List S61) (x : List S66) : List Bool := mkM g g.length (markX (List.replicate g.length false) x)
def named (x : List S66) (i : Int) : Prop := ∃ e ∈ x, i ∈ e.f1
theorem named_lt {p : Int} {s : List S64} {g : List S61} {x : List S66} (G : Good p s g x) (i : Int) (h : named x i) : 0 ≤ i ∧ i < g.length := by
  obtain ⟨e, he, hi⟩ := h;exact (exitV_zero (G.exits e he)).2.2 i hi
theorem asked_len (g : List S61) (x : List S66) : (asked g x).length = g.length := by
  unfold asked; rw [mkM_len, markX_len, List.length_replicate]
theorem asked_live {p : Int} {s : List S64} {g : List S61} {x : List S66} (G : Good p s g x) (i : Int) (i0 : 0 ≤ i) : atB (asked g x) i = true ↔ Live g (named x) i := by
  have hm := markX_iff x (List.replicate g.length false) (fun e he y hy => by rw [List.length_replicate]; exact (exitV_zero (G.exits e he)).2.2 y hy);refine mkM_live G.gates (named_lt G) g.length _ (Nat.le_refl _) (by rw [markX_len, List.length_replicate]) (fun y y0 hy => ?_) (fun y hy => ?_) (fun i i0 i1 => by omega) i i0
  · rcases (hm y y0).1 hy with q | q
    · rw [atB_none] at q; cases q
    · exact .base y q
  · exact (hm y (named_lt G y hy).1).2 (.inr hy)
theorem asked_closed {p : Int} {s : List S64} {g : List S61} {x : List S66} (G : Good p s g x) : ∀ i : Int, 0 ≤ i → i < g.length → atB (asked g x) i = true → ∀ y, uses (atG g i) y → atB (asked g x) y = true := fun i i0 i1 hi y hu =>
  (asked_live G y (uses_lt (okL_at G.gates i0 i1) hu).1).2 (.use i y ((asked_live G i i0).1 hi) i0 i1 hu)
theorem asked_named {p : Int} {s : List S64} {g : List S61} {x : List S66} (G : Good p s g x) {e : S66} (he : e ∈ x) {y : Int} (hy : y ∈ e.f1) : atB (asked g x) y = true := by
  have hv := (exitV_zero (G.exits e he)).2.2 y hy;exact (asked_live G y hv.1).2 (.base y ⟨e, he, hy⟩)
theorem tune_marks {p : Int} {s : List S64} {g : List S61} {x : List S66} (G : Good p s g x) {r : (List S64) × (List S61) × (List S66) × Int}
    (h : Ev (fun k => (tune_Prune.mark (markX (List.replicate g.length false) x) g).bind fun ab => ((tune_moved.f (tune_Prune.st ab) some k s g x).bind fun aa => (some (aa.1, aa.2.1, aa.2.2, 0)))) r) :
    Ev (fun k => tune_Prune.l0 k x (x.length : Int) 0 s g x (List.replicate g.length false)) r := by
  have hx := G.lx
  refine up0 (g := fun k i => tune_Prune.l0 k x (x.length : Int) (i : Int) s g x (markX (List.replicate g.length false) (x.take i))) (R := fun _ => r) (n := x.length) ?_ fun i hi h => ?_
  · rw [List.take_length]
    refine Ev.step (fun k => ?_) h;simp only [tune_Prune.l0];rw [if_neg (by omega)]
  · have he := (G.exit _ (List.getElem_mem hi)).2
    have hy := (exitV_zero (G.exits _ (List.getElem_mem hi))).2.2
    have hm : markX (List.replicate g.length false) (x.take (i + 1)) = markG (markX (List.replicate g.length false) (x.take i)) x[i].f1 := by
      rw [← take_more x hi]; unfold markX; rw [List.foldl_append]; rfl
    rw [hm] at h
    have hml : (markX (List.replicate g.length false) (x.take i)).length = g.length := by rw [markX_len, List.length_replicate]
    generalize markX (List.replicate g.length false) (x.take i) = a at *;refine Ev.step (f := fun k => tune_Prune.l1 k x (x.length : Int) (i : Int) x[i].f1 (x[i].f1.length : Int) 0 s g x a) (fun k => ?_) ?_
    · simp only [tune_Prune.l0]
      rw [if_pos (by omega), if_pos (by omega), if_pos (by omega), rdX_at hi]
    · refine up0 (g := fun k j => tune_Prune.l1 k x (x.length : Int) (i : Int) x[i].f1 (x[i].f1.length : Int) (j : Int) s g x (markG a (x[i].f1.take j))) (R := fun _ => r) (n := x[i].f1.length) ?_ fun j hj h' => ?_
      · rw [List.take_length]
        refine Ev.step (f := fun k => tune_Prune.l0 k x (x.length : Int) ((i + 1 : Nat) : Int) s g x (markG a x[i].f1)) (fun k => ?_) h;simp only [tune_Prune.l1];rw [if_neg (by omega), wadd (by omega)]
      · have hv := hy _ (List.getElem_mem hj)
        have hr : rd x[i].f1 (j : Int) = x[i].f1[j] := by simp [rd, List.getD_eq_getElem?_getD, hj]
        have hl : ((markG a (x[i].f1.take j)).length : Int) = g.length := by rw [markG_len]; omega
        have hm2 : (markG a (x[i].f1.take j)).set (x[i].f1[j]).toNat true = markG a (x[i].f1.take (j + 1)) := by
          rw [← take_more x[i].f1 hj]; unfold markG; rw [List.foldl_append]; rfl
        refine Ev.step (f := fun k => tune_Prune.l1 k x (x.length : Int) (i : Int) x[i].f1 (x[i].f1.length : Int) ((j + 1 : Nat) : Int) s g x (markG a (x[i].f1.take (j + 1)))) (fun k => ?_) h';simp only [tune_Prune.l1];rw [if_pos (by omega), if_pos (by omega), if_pos (by omega), hr, if_pos hv.1, if_pos (by omega), wadd (by omega), hm2]
theorem mk_step (g : List S61) (a : List Bool) (i : Nat) : tune_Prune.step g a i = mkStep g a i := rfl
theorem mk_fold (g : List S61) : ∀ (m : Nat) (a : List Bool), m ≤ g.length → ((List.range m).reverse).foldl (fun a z => tune_Prune.step g a (min z (g.length - 1))) a = mkM g m a
  | 0, a, _ => rfl
  | m + 1, a, h => by
    rw [List.range_succ, List.reverse_append]
    show ((List.range m).reverse).foldl _ (tune_Prune.step g a (min m (g.length - 1))) = _
    rw [show min m (g.length - 1) = m by omega, mk_fold g m _ (by omega), mk_step]
    rfl
theorem range_back (n : Nat) : (List.range n).map (fun k => n - 1 - k) = (List.range n).reverse := by
  apply List.ext_getElem
  · simp
  · intro i h1 h2
    simp at h1;simp [List.getElem_reverse]
theorem mark_at {p s : Int} {g : List S61} (h : okL p s g) (a : List Bool) (ha : a.length = g.length) : tune_Prune.mark a g = some (mkM g g.length a) := by
  unfold tune_Prune.mark
  have hk : tune_Prune.okG g = true := by
    unfold tune_Prune.okG;rw [List.all_eq_true];intro y hy;obtain ⟨i, hi, rfl⟩ := List.getElem_of_mem hy;have hg := okG_nth h hi;rw [decide_eq_true_iff];unfold okG at hg
    omega
  rw [if_pos ⟨ha, hk⟩, range_back, mk_fold g g.length a (Nat.le_refl _)]
theorem tune_prune {p : Int} {s : List S64} {g : List S61} {x : List S66} (G : Good p s g x) : Ev (fun k => tune_Prune.f k p s g x) (s, (prL (asked g x) g).1, mapX (atI (prL (asked g x) g).2) x, 0) := by
  unfold tune_Prune.f;have hlg := G.lg;have hlx := G.exit;refine Ev.bind (circ_check p s g x fun e he => by have := (hlx e he).1; simp only [maxLen]; omega) ?_;rw [G.check];simp only [if_true, if_pos (show 0 ≤ (g.length : Int) by omega), Int.toNat_natCast, if_pos (show g.length ≤ 281474976710656 by omega)];refine tune_marks G ?_;rw [mark_at G.gates _ (by rw [markX_len, List.length_replicate])];simp only [Option.bind_some];have hl := asked_len g x;unfold asked at hl;have mv := tune_moved_at G (tune_Prune.st (asked g x)) some (atB (asked g x)) (fun y => y) (fun i a b c d i0 i1 => by unfold tune_Prune.st; rw [if_pos ⟨i0, by rw [asked_len]; exact i1⟩]; rfl) (fun y y0 y1 => ⟨rfl, y0, y1⟩);exact Ev.bind mv (Ev.now _)
theorem prL_few (a : List Bool) (gs : List S61) : (prL a gs).1.length ≤ gs.length := mvL_few _ _ gs
theorem Good.pruned {p : Int} {s : List S64} {g : List S61} {x : List S66} (G : Good p s g x) : Good p s (prL (asked g x) g).1 (mapX (atI (prL (asked g x) g).2) x) := by
  have h := prL_shr g G.gates (asked_closed G)
  exact G.other h.ok (prL_few _ g) fun e he y hy => by
    have hv := (exitV_zero (G.exits e he)).2.2 y hy;exact h.rng y hv.1 hv.2 (asked_named G he hy)
end Go.Proofs.Ytmlbliggbkfjnaa.L
/- Both ways to tell the levels of gates answer alike, and what they answer; rows of numbers compared; the chapter's example. -/
namespace Go.Proofs.Ytmlbliggbkfjnaa.L
open Go.RowKit Go.Proofs.YtmlbliggbkfjnaaW.PrintWords Go.Proofs.Ytmlbliggbkfjnaa.J
theorem ints_same (l : List Int) (hl : l.length ≤ maxLen) : Ev (fun k => qga.f k l l) true := by
  have hm : l.length ≤ 9223372036854775807 := by simp only [maxLen] at hl; omega
  unfold qga.f;simp only [if_true]
  refine up0 (g := fun k i => qga.l0 k l l (l.length : Int) (i : Int)) (R := fun _ => true) (n := l.length) ?_ fun i hi h => ?_
  · refine Ev.fuel 1 fun k => ?_
    simp only [qga.l0];rw [if_neg (by omega)]
  · refine Ev.step (f := fun k => qga.l0 k l l (l.length : Int) ((i + 1 : Nat) : Int)) (fun k => ?_) h
    simp only [qga.l0];rw [if_pos (by omega), if_pos (by omega), if_pos (by omega), if_pos (by omega), if_pos trivial, wadd (by omega)]
def lev (v : List Int) (g : S61) : Int :=
  if g.f0 = 3 ∨ g.f0 = 4 then mx (atI v g.f1) (atI v g.f2) else if g.f0 = 5 then mx (atI v g.f1) (atI v g.f2) + 1 else if g.f0 = 6 then atI v g.f1 else 0
def levs (l : List S61) : List Int := snocs lev [] l
def badG (i : Nat) (g : S61) : Bool := decide ((g.f0 = 3 ∨ g.f0 = 4 ∨ g.f0 = 5 ∨ g.f0 = 6) ∧ (g.f1 < 0 ∨ g.f1 ≥ i)) || decide ((g.f0 = 3 ∨ g.f0 = 4 ∨ g.f0 = 5) ∧ (g.f2 < 0 ∨ g.f2 ≥ i))
def anyB : Nat → List S61 → Bool
  | _, [] => false
  | i, g :: gs => badG i g || anyB (i + 1) gs
def levR (g : List S61) : List Int := if anyB 0 g = true then [] else levs g
theorem levs_len (l : List S61) : (levs l).length = l.length := by simp [levs, snocs_len]
theorem levs_more (l : List S61) {i : Nat} (h : i < l.length) : levs (l.take (i + 1)) = levs (l.take i) ++ [lev (levs (l.take i)) l[i]] := by
  rw [← take_more l h]; exact snocs_snoc _ _ _ _
theorem mx_le {a b n : Int} (ha : 0 ≤ a ∧ a ≤ n) (hb : 0 ≤ b ∧ b ≤ n) : 0 ≤ mx a b ∧ mx a b ≤ n := by
  unfold mx; split <;> omega
theorem atI_le {v : List Int} {n : Int} (hn : 0 ≤ n) (h : ∀ x ∈ v, 0 ≤ x ∧ x ≤ n) (i : Int) : 0 ≤ atI v i ∧ atI v i ≤ n := by
  unfold atI;rw [List.getD_eq_getElem?_getD]
  cases e : v[i.toNat]? with
  | none => simpa using hn
  | some x => simpa using h x (List.mem_of_getElem? e)
theorem levs_le (l : List S61) : ∀ x ∈ levs l, 0 ≤ x ∧ x ≤ l.length := by
  refine snoc_ind (P := fun l => ∀ x ∈ levs l, 0 ≤ x ∧ x ≤ l.length) (fun x hx => by cases hx) (fun l g ih x hx => ?_) l;have e : levs (l ++ [g]) = levs l ++ [lev (levs l) g] := snocs_snoc _ _ _ _;rw [e, List.mem_append] at hx;simp only [List.length_append, List.length_cons, List.length_nil]
  rcases hx with hx | hx
  · have := ih x hx; omega
  · obtain rfl := List.mem_singleton.1 hx
    have h1 := atI_le (by omega) ih g.f1;have h2 := atI_le (by omega) ih g.f2;have h3 := mx_le h1 h2;unfold lev
    split
    · omega
    split
    · omega
    split <;> omega
theorem rd_left {D R : List Int} {i : Int} (h0 : 0 ≤ i) (h1 : i < D.length) : rd (D ++ R) i = atI D i := atI_left h1 h0
theorem tune_levels (s : List S64) (g : List S61) (x : List S66) (hl : g.length ≤ 4398046511104) : Ev (fun k => tune_Levels.f k s g x) (levR g) := by
  unfold tune_Levels.f;simp only [if_pos (show 0 ≤ (g.length : Int) by omega), Int.toNat_natCast, if_pos (show g.length ≤ 35184372088832 by omega)]
  refine up0 (g := fun k i => tune_Levels.l0 k (levs (g.take i) ++ List.replicate (g.length - i) 0) g (g.length : Int) (i : Int)) (R := fun i => if anyB i (g.drop i) = true then [] else levs g) (n := g.length) ?_ fun i hi h => ?_
  · rw [List.take_length, Nat.sub_self, List.drop_of_length_le (Nat.le_refl _)]
    refine Ev.fuel 1 fun k => ?_
    simp only [tune_Levels.l0];rw [if_neg (by omega)];simp [anyB]
  · have hD : (levs (g.take i)).length = i := by rw [levs_len, List.length_take]; omega
    have hb := levs_le (g.take i);rw [levs_more g hi] at h;rw [List.drop_eq_getElem_cons hi, show g.length - i = (g.length - (i + 1)) + 1 by omega, List.replicate_succ];have hg : rd_T61 g (i : Int) = g[i] := rdG_get hi;generalize g[i] = y at *;generalize levs (g.take i) = D at *;generalize List.replicate (g.length - (i + 1)) (0 : Int) = R at *
    have hl' : ((D ++ 0 :: R).length : Int) > i := by simp; omega
    have hset : ∀ v : Int, (D ++ 0 :: R).set i v = D ++ v :: R := fun v => by
      have := set_mid D 0 v R; rw [hD] at this; exact this
    have hlen : (g.take i).length = i := by rw [List.length_take]; omega
    rw [hlen] at hb;have n1 := atI_le (by omega) hb y.f1;have n2 := atI_le (by omega) hb y.f2;have n3 := mx_le n1 n2
    by_cases hbad : badG i y = true
    · rw [show anyB i (y :: g.drop (i + 1)) = true by simp [anyB, hbad], if_pos rfl]
      refine Ev.fuel 4 fun k => ?_
      obtain ⟨a, b, c, d⟩ := y;unfold badG at hbad;simp only at hbad n1 n2 n3
      by_cases h3 : a = 3 ∨ a = 4 ∨ a = 5
      · have e : tune_Levels.l0 (k + 4) (D ++ 0 :: R) g (g.length : Int) (i : Int) = tune_Levels.j1 (k + 3) (D ++ 0 :: R) (i : Int) true g (g.length : Int) (i : Int) a b c d := by
          simp only [tune_Levels.l0];rw [if_pos (by omega), if_pos (by omega), if_pos (by omega), hg]
          rcases h3 with rfl | rfl | rfl <;> simp
        rw [e]
        have hq : b < 0 ∨ b ≥ i ∨ c < 0 ∨ c ≥ i := by simp [h3] at hbad; omega
        simp only [tune_Levels.j1, tune_Levels.j2]
        by_cases q1 : b < 0
        · simp [q1]
        by_cases q2 : b ≥ i
        · simp [q1, q2]
        by_cases q3 : c < 0
        · simp [q1, q2, q3]
        · have q4 : c ≥ i := by omega
          simp [q1, q2, q3, q4]
      · have h6 : a = 6 := by simp [h3] at hbad; omega
        subst h6
        have hq : b < 0 ∨ b ≥ i := by simp at hbad; omega
        simp only [tune_Levels.l0];rw [if_pos (by omega), if_pos (by omega), if_pos (by omega), hg];simp only [tune_Levels.j1, tune_Levels.j2]
        by_cases q1 : b < 0
        · simp [q1]
        · have q2 : b ≥ i := by omega
          simp [q1, q2]
    · rw [Bool.not_eq_true] at hbad
      rw [show anyB i (y :: g.drop (i + 1)) = anyB (i + 1) (g.drop (i + 1)) by simp [anyB, hbad]];rw [List.append_assoc] at h;refine Ev.steps (f := fun k => tune_Levels.l0 k (D ++ lev D y :: R) g (g.length : Int) ((i + 1 : Nat) : Int)) 3 (fun k => ?_) h
      have hL : (i : Int) < ((D ++ 0 :: R).length : Int) := by omega
      have rdl : ∀ z : Int, 0 ≤ z → z < i → rd (D ++ 0 :: R) z = atI D z := fun z z0 z1 => rd_left z0 (by omega)
      obtain ⟨a, b, c, d⟩ := y;unfold badG at hbad;simp only at hbad n1 n2 n3;rw [Bool.or_eq_false_iff, decide_eq_false_iff_not, decide_eq_false_iff_not] at hbad;simp only [tune_Levels.l0];rw [if_pos (by omega), if_pos (by omega), if_pos (by omega), hg]
      by_cases h3 : a = 3 ∨ a = 4 ∨ a = 5
      · have b0 : 0 ≤ b ∧ b < i ∧ 0 ≤ c ∧ c < i := by omega
        have w1 : wrap64 (mx (atI D b) (atI D c) + 1) = mx (atI D b) (atI D c) + 1 := w64_small (by omega) (by omega)
        have e : (if a = 3 then tune_Levels.j1 (k + 2) (D ++ 0 :: R) (i : Int) true g (g.length : Int) (i : Int) a b c d else if a = 4 then tune_Levels.j1 (k + 2) (D ++ 0 :: R) (i : Int) true g (g.length : Int) (i : Int) a b c d else tune_Levels.j1 (k + 2) (D ++ 0 :: R) (i : Int) (a == 5) g (g.length : Int) (i : Int) a b c d) = tune_Levels.j1 (k + 2) (D ++ 0 :: R) (i : Int) true g (g.length : Int) (i : Int) a b c d := by
          rcases h3 with rfl | rfl | rfl <;> simp
        refine e.trans ?_;simp only [tune_Levels.j1, tune_Levels.j2];rw [if_pos trivial, if_neg (by omega), if_neg (by omega), if_neg (by omega), qqF (show ¬ (c ≥ (i : Int)) by omega), if_neg (by decide), if_pos trivial, if_pos b0.1, if_pos (by omega), if_pos b0.2.2.1, if_pos (by omega), if_pos (by omega), if_pos hL, rdl b b0.1 b0.2.1, rdl c b0.2.2.1 b0.2.2.2, Int.toNat_natCast, Option.bind_some, wadd (by omega)]
        have hs2 : ((D ++ 0 :: R).set i (mx (atI D b) (atI D c))).set i (wrap64 (mx (atI D b) (atI D c) + 1)) = D ++ (mx (atI D b) (atI D c) + 1) :: R := by
          rw [List.set_set, hset, w1]
        rw [hs2, hset];unfold lev;simp only
        by_cases h5 : a = 5
        · rw [if_pos h5, if_neg (by omega), if_pos h5]
        · rw [if_neg h5, if_pos (by omega)]
      · have n3 : ¬ a = 3 := by omega
        have n4 : ¬ a = 4 := by omega
        have n5 : ¬ a = 5 := by omega
        have n5' : (a == 5) = false := by simp [n5]
        rw [if_neg n3, if_neg n4, n5'];simp only [tune_Levels.j1, tune_Levels.j2];unfold lev;simp only;rw [if_neg (show ¬ (a = 3 ∨ a = 4) by omega)]
        by_cases h6 : a = 6
        · have b0 : 0 ≤ b ∧ b < i := by omega
          simp only [if_pos h6, if_neg n5, Bool.false_eq_true, if_false, if_neg (show ¬ b < 0 by omega), if_neg (show ¬ b ≥ (i : Int) by omega), if_pos b0.1, if_pos (show b < ((D ++ 0 :: R).length : Int) by omega), if_pos (show 0 ≤ (i : Int) by omega), if_pos hL, rdl b b0.1 b0.2, Int.toNat_natCast, Option.bind_some, hset, wadd (show i < 9223372036854775807 by omega)]
        · simp only [if_neg h6, if_neg n5, Bool.false_eq_true, if_false, wadd (show i < 9223372036854775807 by omega)]
end Go.Proofs.Ytmlbliggbkfjnaa.L
/- What the laws ask of an answer: the wanted circuit, or the wanted error. -/
namespace Go.Proofs.Ytmlbliggbkfjnaa.L
open Go.RowKit Go.Proofs.YtmlbliggbkfjnaaW.PrintWords Go.Proofs.Ytmlbliggbkfjnaa.J
theorem ints12_same (l : List Int) (hl : l.length ≤ 65536) : Ev (fun k => qha.f k l l) true := by
  unfold qha.f;simp only [if_true]
  refine up0 (g := fun k i => qha.l0 k l l (l.length : Int) (i : Int)) (R := fun _ => true) (n := l.length) ?_ fun i hi h => ?_
  · refine Ev.fuel 1 fun k => ?_
    simp only [qha.l0];rw [if_neg (by omega)]
  · refine Ev.step (f := fun k => qha.l0 k l l (l.length : Int) ((i + 1 : Nat) : Int)) (fun k => ?_) h
    simp only [qha.l0];rw [if_pos (by omega), if_pos (by omega), if_pos (by omega), if_pos (by omega), if_pos trivial, wadd (by omega)]
theorem same12 (s : List S64) (g : List S61) (x : List S66) (hs : s.length ≤ 65536) (hg : g.length ≤ 65536) (hx : x.length ≤ 65536) (he : ∀ e ∈ x, e.f0.length ≤ 65536 ∧ e.f1.length ≤ 65536) : Ev (fun k => qba.f k s g x s g x) true := by
  unfold qba.f;simp only [if_true];rw [show ((x.length : Int) != (x.length : Int)) = false by simp];refine Ev.step (f := fun k => qba.l0 k (s.length : Int) 0 s g x s g x) (fun k => by simp [qba.j0]) ?_
  refine up0 (g := fun k i => qba.l0 k (s.length : Int) (i : Int) s g x s g x) (R := fun _ => true) (n := s.length) ?_ fun i hi h => ?_
  · refine Ev.step (f := fun k => qba.l1 k (g.length : Int) 0 s g x s g x) (fun k => ?_) ?_
    · simp only [qba.l0]
      rw [if_neg (by omega)]
    refine up0 (g := fun k i => qba.l1 k (g.length : Int) (i : Int) s g x s g x) (R := fun _ => true) (n := g.length) ?_ fun i hi h => ?_
    · refine Ev.step (f := fun k => qba.l2 k (x.length : Int) 0 s g x s g x) (fun k => ?_) ?_
      · simp only [qba.l1]
        rw [if_neg (by omega)]
      refine up0 (g := fun k i => qba.l2 k (x.length : Int) (i : Int) s g x s g x) (R := fun _ => true) (n := x.length) ?_ fun i hi h => ?_
      · refine Ev.fuel 1 fun k => ?_
        simp only [qba.l2];rw [if_neg (by omega)]
      · have hq := he _ (List.getElem_mem hi)
        refine Ev.step (f := fun k => (qha.f k x[i].f0 x[i].f0).bind fun aa => (if aa = true then ((qha.f k x[i].f1 x[i].f1).bind fun ab => (if ab = true then (qba.l2 k (x.length : Int) ((i + 1 : Nat) : Int) s g x s g x) else (some false))) else (some false))) (fun k => ?_) (Ev.bind (ints12_same _ hq.1) ?_)
        · simp only [qba.l2]
          rw [if_pos (by omega), if_pos (by omega), if_pos (by omega), if_pos (by omega), rdX_at hi, wadd (by omega)]
        · simp only [if_true]
          refine Ev.bind (ints12_same _ hq.2) ?_;simp only [if_true];exact h
    · refine Ev.step (f := fun k => qba.l1 k (g.length : Int) ((i + 1 : Nat) : Int) s g x s g x) (fun k => ?_) h
      simp only [qba.l1];rw [if_pos (by omega), if_pos (by omega), if_pos (by omega), if_pos (by omega), if_neg (by simp), wadd (by omega)]
  · refine Ev.step (f := fun k => qba.l0 k (s.length : Int) ((i + 1 : Nat) : Int) s g x s g x) (fun k => ?_) h
    simp only [qba.l0];rw [if_pos (by omega), if_pos (by omega), if_pos (by omega), if_pos (by omega), if_neg (by simp), wadd (by omega)]
theorem Good.same {p : Int} {s : List S64} {g : List S61} {x : List S66} (G : Good p s g x) : Ev (fun k => qba.f k s g x s g x) true := by
  have h1 := G.ls;have h2 := G.lx
  exact same12 s g x (by omega) G.lg (by omega) fun e he => by have := G.exit e he; omega
theorem is_ok {p : Int} {s : List S64} {g : List S61} {x : List S66} (G : Good p s g x) : Ev (fun k => qpa.f k s g x 0 s g x 0) true := by
  unfold qpa.f;simp only [if_true];exact Ev.bind G.same (Ev.now _)
theorem exits_small {x : List S66} (h : x.length ≤ maxLen ∧ x.length * 48 ≤ 140737488351232 ∧ ∀ x' ∈ x, (x'.f0.length ≤ maxLen ∧ x'.f0.length * 8 ≤ 140737488351232 ∧ ∀ y ∈ x'.f0, (Lit.int .i64 y).wf = true) ∧ (x'.f1.length ≤ maxLen ∧ x'.f1.length * 8 ≤ 140737488351232 ∧ ∀ y ∈ x'.f1, (Lit.int .i64 y).wf = true)) : ∀ e ∈ x, e.f0.length ≤ maxLen := fun e he => (h.2.2 e he).1.1
theorem gates_pos {g : List S61} (h : g.length ≤ maxLen ∧ g.length * 32 ≤ 140737488351232 ∧ ∀ y ∈ g, (Lit.int .i64 y.f0).wf = true ∧ (Lit.int .i64 y.f1).wf = true ∧ (Lit.int .i64 y.f2).wf = true ∧ (Lit.int .u64 y.f3).wf = true) : ∀ e ∈ g, 0 ≤ e.f3 := fun e he => (u64_wf (h.2.2 e he).2.2.2).1
end Go.Proofs.Ytmlbliggbkfjnaa.L
/- The statement TuneTunes as plain Lean. -/
namespace Go.Proofs.Ytmlbliggbkfjnaa.L
open Go.RowKit Go.Proofs.YtmlbliggbkfjnaaW.PrintWords Go.Proofs.Ytmlbliggbkfjnaa.J
theorem tune_tune {p : Int} {s : List S64} {g : List S61} {x : List S66} (G : Good p s g x) : Ev (fun k => tune_Tune.f k p s g x) (s, (prL (asked (shL (folds p [] g)).1 (mapX (atI (shL (folds p [] g)).2) x)) (shL (folds p [] g)).1).1, mapX (atI (prL (asked (shL (folds p [] g)).1 (mapX (atI (shL (folds p [] g)).2) x)) (shL (folds p [] g)).1).2) (mapX (atI (shL (folds p [] g)).2) x), 0) := by
  unfold tune_Tune.f;refine Ev.bind (tune_fold G) ?_;simp only [if_true];refine Ev.bind (tune_share G.folded) ?_;simp only [if_true];refine Ev.bind (tune_prune G.folded.shared) ?_;simp only [if_true];exact Ev.now _
theorem aliveT : Ev (fun k => qoa.f k) true := by
  unfold qoa.f;have G : Good 7 [(⟨1, false⟩ : S64)] [(⟨2, 0, 0, 2⟩ : S61), ⟨1, 0, 0, 0⟩, ⟨5, 0, 1, 0⟩, ⟨5, 2, 2, 0⟩] [(⟨[], [3]⟩ : S66)] := good_of (by decide +kernel) (by decide +kernel);have h := tune_tune G
  have e : (([(⟨1, false⟩ : S64)], (prL (asked (shL (folds 7 [] [(⟨2, 0, 0, 2⟩ : S61), ⟨1, 0, 0, 0⟩, ⟨5, 0, 1, 0⟩, ⟨5, 2, 2, 0⟩])).1 (mapX (atI (shL (folds 7 [] [(⟨2, 0, 0, 2⟩ : S61), ⟨1, 0, 0, 0⟩, ⟨5, 0, 1, 0⟩, ⟨5, 2, 2, 0⟩])).2) [(⟨[], [3]⟩ : S66)])) (shL (folds 7 [] [(⟨2, 0, 0, 2⟩ : S61), ⟨1, 0, 0, 0⟩, ⟨5, 0, 1, 0⟩, ⟨5, 2, 2, 0⟩])).1).1, mapX (atI (prL (asked (shL (folds 7 [] [(⟨2, 0, 0, 2⟩ : S61), ⟨1, 0, 0, 0⟩, ⟨5, 0, 1, 0⟩, ⟨5, 2, 2, 0⟩])).1 (mapX (atI (shL (folds 7 [] [(⟨2, 0, 0, 2⟩ : S61), ⟨1, 0, 0, 0⟩, ⟨5, 0, 1, 0⟩, ⟨5, 2, 2, 0⟩])).2) [(⟨[], [3]⟩ : S66)])) (shL (folds 7 [] [(⟨2, 0, 0, 2⟩ : S61), ⟨1, 0, 0, 0⟩, ⟨5, 0, 1, 0⟩, ⟨5, 2, 2, 0⟩])).1).2) (mapX (atI (shL (folds 7 [] [(⟨2, 0, 0, 2⟩ : S61), ⟨1, 0, 0, 0⟩, ⟨5, 0, 1, 0⟩, ⟨5, 2, 2, 0⟩])).2) [(⟨[], [3]⟩ : S66)]), (0 : Int)) : List S64 × List S61 × List S66 × Int) = ([⟨1, false⟩], [⟨1, 0, 0, 0⟩, ⟨6, 0, 0, 2⟩, ⟨5, 1, 1, 0⟩], [⟨[], [2]⟩], 0) := by kernel_rfl
  rw [e] at h;refine Ev.bind (Ev.now _) (Ev.bind h ?_);simp only [if_true];refine Ev.bind (same12 _ _ _ (by decide) (by decide) (by decide) (by decide)) ?_;simp only [if_true];refine Ev.bind (tune_levels _ _ _ (by decide)) ?_
  have e2 : levR [(⟨1, 0, 0, 0⟩ : S61), ⟨6, 0, 0, 2⟩, ⟨5, 1, 1, 0⟩] = [0, 0, 1] := by kernel_rfl
  rw [e2];exact Ev.bind (ints_same _ (by decide)) (Ev.now _)
end Go.Proofs.Ytmlbliggbkfjnaa.L
/- The statement TuneLess as plain Lean: no more gates, no more products, no higher a top. -/
namespace Go.Proofs.Ytmlbliggbkfjnaa.L
open Go.RowKit Go.Proofs.YtmlbliggbkfjnaaW.PrintWords Go.Proofs.Ytmlbliggbkfjnaa.J
def fourL (p : Int) (s : List S64) (g : List S61) (x : List S66) : List S26 :=
  [⟨s, folds p [] g, x⟩, ⟨s, (shL g).1, mapX (atI (shL g).2) x⟩, ⟨s, (prL (asked g x) g).1, mapX (atI (prL (asked g x) g).2) x⟩,
    ⟨s, (prL (asked (shL (folds p [] g)).1 (mapX (atI (shL (folds p [] g)).2) x)) (shL (folds p [] g)).1).1, mapX (atI (prL (asked (shL (folds p [] g)).1 (mapX (atI (shL (folds p [] g)).2) x)) (shL (folds p [] g)).1).2) (mapX (atI (shL (folds p [] g)).2) x)⟩]
theorem all_good {p : Int} {s : List S64} {g : List S61} {x : List S66} (G : Good p s g x) : Ev (fun k => qqa.f k p s g x) (fourL p s g x, true) := by
  unfold qqa.f;refine Ev.bind (tune_fold G) (Ev.bind (tune_share G) (Ev.bind (tune_prune G) (Ev.bind (tune_tune G) ?_)));exact Ev.now _
end Go.Proofs.Ytmlbliggbkfjnaa.L
/- The statement TuneDone as plain Lean: folding, sharing and pruning twice is doing it once. -/
namespace Go.Proofs.Ytmlbliggbkfjnaa.L
open Go.RowKit Go.Proofs.YtmlbliggbkfjnaaW.PrintWords Go.Proofs.Ytmlbliggbkfjnaa.J
theorem mapX_idx {p : Int} {s : List S64} {g : List S61} {x : List S66} (G : Good p s g x) : mapX (atI (idx g.length)) x = x :=
  mapX_id fun e he y hy => by have hv := (exitV_zero (G.exits e he)).2.2 y hy; exact idx_at hv.1 hv.2
theorem fold_twice {p : Int} {s : List S64} {g : List S61} {x : List S66} (G : Good p s g x) : Ev (fun k => tune_Fold.f k p s (folds p [] g) x) (s, folds p [] g, x, 0) := by
  have h := tune_fold G.folded;rw [folds_twice G.pos g G.gates] at h;exact h
theorem share_twice {p : Int} {s : List S64} {g : List S61} {x : List S66} (G : Good p s g x) : Ev (fun k => tune_Share.f k p s (shL g).1 (mapX (atI (shL g).2) x)) (s, (shL g).1, mapX (atI (shL g).2) x, 0) := by
  have S := G.shared;have h := tune_share S;rw [shL_id (shL g).1 S.gates (shL_apart g)] at h;have e := mapX_idx S;simp only [e] at h;exact h
theorem prune_twice {p : Int} {s : List S64} {g : List S61} {x : List S66} (G : Good p s g x) : Ev (fun k => tune_Prune.f k p s (prL (asked g x) g).1 (mapX (atI (prL (asked g x) g).2) x)) (s, (prL (asked g x) g).1, mapX (atI (prL (asked g x) g).2) x, 0) := by
  have P := G.pruned;have h := tune_prune P
  have hall : ∀ i : Int, 0 ≤ i → i < (prL (asked g x) g).1.length → atB (asked (prL (asked g x) g).1 (mapX (atI (prL (asked g x) g).2) x)) i = true := fun i i0 i1 =>
    (asked_live P i i0).2 (pruned_live G.gates (fun y y0 => asked_live G y y0) (named_lt G) (fun y hy => by
      obtain ⟨e, he, hi⟩ := hy
      exact ⟨⟨e.f0, e.f1.map (atI (prL (asked g x) g).2)⟩, List.mem_map.2 ⟨e, he, rfl⟩, List.mem_map.2 ⟨y, hi, rfl⟩⟩) i i0 i1)
  rw [prL_id _ P.gates hall] at h;have e := mapX_idx P;simp only [e] at h;exact h
theorem tuneDone_at (p : Int) (s : List S64) (g : List S61) (x : List S66) (hx : ∀ e ∈ x, e.f0.length ≤ maxLen) (hg : ∀ e ∈ g, 0 ≤ e.f3) : ∃ k, qia.f k p s g x = some true := by
  suffices h : Ev (fun k => qia.f k p s g x) true from h.rounds
  unfold qia.f;refine Ev.bind (ref_check p s g x hx) ?_
  by_cases h : checkV p s g x = 0
  · have G := good_of h hg
    simp only [h, if_true];refine Ev.bind (all_good G) ?_;have hl : ((fourL p s g x).length : Int) = 4 := rfl;have e0 : rd_T26 (fourL p s g x) 0 = ⟨s, folds p [] g, x⟩ := rfl;have e1 : rd_T26 (fourL p s g x) 1 = ⟨s, (shL g).1, mapX (atI (shL g).2) x⟩ := rfl;have e2 : rd_T26 (fourL p s g x) 2 = ⟨s, (prL (asked g x) g).1, mapX (atI (prL (asked g x) g).2) x⟩ := rfl;generalize fourL p s g x = l at hl e0 e1 e2 ⊢;simp only [if_true, hl, e0, e1, e2, show ((0 : Int) < 4) = True from by decide, show ((1 : Int) < 4) = True from by decide, show ((2 : Int) < 4) = True from by decide];refine Ev.bind (fold_twice G) (Ev.bind (share_twice G) (Ev.bind (prune_twice G) ?_));refine Ev.bind (is_ok G.folded) ?_;simp only [if_true];refine Ev.bind (is_ok G.shared) ?_;simp only [if_true];refine Ev.bind (is_ok G.pruned) ?_;simp only [if_true];exact Ev.bind aliveT (Ev.now _)
  · simp only [if_neg h]
    exact Ev.bind aliveT (Ev.now _)
theorem tuneDone (x0 : Int) (aa : List S64) (ab : List S61) (ad : List S66) (w0 : (Lit.int .u64 x0).wf = true) (w1_0 : aa.length ≤ maxLen ∧ aa.length * 16 ≤ 140737488351232 ∧ ∀ x1_0' ∈ aa, (Lit.int .i64 x1_0'.f0).wf = true ∧ True) (w1_1 : ab.length ≤ maxLen ∧ ab.length * 32 ≤ 140737488351232 ∧ ∀ x1_1' ∈ ab, (Lit.int .i64 x1_1'.f0).wf = true ∧ (Lit.int .i64 x1_1'.f1).wf = true ∧ (Lit.int .i64 x1_1'.f2).wf = true ∧ (Lit.int .u64 x1_1'.f3).wf = true) (w1_2 : ad.length ≤ maxLen ∧ ad.length * 48 ≤ 140737488351232 ∧ ∀ x1_2' ∈ ad, (x1_2'.f0.length ≤ maxLen ∧ x1_2'.f0.length * 8 ≤ 140737488351232 ∧ ∀ x1_2'_f0' ∈ x1_2'.f0, (Lit.int .i64 x1_2'_f0').wf = true) ∧ (x1_2'.f1.length ≤ maxLen ∧ x1_2'.f1.length * 8 ≤ 140737488351232 ∧ ∀ x1_2'_f1' ∈ x1_2'.f1, (Lit.int .i64 x1_2'_f1').wf = true)) : ∃ k, qia.f k x0 aa ab ad = some true :=
  tuneDone_at x0 aa ab ad (exits_small w1_2) (gates_pos w1_1)
end Go.Proofs.Ytmlbliggbkfjnaa.L
/- The row of TuneDone: for every input the call returns true and changes nothing; no conditions. Out of the contract of the function and the plain law. -/
namespace Go.Proofs.Ytmlbliggbkfjnaa.tuneDone
open Go.ChangeShapes Go.WideShapes Go.ChangeAt Go.RowKit Go.Proofs.YtmlbliggbkfjnaaW.PrintWords Go.Proofs.Ytmlbliggbkfjnaa.J Go.Proofs.Ytmlbliggbkfjnaa.Op
theorem own : ownKnob Try.prog.godebug = none := by kernel_rfl
theorem laidOut : laidOutB Try.prog = true := by kernel_rfl
theorem op0 : Opens Try.prog (Kd.int .u64) 34 (fun n => (Lit.int .u64 n).wf = true) := (op_int Try.underlying34)
theorem op1 : Opens Try.prog (Kd.pair (Kd.slice 64 (k64)) (Kd.pair (Kd.slice 61 (k61)) (Kd.slice 66 (k66)))) 26 (fun x => (fun l => l.length ≤ maxLen ∧ l.length * 16 ≤ 140737488351232 ∧ ∀ a ∈ l, (fun b : S64 => (fun x => (fun n => (Lit.int .i64 n).wf = true) x.1 ∧ (fun _ => True) x.2) (b.f0, b.f1)) a) x.1 ∧ (fun x => (fun l => l.length ≤ maxLen ∧ l.length * 32 ≤ 140737488351232 ∧ ∀ a ∈ l, (fun b : S61 => (fun x => (fun n => (Lit.int .i64 n).wf = true) x.1 ∧ (fun x => (fun n => (Lit.int .i64 n).wf = true) x.1 ∧ (fun x => (fun n => (Lit.int .i64 n).wf = true) x.1 ∧ (fun n => (Lit.int .u64 n).wf = true) x.2) x.2) x.2) (b.f0, b.f1, b.f2, b.f3)) a) x.1 ∧ (fun l => l.length ≤ maxLen ∧ l.length * 48 ≤ 140737488351232 ∧ ∀ a ∈ l, (fun b : S66 => (fun x => (fun l => l.length ≤ maxLen ∧ l.length * 8 ≤ 140737488351232 ∧ ∀ a ∈ l, (fun n => (Lit.int .i64 n).wf = true) a) x.1 ∧ (fun l => l.length ≤ maxLen ∧ l.length * 8 ≤ 140737488351232 ∧ ∀ a ∈ l, (fun n => (Lit.int .i64 n).wf = true) a) x.2) (b.f0, b.f1)) a) x.2) x.2) := (op_agg Try.underlying26 (opL_cons (by kernel_rfl) (by kernel_rfl) (op_slice Try.underlying22 (by kernel_rfl) (by kernel_rfl) (op_struct (fun x => (⟨x.1, x.2⟩ : S64)) (fun _ => rfl) Try.underlying64 (opL_cons (by kernel_rfl) (by kernel_rfl) (op_int Try.underlying3) (by kernel_rfl) (opL_one (by kernel_rfl) (by kernel_rfl) (op_bool Try.underlying4))))) (by kernel_rfl) (opL_cons (by kernel_rfl) (by kernel_rfl) (op_slice Try.underlying23 (by kernel_rfl) (by kernel_rfl) (op_struct (fun x => (⟨x.1, x.2.1, x.2.2.1, x.2.2.2⟩ : S61)) (fun _ => rfl) Try.underlying61 (opL_cons (by kernel_rfl) (by kernel_rfl) (op_int Try.underlying3) (by kernel_rfl) (opL_cons (by kernel_rfl) (by kernel_rfl) (op_int Try.underlying3) (by kernel_rfl) (opL_cons (by kernel_rfl) (by kernel_rfl) (op_int Try.underlying3) (by kernel_rfl) (opL_one (by kernel_rfl) (by kernel_rfl) (op_int Try.underlying34))))))) (by kernel_rfl) (opL_one (by kernel_rfl) (by kernel_rfl) (op_slice Try.underlying24 (by kernel_rfl) (by kernel_rfl) (op_struct (fun x => (⟨x.1, x.2⟩ : S66)) (fun _ => rfl) Try.underlying66 (opL_cons (by kernel_rfl) (by kernel_rfl) (op_slice Try.underlying27 (by kernel_rfl) (by kernel_rfl) (op_int Try.underlying3)) (by kernel_rfl) (opL_one (by kernel_rfl) (by kernel_rfl) (op_slice Try.underlying27 (by kernel_rfl) (by kernel_rfl) (op_int Try.underlying3))))))))))
theorem lifted (os : Os) (started : os.Started) (H : Type) (enc : TypeId × Value → H) :
    ReturnsInHanded {} Try.checked os 10 .any (Rows.tuneDoneSpec.pre6 enc Try.prog Try.f10 Rows.tuneDoneRow.domain false) (Rows.tuneDoneSpec.post enc Try.prog Try.f10 false true false false) := by
  refine returnsInHanded_of_change_sized (C := Try.checked) own started (by kernel_rfl) Try.func10
    (ChangeSpec.witness6 (enc := enc) (C := Try.checked) false ⟨#[], #[.int .u64 0, .agg #[.slice none 0 0, .slice none 0 0, .slice none 0 0]], []⟩ 8 (by kernel_rfl) (by kernel_rfl) (by kernel_rfl) (by kernel_rfl)) ?_
  intro W base args ds gs before hval0 hW hcnd hsz0 _;have hsz : (DataW.weightsEach Try.prog (Try.f10.params.toList ++ Rows.tuneDoneSpec.plain.varTypes Try.prog) (ds ++ gs)).all (· ≤ reachBytes) = true := hsz0;have hval : ∀ (j : Nat) t v, Try.f10.params[j]? = some t → args[j]? = some v → Value.okWide Try.prog W .any base t v := hval0;have hW' := hW;obtain ⟨p, q, hA0, hV, rfl, hfz, hnd⟩ := hW;have hA : DataW.TrodAll enc Try.prog W 0 (fun _ => true) true Try.f10.params.toList args.toList ds p := hA0;rw [Try.params10] at hA hval hsz;obtain ⟨v0, vs0, d0, ds0, p0, q0, hargs, rfl, rfl, h0, r0⟩ := trodAll_cons hA;obtain ⟨v1, vs1, d1, ds1, p1, q1, rfl, rfl, rfl, h1, r1⟩ := trodAll_cons r0;obtain ⟨rfl, rfl, rfl⟩ := trodAll_nil r1
  obtain rfl : args = #[v0, v1] := by cases args; simp_all
  obtain ⟨rfl, rfl⟩ := trodVars_none hV;have k0 := h0
  have lt0 : ∀ x ∈ p0, x.block < W.heap.size := by obtain ⟨m, hm⟩ := k0; exact DataW.trod_lt m _ _ _ hm
  obtain ⟨x0, rfl⟩ := okWide_int Try.underlying34 (hval 0 34 v0 rfl rfl);obtain ⟨y0, e0, w0⟩ := arg op0 rfl h0 hsz (j := 0) rfl rfl;have e0' : [Value.int .u64 x0] = [Value.int .u64 y0] := e0
  obtain rfl : x0 = y0 := by simpa using e0'
  have k1 := h1
  have lt1 : ∀ x ∈ p1, x.block < W.heap.size := by obtain ⟨m, hm⟩ := k1; exact DataW.trod_lt m _ _ _ hm
  obtain ⟨cs1, rfl, hn1⟩ := okWide_agg Try.underlying26 (hval 1 26 v1 rfl rfl);obtain ⟨⟨aa, ab, ad⟩, K1, ⟨w1_0, w1_1, w1_2⟩⟩ := arg op1 (by show cs1.toList.length = _; rw [Array.length_toList, hn1]; kernel_rfl) h1 hsz (j := 1) rfl rfl;obtain ⟨g1_0, rg1_0, qg1_0, ak, M1_0⟩ := K1;obtain ⟨al, am, l1_0', ae, af⟩ := ak;obtain ⟨g1_1, rg1_1, qg1_1, ao, M1_1⟩ := M1_0;obtain ⟨ap, aq, l1_1', ag, ah⟩ := ao;obtain ⟨ar, au, M1_1', ai, aj⟩ := M1_1
  obtain rfl : cs1 = #[.slice al aa.length am, .slice ap ab.length aq, .slice ar ad.length au] := by
    apply Array.toList_inj.1
    have z1 : cs1.toList = _ := qg1_0;rw [z1, l1_0', qg1_1, l1_1', M1_1']
    rfl
  clear hA0 hval0 hsz0 hsz;obtain ⟨k, h⟩ := L.tuneDone x0 aa ab ad w0 w1_0 w1_1 w1_2
  refine (qia.calls k x0 _ _ aa _ _ ab _ _ ad true W af ae ah ag aj ai h).mono fun e W' ⟨he, bel⟩ => ?_
  subst he;exact ⟨_, rfl, _, _, _, [], _, [], hW', trodAll_mk1 (shut_bool Try.underlying4 _), (trodAll_cons_mk (Below.trod laidOut (by kernel_rfl) (of_decide_eq_true (by kernel_rfl)) k0 bel lt0) (trodAll_cons_mk (Below.trod laidOut (by kernel_rfl) (of_decide_eq_true (by kernel_rfl)) k1 bel lt1) trodAll_mk0)), rfl, bel.frame _, fun h => by cases h⟩
theorem closed : joinedFacts Try.pinned.checked.prog 10 Try.f10 Rows.tuneDoneSpec Rows.tuneDoneRow = true := by
  unfold joinedFacts
  repeat' with_reducible refine Bool.and_eq_true_iff.2 ⟨?_, ?_⟩
  all_goals first
    | with_reducible exact Facts.enters
    | (rw [Facts.final]; kernel_rfl)
    | (rw [Facts.made]; kernel_rfl)
    | kernel_rfl
theorem over : Rows.tuneDoneRow.holds Try.pinned (OpenSpec.ofChange Rows.tuneDoneSpec) :=
  OpenClaim.holds_of_wide 10 Try.f10 rfl rfl rfl rfl rfl rfl rfl ⟨rfl, rfl, rfl, rfl, rfl⟩ rfl rfl rfl rfl rfl (by kernel_rfl) Try.func10 closed
    (of_decide_eq_true (by kernel_rfl)) (by unfold Func.isWrapper; first | (rw [if_pos (by decide +kernel)]; kernel_rfl) | (rw [if_neg (by decide +kernel)]; exact ⟨rfl, rfl⟩))
    (fun os started H enc _ => lifted os started H enc)
theorem proved : Rows.TuneDoneSaid := over
#print axioms proved
end Go.Proofs.Ytmlbliggbkfjnaa.tuneDone
namespace Go.Proofs.Ytmlbliggbkfjnaa
theorem tuneDone_holds : Rows.TuneDoneSaid := tuneDone.proved
end Go.Proofs.Ytmlbliggbkfjnaa
