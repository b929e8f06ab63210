/- Both checks of a mask answer alike, and what they answer. -/
import Derived.Test.YtjjnfobeeflnhaaSetups
import Derived.Test.YtjjnfobeeflnhaaJx5
import Derived.Test.YtjjnfobeeflnhaaJx7
namespace Go.Proofs.Ytjjnfobeeflnhaa.L
open Go.RowKit Go.Proofs.YtjjnfobeeflnhaaW.PrintWords Go.Proofs.Ytjjnfobeeflnhaa.J
set_option linter.unusedVariables false
set_option linter.unusedSimpArgs false

def rowsV (p : Int) : List (List Int) → Int
  | [] => 0
  | f :: fs => if belowV p f = 0 then rowsV p fs else belowV p f

/-- What both checks answer: 0, 2 or 4. -/
def checkV (p n t : Int) (l : List (List Int)) : Int :=
  if setupV p n t = 0 then (if (l.length : Int) = t + 1 ∧ ∀ f ∈ l, (f.length : Int) ≤ t + 1 then rowsV p l else 4) else setupV p n t

theorem setupV_ok {p n t : Int} (h : setupV p n t = 0) : isP p = true ∧ 1 ≤ n ∧ n ≤ 13 ∧ 0 ≤ t ∧ 4 * t + 1 ≤ n ∧ n < p := by
  unfold setupV at h
  split at h
  · assumption
  · cases h

theorem checks_go (p : Int) : ∀ (l : List (List Int)), (∀ f ∈ l, f.length ≤ maxLen) → Ev (fun k => twice_Check.go k p l) (rowsV p l)
  | [], _ => Ev.now _
  | f :: fs, h => by
    unfold twice_Check.go rowsV
    refine Ev.bind (field_below p f (h f (List.mem_cons_self ..))) ?_
    by_cases h0 : belowV p f = 0
    · rw [if_pos h0]
      simp only [h0, if_true]
      exact checks_go p fs (fun g hg => h g (List.mem_cons_of_mem _ hg))
    · rw [if_neg h0]
      simp only [h0, if_false]
      exact Ev.now _

theorem twice_check (p n t : Int) (l : List (List Int)) (hl : ∀ f ∈ l, f.length ≤ maxLen) : Ev (fun k => twice_Check.f k p n t l) (checkV p n t l) := by
  unfold twice_Check.f checkV
  refine Ev.bind (share_setup p n t) ?_
  by_cases h0 : setupV p n t = 0
  · obtain ⟨_, _, _, h4, h5, _⟩ := setupV_ok h0
    simp only [h0, if_true]
    rw [w64_small (by omega) (by omega)]
    by_cases h1 : (l.length : Int) = t + 1
    · simp only [h1, if_true, true_and]
      by_cases h2 : ∀ f ∈ l, (f.length : Int) ≤ t + 1
      · have ha : (l.any fun f => decide (t + 1 < (f.length : Int))) = false := by
          rw [List.any_eq_false]
          intro f hf
          have := h2 f hf
          simp only [decide_eq_true_eq]
          omega
        rw [if_pos h2]
        simp only [ha, Bool.false_eq_true, if_false]
        exact checks_go p l hl
      · have ha : (l.any fun f => decide (t + 1 < (f.length : Int))) = true := by
          rw [List.any_eq_true]
          apply Classical.byContradiction
          intro hc
          refine h2 fun f hf => ?_
          rcases Int.lt_or_le (t + 1) (f.length : Int) with h' | h'
          · exact absurd ⟨f, hf, by simpa using h'⟩ hc
          · exact h'
        rw [if_neg h2]
        simp only [ha, if_true]
        exact Ev.now _
    · simp only [h1, if_false, false_and]
      exact Ev.now _
  · simp only [h0, if_false]
    exact Ev.now _

theorem rd_L3_at (l : List (List Int)) (i : Nat) (h : i < l.length) : rd_L3 l (i : Int) = l[i] := by
  simp [rd_L3, List.getD_eq_getElem?_getD, h]

theorem ref_rows (p n t : Int) (l : List (List Int)) (hs : l.length ≤ maxLen) (hl : ∀ f ∈ l, f.length ≤ maxLen) : ∀ (m i : Nat), i + m = l.length → Ev (fun k => juntoref07_Check.l1 k l (l.length : Int) (i : Int) p n t) (rowsV p (l.drop i))
  | 0, i, hi => by
    rw [List.drop_of_length_le (by omega)]
    refine Ev.step (f := fun k => some 0) (fun k => ?_) (Ev.now _)
    simp only [juntoref07_Check.l1]
    rw [if_neg (by omega)]
  | m + 1, i, hi => by
    have hm : (l.length : Int) ≤ 9223372036854775807 := by simp only [maxLen] at hs; omega
    have hlt : i < l.length := by omega
    rw [List.drop_eq_getElem_cons hlt]
    unfold rowsV
    refine Ev.step (f := fun k => (juntoref01_Within.f k p l[i]).bind fun t111 => (if t111 = 0 then (juntoref07_Check.l1 k l (l.length : Int) ((i + 1 : Nat) : Int) p n t) else (some t111))) (fun k => ?_) ?_
    · conv => lhs; simp only [juntoref07_Check.l1]
      rw [if_pos (by omega), if_pos (by omega), if_pos (by omega), rd_L3_at l i hlt, w64_small (by omega) (by omega)]
      rfl
    · refine Ev.bind (ref_within p l[i] (hl _ (List.getElem_mem hlt))) ?_
      by_cases h0 : belowV p l[i] = 0
      · rw [if_pos h0]
        simp only [h0, if_true]
        exact ref_rows p n t l hs hl m (i + 1) (by omega)
      · rw [if_neg h0]
        simp only [h0, if_false]
        exact Ev.now _

theorem ref_sizes (p n t : Int) (l : List (List Int)) (ht : 0 ≤ t ∧ t ≤ 13) (hs : l.length ≤ maxLen) (hl : ∀ f ∈ l, f.length ≤ maxLen) : ∀ (m i : Nat), i + m = l.length → Ev (fun k => juntoref07_Check.l0 k l l (l.length : Int) (i : Int) p n t) (if ∀ f ∈ l.drop i, (f.length : Int) ≤ t + 1 then rowsV p l else 4)
  | 0, i, hi => by
    rw [List.drop_of_length_le (by omega), if_pos (fun f hf => by simp at hf)]
    refine Ev.step (f := fun k => juntoref07_Check.l1 k l (l.length : Int) 0 p n t) (fun k => ?_) ?_
    · conv => lhs; simp only [juntoref07_Check.l0]
      rw [if_neg (by omega)]
    · exact ref_rows p n t l hs hl l.length 0 (by omega)
  | m + 1, i, hi => by
    have hm : (l.length : Int) ≤ 9223372036854775807 := by simp only [maxLen] at hs; omega
    have hlt : i < l.length := by omega
    rw [List.drop_eq_getElem_cons hlt]
    by_cases hg : (l[i].length : Int) > t + 1
    · rw [if_neg (fun h' => by have := h' _ (List.mem_cons_self ..); omega)]
      refine Ev.step (f := fun k => some 4) (fun k => ?_) (Ev.now _)
      simp only [juntoref07_Check.l0]
      rw [if_pos (by omega), if_pos (by omega), if_pos (by omega), rd_L3_at l i hlt, w64_small (n := t + 1) (by omega) (by omega), if_pos hg]
    · refine Ev.step (f := fun k => juntoref07_Check.l0 k l l (l.length : Int) ((i + 1 : Nat) : Int) p n t) (fun k => ?_) ?_
      · conv => lhs; simp only [juntoref07_Check.l0]
        rw [if_pos (by omega), if_pos (by omega), if_pos (by omega), rd_L3_at l i hlt, w64_small (n := t + 1) (by omega) (by omega), if_neg hg, w64_small (by omega) (by omega)]
        rfl
      · have hi2 : (∀ f ∈ l[i] :: l.drop (i + 1), (f.length : Int) ≤ t + 1) ↔ ∀ f ∈ l.drop (i + 1), (f.length : Int) ≤ t + 1 := by
          constructor
          · exact fun h f hf => h f (List.mem_cons_of_mem _ hf)
          · intro h f hf
            rcases List.mem_cons.1 hf with rfl | hf
            · omega
            · exact h f hf
        simp only [hi2]
        exact ref_sizes p n t l ht hs hl m (i + 1) (by omega)

theorem ref_check (p n t : Int) (l : List (List Int)) (hs : l.length ≤ maxLen) (hl : ∀ f ∈ l, f.length ≤ maxLen) : Ev (fun k => juntoref07_Check.f k p n t l) (checkV p n t l) := by
  unfold juntoref07_Check.f checkV
  refine Ev.bind (ref_setup p n t) ?_
  by_cases h0 : setupV p n t = 0
  · obtain ⟨_, _, _, h4, h5, _⟩ := setupV_ok h0
    simp only [h0, if_true]
    rw [w64_small (by omega) (by omega)]
    by_cases h1 : (l.length : Int) = t + 1
    · refine Ev.congr (fun k => if_pos h1) ?_
      have := ref_sizes p n t l (by omega) hs hl l.length 0 (by omega)
      rw [List.drop_zero] at this
      have e : ((l.length : Int) = t + 1 ∧ ∀ f ∈ l, (f.length : Int) ≤ t + 1) = (∀ f ∈ l, (f.length : Int) ≤ t + 1) := propext ⟨fun h => h.2, fun h => ⟨h1, h⟩⟩
      simp only [e]
      exact this
    · simp only [h1, if_false, false_and]
      exact Ev.now _
  · simp only [h0, if_false]
    exact Ev.now _

end Go.Proofs.Ytjjnfobeeflnhaa.L
