/- An abstract machine for runs of Go functions on written-out inputs, part A: its heap, its values and how they stand to the model's world. -/
import Derived.Calls
import Derived.Orders
import Derived.Defers
import Derived.Below
import Derived.Deep.MidRow
import Derived.Deep.AppendSrc
namespace Go.Proofs.YtefhaojjohddaaaGreatDoor.AM
open Go Go.RowKit
noncomputable section

/-! ### A finite map on numbers, as a tree that the kernel looks into quickly -/
inductive H (α : Type) where
  | nil
  | node (l : H α) (v : Option α) (r : H α)
namespace H
variable {α : Type}
noncomputable def get (h : H α) : Nat → Option α := H.rec (motive := fun _ => Nat → Option α) (fun _ => none) (fun _ v _ ihl ihr n => bif Nat.beq n 0 then v else bif Nat.beq (n % 2) 1 then ihl (n / 2) else ihr (n / 2 - 1)) h
noncomputable def single (f : Nat) : Nat → Option α → H α := Nat.rec (motive := fun _ => Nat → Option α → H α) (fun _ _ => .nil) (fun _ ih n e => bif Nat.beq n 0 then .node .nil e .nil else bif Nat.beq (n % 2) 1 then .node (ih (n / 2) e) none .nil else .node .nil none (ih (n / 2 - 1) e)) f
noncomputable def set (h : H α) : Nat → Option α → H α := H.rec (motive := fun _ => Nat → Option α → H α) (fun n e => single (n + 1) n e) (fun l v r ihl ihr n e => bif Nat.beq n 0 then .node l e r else bif Nat.beq (n % 2) 1 then .node (ihl (n / 2) e) v r else .node l v (ihr (n / 2 - 1) e)) h
theorem get_nil (n : Nat) : (H.nil : H α).get n = none := rfl
theorem get_node (l : H α) (v : Option α) (r : H α) (n : Nat) : (H.node l v r).get n = bif Nat.beq n 0 then v else bif Nat.beq (n % 2) 1 then l.get (n / 2) else r.get (n / 2 - 1) := rfl
theorem single_succ (f n : Nat) (e : Option α) : single (f + 1) n e = bif Nat.beq n 0 then .node .nil e .nil else bif Nat.beq (n % 2) 1 then .node (single f (n / 2) e) none .nil else .node .nil none (single f (n / 2 - 1) e) := rfl
theorem set_nil (n : Nat) (e : Option α) : (H.nil : H α).set n e = single (n + 1) n e := rfl
theorem set_node (l : H α) (v : Option α) (r : H α) (n : Nat) (e : Option α) : (H.node l v r).set n e = bif Nat.beq n 0 then .node l e r else bif Nat.beq (n % 2) 1 then .node (l.set (n / 2) e) v r else .node l v (r.set (n / 2 - 1) e) := rfl
theorem beq0 (n : Nat) : Nat.beq n 0 = decide (n = 0) := by cases n <;> simp [Nat.beq]
theorem beq1 (n : Nat) : Nat.beq (n % 2) 1 = decide (n % 2 = 1) := by
  rw [Bool.eq_iff_iff, Nat.beq_eq, decide_eq_true_iff]
theorem get_single : ∀ (f n m : Nat) (e : Option α), n < f → (single f n e).get m = if m = n then e else none
  | 0, n, _, _, hf => by omega
  | f + 1, n, m, e, hf => by
    simp only [single_succ, beq0, beq1, cond_eq_ite, decide_eq_true_iff]
    by_cases h0 : n = 0
    · subst h0
      simp only [if_true, get_node, get_nil, beq0, beq1, cond_eq_ite, decide_eq_true_iff, ite_self]
    · by_cases h1 : n % 2 = 1
      · simp only [if_neg h0, if_pos h1, get_node, beq0, beq1, cond_eq_ite, decide_eq_true_iff, get_single f (n / 2) (m / 2) e (by omega), get_nil]
        by_cases hm : m = n
        · subst hm; simp [h0, h1]
        · by_cases m0 : m = 0
          · simp [m0]; omega
          · by_cases m1 : m % 2 = 1
            · have : ¬ m / 2 = n / 2 := by omega
              simp [m0, m1, hm, this]
            · simp [m0, m1, hm]
      · simp only [if_neg h0, if_neg h1, get_node, beq0, beq1, cond_eq_ite, decide_eq_true_iff, get_single f (n / 2 - 1) (m / 2 - 1) e (by omega), get_nil]
        by_cases hm : m = n
        · subst hm; simp [h0, h1]
        · by_cases m0 : m = 0
          · simp [m0]; omega
          · by_cases m1 : m % 2 = 1
            · simp [m0, m1, hm]
            · have : ¬ m / 2 - 1 = n / 2 - 1 := by omega
              simp [m0, m1, hm, this]
theorem get_set (h : H α) (n m : Nat) (e : Option α) : (h.set n e).get m = if m = n then e else h.get m := by
  induction h generalizing n m with
  | nil => rw [set_nil, get_single _ _ _ _ (Nat.lt_succ_self n)]; rfl
  | node l v r ihl ihr =>
    simp only [set_node, beq0, beq1, cond_eq_ite, decide_eq_true_iff]
    by_cases h0 : n = 0
    · subst h0
      simp only [if_true, get_node, beq0, beq1, cond_eq_ite, decide_eq_true_iff]
      by_cases m0 : m = 0 <;> simp [m0]
    · by_cases h1 : n % 2 = 1
      · simp only [if_neg h0, if_pos h1, get_node, beq0, beq1, cond_eq_ite, decide_eq_true_iff, ihl]
        by_cases hm : m = n
        · subst hm; simp [h0, h1]
        · by_cases m0 : m = 0
          · simp [m0]; omega
          · by_cases m1 : m % 2 = 1
            · have : ¬ m / 2 = n / 2 := by omega
              simp [m0, m1, hm, this]
            · simp [m0, m1, hm]
      · simp only [if_neg h0, if_neg h1, get_node, beq0, beq1, cond_eq_ite, decide_eq_true_iff, ihr]
        by_cases hm : m = n
        · subst hm; simp [h0, h1]
        · by_cases m0 : m = 0
          · simp [m0]; omega
          · by_cases m1 : m % 2 = 1
            · simp [m0, m1, hm]
            · have : ¬ m / 2 - 1 = n / 2 - 1 := by omega
              simp [m0, m1, hm, this]
end H

/-! ### Values: the machine's block numbers stand for the world's; a row that an append made has an unknown capacity -/
structure MuE where
  b : Nat
  g : Bool     -- its capacity is unknown to the machine
  sz : Nat     -- then: the cells of an element,
  n : Nat      -- and all its cells
abbrev Mu := Nat → Option MuE
def Mu.le (μ μ' : Mu) : Prop := ∀ j p, μ j = some p → μ' j = some p
theorem Mu.le_refl (μ : Mu) : μ.le μ := fun _ _ h => h
theorem Mu.le_trans {a b c : Mu} (h : a.le b) (k : b.le c) : a.le c := fun j p hj => k j p (h j p hj)
def Mu.put (μ : Mu) (j : Nat) (p : MuE) : Mu := fun k => if k = j then some p else μ k
theorem Mu.le_put {μ : Mu} {j : Nat} {p : MuE} (h : μ j = none) : μ.le (μ.put j p) := fun k q hk => by
  unfold Mu.put
  by_cases e : k = j
  · subst e; rw [h] at hk; cases hk
  · rw [if_neg e]; exact hk

theorem Mu.put_same (μ : Mu) (j : Nat) (p : MuE) : μ.put j p j = some p := if_pos rfl
theorem Mu.put_other (μ : Mu) {j k : Nat} (p : MuE) (h : k ≠ j) : μ.put j p k = μ k := if_neg h

inductive VRel (μ : Mu) : Value → Value → Prop
  | bool (b : Bool) : VRel μ (.bool b) (.bool b)
  | int (k : IntKind) (n : Int) : VRel μ (.int k n) (.int k n)
  | string (s : ByteArray) : VRel μ (.string s) (.string s)
  | ptrN : VRel μ (.pointer none) (.pointer none)
  | ptr {b : Nat} {m : MuE} (o : Nat) (h : μ b = some m) : VRel μ (.pointer (some ⟨b, o, none⟩)) (.pointer (some ⟨m.b, o, none⟩))
  | sliceN (n c : Nat) : VRel μ (.slice none n c) (.slice none n c)
  | slice {b : Nat} {m : MuE} (o n : Nat) {c c' : Nat} (h : μ b = some m) (hc : c ≤ c') (hg : m.g = false → c' = c) (hn : m.g = true → o + c' * m.sz ≤ m.n) : VRel μ (.slice (some ⟨b, o, none⟩) n c) (.slice (some ⟨m.b, o, none⟩) n c')
  | mapN : VRel μ (.map none) (.map none)
  | map {b : Nat} {m : MuE} (h : μ b = some m) : VRel μ (.map (some b)) (.map (some m.b))
  | func (f : FuncId) {x x' c c' : Array Value} (hx : x.size = x'.size) (h : ∀ (i : Nat) (v v' : Value), x[i]? = some v → x'[i]? = some v' → VRel μ v v')
      (hc : c.size = c'.size) (h2 : ∀ (i : Nat) (v v' : Value), c[i]? = some v → c'[i]? = some v' → VRel μ v v') : VRel μ (.func (.func f) x c) (.func (.func f) x' c')
  | nilFunc : VRel μ .nilFunc .nilFunc
  | iface (t : TypeId) {v v' : Value} (h : VRel μ v v') : VRel μ (.iface t v) (.iface t v')
  | nilIface : VRel μ .nilIface .nilIface
  | agg {c c' : Array Value} (hc : c.size = c'.size) (h : ∀ (i : Nat) (v v' : Value), c[i]? = some v → c'[i]? = some v' → VRel μ v v') : VRel μ (.agg c) (.agg c')
  | tuple {c c' : Array Value} (hc : c.size = c'.size) (h : ∀ (i : Nat) (v v' : Value), c[i]? = some v → c'[i]? = some v' → VRel μ v v') : VRel μ (.tuple c) (.tuple c')
theorem VRel.mono {μ μ' : Mu} (hm : μ.le μ') {v v' : Value} (h : VRel μ v v') : VRel μ' v v' := by
  induction h with
  | bool b => exact .bool b
  | int k n => exact .int k n
  | string s => exact .string s
  | ptrN => exact .ptrN
  | ptr o h => exact .ptr o (hm _ _ h)
  | sliceN n c => exact .sliceN n c
  | slice o n h hc hg hn => exact .slice o n (hm _ _ h) hc hg hn
  | mapN => exact .mapN
  | map h => exact .map (hm _ _ h)
  | func f hx _ hc _ ih1 ih2 => exact .func f hx ih1 hc ih2
  | nilFunc => exact .nilFunc
  | iface t _ ih => exact .iface t ih
  | nilIface => exact .nilIface
  | agg hc _ ih => exact .agg hc ih
  | tuple hc _ ih => exact .tuple hc ih
/-- Lists of values. -/
def LRel (μ : Mu) (l l' : List Value) : Prop := l.length = l'.length ∧ ∀ (i : Nat) (v v' : Value), l[i]? = some v → l'[i]? = some v' → VRel μ v v'
theorem LRel.mono {μ μ' : Mu} (hm : μ.le μ') {l l' : List Value} (h : LRel μ l l') : LRel μ' l l' := ⟨h.1, fun i v v' a b => (h.2 i v v' a b).mono hm⟩
theorem LRel.nil (μ : Mu) : LRel μ [] [] := ⟨rfl, fun i v v' a => by simp at a⟩
theorem LRel.cons {μ : Mu} {v v' : Value} {l l' : List Value} (h : VRel μ v v') (k : LRel μ l l') : LRel μ (v :: l) (v' :: l') := ⟨by simp [k.1], fun i u u' a b => by
  cases i with
  | zero => simp at a b; rw [← a, ← b]; exact h
  | succ i => simp at a b; exact k.2 i u u' a b⟩
theorem LRel.cons_inv {μ : Mu} {v : Value} {l l' : List Value} (h : LRel μ (v :: l) l') : ∃ v' m', l' = v' :: m' ∧ VRel μ v v' ∧ LRel μ l m' := by
  cases l' with
  | nil => exact absurd h.1 (by simp)
  | cons v' m' => exact ⟨v', m', rfl, h.2 0 v v' rfl rfl, by have := h.1; simp at this; exact this, fun i u u' a b => h.2 (i + 1) u u' (by simpa using a) (by simpa using b)⟩
theorem LRel.nil_inv {μ : Mu} {l' : List Value} (h : LRel μ [] l') : l' = [] := List.eq_nil_of_length_eq_zero h.1.symm
theorem LRel.append {μ : Mu} {a a' b b' : List Value} (h : LRel μ a a') (k : LRel μ b b') : LRel μ (a ++ b) (a' ++ b') := ⟨by simp [h.1, k.1], fun i v v' x y => by
  by_cases hi : i < a.length
  · rw [List.getElem?_append_left hi] at x
    rw [List.getElem?_append_left (by rw [← h.1]; exact hi)] at y
    exact h.2 i v v' x y
  · rw [List.getElem?_append_right (by omega)] at x
    rw [List.getElem?_append_right (by rw [← h.1]; omega), ← h.1] at y
    exact k.2 _ v v' x y⟩
theorem LRel.take {μ : Mu} {a a' : List Value} (h : LRel μ a a') (n : Nat) : LRel μ (a.take n) (a'.take n) := ⟨by simp [h.1], fun i v v' x y => by
  rw [List.getElem?_take] at x y
  split at x
  · rename_i hi; rw [if_pos hi] at y; exact h.2 i v v' x y
  · cases x⟩
theorem LRel.drop {μ : Mu} {a a' : List Value} (h : LRel μ a a') (n : Nat) : LRel μ (a.drop n) (a'.drop n) := ⟨by simp [h.1], fun i v v' x y => by
  rw [List.getElem?_drop] at x y
  exact h.2 _ v v' x y⟩
theorem LRel.get {μ : Mu} {a a' : List Value} (h : LRel μ a a') {i : Nat} {v : Value} (hi : a[i]? = some v) : ∃ v', a'[i]? = some v' ∧ VRel μ v v' := by
  have hl : i < a.length := (List.getElem?_eq_some_iff.1 hi).1
  have : i < a'.length := by rw [← h.1]; exact hl
  exact ⟨a'[i], List.getElem?_eq_getElem this, h.2 i v _ hi (List.getElem?_eq_getElem this)⟩
theorem LRel.set {μ : Mu} {a a' : List Value} (h : LRel μ a a') (n : Nat) {u u' : Value} (k : VRel μ u u') : LRel μ (a.set n u) (a'.set n u') := ⟨by simp [h.1], fun i v v' x y => by
  rw [List.getElem?_set] at x y
  by_cases e : n = i
  · subst e
    simp only [if_true] at x y
    split at x
    · split at y
      · cases x; cases y; exact k
      · cases y
    · cases x
  · simp only [if_neg e] at x y
    exact h.2 i v v' x y⟩
theorem VRel.agg_iff {μ : Mu} {c : Array Value} {v' : Value} (h : VRel μ (.agg c) v') : ∃ c', v' = .agg c' ∧ LRel μ c.toList c'.toList := by
  cases h with
  | agg hc h => exact ⟨_, rfl, by simpa using hc, fun i v v' a b => h i v v' (by simpa using a) (by simpa using b)⟩
theorem VRel.of_list {μ : Mu} {c c' : Array Value} (h : LRel μ c.toList c'.toList) : VRel μ (.agg c) (.agg c') := .agg (by simpa using h.1) fun i v v' a b => h.2 i v v' (by simpa using a) (by simpa using b)
theorem VRel.tuple_iff {μ : Mu} {c : Array Value} {v' : Value} (h : VRel μ (.tuple c) v') : ∃ c', v' = .tuple c' ∧ LRel μ c.toList c'.toList := by
  cases h with
  | tuple hc h => exact ⟨_, rfl, by simpa using hc, fun i v v' a b => h i v v' (by simpa using a) (by simpa using b)⟩
theorem VRel.of_tuple {μ : Mu} {c c' : Array Value} (h : LRel μ c.toList c'.toList) : VRel μ (.tuple c) (.tuple c') := .tuple (by simpa using h.1) fun i v v' a b => h.2 i v v' (by simpa using a) (by simpa using b)
theorem VRel.undef (μ : Mu) : VRel μ undef undef := .tuple rfl fun i v v' a => by simp at a
/-- A value's cells. -/
theorem VRel.cells {μ : Mu} {v v' : Value} (h : VRel μ v v') : LRel μ v.cells.toList v'.cells.toList := by
  have one : LRel μ [v] [v'] := LRel.cons h (LRel.nil μ)
  cases h with
  | agg hc h => exact ⟨by simpa [Value.cells] using hc, fun i v v' a b => h i v v' (by simpa [Value.cells] using a) (by simpa [Value.cells] using b)⟩
  | _ => exact one
/-- Values that name no block stand for themselves. -/
def closedN : Nat → Value → Bool
  | _, .bool _ | _, .int .. | _, .string _ | _, .pointer none | _, .slice none _ _ | _, .map none | _, .nilFunc | _, .nilIface => true
  | n + 1, .agg c => c.toList.all (closedN n)
  | n + 1, .tuple c => c.toList.all (closedN n)
  | n + 1, .iface _ v => closedN n v
  | _, .func (.func _) x c => x.toList.isEmpty && c.toList.isEmpty
  | _, _ => false
def closed (v : Value) : Bool := closedN 3 v
theorem closedN_rel (μ : Mu) : ∀ (n : Nat) (v : Value), closedN n v = true → VRel μ v v := by
  intro n
  induction n with
  | zero =>
    intro v h
    cases v with
    | bool b => exact .bool b
    | int k n => exact .int k n
    | string s => exact .string s
    | pointer a => cases a with
      | none => exact .ptrN
      | some a => simp [closedN] at h
    | slice a n c => cases a with
      | none => exact .sliceN n c
      | some a => simp [closedN] at h
    | map r => cases r with
      | none => exact .mapN
      | some r => simp [closedN] at h
    | func f x c => cases f with
      | func f =>
        simp [closedN] at h
        obtain ⟨rfl, rfl⟩ := h
        exact .func f rfl (fun i v v' a => by simp at a) rfl (fun i v v' a => by simp at a)
      | _ => simp [closedN] at h
    | nilFunc => exact .nilFunc
    | nilIface => exact .nilIface
    | _ => simp [closedN] at h
  | succ n ih =>
    intro v h
    cases v with
    | bool b => exact .bool b
    | int k n => exact .int k n
    | string s => exact .string s
    | pointer a => cases a with
      | none => exact .ptrN
      | some a => simp [closedN] at h
    | slice a n c => cases a with
      | none => exact .sliceN n c
      | some a => simp [closedN] at h
    | map r => cases r with
      | none => exact .mapN
      | some r => simp [closedN] at h
    | func f x c => cases f with
      | func f =>
        simp [closedN] at h
        obtain ⟨rfl, rfl⟩ := h
        exact .func f rfl (fun i v v' a => by simp at a) rfl (fun i v v' a => by simp at a)
      | _ => simp [closedN] at h
    | nilFunc => exact .nilFunc
    | nilIface => exact .nilIface
    | agg c =>
      simp only [closedN, List.all_eq_true] at h
      refine .agg rfl fun i v v' a b => ?_
      rw [a] at b; cases b
      exact ih v (h v (by rw [Array.mem_toList_iff]; exact Array.mem_of_getElem? a))
    | tuple c =>
      simp only [closedN, List.all_eq_true] at h
      refine .tuple rfl fun i v v' a b => ?_
      rw [a] at b; cases b
      exact ih v (h v (by rw [Array.mem_toList_iff]; exact Array.mem_of_getElem? a))
    | iface t v =>
      simp only [closedN] at h
      exact .iface t (ih v h)
    | _ => simp [closedN] at h
theorem closed_rel (μ : Mu) {v : Value} (h : closed v = true) : VRel μ v v := closedN_rel μ 3 v h
/-- A closed value's twin is itself. -/
theorem closedN_eq {μ : Mu} : ∀ (n : Nat) (v v' : Value), closedN n v = true → VRel μ v v' → v' = v := by
  have arr : ∀ {c c' : Array Value} (n : Nat), (∀ (v v' : Value), closedN n v = true → VRel μ v v' → v' = v) → c.toList.all (closedN n) = true → c.size = c'.size → (∀ (i : Nat) (v v' : Value), c[i]? = some v → c'[i]? = some v' → VRel μ v v') → c' = c := by
    intro c c' n ih hall hc h
    apply Array.ext
    · exact hc.symm
    · intro i h1 h2
      have a : c[i]? = some c[i] := Array.getElem?_eq_getElem h2
      have b : c'[i]? = some c'[i] := Array.getElem?_eq_getElem h1
      exact ih _ _ (List.all_eq_true.1 hall _ (by rw [Array.mem_toList_iff]; exact Array.mem_of_getElem? a)) (h i _ _ a b)
  intro n
  induction n with
  | zero =>
    intro v v' h r
    cases r with
    | func f hx _ hc _ =>
      simp [closedN] at h
      obtain ⟨rfl, rfl⟩ := h
      rw [Array.eq_empty_of_size_eq_zero hx.symm, Array.eq_empty_of_size_eq_zero hc.symm]
    | _ => first | rfl | (simp [closedN] at h)
  | succ n ih =>
    intro v v' h r
    cases r with
    | func f hx _ hc _ =>
      simp [closedN] at h
      obtain ⟨rfl, rfl⟩ := h
      rw [Array.eq_empty_of_size_eq_zero hx.symm, Array.eq_empty_of_size_eq_zero hc.symm]
    | agg hc hh => exact congrArg Value.agg (arr n ih (by simpa only [closedN] using h) hc hh)
    | tuple hc hh => exact congrArg Value.tuple (arr n ih (by simpa only [closedN] using h) hc hh)
    | iface t hh => exact congrArg (Value.iface t) (ih _ _ (by simpa only [closedN] using h) hh)
    | _ => first | rfl | (simp [closedN] at h)
theorem closed_eq {μ : Mu} {v v' : Value} (h : closed v = true) (r : VRel μ v v') : v' = v := closedN_eq 3 v v' h r
end
end Go.Proofs.YtefhaojjohddaaaGreatDoor.AM
