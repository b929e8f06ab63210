/- What Go functions of the program compute, as plain Lean functions, and that the machine comes to just these answers (written by a program for this seat). -/
import Derived.Test.YtjjnfobeeflnhaaJx0
import Derived.RangeFuncBox
import Derived.RangeFuncLeaves
import Derived.RangeFuncCalls
import Derived.RangeFuncWrites
import Derived.Shelf.Abstract
import Derived.OwnWalkIn
import Derived.TacticsInMore
import Derived.LoopNIn
import Derived.LoopIn
namespace Go.Proofs.Ytjjnfobeeflnhaa.J
open Go.RowKit Go.Proofs.YtjjnfobeeflnhaaW.PrintWords Go.Proofs.YtjjnfobeeflnhaaW.PrintLast Go.Proofs.YtjjnfobeeflnhaaW.PrintMore
attribute [local go_sem] max2_int min2_int max_two min_two max_three min_three max_four min_four   -- for this text's walks alone
set_option linter.unusedVariables false
set_option linter.unusedSimpArgs false

/-! ### slices_Backward_uint64_uint64_162: function 162 -/
section
open Go.Shelf
attribute [local go_sem] Oper.semAt_some
/-- What has come when k rounds are over. -/
def slices_Backward_uint64_uint64_162_upto {α : Type} (f : Nat → α) (k : Nat) : List α := (List.range k).map f
theorem slices_Backward_uint64_uint64_162_upto_succ {α : Type} (f : Nat → α) (k : Nat) : slices_Backward_uint64_uint64_162_upto f (k + 1) = slices_Backward_uint64_uint64_162_upto f k ++ [f k] := by simp [slices_Backward_uint64_uint64_162_upto, List.range_succ]
theorem slices_Backward_uint64_uint64_162_upto_length {α : Type} (f : Nat → α) (k : Nat) : (slices_Backward_uint64_uint64_162_upto f k).length = k := by simp [slices_Backward_uint64_uint64_162_upto]
/-- What a round keeps: all below n₀, and the box of the slice. -/
def slices_Backward_uint64_uint64_162_Kp (n₀ Bs : Nat) (W W' : World) : Prop := Below n₀ W W' ∧ W'.heap[Bs]? = W.heap[Bs]?
theorem slices_Backward_uint64_uint64_162_Kp_t {n₀ Bs : Nat} {A B C : World} (h : slices_Backward_uint64_uint64_162_Kp n₀ Bs A B) (k : slices_Backward_uint64_uint64_162_Kp n₀ Bs B C) : slices_Backward_uint64_uint64_162_Kp n₀ Bs A C := ⟨h.1.trans k.1, k.2.trans h.2⟩
theorem slices_Backward_uint64_uint64_162_Kp_b {n₀ Bs : Nat} {w : World} (hn : n₀ ≤ w.heap.size) (hs : Bs < w.heap.size) (W : World) (l : Nat) (o o' : Obj) (hl : w.heap.size ≤ l) (h : W.heap[l]? = some o) (h1 : o.isCells = false) (h2 : o.isWalk = false) : slices_Backward_uint64_uint64_162_Kp n₀ Bs W (W.putObj l o') :=
  ⟨belowK_b hn W l o o' hl h h1 h2, World.putObj_heap_other (by omega)⟩
set_option maxRecDepth 100000 in
set_option maxHeartbeats 2000000 in
theorem slices_Backward_uint64_uint64_162_in (F : Fence) (n : Nat) (h7 : F.fn 172) (hro : F.round = none) (hn : 1 ≤ n) (l Bs n₀ cap : Nat) (A : Option Addr) (len : Nat) (V : Nat → Value) (hV : ∀ j, ∃ B m c, V j = .slice B m c) (hA : ∀ ad, A = some ad → 0 < len → ad.block < n₀) (J Jx : List Nat → World → Prop)
    (hY : ∀ pre (x : Nat) W, J pre W → pre.length < len → YieldAt F (n - 1) Try.prog l #[.int .i64 (x : Int), V x] W fun e W' =>
      (e = .returned (.bool true) ∧ J (pre ++ [x]) W' ∧ slices_Backward_uint64_uint64_162_Kp n₀ Bs W W') ∨ (e = .returned (.bool false) ∧ Jx (pre ++ [x]) W'))
    (W : World) (hBs : W.cell? ⟨Bs, 0, none⟩ = some (.slice A len cap)) (hlen : len ≤ 9223372036854775807) (hc : ∀ j, j < len → ∃ ad, A = some ad ∧ W.cell? (ad.add j) = some (V j)) (h0 : J [] W) :
    CallsIn F n Try.prog 172 #[.func (.yield l) #[] #[], .pointer (some ⟨Bs, 0, none⟩)] W fun e W' => (∃ v, e = .returned v) ∧
      ((∃ ys, ys = slices_Backward_uint64_uint64_162_upto (fun k => len - 1 - k) len ∧ J ys W') ∨ (∃ pre, (∃ k, k ≤ len ∧ pre = slices_Backward_uint64_uint64_162_upto (fun k => len - 1 - k) k) ∧ Jx pre W')) := by
  refine callsIn_of_wp Try.func172 rfl h7 ?_ hro
  simp only [Try.ntmps172, List.size_toArray, List.length_cons, List.length_nil, Nat.reduceAdd, Nat.reduceSub, Array.replicate_succ, Array.replicate_zero, List.push_toArray, List.append_toArray, List.nil_append, List.cons_append]
  have HC := Aside0.mk hc
  clear hc
  gi_wp2
  gi_loopw [3] (fun i wr => ∃ k : Nat, k ≤ len ∧ i = .int .i64 ((len : Int) - 1 - k) ∧ J (slices_Backward_uint64_uint64_162_upto (fun k => len - 1 - k) k) wr ∧ slices_Backward_uint64_uint64_162_Kp n₀ Bs W wr)
    (fun i _ => (intOf i + 1).toNat)
  case atStart => exact ⟨0, Nat.zero_le _, by simp, h0, Below.refl _ _, rfl⟩
  case round =>
    obtain ⟨k, hk, rfl, hJs, hnx⟩ := hrel
    have hBs' : wr.cell? ⟨Bs, 0, none⟩ = some (.slice A len cap) := by unfold World.cell? at hBs ⊢; rw [hnx.2]; exact hBs
    by_cases hlt : k < len
    · obtain ⟨i, hi⟩ : ∃ i : Nat, i = len - 1 - k := ⟨_, rfl⟩
      have hie : (len : Int) - 1 - k = i := by omega
      rw [hie]
      have hil : i < len := by omega
      obtain ⟨ad, rfl, hcx⟩ := HC.out i hil
      replace hcx : wr.cell? (ad.add i) = some (V i) := (hnx.1.cell (p := ad.add i) (by rw [show (ad.add i).block = ad.block by unfold Addr.add; split <;> rfl]; exact hA ad rfl (by omega))).trans hcx
      obtain ⟨B1, m1, c1, e1⟩ := hV i
      obtain ⟨fn, tmps, assign, body, hy, hR⟩ := hY _ i wr hJs (by rw [slices_Backward_uint64_uint64_162_upto_length]; exact hlt)
      have hnth : len - 1 - k = i := hi.symm
      rw [e1] at hcx hy
      have HN := Aside0.mk hnth
      have HI := Aside0.mk hi
      have HIE := Aside0.mk hie
      clear hnth hi hie e1
      have hi0 : 0 ≤ (i : Int) := by omega
      gi_wp2
      refine hR.mono ?_
      rintro e W3 (⟨rfl, hJ3, hk3⟩ | ⟨rfl, hJx3⟩)
      · gi_wp2
        go_roundw
        case rel => exact ⟨k + 1, by omega, by have := HIE.out; congr 1; omega, by rw [slices_Backward_uint64_uint64_162_upto_succ, HN.out]; exact hJ3, slices_Backward_uint64_uint64_162_Kp_t hnx hk3⟩
        case measure => have := HIE.out; simp [intOf]
      · gi_wp2
        refine bodyPost_ret (results_none rfl _ _ _) rfl ?_
        exact ⟨⟨_, rfl⟩, .inr ⟨_, ⟨k + 1, by omega, by rw [slices_Backward_uint64_uint64_162_upto_succ, HN.out]⟩, hJx3⟩⟩
    · obtain rfl : k = len := by omega
      have hneg : (k : Int) - 1 - k = -1 := by omega
      rw [hneg]
      clear hneg
      gi_wp2
      go_end0
      exact ⟨⟨_, rfl⟩, .inl ⟨_, rfl, hJs⟩⟩
set_option maxHeartbeats 1000000 in
theorem slices_Backward_uint64_uint64_162_mk (F : Fence) (n : Nat) (h5 : F.fn 162) (hro : F.round = none) (a : Option Addr) (len cap : Nat) (w : World) :
    CallsIn F n Try.prog 162 #[.slice a len cap] w fun e w' => e = .returned (.func (.func 172) #[] #[.pointer (some ⟨w.heap.size, 0, none⟩)]) ∧ w' = w.alloc (.cells #[.slice a len cap] 25) := by
  refine callsIn_of_wp Try.func162 rfl h5 ?_ hro
  simp only [Try.ntmps162, List.size_toArray, List.length_cons, List.length_nil, Nat.reduceAdd, Nat.reduceSub, Array.replicate_succ, Array.replicate_zero, List.push_toArray, List.append_toArray, List.nil_append, List.cons_append]
  gi_wp2
  go_ret
  exact ⟨rfl, rfl⟩
theorem slices_Backward_uint64_uint64_162_stops (F : Fence) (n : Nat) (h7 : F.fn 172) (hro : F.round = none) (hn : 1 ≤ n) (Bs n₀ cap : Nat) (A : Option Addr) (len : Nat) (V : Nat → Value) (hV : ∀ j, ∃ B m c, V j = .slice B m c) (w : World) (hBs : Bs < w.heap.size) (hn₀ : n₀ ≤ w.heap.size) (hlen : len ≤ 9223372036854775807)
    (hc : w.cell? ⟨Bs, 0, none⟩ = some (.slice A len cap)) (hC : ∀ j, j < len → ∃ ad, A = some ad ∧ w.cell? (ad.add j) = some (V j)) (hA : ∀ ad, A = some ad → 0 < len → ad.block < n₀) :
    SeqStopsK F n Try.prog 172 #[.pointer (some ⟨Bs, 0, none⟩)] (fun x : Nat => #[Value.int .i64 (x : Int), V x]) (slices_Backward_uint64_uint64_162_Kp n₀ Bs) (fun ys => ys = slices_Backward_uint64_uint64_162_upto (fun k => len - 1 - k) len)
      (fun pre => ∃ k, k ≤ len ∧ pre = slices_Backward_uint64_uint64_162_upto (fun k => len - 1 - k) k) len w := fun l J Jx W hW _ _ hY h0 => by
  have hc' := (hW.cell (p := ⟨Bs, 0, none⟩) hBs).trans hc
  exact slices_Backward_uint64_uint64_162_in F n h7 hro hn l Bs n₀ cap A len V hV hA J Jx hY W hc' hlen (fun j hj => let ⟨ad, e, h⟩ := hC j hj; ⟨ad, e, (hW.cell (World.block_lt_of_cell? _ _ h)).trans h⟩) h0
theorem slices_Backward_uint64_uint64_162_rev (len : Nat) : slices_Backward_uint64_uint64_162_upto (fun k => len - 1 - k) len = (List.range len).reverse := by
  apply List.ext_getElem
  · simp [slices_Backward_uint64_uint64_162_upto]
  · intro i h1 h2
    simp [slices_Backward_uint64_uint64_162_upto, List.getElem_reverse]
end

end Go.Proofs.Ytjjnfobeeflnhaa.J
