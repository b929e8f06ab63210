/- What Go functions of the program compute, as plain Lean functions, and that the machine comes to just these answers (written by a program for this seat). -/
import Derived.Test.YtjjnfobeeflnhaaJx0
import Derived.Test.YtjjnfobeeflnhaaJx2
import Derived.Test.YtjjnfobeeflnhaaJx12
namespace Go.Proofs.Ytjjnfobeeflnhaa.J
open Go.RowKit Go.Proofs.YtjjnfobeeflnhaaW.PrintWords Go.Proofs.YtjjnfobeeflnhaaW.PrintLast Go.Proofs.YtjjnfobeeflnhaaW.PrintMore
attribute [local go_sem] max2_int min2_int max_two min_two max_three min_three max_four min_four   -- for this text's walks alone
set_option linter.unusedVariables false
set_option linter.unusedSimpArgs false

/-! ### twice_Low: function 46 -/
def twice_Low.f (k : Nat) (a0 a1 a2 : Int) (l1 : List (List Int)) (x : Int) : Option (Int × Int) := twice_at.f k a0 a1 a2 l1 x (if 0 < l1.length then some (l1.getD 0 []) else none)
theorem twice_Low.mono (a0 a1 a2 : Int) (l1 : List (List Int)) (x : Int) (k : Nat) : LeO (twice_Low.f k a0 a1 a2 l1 x) (twice_Low.f (k + 1) a0 a1 a2 l1 x) := twice_at.mono _ _ _ _ _ _ _
theorem twice_Low.boxes {w W : World} {a b : Value} {s t : TypeId} (cs : Array Value) (hb : Below ((w.alloc (.cells cs s)).alloc (.cells #[b] t)).heap.size ((w.alloc (.cells cs s)).alloc (.cells #[b] t)) W) : Below w.heap.size w W ∧ W.cell? ⟨w.heap.size + 1, 0, none⟩ = some b ∧ ∀ j, W.cell? ⟨w.heap.size, j, none⟩ = cs[j]? := by
  have h1 : W.heap[w.heap.size + 1]? = some (.cells #[b] t (0, 0)) := (hb.block _ (by simp)).trans (by show ((w.heap.push (.cells cs s)).push _)[w.heap.size + 1]? = _; rw [show w.heap.size + 1 = (w.heap.push (.cells cs s)).size by simp, Array.getElem?_push_size])
  have h2 : W.heap[w.heap.size]? = some (.cells cs s (0, 0)) := (hb.block _ (by simp; omega)).trans (by show ((w.heap.push (.cells cs s)).push _)[w.heap.size]? = _; rw [Array.getElem?_push, if_neg (by simp), Array.getElem?_push_size])
  exact ⟨below_step (below_alloc (below_alloc (Below.refl _ _) _) _) hb, (blk_cell h1 0).trans rfl, fun j => blk_cell h2 j⟩
set_option maxHeartbeats 8000000 in
theorem twice_Low.lit (_k : Nat) (a0 a1 a2 : Int) (A1 : Option Addr) (c1 : Nat) (l1 : List (List Int)) (w : World) (hr1 : Kd.C (Kd.slice 22 (Kd.int .u64)) w A1 l1.length l1) (hc1 : l1.length ≤ c1) :
    ∀ m, (if 0 < l1.length then some (l1.getD 0 []) else none) = some m → ∀ W, Below ((w.alloc (.cells #[.int .u64 a0, .int .i64 a1, .int .i64 a2] 24)).alloc (.cells #[.slice A1 l1.length c1] 25)).heap.size ((w.alloc (.cells #[.int .u64 a0, .int .i64 a1, .int .i64 a2] 24)).alloc (.cells #[.slice A1 l1.length c1] 25)) W →
      Calls Try.prog 130 (#[] ++ #[.pointer (some ⟨w.heap.size + 1, 0, none⟩)]) W fun e w' => ∃ A c, e = .returned (.slice A m.length c) ∧ m.length ≤ c ∧ Kd.C (Kd.int .u64) w' A m.length m ∧ Below W.heap.size W w' := by
  intro m hm W hb
  by_cases h0 : 0 < l1.length
  · rw [if_pos h0] at hm
    obtain rfl := Option.some.inj hm
    obtain ⟨hB, d1, _⟩ := twice_Low.boxes (a := undef) _ hb
    obtain ⟨ad, A0, c0, e1, hcell, hle, hC⟩ := slices_IndexFunc_uint64_uint64.at_ hr1 0 h0
    subst e1
    replace hcell := (hB.cell (World.block_lt_of_cell? w _ hcell)).trans hcell
    rw [show ad.add 0 = ad by simp [Addr.add]] at hcell
    have HC2 := Aside0.mk (Kd.C_below hC hB)
    obtain ⟨x, hx⟩ : ∃ x, x = l1.getD 0 [] := ⟨_, rfl⟩
    rw [← hx] at hcell hle HC2 ⊢
    obtain ⟨n, hn⟩ : ∃ n, n = l1.length := ⟨_, rfl⟩
    rw [← hn] at d1 h0
    clear hx hn hr1 hc1 hm hb hC hB
    show Calls Try.prog 130 #[.pointer (some ⟨w.heap.size + 1, 0, none⟩)] W _
    have t0 : ((0 : Int) < (n : Int)) := by omega
    go_enter Try.func130, Try.ntmps130
    go_wp2
    go_ret
    exact ⟨_, _, rfl, hle, HC2.out, Below.refl _ _⟩
  · rw [if_neg h0] at hm; cases hm
set_option maxHeartbeats 8000000 in
set_option maxRecDepth 100000 in
theorem twice_Low.calls (k : Nat) (a0 a1 a2 : Int) (A1 : Option Addr) (c1 : Nat) (l1 : List (List Int)) (x : Int) (r1 r2 : Int) (w : World) (hr1 : Kd.C (Kd.slice 22 (Kd.int .u64)) w A1 l1.length l1) (hc1 : l1.length ≤ c1) (h : twice_Low.f k a0 a1 a2 l1 x = some (r1, r2)) :
    Calls Try.prog 46 #[.agg #[.int .u64 a0, .int .i64 a1, .int .i64 a2], .slice A1 l1.length c1, .int .u64 x] w fun e w' => e = .returned (.tuple #[.int .u64 r1, .int .i64 r2]) ∧ Below w.heap.size w w' := by
  have HR := Aside0.mk hr1
  have HC := Aside0.mk hc1
  clear hr1 hc1
  have HH := Aside0.mk h
  clear h
  have hu := Try.underlying24
  go_enter Try.func46, Try.ntmps46
  go_wp2_with (go_at_call 129; refine (twice_at.any_calls k a0 a1 a2 A1 c1 l1 x _ 130 #[.pointer (some ⟨w.heap.size + 1, 0, none⟩)] (fun args w => enters_ Try.func130 (by kernel_rfl) rfl args w) r1 r2 _ (twice_Low.lit k a0 a1 a2 A1 c1 l1 w HR.out HC.out) (Kd.C_alloc (Kd.C_alloc HR.out _) _) HC.out HH.out).mono ?_; rintro e w1 ⟨rfl, hb⟩; have HB := Aside0.mk (below_step (below_alloc (below_alloc (Below.refl _ _) _) _) hb : Below w.heap.size w w1); clear hb)
  go_ret2
  exact ⟨rfl, HB.out⟩

end Go.Proofs.Ytjjnfobeeflnhaa.J
