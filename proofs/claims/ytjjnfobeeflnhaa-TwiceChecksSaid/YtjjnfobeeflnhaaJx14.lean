/- What Go functions of the program compute, as plain Lean functions, and that the machine comes to just these answers (written by a program for this seat). -/
import Derived.Test.YtjjnfobeeflnhaaJx0
import Derived.Test.YtjjnfobeeflnhaaJx12
import Derived.Test.YtjjnfobeeflnhaaJx13
import Derived.Test.YtjjnfobeeflnhaaJx18
namespace Go.Proofs.Ytjjnfobeeflnhaa.J
open Go.RowKit Go.Proofs.YtjjnfobeeflnhaaW.PrintWords Go.Proofs.YtjjnfobeeflnhaaW.PrintLast Go.Proofs.YtjjnfobeeflnhaaW.PrintMore
attribute [local go_sem] max2_int min2_int max_two min_two max_three min_three max_four min_four   -- for this text's walks alone
set_option linter.unusedVariables false
set_option linter.unusedSimpArgs false

/-! ### twice_High: function 47 -/
def twice_High.f (k : Nat) (a0 a1 a2 : Int) (l1 : List (List Int)) (x : Int) : Option (Int × Int) := twice_at.f k a0 a1 a2 l1 x (twice_All.f a0 l1)
theorem twice_High.mono (a0 a1 a2 : Int) (l1 : List (List Int)) (x : Int) (k : Nat) : LeO (twice_High.f k a0 a1 a2 l1 x) (twice_High.f (k + 1) a0 a1 a2 l1 x) := twice_at.mono _ _ _ _ _ _ _
set_option maxHeartbeats 8000000 in
theorem twice_High.lit (_k : Nat) (a0 a1 a2 : Int) (A1 : Option Addr) (c1 : Nat) (l1 : List (List Int)) (w : World) (hr1 : Kd.C (Kd.slice 22 (Kd.int .u64)) w A1 l1.length l1) (hc1 : l1.length ≤ c1) :
    ∀ m, twice_All.f a0 l1 = some m → ∀ W, Below ((w.alloc (.cells #[.int .u64 a0, .int .i64 a1, .int .i64 a2] 24)).alloc (.cells #[.slice A1 l1.length c1] 25)).heap.size ((w.alloc (.cells #[.int .u64 a0, .int .i64 a1, .int .i64 a2] 24)).alloc (.cells #[.slice A1 l1.length c1] 25)) W →
      Calls Try.prog 131 (#[] ++ #[.pointer (some ⟨w.heap.size, 0, none⟩), .pointer (some ⟨w.heap.size + 1, 0, none⟩)]) W fun e w' => ∃ A c, e = .returned (.slice A m.length c) ∧ m.length ≤ c ∧ Kd.C (Kd.int .u64) w' A m.length m ∧ Below W.heap.size W w' := by
  intro m hm W hb
  obtain ⟨hB, d1, dj⟩ := twice_Low.boxes (a := undef) _ hb
  have d0 : W.cell? ⟨w.heap.size, 0, none⟩ = some (.int .u64 a0) := (dj 0).trans rfl
  have HC2 := Aside0.mk (Kd.C_below hr1 hB)
  have HM := Aside0.mk hm
  have HL := Aside0.mk hc1
  have hu := Try.underlying24
  clear hr1 hc1 hm hb hB dj
  show Calls Try.prog 131 #[.pointer (some ⟨w.heap.size, 0, none⟩), .pointer (some ⟨w.heap.size + 1, 0, none⟩)] W _
  go_enter Try.func131, Try.ntmps131
  go_wp2_with (go_at_call 132; refine (twice_All.calls a0 A1 c1 l1 m _ HC2.out HL.out HM.out).mono ?_; rintro e w1 ⟨v, rfl, ho, hb⟩; have HO := Aside0.mk ho; have HB := Aside0.mk hb; clear ho hb)
  go_ret
  obtain ⟨A, c, rfl⟩ := Kd.R_slice HO.out
  exact ⟨_, _, rfl, (Kd.R_reads' HO.out).2.1, (Kd.R_reads' HO.out).2.2, HB.out⟩
set_option maxHeartbeats 8000000 in
set_option maxRecDepth 100000 in
theorem twice_High.calls (k : Nat) (a0 a1 a2 : Int) (A1 : Option Addr) (c1 : Nat) (l1 : List (List Int)) (x : Int) (r1 r2 : Int) (w : World) (hr1 : Kd.C (Kd.slice 22 (Kd.int .u64)) w A1 l1.length l1) (hc1 : l1.length ≤ c1) (h : twice_High.f k a0 a1 a2 l1 x = some (r1, r2)) :
    Calls Try.prog 47 #[.agg #[.int .u64 a0, .int .i64 a1, .int .i64 a2], .slice A1 l1.length c1, .int .u64 x] w fun e w' => e = .returned (.tuple #[.int .u64 r1, .int .i64 r2]) ∧ Below w.heap.size w w' := by
  have HR := Aside0.mk hr1
  have HC := Aside0.mk hc1
  clear hr1 hc1
  have HH := Aside0.mk h
  clear h
  have hu := Try.underlying24
  go_enter Try.func47, Try.ntmps47
  go_wp2_with (go_at_call 129; refine (twice_at.any_calls k a0 a1 a2 A1 c1 l1 x _ 131 #[.pointer (some ⟨w.heap.size, 0, none⟩), .pointer (some ⟨w.heap.size + 1, 0, none⟩)] (fun args w => enters_ Try.func131 (by kernel_rfl) rfl args w) r1 r2 _ (twice_High.lit k a0 a1 a2 A1 c1 l1 w HR.out HC.out) (Kd.C_alloc (Kd.C_alloc HR.out _) _) HC.out HH.out).mono ?_; rintro e w1 ⟨rfl, hb⟩; have HB := Aside0.mk (below_step (below_alloc (below_alloc (Below.refl _ _) _) _) hb : Below w.heap.size w w1); clear hb)
  go_ret2
  exact ⟨rfl, HB.out⟩

end Go.Proofs.Ytjjnfobeeflnhaa.J
