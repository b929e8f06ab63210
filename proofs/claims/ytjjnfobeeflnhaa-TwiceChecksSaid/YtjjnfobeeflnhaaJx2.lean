/- What Go functions of the program compute, as plain Lean functions, and that the machine comes to just these answers (written by a program for this seat). -/
import Derived.Test.YtjjnfobeeflnhaaJx0
namespace Go.Proofs.Ytjjnfobeeflnhaa.J
open Go.RowKit Go.Proofs.YtjjnfobeeflnhaaW.PrintWords Go.Proofs.YtjjnfobeeflnhaaW.PrintLast Go.Proofs.YtjjnfobeeflnhaaW.PrintMore
attribute [local go_sem] max2_int min2_int max_two min_two max_three min_three max_four min_four   -- for this text's walks alone
set_option linter.unusedVariables false
set_option linter.unusedSimpArgs false

/-! ### slices_IndexFunc_uint64_uint64: function 160 -/
/-- A function value with what it has captured: it is entered. -/
theorem slices_IndexFunc_uint64_uint64.goesT {P : Program} {ops : Array Oper} {Q : Exit → Act → World → Prop} {rest : List Oper} {oi : Oper} {a : Act} {w : World} (N : Option Tmp) (hd : oi.dst = N) (hg : oi.guard = none) {f : FuncId} {L : Array Value} {c : Operand} {ops_ : Array Operand} {ts : Array TypeId}
    (he : ∀ args w, (callFunc f args).run P w = .ok (.enter f args) w) (args : Array Value) (hop : oi.op = .call { callee := .value c, args := ops_, argTypes := ts }) (hc : a.eval c = .func (.func f) #[] L) (hargs : ops_.map a.eval = args)
    (h : Calls P f (args ++ L) w fun e w' => ∃ v, e = .returned v ∧ wpList P ops Q rest (a.put N v) w') : wpList P ops Q (oi :: rest) a w := by
  refine wpList_plain hg fun K hK => ?_
  have he := he (args ++ L) w
  have hrun : (execOp a.eval oi).run P w = .ok (.enter f (args ++ L)) w := by
    unfold execOp
    have hargs' : Array.map (fun x => a.eval x) ops_ = args := hargs
    simp [hop, resolve, Deferred.ofValue, invoke, hc, hargs', he]
  unfold Oper.wp
  rw [hrun, Oper.upon_enter]
  refine h.mono fun e w'' hh => ?_
  obtain ⟨v, rfl, hk⟩ := hh
  subst hd
  exact hK _ _ hk
/-- The same in a region that draws its order. -/
theorem slices_IndexFunc_uint64_uint64.goesT_ {P : Program} {ops : Array Oper} {Q : Exit → Act → World → Prop} {oi : Oper} {N : Option Tmp} {a : Act} {w : World} {K : Act → World → Prop} {f : FuncId} {L : Array Value} {c : Operand} {ops_ : Array Operand} {ts : Array TypeId}
    (he : ∀ args w, (callFunc f args).run P w = .ok (.enter f args) w) (args : Array Value) (hw : Region.wanted oi (yielded ops a.tmps) = true) (hN : oi.dst = N) (hop : oi.op = .call { callee := .value c, args := ops_, argTypes := ts }) (hc : a.eval c = .func (.func f) #[] L) (hargs : ops_.map a.eval = args)
    (h : Calls P f (args ++ L) w fun e w' => ∃ v, e = .returned v ∧ K (a.put N v) w') : if Region.wanted oi (yielded ops a.tmps) = true then Oper.wp P oi a w K Q else K (a.put N undef) w := by
  refine call_ f (args ++ L) hw hN ?_ h
  have he := he (args ++ L) w
  have hargs' : Array.map (fun x => a.eval x) ops_ = args := hargs
  unfold execOp
  simp [hop, resolve, Deferred.ofValue, invoke, hc, hargs', he]
theorem slices_IndexFunc_uint64_uint64.at_ {w : World} {A : Option Addr} {n : Nat} {xs : List (List Int)} (h : Kd.C (Kd.slice 22 (Kd.int .u64)) w A n xs) (i : Nat) (h1 : i < n) : ∃ ad A0 c0, A = some ad ∧ w.cell? (ad.add i) = some (.slice A0 (xs.getD i []).length c0) ∧ (xs.getD i []).length ≤ c0 ∧ (Kd.int .u64).C w A0 (xs.getD i []).length (xs.getD i []) := by
  obtain ⟨ad, c, e, _, hK, hc0⟩ := Kd.C_get h ([] : List Int) (i : Int) (by omega) (by omega)
  have hc : ∀ j u, c[j]? = some u → w.cell? (ad.add (((i : Int)).toNat * 1 + j)) = some u := hc0
  obtain ⟨A0, c0, rfl, l0, g0⟩ := hK
  exact ⟨ad, A0, c0, e, by have hq := hc 0 _ rfl; rwa [Nat.mul_one, Nat.add_zero] at hq, l0, g0⟩
theorem slices_IndexFunc_uint64_uint64.any_step (d : List Int → Bool) (l : List (List Int)) (k : Nat) (hk : k < l.length) (h : (l.take k).any d = false) : (l.take (k + 1)).any d = d (l.getD k []) := by
  rw [List.take_succ_eq_append_getElem hk, List.any_append, h]
  simp [List.getD_eq_getElem?_getD, hk]
theorem slices_IndexFunc_uint64_uint64.any_true (d : List Int → Bool) (l : List (List Int)) (k : Nat) (hk : k < l.length) (h : d (l.getD k []) = true) : l.any d = true := by
  rw [List.any_eq_true]
  exact ⟨l[k], List.getElem_mem hk, by simpa [List.getD_eq_getElem?_getD, hk] using h⟩
def slices_IndexFunc_uint64_uint64.Post (b : Bool) (w : World) (e : Ending) (w' : World) : Prop := ∃ i : Int, e = .returned (.int .i64 i) ∧ decide (0 ≤ i) = b ∧ Drawn0 w w'
set_option maxHeartbeats 8000000 in
set_option maxRecDepth 100000 in
theorem slices_IndexFunc_uint64_uint64.any_calls (d : List Int → Bool) (fid : FuncId) (L : Array Value) (hE : ∀ args w, (callFunc fid args).run Try.prog w = .ok (.enter fid args) w) (A0 : Option Addr) (c0 : Nat) (l0 : List (List Int)) (w : World)
    (hD : ∀ (A : Option Addr) (c : Nat) (l : List Int) (W : World), Below w.heap.size w W → Kd.C (Kd.int .u64) W A l.length l → l.length ≤ c → Calls Try.prog fid (#[.slice A l.length c] ++ L) W fun e w' => e = .returned (.bool (d l)) ∧ Drawn0 W w')
    (hr0 : Kd.C (Kd.slice 22 (Kd.int .u64)) w A0 l0.length l0) (hc0 : l0.length ≤ c0) :
    Calls Try.prog 160 #[.slice A0 l0.length c0, .func (.func fid) #[] L] w (slices_IndexFunc_uint64_uint64.Post (l0.any d) w) := by
  have HE := Aside0.mk hE
  have HD := Aside0.mk hD
  have HR := Aside0.mk hr0
  have hlen : l0.length ≤ 9223372036854775807 := hr0.2.1
  clear hE hD hr0 hc0
  obtain ⟨n, hn⟩ : ∃ n, n = l0.length := ⟨_, rfl⟩
  rw [← hn] at hlen ⊢
  have HN := Aside0.mk hn
  clear hn
  go_enter Try.func160, Try.ntmps160
  go_wp2
  go_loopw [8] (fun v8 w' => ∃ k : Nat, v8 = .int .i64 k ∧ k ≤ n ∧ Aside0 ((l0.take k).any d = false) ∧ Aside0 (Drawn0 w w')) (fun v8 _ => n - (intOf v8).toNat)
  case atStart => exact ⟨0, rfl, Nat.zero_le _, ⟨by simp⟩, ⟨Drawn0.refl _⟩⟩
  case round =>
    obtain ⟨k, rfl, hk, HA, HW⟩ := hrel
    by_cases hlt : k < n
    · have hltl : k < l0.length := by have := HN.out; omega
      obtain ⟨ad, A1, c1, e1, hcell, hle1, hC1⟩ := slices_IndexFunc_uint64_uint64.at_ HR.out k hltl
      subst e1
      have hB : Below w.heap.size w wr := HW.out.below
      replace hcell := (hB.cell (World.block_lt_of_cell? w _ hcell)).trans hcell
      have HC1 := Aside0.mk (Kd.C_below hC1 hB)
      have HB := Aside0.mk hB
      have HL1 := Aside0.mk hle1
      have HLT := Aside0.mk hltl
      clear hC1 hB hle1 hltl
      obtain ⟨b, hb⟩ : ∃ b, b = d (l0.getD k []) := ⟨_, rfl⟩
      obtain ⟨x, hx⟩ : ∃ x, x = l0.getD k [] := ⟨_, rfl⟩
      rw [← hx] at hcell HC1 HL1 hb
      have HX := Aside0.mk hx
      have HBB := Aside0.mk hb
      clear hx hb
      cases b with
      | true =>
        go_wp2_with ((with_reducible refine gate_dst (N := 16) rfl ?_); refine slices_IndexFunc_uint64_uint64.goesT (some 16) rfl rfl HE.out #[.slice A1 x.length c1] rfl rfl (by (try simp only [List.map_toArray, List.map_cons, List.map_nil]); first | done | rfl) ?_; (with_reducible refine (HD.out _ _ x _ HB.out HC1.out HL1.out).mono ?_); rintro e w' ⟨rfl, ⟨nd, rfl⟩⟩; rw [← HBB.out]; refine ⟨_, rfl, ?_⟩)
        go_ret
        exact ⟨_, rfl, by rw [slices_IndexFunc_uint64_uint64.any_true d l0 k HLT.out (by rw [← HX.out]; exact HBB.out.symm)]; simp, HW.out.step _⟩
      | false =>
        go_wp2_with ((with_reducible refine gate_dst (N := 16) rfl ?_); refine slices_IndexFunc_uint64_uint64.goesT (some 16) rfl rfl HE.out #[.slice A1 x.length c1] rfl rfl (by (try simp only [List.map_toArray, List.map_cons, List.map_nil]); first | done | rfl) ?_; (with_reducible refine (HD.out _ _ x _ HB.out HC1.out HL1.out).mono ?_); rintro e w' ⟨rfl, ⟨nd, rfl⟩⟩; rw [← HBB.out]; refine ⟨_, rfl, ?_⟩)
        go_roundw
        case rel => exact ⟨k + 1, by first | rfl | go_num, by omega, ⟨by rw [slices_IndexFunc_uint64_uint64.any_step d l0 k HLT.out HA.out, ← HX.out]; exact HBB.out.symm⟩, ⟨HW.out.step _⟩⟩
        case measure => simp [intOf]; omega
    · obtain rfl : k = n := by omega
      go_wp2
      go_ret
      exact ⟨_, rfl, by have := HA.out; rw [HN.out, List.take_length] at this; rw [this]; rfl, HW.out⟩

end Go.Proofs.Ytjjnfobeeflnhaa.J
