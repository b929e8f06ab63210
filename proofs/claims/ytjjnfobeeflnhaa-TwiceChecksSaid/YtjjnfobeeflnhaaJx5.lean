/- What Go functions of the program compute, as plain Lean functions, and that the machine comes to just these answers (written by a program for this seat). -/
import Derived.Test.YtjjnfobeeflnhaaJx0
import Derived.Test.YtjjnfobeeflnhaaJx1
import Derived.Test.YtjjnfobeeflnhaaJx2
import Derived.Test.YtjjnfobeeflnhaaJx3
import Derived.Test.YtjjnfobeeflnhaaJx4
namespace Go.Proofs.Ytjjnfobeeflnhaa.J
open Go.RowKit Go.Proofs.YtjjnfobeeflnhaaW.PrintWords Go.Proofs.YtjjnfobeeflnhaaW.PrintLast Go.Proofs.YtjjnfobeeflnhaaW.PrintMore
attribute [local go_sem] max2_int min2_int max_two min_two max_three min_three max_four min_four   -- for this text's walks alone
set_option linter.unusedVariables false
set_option linter.unusedSimpArgs false

/-! ### twice_Check: function 36 -/
def twice_Check.go (k : Nat) (p : Int) : List (List Int) → Option Int
  | [] => some 0
  | f :: fs => (field_Below.f k p f).bind fun e => if e = 0 then twice_Check.go k p fs else some e
def twice_Check.f (k : Nat) (a0 a1 a2 : Int) (l1 : List (List Int)) : Option Int := (share_Setup.f k a0 a1 a2).bind fun e => if e = 0 then (if (l1.length : Int) = wrap64 (a2 + 1) then (if l1.any (fun f => decide (wrap64 (a2 + 1) < (f.length : Int))) = true then some 4 else twice_Check.go k a0 l1) else some 4) else some e
theorem twice_Check.mono_go (p : Int) (k : Nat) : ∀ l, LeO (twice_Check.go k p l) (twice_Check.go (k + 1) p l)
  | [] => LeO.refl _
  | f :: fs => by unfold twice_Check.go; exact LeO.bind (field_Below.mono _ _ _) fun e => LeO.ite (twice_Check.mono_go p k fs) (LeO.refl _)
theorem twice_Check.mono (a0 a1 a2 : Int) (l1 : List (List Int)) (k : Nat) : LeO (twice_Check.f k a0 a1 a2 l1) (twice_Check.f (k + 1) a0 a1 a2 l1) := by
  unfold twice_Check.f
  exact LeO.bind (share_Setup.mono _ _ _ _) fun e => LeO.ite (LeO.ite (LeO.ite (LeO.refl _) (twice_Check.mono_go _ _ _)) (LeO.refl _)) (LeO.refl _)
set_option maxHeartbeats 8000000 in
theorem twice_Check.lit (a2 : Int) (b : Nat) (A : Option Addr) (c : Nat) (l : List Int) (W : World) (hc : W.cell? ⟨b, 2, none⟩ = some (.int .i64 a2)) :
    Calls Try.prog 122 (#[.slice A l.length c] ++ #[.pointer (some ⟨b, 0, none⟩)]) W fun e w' => e = .returned (.bool (decide (wrap64 (a2 + 1) < (l.length : Int)))) ∧ Drawn0 W w' := by
  show Calls Try.prog 122 #[.slice A l.length c, .pointer (some ⟨b, 0, none⟩)] W _
  have hu := Try.underlying24
  go_enter Try.func122, Try.ntmps122
  go_wp2
  go_ret
  exact ⟨by first | rfl | simp [i64_w], Drawn0.refl _⟩
theorem twice_Check.box {w w1 : World} {a b c : Value} {t : TypeId} (hb : Below (w.alloc (.cells #[a, b, c] t)).heap.size (w.alloc (.cells #[a, b, c] t)) w1) : Below w.heap.size w w1 ∧ w1.cell? ⟨w.heap.size, 0, none⟩ = some a ∧ w1.cell? ⟨w.heap.size, 2, none⟩ = some c := by
  have hbx : w1.heap[w.heap.size]? = some (.cells #[a, b, c] t (0, 0)) := (hb.block _ (by simp)).trans (by show (w.heap.push _)[w.heap.size]? = _; simp)
  exact ⟨below_step (below_alloc (Below.refl _ _) _) hb, (blk_cell hbx 0).trans rfl, (blk_cell hbx 2).trans rfl⟩
set_option maxHeartbeats 8000000 in
set_option maxRecDepth 100000 in
theorem twice_Check.calls (k : Nat) (a0 a1 a2 : Int) (A1 : Option Addr) (c1 : Nat) (l1 : List (List Int)) (r : Int) (w : World) (hr1 : Kd.C (Kd.slice 22 (Kd.int .u64)) w A1 l1.length l1) (hc1 : l1.length ≤ c1) (h : twice_Check.f k a0 a1 a2 l1 = some r) :
    Calls Try.prog 36 #[.agg #[.int .u64 a0, .int .i64 a1, .int .i64 a2], .slice A1 l1.length c1] w fun e w' => e = .returned (.int .i64 r) ∧ Below w.heap.size w w' := by
  have HR := Aside0.mk hr1
  have HC := Aside0.mk hc1
  clear hr1 hc1
  unfold twice_Check.f at h
  replace h := Option.bind_eq_some_iff.mp h
  obtain ⟨e0, he0, h⟩ := h
  have HE := Aside0.mk he0
  have H := Aside0.mk h
  clear he0
  clear h
  have hu := Try.underlying24
  by_cases h0 : e0 = 0
  · subst h0
    have H1 := H.out
    rw [if_pos rfl] at H1
    clear H
    by_cases h1 : (l1.length : Int) = wrap64 (a2 + 1)
    · rw [if_pos h1] at H1
      have t1 : ((l1.length : Int) != wrap64 (a2 + 1)) = false := by rw [h1]; simp
      have T1 := Aside0.mk h1
      clear h1
      by_cases h2 : l1.any (fun f => decide (wrap64 (a2 + 1) < (f.length : Int))) = true
      · rw [if_pos h2] at H1
        obtain rfl := Option.some.inj H1
        have HANY := Aside0.mk h2
        clear h2 H1
        go_enter Try.func36, Try.ntmps36
        go_wp2_with (first
          | (go_at_call 64; refine (share_Setup.calls k a0 a1 a2 0 _ HE.out).mono ?_; rintro e w1 ⟨rfl, hb⟩; obtain ⟨hB, c0_, c2_⟩ := twice_Check.box hb; have HB := Aside0.mk hB; clear hb hB)
          | (go_at_call 121; refine (slices_ContainsFunc_uint64_uint64.any_calls (fun f => decide (wrap64 (a2 + 1) < (f.length : Int))) 122 #[.pointer (some ⟨w.heap.size, 0, none⟩)] (fun args w => enters_ Try.func122 (by kernel_rfl) rfl args w) A1 c1 l1 _ (fun A c l W hb hC hl => twice_Check.lit a2 w.heap.size A c l W ((hb.cell (World.block_lt_of_cell? _ _ c2_)).trans c2_)) (Kd.C_below HR.out HB.out) HC.out).mono ?_; rintro e w' ⟨rfl, ⟨nd, rfl⟩⟩; rw [HANY.out]))
        go_ret
        exact ⟨rfl, pw_below_drewN HB.out _⟩
      · rw [if_neg h2] at H1
        have HANY := Aside0.mk (Bool.eq_false_iff.mpr h2)
        have HG := Aside0.mk H1
        clear h2 H1
        go_enter Try.func36, Try.ntmps36
        go_wp2_with (first
          | (go_at_call 64; refine (share_Setup.calls k a0 a1 a2 0 _ HE.out).mono ?_; rintro e w1 ⟨rfl, hb⟩; obtain ⟨hB, c0_, c2_⟩ := twice_Check.box hb; have HB := Aside0.mk hB; clear hb hB)
          | (go_at_call 121; refine (slices_ContainsFunc_uint64_uint64.any_calls (fun f => decide (wrap64 (a2 + 1) < (f.length : Int))) 122 #[.pointer (some ⟨w.heap.size, 0, none⟩)] (fun args w => enters_ Try.func122 (by kernel_rfl) rfl args w) A1 c1 l1 _ (fun A c l W hb hC hl => twice_Check.lit a2 w.heap.size A c l W ((hb.cell (World.block_lt_of_cell? _ _ c2_)).trans c2_)) (Kd.C_below HR.out HB.out) HC.out).mono ?_; rintro e w' ⟨rfl, ⟨nd, rfl⟩⟩; rw [HANY.out]))
        clear t1
        have hlen : l1.length ≤ 9223372036854775807 := HR.out.2.1
        go_loopw [27] (fun v27 w' => ∃ j : Nat, v27 = .int .i64 j ∧ j ≤ l1.length ∧ Aside0 (twice_Check.go k a0 (l1.drop j) = some r) ∧ Aside0 (Drawn0 w1 w')) (fun v27 _ => l1.length - (intOf v27).toNat)
        case atStart => exact ⟨0, rfl, Nat.zero_le _, ⟨HG.out⟩, ⟨⟨_, rfl⟩⟩⟩
        case round =>
          clear HG
          obtain ⟨j, rfl, hj, HG, HW⟩ := hrel
          obtain ⟨m, rfl⟩ := HW.out.out
          by_cases hlt : j < l1.length
          · obtain ⟨ad, A2, c2, e2, hcell, hle2, hC2⟩ := slices_IndexFunc_uint64_uint64.at_ HR.out j hlt
            subst e2
            replace hcell := (HB.out.cell (World.block_lt_of_cell? w _ hcell)).trans hcell
            have HC2 := Aside0.mk (Kd.C_below hC2 HB.out)
            have HL2 := Aside0.mk hle2
            have hg := HG.out
            rw [List.drop_eq_getElem_cons hlt] at hg
            have hx : l1.getD j [] = l1[j] := by simp [List.getD_eq_getElem?_getD, hlt]
            rw [← hx] at hg
            clear hx hC2 hle2
            obtain ⟨x, hx⟩ : ∃ x, x = l1.getD j [] := ⟨_, rfl⟩
            rw [← hx] at hcell HC2 HL2 hg
            clear hx HG
            unfold twice_Check.go at hg
            replace hg := Option.bind_eq_some_iff.mp hg
            obtain ⟨e, he, hg⟩ := hg
            have HE2 := Aside0.mk he
            clear he
            have hb : ∀ n, Kd.C (Kd.int .u64) (w1.drewN n) A2 x.length x := fun n => Kd.C_drewN HC2.out n
            have HBD := Aside0.mk hb
            clear hb
            by_cases h3 : e = 0
            · subst h3
              rw [if_pos rfl] at hg
              have HG := Aside0.mk hg
              clear hg
              go_wp2_with (go_at_call 123; refine (field_Below.calls k a0 _ _ x 0 _ (HBD.out _) HL2.out HE2.out).mono ?_; rintro e w' ⟨rfl, ⟨nd2, rfl⟩⟩)
              go_roundw
              case rel => exact ⟨j + 1, by first | rfl | go_num, by omega, ⟨HG.out⟩, ⟨⟨_, rfl⟩⟩⟩
              case measure => simp [intOf]; omega
            · rw [if_neg h3] at hg
              obtain rfl := Option.some.inj hg
              have hb : (e != 0) = true := bne_iff_ne.mpr h3
              clear hg h3
              go_wp2_with (go_at_call 123; refine (field_Below.calls k a0 _ _ x e _ (HBD.out _) HL2.out HE2.out).mono ?_; rintro e w' ⟨rfl, ⟨nd2, rfl⟩⟩)
              go_ret
              exact ⟨rfl, pw_below_drewN HB.out _⟩
          · obtain rfl : j = l1.length := by omega
            have hg := HG.out
            rw [List.drop_length] at hg
            obtain rfl := Option.some.inj (show some 0 = some r from hg)
            clear hg HG
            go_wp2
            go_ret
            exact ⟨rfl, pw_below_drewN HB.out _⟩
    · rw [if_neg h1] at H1
      obtain rfl := Option.some.inj H1
      have t1 : ((l1.length : Int) != wrap64 (a2 + 1)) = true := bne_iff_ne.mpr h1
      clear H1 h1
      go_enter Try.func36, Try.ntmps36
      go_wp2_with (go_at_call 64; refine (share_Setup.calls k a0 a1 a2 0 _ HE.out).mono ?_; rintro e w1 ⟨rfl, hb⟩; obtain ⟨hB, c0_, c2_⟩ := twice_Check.box hb; have HB := Aside0.mk hB; clear hb hB)
      go_ret
      exact ⟨rfl, HB.out⟩
  · have H1 := H.out
    rw [if_neg h0] at H1
    obtain rfl := Option.some.inj H1
    have hb : (e0 == 0) = false := beq_eq_false_iff_ne.mpr h0
    have hb1 : (e0 != 0) = true := bne_iff_ne.mpr h0
    clear H H1 h0
    go_enter Try.func36, Try.ntmps36
    go_wp2_with (go_at_call 64; refine (share_Setup.calls k a0 a1 a2 e0 _ HE.out).mono ?_; rintro e w' ⟨rfl, hb⟩; have HB := Aside0.mk hb; clear hb)
    go_ret
    exact ⟨rfl, below_step (below_alloc (Below.refl _ _) _) HB.out⟩

end Go.Proofs.Ytjjnfobeeflnhaa.J
