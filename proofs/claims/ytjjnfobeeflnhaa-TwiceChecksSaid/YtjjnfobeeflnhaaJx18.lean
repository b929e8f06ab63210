/- What Go functions of the program compute, as plain Lean functions, and that the machine comes to just these answers (written by a program for this seat). -/
import Derived.Test.YtjjnfobeeflnhaaJx0
import Derived.Test.YtjjnfobeeflnhaaJx2
import Derived.Test.YtjjnfobeeflnhaaJx9
import Derived.Test.YtjjnfobeeflnhaaJx15
import Derived.Test.YtjjnfobeeflnhaaJx16
import Derived.Test.YtjjnfobeeflnhaaJx17
import Derived.RangeFuncBox
import Derived.RangeFuncLeaves
import Derived.RangeFuncCalls
import Derived.RangeFuncWrites
import Derived.Shelf.Abstract
import Derived.OwnWalkIn
import Derived.TacticsInMore
import Derived.LoopNIn
import Derived.LoopIn
import Derived.Shelf.RegionOpen
import Derived.Test.YtjjnfobeeflnhaaRnd
namespace Go.Proofs.Ytjjnfobeeflnhaa.J
open Go.RowKit Go.Proofs.YtjjnfobeeflnhaaW.PrintWords Go.Proofs.YtjjnfobeeflnhaaW.PrintLast Go.Proofs.YtjjnfobeeflnhaaW.PrintMore
attribute [local go_sem] max2_int min2_int max_two min_two max_three min_three max_four min_four   -- for this text's walks alone
set_option linter.unusedVariables false
set_option linter.unusedSimpArgs false

/-! ### twice_All: function 132 -/
section
open Go.Shelf
attribute [local go_sem] Oper.semAt_some
/-- The polynomial of high values, from the end. -/
def allI (p : Int) (l : List (List Int)) : List Int := l.foldr (fun f out => plusI p f (0 :: out)) []
def twice_All.f (a0 : Int) (l1 : List (List Int)) : Option (List Int) := if l1.length ≤ 1000 ∧ l1.all (fun f => decide (f.length ≤ 1000)) = true then some (allI a0 l1) else none
def twice_All.run (p : Int) (l : List (List Int)) (pre : List Nat) : List Int := pre.foldl (fun out j => plusI p (l.getD j []) (0 :: out)) []
theorem twice_All.run_snoc (p : Int) (l : List (List Int)) (pre : List Nat) (j : Nat) : twice_All.run p l (pre ++ [j]) = plusI p (l.getD j []) (0 :: twice_All.run p l pre) := by simp [twice_All.run]
theorem twice_All.run_all (p : Int) (l : List (List Int)) : twice_All.run p l (List.range l.length).reverse = allI p l := by
  unfold twice_All.run allI
  rw [List.foldl_reverse]
  have : ∀ (m : List (List Int)) (s : Nat), (∀ i, i < m.length → l.getD (s + i) [] = m.getD i []) → (List.range' s m.length).foldr (fun j out => plusI p (l.getD j []) (0 :: out)) [] = m.foldr (fun f out => plusI p f (0 :: out)) [] := by
    intro m
    induction m with
    | nil => intro s _; rfl
    | cons f m ih =>
      intro s h
      have h0 := h 0 (by simp)
      simp only [List.length_cons, List.range'_succ, List.foldr_cons]
      rw [ih (s + 1) (fun i hi => by have := h (i + 1) (by simp; omega); rw [show s + 1 + i = s + (i + 1) by omega, this]; simp)]
      rw [show l.getD s [] = f by simpa using h0]
  rw [List.range_eq_range']
  exact this l 0 (fun i _ => by rw [Nat.zero_add])
theorem twice_All.run_length (p : Int) (l : List (List Int)) (h : l.all (fun f => decide (f.length ≤ 1000)) = true) (pre : List Nat) : (twice_All.run p l pre).length ≤ 1000 + pre.length := by
  have hj : ∀ j, (l.getD j []).length ≤ 1000 := by
    intro j
    by_cases hj : j < l.length
    · have := List.all_eq_true.1 h l[j] (List.getElem_mem hj)
      simpa [List.getD_eq_getElem?_getD, hj] using this
    · simp [List.getD_eq_getElem?_getD, List.getElem?_eq_none (show l.length ≤ j by omega)]
  have : ∀ (pre : List Nat) (acc : List Int), (pre.foldl (fun out j => plusI p (l.getD j []) (0 :: out)) acc).length ≤ max 1000 acc.length + pre.length := by
    intro pre
    induction pre with
    | nil => intro acc; simp; omega
    | cons j pre ih =>
      intro acc
      have h1 := zipI_length (fun a b => (field_Plus.f p a b).getD 0) (l.getD j []) (0 :: acc)
      have h2 := ih (plusI p (l.getD j []) (0 :: acc))
      have h3 := hj j
      simp only [List.length_cons] at h1
      simp only [List.foldl_cons, List.length_cons]
      unfold plusI at h2 ⊢
      omega
  have := this pre []
  simpa [twice_All.run] using this
theorem twice_All.boxed_row {A : World} {B : Nat} {t : TypeId} {v : Value} {row : Option Nat} (h : Boxed A B t v) (hr : ∀ r, row = some r → ∃ o : Obj, A.heap[r]? = some o ∧ o.isCells = false) : some B ≠ row := by
  intro e
  obtain ⟨o, ho, hc⟩ := hr B e.symm
  rw [show A.heap[B]? = _ from h] at ho
  cases ho
  simp [Obj.isCells] at hc
theorem twice_All.row_kept {A B : World} {base : Nat} {v : Value} {xs : List Int} {row : Option Nat} (h : Kd.R (Kd.int .u64) 22 A base (fun _ => True) v xs) (hg : A.grownBy B row) (hr : ∀ r, row = some r → ∃ o : Obj, A.heap[r]? = some o ∧ o.isCells = false) : Kd.R (Kd.int .u64) 22 B base (fun _ => True) v xs := by
  refine Kd.R_mono (Kd.R_step (Kd.R_bound h) (fun k hk hlt => hg.block k hlt ?_)) (fun _ _ => trivial)
  intro e
  obtain ⟨o, ho, hc⟩ := hr k e.symm
  obtain ⟨_, _, _, q, _, cells, hcl⟩ := hk
  rw [hcl] at ho
  cases ho
  simp [Obj.isCells] at hc
theorem twice_All.keeps {B : Nat} {W W1 : World} (h : Below W.heap.size W W1) (hB : Below B W W1) (p : Addr) (v : Value) : KeepsOthers W (W1.setCell p v) := by
  refine KeepsOthers.trans (show KeepsOthers W W1 from ⟨h.size, fun i o ho _ => (h.block i (Array.getElem?_eq_some_iff.1 ho).1).trans ho⟩) (KeepsOthers.setCell _ _ _)
set_option maxRecDepth 100000 in
set_option maxHeartbeats 4000000 in
theorem twice_All.calls (a0 : Int) (A1 : Option Addr) (c1 : Nat) (l1 : List (List Int)) (r : List Int) (w : World) (hr1 : Kd.C (Kd.slice 22 (Kd.int .u64)) w A1 l1.length l1) (hc1 : l1.length ≤ c1) (h : twice_All.f a0 l1 = some r) :
    Calls Try.prog 132 #[.int .u64 a0, .slice A1 l1.length c1] w fun e w' => ∃ v0_ : Value, e = .returned (v0_) ∧ Kd.R (Kd.int .u64) 22 w' w.heap.size (fun _ => True) v0_ r ∧ Below w.heap.size w w' := by
  unfold twice_All.f at h
  by_cases hok : l1.length ≤ 1000 ∧ l1.all (fun f => decide (f.length ≤ 1000)) = true
  case neg => rw [if_neg hok] at h; cases h
  rw [if_pos hok] at h
  obtain rfl := Option.some.inj h
  have HOK := Aside0.mk hok
  have HR := Aside0.mk hr1
  -- the cells of the elements, as they lie at first
  obtain ⟨V, hV, hVN, hVC⟩ : ∃ V : Nat → Value, (∀ j, ∃ B m c, V j = .slice B m c) ∧ (∀ j, ¬ j < l1.length → V j = .slice none 0 0) ∧ ∀ j, j < l1.length → ∃ ad B c, A1 = some ad ∧ w.cell? (ad.add j) = some (V j) ∧ V j = .slice B (l1.getD j []).length c ∧ (l1.getD j []).length ≤ c ∧ (Kd.int .u64).C w B (l1.getD j []).length (l1.getD j []) := by
    have hex : ∀ j, ∃ v : Value, (∃ B m c, v = .slice B m c) ∧ (¬ j < l1.length → v = .slice none 0 0) ∧ (j < l1.length → ∃ ad B c, A1 = some ad ∧ w.cell? (ad.add j) = some v ∧ v = .slice B (l1.getD j []).length c ∧ (l1.getD j []).length ≤ c ∧ (Kd.int .u64).C w B (l1.getD j []).length (l1.getD j [])) := by
      intro j
      by_cases hj : j < l1.length
      · obtain ⟨ad, B, c, e, h1, h2, h3⟩ := slices_IndexFunc_uint64_uint64.at_ hr1 j hj
        exact ⟨_, ⟨_, _, _, rfl⟩, fun h => absurd hj h, fun _ => ⟨ad, B, c, e, h1, rfl, h2, h3⟩⟩
      · exact ⟨.slice none 0 0, ⟨_, _, _, rfl⟩, fun _ => rfl, fun h => absurd h hj⟩
    obtain ⟨V, hV⟩ := Classical.skolem.1 hex
    exact ⟨V, fun j => (hV j).1, fun j => (hV j).2.1, fun j hj => (hV j).2.2 hj⟩
  have HVC := Aside0.mk hVC
  have HVN := Aside0.mk hVN
  have hA : ∀ ad, A1 = some ad → 0 < l1.length → ad.block < w.heap.size := by
    rintro ad rfl hl
    obtain ⟨ad', _, _, e, h, _⟩ := hVC 0 hl
    cases e
    have := World.block_lt_of_cell? w _ h
    rw [show (ad.add 0).block = ad.block by unfold Addr.add; split <;> rfl] at this
    exact this
  have HA := Aside0.mk hA
  have hlen : l1.length ≤ 9223372036854775807 := hr1.2.1
  clear hr1 hVC hVN hA h hok
  obtain ⟨len, hL⟩ : ∃ len, len = l1.length := ⟨_, rfl⟩
  rw [← hL] at hlen ⊢
  have HL := Aside0.mk hL
  clear hL hc1
  refine (callsIn_wide (n := 5)).1 ?_
  have h1 : 1 ≤ 5 := by omega
  refine callsIn_of_wp_marks Try.func132 rfl trivial ?_ rfl
  simp only [Try.ntmps132, List.size_toArray, List.length_cons, List.length_nil, Nat.reduceAdd, Nat.reduceSub, Array.replicate_succ, Array.replicate_zero, List.push_toArray, List.append_toArray, List.nil_append, List.cons_append]
  gi_wp2_with (refine ⟨trivial, ?_⟩; gi_at_call 162; refine (slices_Backward_uint64_uint64_162_mk Fence.wide (5 - 1) trivial rfl _ _ _ _).mono ?_; rintro e w' ⟨rfl, rfl⟩)
  have bP := Boxed.new w 22 (.int .u64 a0)
  have bV := Boxed.new (w.alloc (.cells #[.int .u64 a0] 22)) 31 (.slice none 0 0)
  have bS := Boxed.new ((w.alloc (.cells #[.int .u64 a0] 22)).alloc (.cells #[.slice none 0 0] 31)) 25 (.slice A1 len c1)
  simp only [World.size_alloc] at bV bS
  have hB0 : Below w.heap.size w (((w.alloc (.cells #[.int .u64 a0] 22)).alloc (.cells #[.slice none 0 0] 31)).alloc (.cells #[.slice A1 len c1] 25)) := (((Below.refl _ w).alloc (Nat.le_refl _) _).alloc (by simp) _).alloc (by simp; omega) _
  refine wpIn_rangeFunc_ownG rfl h1 (gf := 172) (lb := #[.pointer (some ⟨w.heap.size + 1 + 1, 0, none⟩)]) rfl trivial (enters_of Try.func172 (by kernel_rfl) rfl)
    (slices_Backward_uint64_uint64_162_stops Fence.wide (5 - 1) trivial rfl (by omega) (w.heap.size + 1 + 1) w.heap.size c1 A1 len V hV _ (by simp) (by simp; omega) hlen bS.cell (fun j hj => by obtain ⟨ad, B, c, e, hc, _⟩ := HVC.out j (by rw [← HL.out]; exact hj); exact ⟨ad, e, (hB0.cell (World.block_lt_of_cell? _ _ hc)).trans hc⟩) (fun ad e hl => HA.out ad e (by rw [← HL.out]; exact hl))) slices_Backward_uint64_uint64_162_Kp_t (slices_Backward_uint64_uint64_162_Kp_b (by simp; omega) (by simp)) (Below.refl _ _) (fun _ => rfl)
    (fun pre W => (Boxed W w.heap.size 22 (.int .u64 a0) ∧ ∃ v, Boxed W (w.heap.size + 1) 31 v ∧ Kd.R (Kd.int .u64) 22 W w.heap.size (fun _ => True) v (twice_All.run a0 l1 pre) ∧ w.heap.size + 3 ≤ W.heap.size) ∧ Below w.heap.size w W)
    (fun _ _ _ => False)
    (OwnFrom.and (Own.from (fun s A B row hs hg hr => ?own) _) (ownFrom_below (Nat.le_refl _) (by simp; omega)))
    (fun _ _ _ _ _ hs _ _ => hs)
    ⟨⟨(bP.alloc _).alloc _, _, bV.alloc _, Kd.R_nil _ _ _ _ _, by simp⟩, hB0⟩
    (fun x => { tmps := #[.int .u64 a0, .slice A1 len c1, .pointer (some ⟨w.heap.size, 0, none⟩), undef, .slice none 0 0, .pointer (some ⟨w.heap.size + 1, 0, none⟩), undef, V x, .slice A1 len c1, .func (.func 172) #[] #[.pointer (some ⟨w.heap.size + 1 + 1, 0, none⟩)], .int .i64 (x : Int), V x, undef, undef, undef, undef, undef, undef, undef], defers := [] }) ?assign ?body ?done ?stop
  case own =>
    obtain ⟨h1, v, h2, h3, h4⟩ := hs
    exact ⟨h1.kept hg (twice_All.boxed_row h1 hr), v, h2.kept hg (twice_All.boxed_row h2 hr), twice_All.row_kept h3 hg hr, Nat.le_trans h4 hg.size⟩
  case assign =>
    intro l x W K hK
    gi_wp2
    exact hK
  case body =>
    rintro l pre x W ⟨⟨h1, vo, h2, h3, h4⟩, hB⟩ hlen'
    have HSZ := Aside0.mk h4
    clear h4
    have hxs := twice_All.run_length a0 l1 HOK.out.2 pre
    have hmx : Try.prog.follows .mixedOrders = true := by kernel_rfl
    obtain ⟨fx, hfx⟩ : ∃ fx, fx = l1.getD x [] := ⟨_, rfl⟩
    obtain ⟨xs, hxsd⟩ : ∃ xs, xs = twice_All.run a0 l1 pre := ⟨_, rfl⟩
    rw [← hxsd] at h3 hxs
    have hf1 : fx.length ≤ 1000 := by
      rw [hfx]
      by_cases hj : x < l1.length
      · have := List.all_eq_true.1 HOK.out.2 l1[x] (List.getElem_mem hj)
        simpa [List.getD_eq_getElem?_getD, hj] using this
      · simp [List.getD_eq_getElem?_getD, List.getElem?_eq_none (show l1.length ≤ x by omega)]
    have hlen2 : xs.length ≤ 2000 := by have := HOK.out.1; have := HL.out; omega
    obtain ⟨Bx, cx, hVx, hcx, hCx⟩ : ∃ B c, V x = .slice B fx.length c ∧ fx.length ≤ c ∧ Kd.C (Kd.int .u64) W B fx.length fx := by
      by_cases hj : x < l1.length
      · obtain ⟨ad, B, c, e, hc, hv, hle, hC⟩ := HVC.out x hj
        rw [← hfx] at hv hle hC
        exact ⟨B, c, hv, hle, Kd.C_below hC hB⟩
      · have hz : fx = [] := by rw [hfx]; simp [List.getD_eq_getElem?_getD, List.getElem?_eq_none (show l1.length ≤ x by omega)]
        rw [hz]
        exact ⟨none, 0, HVN.out x hj, Nat.le_refl _, by show Kd.C _ _ _ ([] : List Int).length _; exact Kd.C_nil _ _⟩
    obtain ⟨Ao, co, rfl⟩ := Kd.R_slice h3
    have d1 := h1.cell
    have d2 := h2.cell
    have f2 := h2.frozen
    have H1 := Aside0.mk h1
    have H2 := Aside0.mk h2
    have H3 := Aside0.mk h3
    have HBB := Aside0.mk hB
    have HF1 := Aside0.mk hf1
    have HX2 := Aside0.mk hlen2
    have HCX := Aside0.mk hCx
    have HLX := Aside0.mk hcx
    have HFX := Aside0.mk hfx
    have HXS := Aside0.mk hxsd
    have hlt1 := h1.lt
    have hlt2 := h2.lt
    have HLT2 := Aside0.mk hlt2
    clear h1 h2 h3 hB hf1 hlen2 hCx hcx hfx hxsd hxs hlen' hlt1 hlt2
    rw [hVx]
    clear hVx
    gi_wp2
    refine Go.Proofs.Ytjjnfobeeflnhaa.Rnd.start_round (m := 7) (S := fun w' => w'.cell? ⟨w.heap.size, 0, none⟩ = some (.int .u64 a0) ∧ w'.cell? ⟨w.heap.size + 1, 0, none⟩ = some (.slice Ao xs.length co)) (ds := [6]) #[false, false, false, false, false, false, false] ?hQ hmx ?hd rfl rfl ⟨d1, d2⟩ (fun hHeld => ?_)
    case hQ => rintro ⟨_, _, h⟩; exact h
    case hd => intro o ho c; simp only [List.mem_cons, List.not_mem_nil, or_false] at ho; rcases ho with rfl | rfl | rfl | rfl | rfl | rfl | rfl <;> simp
    refine take_ (i := 0) (N := (some 12)) (v := ?_) (a' := ?_) #[true, false, false, false, false, false, false] rfl rfl (by kernel_rfl) (fun _ _ _ h => h) (Or.inl ⟨by rfl, ?_⟩) hHeld ?_ ?_
    rotate_left
    · rintro w' ⟨s0, s1⟩
      go_simp
      with_reducible rfl
    rotate_left
    · simp only [Act.put, List.setIfInBounds_toArray, List.set_cons_zero, List.set_cons_succ, i64_w, i32_w]
      rfl
    refine pure_ (i := 1) (N := (some 13)) (v := ?_) (a' := ?_) #[true, true, false, false, false, false, false] rfl rfl (by kernel_rfl) (fun _ _ _ h => h) (Or.inl ⟨by rfl, ?_⟩) ?_ ?_
    rotate_left
    · intro w'
      go_simp
      with_reducible rfl
    rotate_left
    · simp only [Act.put, List.setIfInBounds_toArray, List.set_cons_zero, List.set_cons_succ, i64_w, i32_w]
      rfl
    refine take_ (i := 3) (N := (some 15)) (v := ?_) (a' := ?_) #[true, true, false, true, false, false, false] rfl rfl (by kernel_rfl) (fun _ _ _ h => h) (Or.inl ⟨by rfl, ?_⟩) hHeld ?_ ?_
    rotate_left
    · rintro w' ⟨s0, s1⟩
      go_simp
      with_reducible rfl
    rotate_left
    · simp only [Act.put, List.setIfInBounds_toArray, List.set_cons_zero, List.set_cons_succ, i64_w, i32_w]
      rfl
    refine one_ (i := 2) (N := (some 14)) #[true, true, true, true, false, false, false] rfl rfl (by kernel_rfl) (by decide) (fun K hK => ?_)
    refine Kd.R_lit_step (Kd.int .u64) W.heap.size 22 (by rfl) (N := 14) rfl (xs := [0]) (inner := [.int .u64 0]) (ok := fun _ => True) (okp := fun _ => True) ?hrun ?hrep (fun _ h => h) trivial (Below.refl _ _) (Nat.le_refl _) (by simp) ?_
    case hrun => go_simp
    case hrep => exact Kd.reps_scalar (enc := Value.int .u64) [0]
    intro v1 w1 ho1 hb1 hg1 hat1
    replace hb1 : Below W.heap.size W w1 := below_step (below_drew (Below.refl _ _)) hb1
    have e1 := (hb1.cell (p := ⟨w.heap.size, 0, none⟩) H1.out.lt).trans d1
    have e2 := (hb1.cell (p := ⟨w.heap.size + 1, 0, none⟩) H2.out.lt).trans d2
    refine hK.out _ _ ⟨e1, e2⟩ (fun hHeld => ?_)
    clear hK K
    refine norm_ (a' := ?_) ?_ ?_
    rotate_left
    · show Act.put _ (some 14) _ = _
      simp only [Act.put, List.setIfInBounds_toArray, List.set_cons_zero, List.set_cons_succ, i64_w, i32_w]
      rfl
    refine one_ (i := 4) (N := (some 16)) #[true, true, true, true, true, false, false] rfl rfl (by kernel_rfl) (by decide) (fun K hK => ?_)
    refine Kd.R_append_rows_step (Kd.int .u64) (w0 := W) W.heap.size (by rfl) (.tmp 14) (.tmp 15) 31 22 (.int .u64 0) 8 rfl Try.underlying31 info22 rfl (by decide) (by omega) v1 [0] xs Ao xs.length co (fun _ => True) (fun _ => False) rfl rfl ho1 (Kd.C_below (Kd.R_reads' H3.out).2.2 hb1) (fun _ _ h => h) (fun _ h => h.elim) (fun _ _ => trivial) hb1 hb1.size (by have := HX2.out; simp only [List.length_cons, List.length_nil]; omega) ?_
    intro v2 w2 ho2 hb2 hg2 hat2
    have e1 := (hb2.cell (p := ⟨w.heap.size, 0, none⟩) H1.out.lt).trans d1
    have e2 := (hb2.cell (p := ⟨w.heap.size + 1, 0, none⟩) H2.out.lt).trans d2
    obtain ⟨ys, hys⟩ : ∃ ys, ys = 0 :: xs := ⟨_, rfl⟩
    replace ho2 : Kd.R (Kd.int .u64) 22 w2 W.heap.size (fun _ => True) v2 ys := by rw [hys]; exact ho2
    have hpl : ys.length ≤ 2001 := by rw [hys]; simp; exact HX2.out
    have HYS := Aside0.mk hys
    clear hys
    obtain ⟨A2, c2, rfl⟩ := Kd.R_slice ho2
    refine hK.out _ _ ⟨e1, e2⟩ (fun hHeld => ?_)
    clear hK K
    refine norm_ (a' := ?_) ?_ ?_
    rotate_left
    · show Act.put _ (some 16) _ = _
      simp only [Act.put, List.setIfInBounds_toArray, List.set_cons_zero, List.set_cons_succ, i64_w, i32_w]
      rfl
    refine one_ (i := 5) (N := (some 17)) #[true, true, true, true, true, true, false] rfl rfl (by kernel_rfl) (by decide) (fun K hK => ?_)
    refine goes_ Try.func143 (by kernel_rfl) rfl #[.int .u64 a0, .slice Bx fx.length cx, .slice A2 ys.length c2] (by rfl) rfl rfl (by (try simp only [List.map_toArray, List.map_cons, List.map_nil]); first | done | rfl) ?_
    with_reducible refine (poly_Plus.calls 10000 a0 _ _ fx _ _ ys (plusI a0 fx ys) _ (Kd.C_below HCX.out hb2) HLX.out (Kd.R_reads' ho2).2.2 (Kd.R_reads' ho2).2.1 (plusI_spec a0 fx ys (by have := HF1.out; omega) 10000 (by have := HF1.out; omega))).mono ?_
    rintro e w3 ⟨v3, rfl, ho3, hb3⟩
    refine ⟨_, rfl, ?_⟩
    obtain ⟨A3, c3, rfl⟩ := Kd.R_slice ho3
    have hb3' : Below W.heap.size W w3 := hb2.trans (hb3.mono hb2.size)
    have e1 := (hb3'.cell (p := ⟨w.heap.size, 0, none⟩) H1.out.lt).trans d1
    have e2 := (hb3'.cell (p := ⟨w.heap.size + 1, 0, none⟩) H2.out.lt).trans d2
    have g2 := (hb3'.frozen (p := ⟨w.heap.size + 1, 0, none⟩) H2.out.lt).trans f2
    refine hK.out _ _ ⟨e1, e2⟩ (fun hHeld => ?_)
    clear hK K
    refine norm_ (a' := ?_) ?_ ?_
    rotate_left
    · show Act.put _ (some 17) _ = _
      simp only [Act.put, List.setIfInBounds_toArray, List.set_cons_zero, List.set_cons_succ, i64_w, i32_w]
      rfl
    refine last_ (i := 6) (N := none) #[true, true, true, true, true, true, true] rfl rfl (by kernel_rfl) (by decide) (fun K hK => ?_)
    refine skip_ (w1 := ?_) (by rfl) rfl ?_ ?_
    rotate_left
    · go_simp
      rfl
    refine hK.out _ _ ?_
    clear hK K
    refine done_ (by kernel_rfl) ?_
    have hne1 : w.heap.size ≠ w.heap.size + 1 := by omega
    have hne3 : w.heap.size + 1 + 1 ≠ w.heap.size + 1 := by omega
    have hBw : Below w.heap.size W w3 := hb3'.mono HBB.out.size
    refine ⟨(twice_All.keeps hb3' hb3' _ _).from _, ⟨hBw.setCell (p := ⟨w.heap.size + 1, 0, none⟩) (by show w.heap.size ≤ w.heap.size + 1; omega) _, ?_⟩, ⟨?_, .slice A3 (plusI a0 fx ys).length c3, ?_, ?_, ?_⟩, ?_⟩
    · exact (Below.heap_setCell w3 ⟨w.heap.size + 1, 0, none⟩ _ _ hne3).trans (hb3'.block _ (by have := HSZ.out; omega))
    · exact (Below.heap_setCell w3 ⟨w.heap.size + 1, 0, none⟩ _ _ hne1).trans ((hb3'.block _ H1.out.lt).trans H1.out)
    · exact Boxed.set _ ((hb3'.block _ H2.out.lt).trans H2.out)
    · rw [twice_All.run_snoc, ← HFX.out, ← HXS.out, ← HYS.out]
      have hlt := H2.out.lt
      refine Kd.R_lower (Kd.R_mono (Kd.R_far (Kd.R_bound ho3) (p := ⟨w.heap.size + 1, 0, none⟩) (fun k hk => ?_) _) (fun _ _ => trivial)) ?_
      · have := hk.2.1
        have := hb2.size
        show k ≠ w.heap.size + 1
        omega
      · have := HBB.out.size
        have := hb2.size
        omega
    · have h1 := HSZ.out
      have h2 := hb3'.size
      have h3 : (w3.setCell ⟨w.heap.size + 1, 0, none⟩ (.slice A3 (plusI a0 fx ys).length c3)).heap.size = w3.heap.size := by simp [World.setCell]
      omega
    · exact (HBB.out.trans hBw).setCell (p := ⟨w.heap.size + 1, 0, none⟩) (by show w.heap.size ≤ w.heap.size + 1; omega) _
  case done =>
    rintro D ys W hD rfl ⟨⟨h1, v, h2, h3, _⟩, hB⟩ hK
    have hrun : twice_All.run a0 l1 (List.range len).reverse = allI a0 l1 := by rw [HL.out]; exact twice_All.run_all a0 l1
    rw [slices_Backward_uint64_uint64_162_rev, hrun] at h3
    obtain ⟨Av, cv, rfl⟩ := Kd.R_slice h3
    have d2 := h2.cell
    have H3 := Aside0.mk h3
    clear h3 hrun
    gi_wp2
    refine ⟨by simp, .inl ⟨_, _, rfl, run_takeDeferred hK, ?_⟩⟩
    refine ⟨_, results_tmp rfl _ _ _, _, rfl, ?_, hB.trans (belowK_b (w := w) (Nat.le_refl _) W D _ _ (by simp at hD; omega) hK rfl rfl)⟩
    exact twice_All.row_kept H3.out (grownBy_putObj' _ D (.deferred none)) (fun r e => by cases e; exact ⟨_, hK, rfl⟩)
  case stop =>
    rintro D c pre W _ _ h _
    exact h.elim
end

end Go.Proofs.Ytjjnfobeeflnhaa.J
