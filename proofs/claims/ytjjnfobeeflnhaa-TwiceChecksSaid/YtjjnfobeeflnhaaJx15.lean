/- What Go functions of the program compute, as plain Lean functions, and that the machine comes to just these answers (written by a program for this seat). -/
import Derived.Test.YtjjnfobeeflnhaaJx0
import Derived.Test.YtjjnfobeeflnhaaJx8
import Derived.Test.YtjjnfobeeflnhaaJx9
namespace Go.Proofs.Ytjjnfobeeflnhaa.J
open Go.RowKit Go.Proofs.YtjjnfobeeflnhaaW.PrintWords Go.Proofs.YtjjnfobeeflnhaaW.PrintLast Go.Proofs.YtjjnfobeeflnhaaW.PrintMore
attribute [local go_sem] max2_int min2_int max_two min_two max_three min_three max_four min_four   -- for this text's walks alone
set_option linter.unusedVariables false
set_option linter.unusedSimpArgs false

/-! ### poly_each: function 164 -/
/-- What each does with the coefficients, one by one; d: what it does with two numbers. -/
def poly_each.l0 (d : Int → Int → Int → Option Int) (a0 : Int) (g : List Int) : Nat → List Int → Int → Option (List Int)
  | 0, _, _ => none
  | k + 1, out, i => if i < (out.length : Int) then ((d a0 (rd out i) (if i < (g.length : Int) then rd g i else 0)).bind fun t => poly_each.l0 d a0 g k (out.set i.toNat t) (wrap64 (i + 1))) else poly_Short.f k out
def poly_each.f (k : Nat) (d : Int → Int → Int → Option Int) (a0 : Int) (l1 l2 : List Int) : Option (List Int) :=
  if max l1.length l2.length ≤ 35184372088832 then poly_each.l0 d a0 l2 k (l1 ++ List.replicate (max l1.length l2.length - l1.length) 0) 0 else none
theorem poly_each.mono_l (d : Int → Int → Int → Option Int) (a0 : Int) (g : List Int) : ∀ k out i, LeO (poly_each.l0 d a0 g k out i) (poly_each.l0 d a0 g (k + 1) out i)
  | 0, _, _ => fun r h => by simp [poly_each.l0] at h
  | k + 1, out, i => by
    unfold poly_each.l0
    exact LeO.ite (LeO.bind (LeO.refl _) fun t => poly_each.mono_l d a0 g k _ _) (poly_Short.mono _ _)
theorem poly_each.mono (d : Int → Int → Int → Option Int) (a0 : Int) (l1 l2 : List Int) (k : Nat) : LeO (poly_each.f k d a0 l1 l2) (poly_each.f (k + 1) d a0 l1 l2) := by
  unfold poly_each.f
  exact LeO.ite (poly_each.mono_l _ _ _ _ _ _) (LeO.refl _)
/-- A function value without captured variables: it is entered. -/
theorem poly_each.goesT {P : Program} {ops : Array Oper} {Q : Exit → Act → World → Prop} {rest : List Oper} {oi : Oper} {a : Act} {w : World} (N : Option Tmp) (hd : oi.dst = N) (hg : oi.guard = none) {f : FuncId} {c : Operand} {ops_ : Array Operand} {ts : Array TypeId}
    (he : ∀ args w, (callFunc f args).run P w = .ok (.enter f args) w) (args : Array Value) (hop : oi.op = .call { callee := .value c, args := ops_, argTypes := ts }) (hc : a.eval c = .func (.func f) #[] #[]) (hargs : ops_.map a.eval = args)
    (h : Calls P f args w fun e w' => ∃ v, e = .returned v ∧ wpList P ops Q rest (a.put N v) w') : wpList P ops Q (oi :: rest) a w := by
  refine wpList_plain hg fun K hK => ?_
  have he := he args w
  have hrun : (execOp a.eval oi).run P w = .ok (.enter f args) w := by
    unfold execOp
    have hargs' : Array.map (fun x => a.eval x) ops_ = args := hargs
    simp [hop, resolve, Deferred.ofValue, invoke, hc, hargs', he]
  unfold Oper.wp
  rw [hrun, Oper.upon_enter]
  refine h.mono fun e w'' hh => ?_
  obtain ⟨v, rfl, hk⟩ := hh
  subst hd
  exact hK _ _ hk
set_option maxHeartbeats 8000000 in
set_option maxRecDepth 100000 in
theorem poly_each.calls (k : Nat) (d : Int → Int → Int → Option Int) (fid : FuncId) (hE : ∀ args w, (callFunc fid args).run Try.prog w = .ok (.enter fid args) w)
    (hD : ∀ (a b c r : Int) (w : World), d a b c = some r → Calls Try.prog fid #[.int .u64 a, .int .u64 b, .int .u64 c] w fun e w' => e = .returned (.int .u64 r) ∧ Drawn0 w w')
    (a0 : Int) (A1 : Option Addr) (c1 : Nat) (l1 : List Int) (A2 : Option Addr) (c2 : Nat) (l2 : List Int) (r : List Int) (w : World) (hr1 : Kd.C (Kd.int .u64) w A1 l1.length l1) (hc1 : l1.length ≤ c1) (hr2 : Kd.C (Kd.int .u64) w A2 l2.length l2) (hc2 : l2.length ≤ c2) (h : poly_each.f k d a0 l1 l2 = some r) :
    Calls Try.prog 164 #[.int .u64 a0, .slice A1 l1.length c1, .slice A2 l2.length c2, .func (.func fid) #[] #[]] w fun e w' => ∃ v0_ : Value, e = .returned (v0_) ∧ Kd.R (Kd.int .u64) 22 w' w.heap.size (fun _ => True) v0_ r ∧ Below w.heap.size w w' := by
  have HE := Aside0.mk hE
  have HD := Aside0.mk hD
  have HR1 := Aside0.mk hr1
  have HC1 := Aside0.mk hc1
  have HR2 := Aside0.mk hr2
  have HC2 := Aside0.mk hc2
  clear hE hD hr1 hr2
  have HB := Aside0.mk (Below.refl w.heap.size w)
  unfold poly_each.f at h
  obtain ⟨n, hn⟩ : ∃ n, n = max l1.length l2.length := ⟨_, rfl⟩
  rw [← hn] at h
  have hn1 : l1.length ≤ n := by omega
  have hmx : (if l1.length < l2.length then (l2.length : Int) else (l1.length : Int)) = (n : Int) := by split <;> omega
  clear hn
  by_cases hle : n ≤ 35184372088832
  · rw [if_pos hle] at h
    have H' := Aside0.mk h
    have HN1 := Aside0.mk hn1
    have HLE := Aside0.mk hle
    clear h hn1 hc1 hc2
    obtain ⟨y0, hy0⟩ : ∃ y : List Int, y = List.replicate n 0 := ⟨_, rfl⟩
    have Ny := Aside0.mk hy0
    clear hy0 hle
    have hn0 : 0 ≤ (n : Int) := Int.natCast_nonneg n
    go_enter Try.func164, Try.ntmps164
    go_wp2_with (first
      | ((with_reducible refine gate_dst (N := 17) rfl ?_); refine Kd.R_make (Kd.int .u64) _ 22 rfl (N := 17) rfl 31 _ _ rfl (n : Int) rfl rfl Try.underlying31 (.int .u64 0) 8 info22 rfl (by decide) (by omega) 0 (ok := fun _ => True) (okp := fun _ => True) rfl (fun _ hk => hk) trivial hn0 (by have := HLE.out; omega) (Below.refl _ _) (Nat.le_refl _) ?_; intro v1 w1 ho hb hg_ hnew_; clear hg_ hnew_; rw [show ((n : Int)).toNat = n from rfl, ← Ny.out] at ho; have n0_ := Aside0.mk ho; have n1_ := Aside0.mk hb; clear HB ho hb; have HO := n0_; have HB := n1_; clear n0_ n1_; obtain ⟨Ao, co_, eo⟩ := Kd.R_slice HO.out; subst eo)
      | ((with_reducible refine gate_builtin (b := .copy) (xs := #[.tmp 18, .tmp 19]) rfl ?_); refine Kd.R_copy (enc := Value.int .u64) (h1 := fun _ => rfl) 0 (w0 := w) w.heap.size rfl (.tmp 18) (.tmp 19) 31 31 22 rfl Try.underlying31 (by kernel_rfl) (.slice Ao y0.length co_) y0 l1 A1 l1.length c1 (fun _ => True) rfl rfl HO.out (Kd.C_below HR1.out HB.out) HB.out (below_size HB.out) ?_; intro w2 ho hb hg; have n0_ := Aside0.mk ho; have n1_ := Aside0.mk hb; clear HO HB ho hb hg; have HO := n0_; have HB := n1_; clear n0_ n1_))
    have hyl : y0.length = n := by rw [Ny.out, List.length_replicate]
    have hcp : List.take (min l1.length y0.length) l1 ++ List.drop (min l1.length y0.length) y0 = l1 ++ List.replicate (n - l1.length) 0 := by
      have h1 := HN1.out
      rw [hyl, Nat.min_eq_left h1, List.take_length, Ny.out, List.drop_replicate]
    rw [hcp] at HO
    clear hcp
    have HYL := Aside0.mk hyl
    clear hyl
    go_loopg [23] k (fun kq v23 w' => ∃ (out : List Int) (i : Int), v23 = .int .i64 i ∧ Aside0 (0 ≤ i) ∧ Aside0 (poly_each.l0 d a0 l2 kq out i = some r) ∧ Aside0 (kq ≤ k) ∧ Aside0 (Kd.R (Kd.int .u64) 22 w' w.heap.size (fun _ => True) (.slice Ao y0.length co_) out) ∧ Aside0 (Below w.heap.size w w'))
    case atStart => exact ⟨_, 0, rfl, ⟨by omega⟩, H', ⟨Nat.le_refl _⟩, ⟨HO.out⟩, ⟨HB.out⟩⟩
    case round =>
      clear H' HO HB
      obtain ⟨out, i, rfl, HI, HA, HK, HO, HB⟩ := hrel
      have hl : y0.length = out.length := (Kd.R_reads' HO.out).1
      rw [hl] at HO
      simp only [hl]
      cases gk with
      | zero => exact absurd HA.out (by simp [poly_each.l0])
      | succ k1 =>
        have H := HA.out
        clear HA
        simp only [poly_each.l0] at H
        have hi0 := HI.out
        by_cases c1_ : i < (out.length : Int)
        · rw [if_pos c1_] at H
          obtain ⟨t, ht, H⟩ := Option.bind_eq_some_iff.mp H
          have HT := Aside0.mk ht
          have H' := Aside0.mk H
          clear H ht
          have hb0 : decide (i < (out.length : Int)) = true := decide_eq_true c1_
          obtain ⟨go, cap_, eo, gb, gl, cells_, hcl⟩ := Kd.R_form HO.out (by omega)
          injection eo with ea en ec
          subst ea
          subst ec
          clear en
          obtain ⟨hx, hf⟩ := Kd.R_celln 0 HO.out i hi0 c1_
          replace hx : wr.cell? ⟨go, i.toNat, none⟩ = some (.int .u64 (rd out i)) := hx
          have HPUT := Aside0.mk (Kd.R_putn HO.out i t)
          have GB := Aside0.mk gb
          clear gb gl hcl
          have hix : (0 ≤ i) = True := eq_true hi0
          have HL := Aside0.mk hl
          clear hl
          have HW : Aside0 (0 ≤ wrap64 (i + 1)) := ⟨by have h1 := HLE.out; have h2 := HYL.out; have h3 := HL.out; unfold wrap64; omega⟩
          by_cases c2_ : i < (l2.length : Int)
          · rw [if_pos c2_] at HT
            have hb1 : decide (i < (l2.length : Int)) = true := decide_eq_true c2_
            obtain ⟨ad, e2, hy⟩ := Kd.at_int HR2.out i hi0 c2_
            replace hy : wr.cell? (ad.add i.toNat) = some (.int .u64 (rd l2 i)) := (HB.out.cell (World.block_lt_of_cell? w _ hy)).trans hy
            subst e2
            go_wp2_with (first
              | ((with_reducible refine gate_dst (N := 43) rfl ?_); refine poly_each.goesT (some 43) rfl rfl HE.out #[.int .u64 a0, .int .u64 (rd out i), .int .u64 (rd l2 i)] rfl rfl (by (try simp only [List.map_toArray, List.map_cons, List.map_nil]); first | done | rfl) ?_; (with_reducible refine (HD.out _ _ _ t _ HT.out).mono ?_); rintro e w' ⟨rfl, ⟨nd, rfl⟩⟩; refine ⟨_, rfl, ?_⟩)
              | ((with_reducible refine gate_store (t := 22) (p := 44) rfl ?_); refine store_event (t := 22) (p := 44) (v := ?vo) (w1 := ((wr.drewN nd).setCell ⟨go, i.toNat, none⟩ (.int .u64 t))) ?hg ?ho ?hn ?hr ?_; (case ho => rfl); (case hg => rfl); (case hn => rfl); (case hr => first | (go_simp; done) | (go_simp; rfl)); intro w16 hw; have n0_ : Kd.R (Kd.int .u64) 22 w16 w.heap.size (fun _ => True) (.slice (some ⟨go, 0, none⟩) out.length co_) (out.set i.toNat t) := (by rw [hw]; exact Kd.R_putn (Kd.R_drewN HO.out nd) i t); have n1_ : Below w.heap.size w w16 := (by rw [hw]; exact below_set (pw_below_drewN HB.out nd) GB.out); clear HO HB HPUT hw; have HO := Aside0.mk n0_; have HB := Aside0.mk n1_; clear n0_ n1_))
            simp only [← HL.out]
            go_roundg k1
            case measure => have := HK.out; omega
            case rel => exact ⟨out.set i.toNat t, wrap64 (i + 1), (by first | rfl | (simp; done) | (simp [*]; done)), HW, H', ⟨by have := HK.out; omega⟩, ⟨by rw [HL.out]; exact HO.out⟩, ⟨HB.out⟩⟩
          · rw [if_neg c2_] at HT
            have hb1 : decide (i < (l2.length : Int)) = false := decide_eq_false c2_
            go_wp2_with (first
              | ((with_reducible refine gate_dst (N := 43) rfl ?_); refine poly_each.goesT (some 43) rfl rfl HE.out #[.int .u64 a0, .int .u64 (rd out i), .int .u64 0] rfl rfl (by (try simp only [List.map_toArray, List.map_cons, List.map_nil]); first | done | rfl) ?_; (with_reducible refine (HD.out _ _ _ t _ HT.out).mono ?_); rintro e w' ⟨rfl, ⟨nd, rfl⟩⟩; refine ⟨_, rfl, ?_⟩)
              | ((with_reducible refine gate_store (t := 22) (p := 44) rfl ?_); refine store_event (t := 22) (p := 44) (v := ?vo) (w1 := ((wr.drewN nd).setCell ⟨go, i.toNat, none⟩ (.int .u64 t))) ?hg ?ho ?hn ?hr ?_; (case ho => rfl); (case hg => rfl); (case hn => rfl); (case hr => first | (go_simp; done) | (go_simp; rfl)); intro w16 hw; have n0_ : Kd.R (Kd.int .u64) 22 w16 w.heap.size (fun _ => True) (.slice (some ⟨go, 0, none⟩) out.length co_) (out.set i.toNat t) := (by rw [hw]; exact Kd.R_putn (Kd.R_drewN HO.out nd) i t); have n1_ : Below w.heap.size w w16 := (by rw [hw]; exact below_set (pw_below_drewN HB.out nd) GB.out); clear HO HB HPUT hw; have HO := Aside0.mk n0_; have HB := Aside0.mk n1_; clear n0_ n1_))
            simp only [← HL.out]
            go_roundg k1
            case measure => have := HK.out; omega
            case rel => exact ⟨out.set i.toNat t, wrap64 (i + 1), (by first | rfl | (simp; done) | (simp [*]; done)), HW, H', ⟨by have := HK.out; omega⟩, ⟨by rw [HL.out]; exact HO.out⟩, ⟨HB.out⟩⟩
        · rw [if_neg c1_] at H
          have hb0 : decide (i < (out.length : Int)) = false := decide_eq_false c1_
          have H' := Aside0.mk H
          clear H
          have HL := Aside0.mk hl
          clear hl
          go_wp2_with ((with_reducible refine gate_callee (f := 127) rfl ?_); refine goesL_ (some 47) rfl rfl Try.func127 (by kernel_rfl) rfl #[.slice Ao out.length co_] rfl (by (try simp only [List.map_toArray, List.map_cons, List.map_nil]); first | done | rfl) ?_; (with_reducible refine (poly_Short.calls k1 _ _ out r _ ?side1 ?side2 H'.out).mono ?_); (case side1 => exact (Kd.R_reads' HO.out).2.2); (case side2 => exact (Kd.R_reads' HO.out).2.1); rintro e w20 ⟨v288, rfl, ho0, hb⟩; refine ⟨_, rfl, ?_⟩; have n1_ := Aside0.mk (Kd.R_lower ho0 (below_size HB.out)); have n2_ := Aside0.mk (below_step HB.out hb); clear HO HB ho0 hb; have HO := n1_; have HB := n2_; clear n1_ n2_)
          go_ret
          exact ⟨_, rfl, HO.out, HB.out⟩
  · rw [if_neg hle] at h; cases h
/-! what it comes to -/
/-- A list without noughts at its end. -/
def shortI (l : List Int) : List Int := l.foldr (fun c r => if r = [] ∧ c = 0 then [] else c :: r) []
theorem shortI_snoc (l : List Int) (c : Int) : shortI (l ++ [c]) = if c = 0 then shortI l else l ++ [c] := by
  induction l with
  | nil => by_cases h : c = 0 <;> simp [shortI, h]
  | cons a l ih =>
    have e : ∀ m : List Int, shortI (a :: m) = if shortI m = [] ∧ a = 0 then [] else a :: shortI m := fun _ => rfl
    rw [List.cons_append, e, e, ih]
    by_cases h : c = 0
    · simp [h]
    · simp [h]
theorem shortI_length (l : List Int) : (shortI l).length ≤ l.length := by
  induction l with
  | nil => simp [shortI]
  | cons a l ih =>
    have e : ∀ m : List Int, shortI (a :: m) = if shortI m = [] ∧ a = 0 then [] else a :: shortI m := fun _ => rfl
    rw [e]; split
    · simp
    · simp; exact ih
theorem short_at (l : List Int) (hl : l.length < 17592186044416) : ∀ (n k : Nat), n ≤ l.length → n < k → poly_Short.l0 k l (n : Int) = some (shortI (l.take n))
  | 0, k, _, hk => by
    obtain ⟨k, rfl⟩ : ∃ m, k = m + 1 := ⟨k - 1, by omega⟩
    simp only [poly_Short.l0]
    rw [if_neg (by omega), if_pos (by omega), if_pos (by omega)]
    simp [slices_Clone_uint64_uint64.f, shortI]
  | n + 1, k, hn, hk => by
    obtain ⟨k, rfl⟩ : ∃ m, k = m + 1 := ⟨k - 1, by omega⟩
    have hw : wrap64 (((n + 1 : Nat) : Int) - 1) = (n : Int) := by unfold wrap64; omega
    have hr : rd l (n : Int) = l[n] := by simp [rd, List.getD_eq_getElem?_getD, show n < l.length by omega]
    simp only [poly_Short.l0]
    rw [hw, if_pos (by omega), if_pos (by omega), if_pos (by omega), hr, List.take_succ_eq_append_getElem (by omega), shortI_snoc]
    by_cases hz : l[n] = 0
    · rw [if_pos hz, if_pos hz, short_at l hl n k (by omega) (by omega)]
    · rw [if_neg hz, if_neg hz, if_pos (by omega), if_pos (by omega)]
      rw [show (((n + 1 : Nat) : Int)).toNat = n + 1 by omega, List.take_succ_eq_append_getElem (by omega)]
      unfold slices_Clone_uint64_uint64.f
      rw [if_pos (by simp; omega)]; rfl
theorem short_spec (l : List Int) (hl : l.length < 17592186044416) (k : Nat) (hk : l.length < k) : poly_Short.f k l = some (shortI l) := by
  unfold poly_Short.f
  rw [short_at l hl l.length k (Nat.le_refl _) hk, List.take_length]
theorem each_at (d : Int → Int → Int → Option Int) (a0 : Int) (g : List Int) (D : Int → Int → Int) (hd : ∀ x y, d a0 x y = some (D x y)) (n : Nat) (hn : n ≤ 35184372088832) (hn2 : n < 17592186044416) : ∀ (m j k : Nat) (out : List Int), out.length = n → j + m = n → m + n + 1 < k →
    poly_each.l0 d a0 g k out (j : Int) = some (shortI ((List.range n).map fun i => if i < j then out.getD i 0 else D (out.getD i 0) (g.getD i 0)))
  | 0, j, k, out, ho, hj, hk => by
    obtain ⟨k, rfl⟩ : ∃ m, k = m + 1 := ⟨k - 1, by omega⟩
    unfold poly_each.l0
    rw [if_neg (by omega), short_spec out (by omega) k (by omega)]
    congr 2
    apply List.ext_getElem (by simp [ho])
    intro i h1 h2
    simp [show i < j by omega, List.getD_eq_getElem?_getD, h1]
  | m + 1, j, k, out, ho, hj, hk => by
    obtain ⟨k, rfl⟩ : ∃ m, k = m + 1 := ⟨k - 1, by omega⟩
    unfold poly_each.l0
    have hb : (if (j : Int) < (g.length : Int) then rd g (j : Int) else 0) = g.getD j 0 := by
      by_cases h : j < g.length
      · rw [if_pos (by omega)]; simp [rd]
      · rw [if_neg (by omega)]; simp [List.getD_eq_getElem?_getD, List.getElem?_eq_none (show g.length ≤ j by omega)]
    have hw : wrap64 ((j : Int) + 1) = ((j + 1 : Nat) : Int) := by unfold wrap64; omega
    rw [if_pos (by omega), hb, hd, Option.bind_some, hw, show ((j : Int)).toNat = j by omega, each_at d a0 g D hd n hn hn2 m (j + 1) k _ (by simp [ho]) (by omega) (by omega)]
    congr 2
    apply List.map_congr_left
    intro i hi
    have hi := List.mem_range.1 hi
    have hr : rd out (j : Int) = out.getD j 0 := by simp [rd]
    by_cases h1 : i < j
    · rw [if_pos (by omega), if_pos h1]; simp [List.getD_eq_getElem?_getD, List.getElem?_set_ne (show j ≠ i by omega)]
    · by_cases h2 : i = j
      · subst h2
        rw [if_pos (by omega), if_neg (by omega), hr]; simp [List.getD_eq_getElem?_getD, List.getElem?_set_self (show i < out.length by omega)]
      · rw [if_neg (by omega), if_neg h1]; simp [List.getD_eq_getElem?_getD, List.getElem?_set_ne (show j ≠ i by omega)]
/-- With each two coefficients, noughts beyond the shorter one's end. -/
def zipI (D : Int → Int → Int) (f g : List Int) : List Int := shortI ((List.range (max f.length g.length)).map fun i => D (f.getD i 0) (g.getD i 0))
theorem zipI_length (D : Int → Int → Int) (f g : List Int) : (zipI D f g).length ≤ max f.length g.length := by
  have := shortI_length ((List.range (max f.length g.length)).map fun i => D (f.getD i 0) (g.getD i 0))
  simpa [zipI] using this
theorem each_spec (d : Int → Int → Int → Option Int) (a0 : Int) (f g : List Int) (D : Int → Int → Int) (hd : ∀ x y, d a0 x y = some (D x y)) (hn : max f.length g.length < 17592186044416) (k : Nat) (hk : 2 * max f.length g.length + 1 < k) : poly_each.f k d a0 f g = some (zipI D f g) := by
  unfold poly_each.f
  rw [if_pos (by omega)]
  have := each_at d a0 g D hd (max f.length g.length) (by omega) hn (max f.length g.length) 0 k (f ++ List.replicate (max f.length g.length - f.length) 0) (by simp; omega) (by omega) (by omega)
  rw [show ((0 : Nat) : Int) = 0 from rfl] at this
  rw [this]
  unfold zipI
  congr 2
  apply List.map_congr_left
  intro i hi
  have hi := List.mem_range.1 hi
  rw [if_neg (by omega)]
  congr 1
  by_cases h : i < f.length
  · simp [List.getD_eq_getElem?_getD, List.getElem?_append_left h]
  · simp only [List.getD_eq_getElem?_getD]
    rw [List.getElem?_append_right (by omega), List.getElem?_eq_none (show f.length ≤ i by omega), List.getElem?_replicate]
    split <;> rfl

end Go.Proofs.Ytjjnfobeeflnhaa.J
