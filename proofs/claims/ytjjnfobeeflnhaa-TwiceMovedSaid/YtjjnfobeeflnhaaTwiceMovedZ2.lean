/- Part 2 of the proof of TwiceMoved: what the functions compute as plain Lean functions, that the machine comes to just these answers, and that the answer is true; no conditions. -/
import Derived.Test.YtjjnfobeeflnhaaTwiceMovedZ0
import Derived.Test.YtjjnfobeeflnhaaTwiceMovedZ1
import Derived.RangeFuncBox
import Derived.RangeFuncLeaves
import Derived.RangeFuncCalls
import Derived.RangeFuncWrites
import Derived.Shelf.Abstract
import Derived.OwnWalkIn
import Derived.TacticsInMore
import Derived.LoopNIn
import Derived.LoopIn
import Derived.Shelf.RegionOpen
set_option maxHeartbeats 8000000
set_option maxRecDepth 100000
namespace Go.Proofs.Ytjjnfobeeflnhaa.J
open Go.RowKit Go.Proofs.YtjjnfobeeflnhaaW.PrintWords Go.Proofs.YtjjnfobeeflnhaaW.PrintLast Go.Proofs.YtjjnfobeeflnhaaW.PrintMore
attribute [local go_sem] max2_int min2_int max_two min_two max_three min_three max_four min_four   -- for this text's walks alone
set_option linter.unusedVariables false
set_option linter.unusedSimpArgs false
def poly_each.l0 (d : Int → Int → Int → Option Int) (a0 : Int) (g : List Int) : Nat → List Int → Int → Option (List Int)
 | 0, _, _ => none
 | k + 1, out, i => if i < (out.length : Int) then ((d a0 (rd out i) (if i < (g.length : Int) then rd g i else 0)).bind fun t => poly_each.l0 d a0 g k (out.set i.toNat t) (wrap64 (i + 1))) else qwa.f k out
def poly_each.f (k : Nat) (d : Int → Int → Int → Option Int) (a0 : Int) (l1 l2 : List Int) : Option (List Int) :=
 if max l1.length l2.length ≤ 35184372088832 then poly_each.l0 d a0 l2 k (l1 ++ List.replicate (max l1.length l2.length - l1.length) 0) 0 else none
theorem poly_each.mono_l (d : Int → Int → Int → Option Int) (a0 : Int) (g : List Int) : ∀ k out i, LeO (poly_each.l0 d a0 g k out i) (poly_each.l0 d a0 g (k + 1) out i)
 | 0, _, _ => fun r h => by simp [poly_each.l0] at h
 | k + 1, out, i => by
  unfold poly_each.l0
  exact LeO.ite (LeO.bind (LeO.refl _) fun t => poly_each.mono_l d a0 g k _ _) (qwa.mono _ _)
theorem poly_each.mono (d : Int → Int → Int → Option Int) (a0 : Int) (l1 l2 : List Int) (k : Nat) : LeO (poly_each.f k d a0 l1 l2) (poly_each.f (k + 1) d a0 l1 l2) := by
 unfold poly_each.f
 exact LeO.ite (poly_each.mono_l _ _ _ _ _ _) (LeO.refl _)
theorem poly_each.goesT {P : Program} {ops : Array Oper} {Q : Exit → Act → World → Prop} {rest : List Oper} {oi : Oper} {a : Act} {w : World} (N : Option Tmp) (hd : oi.dst = N) (hg : oi.guard = none) {f : FuncId} {c : Operand} {ops_ : Array Operand} {ts : Array TypeId}
  (he : ∀ args w, (callFunc f args).run P w = .ok (.enter f args) w) (args : Array Value) (hop : oi.op = .call { callee := .value c, args := ops_, argTypes := ts }) (hc : a.eval c = .func (.func f) #[] #[]) (hargs : ops_.map a.eval = args)
  (h : Calls P f args w fun e w' => ∃ v, e = .returned v ∧ wpList P ops Q rest (a.put N v) w') : wpList P ops Q (oi :: rest) a w := by
 refine wpList_plain hg fun K hK => ?_
 have he := he args w
 have hrun : (execOp a.eval oi).run P w = .ok (.enter f args) w := by
  unfold execOp
  have hargs' : Array.map (fun x => a.eval x) ops_ = args := hargs
  simp [hop, resolve, Deferred.ofValue, invoke, hc, hargs', he]
 unfold Oper.wp
 rw [hrun, Oper.upon_enter]
 refine h.mono fun e w'' hh => ?_
 obtain ⟨v, rfl, hk⟩ := hh
 subst hd
 exact hK _ _ hk
theorem poly_each.calls (k : Nat) (d : Int → Int → Int → Option Int) (fid : FuncId) (hE : ∀ args w, (callFunc fid args).run Try.prog w = .ok (.enter fid args) w)
  (hD : ∀ (a b c r : Int) (w : World), d a b c = some r → Calls Try.prog fid #[.int .u64 a, .int .u64 b, .int .u64 c] w fun e w' => e = .returned (.int .u64 r) ∧ Drawn0 w w')
  (a0 : Int) (A1 : Option Addr) (c1 : Nat) (l1 : List Int) (A2 : Option Addr) (c2 : Nat) (l2 : List Int) (r : List Int) (w : World) (hr1 : Kd.C (Kd.int .u64) w A1 l1.length l1) (hc1 : l1.length ≤ c1) (hr2 : Kd.C (Kd.int .u64) w A2 l2.length l2) (hc2 : l2.length ≤ c2) (h : poly_each.f k d a0 l1 l2 = some r) :
  Calls Try.prog 164 #[.int .u64 a0, .slice A1 l1.length c1, .slice A2 l2.length c2, .func (.func fid) #[] #[]] w fun e w' => ∃ v0_ : Value, e = .returned (v0_) ∧ Kd.R (Kd.int .u64) 22 w' w.heap.size (fun _ => True) v0_ r ∧ Below w.heap.size w w' := by
 have HE := Aside0.mk hE
 have HD := Aside0.mk hD
 have HR1 := Aside0.mk hr1
 have HC1 := Aside0.mk hc1
 have HR2 := Aside0.mk hr2
 have HC2 := Aside0.mk hc2
 clear hE hD hr1 hr2
 have HB := Aside0.mk (Below.refl w.heap.size w)
 unfold poly_each.f at h
 obtain ⟨n, hn⟩ : ∃ n, n = max l1.length l2.length := ⟨_, rfl⟩
 rw [← hn] at h
 have hn1 : l1.length ≤ n := by omega
 have hmx : (if l1.length < l2.length then (l2.length : Int) else (l1.length : Int)) = (n : Int) := by split <;> omega
 clear hn
 by_cases hle : n ≤ 35184372088832
 ·rw [if_pos hle] at h
  have H' := Aside0.mk h
  have HN1 := Aside0.mk hn1
  have HLE := Aside0.mk hle
  clear h hn1 hc1 hc2
  obtain ⟨y0, hy0⟩ : ∃ y : List Int, y = List.replicate n 0 := ⟨_, rfl⟩
  have Ny := Aside0.mk hy0
  clear hy0 hle
  have hn0 : 0 ≤ (n : Int) := Int.natCast_nonneg n
  go_enter Try.func164, Try.ntmps164
  go_wp2_with (first
   | ((with_reducible refine gate_dst (N := 17) rfl ?_); refine Kd.R_make (Kd.int .u64) _ 22 rfl (N := 17) rfl 31 _ _ rfl (n : Int) rfl rfl Try.underlying31 (.int .u64 0) 8 info22 rfl (by decide) (by omega) 0 (ok := fun _ => True) (okp := fun _ => True) rfl (fun _ hk => hk) trivial hn0 (by have := HLE.out; omega) (Below.refl _ _) (Nat.le_refl _) ?_; intro v1 w1 ho hb hg_ hnew_; clear hg_ hnew_; rw [show ((n : Int)).toNat = n from rfl, ← Ny.out] at ho; have n0_ := Aside0.mk ho; have n1_ := Aside0.mk hb; clear HB ho hb; have HO := n0_; have HB := n1_; clear n0_ n1_; obtain ⟨Ao, co_, eo⟩ := Kd.R_slice HO.out; subst eo)
   | ((with_reducible refine gate_builtin (b := .copy) (xs := #[.tmp 18, .tmp 19]) rfl ?_); refine Kd.R_copy (enc := Value.int .u64) (h1 := fun _ => rfl) 0 (w0 := w) w.heap.size rfl (.tmp 18) (.tmp 19) 31 31 22 rfl Try.underlying31 (by kernel_rfl) (.slice Ao y0.length co_) y0 l1 A1 l1.length c1 (fun _ => True) rfl rfl HO.out (Kd.C_below HR1.out HB.out) HB.out (qka HB.out) ?_; intro w2 ho hb hg; have n0_ := Aside0.mk ho; have n1_ := Aside0.mk hb; clear HO HB ho hb hg; have HO := n0_; have HB := n1_; clear n0_ n1_))
  have hyl : y0.length = n := by rw [Ny.out, List.length_replicate]
  have hcp : List.take (min l1.length y0.length) l1 ++ List.drop (min l1.length y0.length) y0 = l1 ++ List.replicate (n - l1.length) 0 := by
   have h1 := HN1.out
   rw [hyl, Nat.min_eq_left h1, List.take_length, Ny.out, List.drop_replicate]
  rw [hcp] at HO
  clear hcp
  have HYL := Aside0.mk hyl
  clear hyl
  go_loopg [23] k (fun kq v23 w' => ∃ (out : List Int) (i : Int), v23 = .int .i64 i ∧ Aside0 (0 ≤ i) ∧ Aside0 (poly_each.l0 d a0 l2 kq out i = some r) ∧ Aside0 (kq ≤ k) ∧ Aside0 (Kd.R (Kd.int .u64) 22 w' w.heap.size (fun _ => True) (.slice Ao y0.length co_) out) ∧ Aside0 (Below w.heap.size w w'))
  case atStart => exact ⟨_, 0, rfl, ⟨by omega⟩, H', ⟨Nat.le_refl _⟩, ⟨HO.out⟩, ⟨HB.out⟩⟩
  case round =>
   clear H' HO HB
   obtain ⟨out, i, rfl, HI, HA, HK, HO, HB⟩ := hrel
   have hl : y0.length = out.length := (Kd.R_reads' HO.out).1
   rw [hl] at HO
   simp only [hl]
   cases gk with
   | zero => exact absurd HA.out (by simp [poly_each.l0])
   | succ k1 =>
    have H := HA.out
    clear HA
    simp only [poly_each.l0] at H
    have hi0 := HI.out
    by_cases c1_ : i < (out.length : Int)
    ·rw [if_pos c1_] at H
     obtain ⟨t, ht, H⟩ := Option.bind_eq_some_iff.mp H
     have HT := Aside0.mk ht
     have H' := Aside0.mk H
     clear H ht
     have hb0 : decide (i < (out.length : Int)) = true := decide_eq_true c1_
     obtain ⟨go, cap_, eo, gb, gl, cells_, hcl⟩ := Kd.R_form HO.out (by omega)
     injection eo with ea en ec
     subst ea
     subst ec
     clear en
     obtain ⟨hx, hf⟩ := Kd.R_celln 0 HO.out i hi0 c1_
     replace hx : wr.cell? ⟨go, i.toNat, none⟩ = some (.int .u64 (rd out i)) := hx
     have HPUT := Aside0.mk (Kd.R_putn HO.out i t)
     have GB := Aside0.mk gb
     clear gb gl hcl
     have hix : (0 ≤ i) = True := eq_true hi0
     have HL := Aside0.mk hl
     clear hl
     have HW : Aside0 (0 ≤ wrap64 (i + 1)) := ⟨by have h1 := HLE.out; have h2 := HYL.out; have h3 := HL.out; unfold wrap64; omega⟩
     by_cases c2_ : i < (l2.length : Int)
     ·rw [if_pos c2_] at HT
      have hb1 : decide (i < (l2.length : Int)) = true := decide_eq_true c2_
      obtain ⟨ad, e2, hy⟩ := Kd.at_int HR2.out i hi0 c2_
      replace hy : wr.cell? (ad.add i.toNat) = some (.int .u64 (rd l2 i)) := (HB.out.cell (World.block_lt_of_cell? w _ hy)).trans hy
      subst e2
      go_wp2_with (first
       | ((with_reducible refine gate_dst (N := 43) rfl ?_); refine poly_each.goesT (some 43) rfl rfl HE.out #[.int .u64 a0, .int .u64 (rd out i), .int .u64 (rd l2 i)] rfl rfl (by (try simp only [qM1, qM2, qM3]); first | done | rfl) ?_; (with_reducible refine (HD.out _ _ _ t _ HT.out).mono ?_); rintro e w' ⟨rfl, ⟨nd, rfl⟩⟩; refine ⟨_, rfl, ?_⟩)
       | ((with_reducible refine gate_store (t := 22) (p := 44) rfl ?_); refine store_event (t := 22) (p := 44) (v := ?vo) (w1 := ((wr.drewN nd).setCell ⟨go, i.toNat, none⟩ (.int .u64 t))) ?hg ?ho ?hn ?hr ?_; (case ho => rfl); (case hg => rfl); (case hn => rfl); (case hr => first | (go_simp; done) | (go_simp; rfl)); intro w16 hw; have n0_ : Kd.R (Kd.int .u64) 22 w16 w.heap.size (fun _ => True) (.slice (some ⟨go, 0, none⟩) out.length co_) (out.set i.toNat t) := (by rw [hw]; exact Kd.R_putn (Kd.qia HO.out nd) i t); have n1_ : Below w.heap.size w w16 := (by rw [hw]; exact qha (qba HB.out nd) GB.out); clear HO HB HPUT hw; have HO := Aside0.mk n0_; have HB := Aside0.mk n1_; clear n0_ n1_))
      simp only [← HL.out]
      go_roundg k1
      case measure => have := HK.out; omega
      case rel => exact ⟨out.set i.toNat t, wrap64 (i + 1), (by first | rfl | (simp; done) | (simp [*]; done)), HW, H', ⟨by have := HK.out; omega⟩, ⟨by rw [HL.out]; exact HO.out⟩, ⟨HB.out⟩⟩
     ·rw [if_neg c2_] at HT
      have hb1 : decide (i < (l2.length : Int)) = false := decide_eq_false c2_
      go_wp2_with (first
       | ((with_reducible refine gate_dst (N := 43) rfl ?_); refine poly_each.goesT (some 43) rfl rfl HE.out #[.int .u64 a0, .int .u64 (rd out i), .int .u64 0] rfl rfl (by (try simp only [qM1, qM2, qM3]); first | done | rfl) ?_; (with_reducible refine (HD.out _ _ _ t _ HT.out).mono ?_); rintro e w' ⟨rfl, ⟨nd, rfl⟩⟩; refine ⟨_, rfl, ?_⟩)
       | ((with_reducible refine gate_store (t := 22) (p := 44) rfl ?_); refine store_event (t := 22) (p := 44) (v := ?vo) (w1 := ((wr.drewN nd).setCell ⟨go, i.toNat, none⟩ (.int .u64 t))) ?hg ?ho ?hn ?hr ?_; (case ho => rfl); (case hg => rfl); (case hn => rfl); (case hr => first | (go_simp; done) | (go_simp; rfl)); intro w16 hw; have n0_ : Kd.R (Kd.int .u64) 22 w16 w.heap.size (fun _ => True) (.slice (some ⟨go, 0, none⟩) out.length co_) (out.set i.toNat t) := (by rw [hw]; exact Kd.R_putn (Kd.qia HO.out nd) i t); have n1_ : Below w.heap.size w w16 := (by rw [hw]; exact qha (qba HB.out nd) GB.out); clear HO HB HPUT hw; have HO := Aside0.mk n0_; have HB := Aside0.mk n1_; clear n0_ n1_))
      simp only [← HL.out]
      go_roundg k1
      case measure => have := HK.out; omega
      case rel => exact ⟨out.set i.toNat t, wrap64 (i + 1), (by first | rfl | (simp; done) | (simp [*]; done)), HW, H', ⟨by have := HK.out; omega⟩, ⟨by rw [HL.out]; exact HO.out⟩, ⟨HB.out⟩⟩
    ·rw [if_neg c1_] at H
     have hb0 : decide (i < (out.length : Int)) = false := decide_eq_false c1_
     have H' := Aside0.mk H
     clear H
     have HL := Aside0.mk hl
     clear hl
     go_wp2_with ((with_reducible refine qoa (f := 127) rfl ?_); refine goesL_ (some 47) rfl rfl Try.func127 (by kernel_rfl) rfl #[.slice Ao out.length co_] rfl (by (try simp only [qM1, qM2, qM3]); first | done | rfl) ?_; (with_reducible refine (qwa.calls k1 _ _ out r _ ?side1 ?side2 H'.out).mono ?_); (case side1 => exact (Kd.R_reads' HO.out).2.2); (case side2 => exact (Kd.R_reads' HO.out).2.1); rintro e w20 ⟨v288, rfl, ho0, hb⟩; refine ⟨_, rfl, ?_⟩; have n1_ := Aside0.mk (Kd.R_lower ho0 (qka HB.out)); have n2_ := Aside0.mk (qla HB.out hb); clear HO HB ho0 hb; have HO := n1_; have HB := n2_; clear n1_ n2_)
     go_ret
     exact ⟨_, rfl, HO.out, HB.out⟩
 ·rw [if_neg hle] at h; cases h
def shortI (l : List Int) : List Int := l.foldr (fun c r => if r = [] ∧ c = 0 then [] else c :: r) []
theorem shortI_snoc (l : List Int) (c : Int) : shortI (l ++ [c]) = if c = 0 then shortI l else l ++ [c] := by
 induction l with
 | nil => by_cases h : c = 0 <;> simp [shortI, h]
 | cons a l ih =>
  have e : ∀ m : List Int, shortI (a :: m) = if shortI m = [] ∧ a = 0 then [] else a :: shortI m := fun _ => rfl
  rw [List.cons_append, e, e, ih]
  by_cases h : c = 0
  ·simp [h]
  ·simp [h]
theorem shortI_length (l : List Int) : (shortI l).length ≤ l.length := by
 induction l with
 | nil => simp [shortI]
 | cons a l ih =>
  have e : ∀ m : List Int, shortI (a :: m) = if shortI m = [] ∧ a = 0 then [] else a :: shortI m := fun _ => rfl
  rw [e]; split
  ·simp
  ·simp; exact ih
theorem short_at (l : List Int) (hl : l.length < 17592186044416) : ∀ (n k : Nat), n ≤ l.length → n < k → qwa.l0 k l (n : Int) = some (shortI (l.take n))
 | 0, k, _, hk => by
  obtain ⟨k, rfl⟩ : ∃ m, k = m + 1 := ⟨k - 1, by omega⟩
  simp only [qwa.l0]
  rw [if_neg (by omega), if_pos (by omega), if_pos (by omega)]
  simp [qob.f, shortI]
 | n + 1, k, hn, hk => by
  obtain ⟨k, rfl⟩ : ∃ m, k = m + 1 := ⟨k - 1, by omega⟩
  have hw : wrap64 (((n + 1 : Nat) : Int) - 1) = (n : Int) := by unfold wrap64; omega
  have hr : rd l (n : Int) = l[n] := by simp [rd, List.getD_eq_getElem?_getD, show n < l.length by omega]
  simp only [qwa.l0]
  rw [hw, if_pos (by omega), if_pos (by omega), if_pos (by omega), hr, List.take_succ_eq_append_getElem (by omega), shortI_snoc]
  by_cases hz : l[n] = 0
  ·rw [if_pos hz, if_pos hz, short_at l hl n k (by omega) (by omega)]
  ·rw [if_neg hz, if_neg hz, if_pos (by omega), if_pos (by omega)]
   rw [show (((n + 1 : Nat) : Int)).toNat = n + 1 by omega, List.take_succ_eq_append_getElem (by omega)]
   unfold qob.f
   rw [if_pos (by simp; omega)]; rfl
theorem short_spec (l : List Int) (hl : l.length < 17592186044416) (k : Nat) (hk : l.length < k) : qwa.f k l = some (shortI l) := by
 unfold qwa.f
 rw [short_at l hl l.length k (Nat.le_refl _) hk, List.take_length]
theorem each_at (d : Int → Int → Int → Option Int) (a0 : Int) (g : List Int) (D : Int → Int → Int) (hd : ∀ x y, d a0 x y = some (D x y)) (n : Nat) (hn : n ≤ 35184372088832) (hn2 : n < 17592186044416) : ∀ (m j k : Nat) (out : List Int), out.length = n → j + m = n → m + n + 1 < k →
  poly_each.l0 d a0 g k out (j : Int) = some (shortI ((List.range n).map fun i => if i < j then out.getD i 0 else D (out.getD i 0) (g.getD i 0)))
 | 0, j, k, out, ho, hj, hk => by
  obtain ⟨k, rfl⟩ : ∃ m, k = m + 1 := ⟨k - 1, by omega⟩
  unfold poly_each.l0
  rw [if_neg (by omega), short_spec out (by omega) k (by omega)]
  congr 2
  apply List.ext_getElem (by simp [ho])
  intro i h1 h2
  simp [show i < j by omega, List.getD_eq_getElem?_getD, h1]
 | m + 1, j, k, out, ho, hj, hk => by
  obtain ⟨k, rfl⟩ : ∃ m, k = m + 1 := ⟨k - 1, by omega⟩
  unfold poly_each.l0
  have hb : (if (j : Int) < (g.length : Int) then rd g (j : Int) else 0) = g.getD j 0 := by
   by_cases h : j < g.length
   ·rw [if_pos (by omega)]; simp [rd]
   ·rw [if_neg (by omega)]; simp [List.getD_eq_getElem?_getD, List.getElem?_eq_none (show g.length ≤ j by omega)]
  have hw : wrap64 ((j : Int) + 1) = ((j + 1 : Nat) : Int) := by unfold wrap64; omega
  rw [if_pos (by omega), hb, hd, Option.bind_some, hw, show ((j : Int)).toNat = j by omega, each_at d a0 g D hd n hn hn2 m (j + 1) k _ (by simp [ho]) (by omega) (by omega)]
  congr 2
  apply List.map_congr_left
  intro i hi
  have hi := List.mem_range.1 hi
  have hr : rd out (j : Int) = out.getD j 0 := by simp [rd]
  by_cases h1 : i < j
  ·rw [if_pos (by omega), if_pos h1]; simp [List.getD_eq_getElem?_getD, List.getElem?_set_ne (show j ≠ i by omega)]
  ·by_cases h2 : i = j
   ·subst h2
    rw [if_pos (by omega), if_neg (by omega), hr]; simp [List.getD_eq_getElem?_getD, List.getElem?_set_self (show i < out.length by omega)]
   ·rw [if_neg (by omega), if_neg h1]; simp [List.getD_eq_getElem?_getD, List.getElem?_set_ne (show j ≠ i by omega)]
def zipI (D : Int → Int → Int) (f g : List Int) : List Int := shortI ((List.range (max f.length g.length)).map fun i => D (f.getD i 0) (g.getD i 0))
theorem zipI_length (D : Int → Int → Int) (f g : List Int) : (zipI D f g).length ≤ max f.length g.length := by
 have := shortI_length ((List.range (max f.length g.length)).map fun i => D (f.getD i 0) (g.getD i 0))
 simpa [zipI] using this
theorem each_spec (d : Int → Int → Int → Option Int) (a0 : Int) (f g : List Int) (D : Int → Int → Int) (hd : ∀ x y, d a0 x y = some (D x y)) (hn : max f.length g.length < 17592186044416) (k : Nat) (hk : 2 * max f.length g.length + 1 < k) : poly_each.f k d a0 f g = some (zipI D f g) := by
 unfold poly_each.f
 rw [if_pos (by omega)]
 have := each_at d a0 g D hd (max f.length g.length) (by omega) hn (max f.length g.length) 0 k (f ++ List.replicate (max f.length g.length - f.length) 0) (by simp; omega) (by omega) (by omega)
 rw [show ((0 : Nat) : Int) = 0 from rfl] at this
 rw [this]
 unfold zipI
 congr 2
 apply List.map_congr_left
 intro i hi
 have hi := List.mem_range.1 hi
 rw [if_neg (by omega)]
 congr 1
 by_cases h : i < f.length
 ·simp [List.getD_eq_getElem?_getD, List.getElem?_append_left h]
 ·simp only [List.getD_eq_getElem?_getD]
  rw [List.getElem?_append_right (by omega), List.getElem?_eq_none (show f.length ≤ i by omega), List.getElem?_replicate]
  split <;> rfl
def poly_Plus.f (k : Nat) (a0 : Int) (l1 l2 : List Int) : Option (List Int) := poly_each.f k field_Plus.f a0 l1 l2
theorem poly_Plus.calls (k : Nat) (a0 : Int) (A1 : Option Addr) (c1 : Nat) (l1 : List Int) (A2 : Option Addr) (c2 : Nat) (l2 : List Int) (r : List Int) (w : World) (hr1 : Kd.C (Kd.int .u64) w A1 l1.length l1) (hc1 : l1.length ≤ c1) (hr2 : Kd.C (Kd.int .u64) w A2 l2.length l2) (hc2 : l2.length ≤ c2) (h : poly_Plus.f k a0 l1 l2 = some r) :
  Calls Try.prog 143 #[.int .u64 a0, .slice A1 l1.length c1, .slice A2 l2.length c2] w fun e w' => ∃ v0_ : Value, e = .returned (v0_) ∧ Kd.R (Kd.int .u64) 22 w' w.heap.size (fun _ => True) v0_ r ∧ Below w.heap.size w w' := by
 have K := Aside0.mk (poly_each.calls k field_Plus.f 147 (fun args w => enters_ Try.func147 (by kernel_rfl) rfl args w) (fun a b c r w h => field_Plus.calls a b c r w h) a0 A1 c1 l1 A2 c2 l2 r w hr1 hc1 hr2 hc2 h)
 clear hr1 hr2 hc1 hc2 h
 go_enter Try.func143, Try.ntmps143
 go_wp2_with (go_at_call 164; refine K.out.mono ?_; rintro e w' ⟨v, rfl, hR, hB⟩; have HR := Aside0.mk hR; have HB := Aside0.mk hB; clear hR hB)
 go_ret
 exact ⟨_, rfl, HR.out, HB.out⟩
def plusI (p : Int) (f g : List Int) : List Int := zipI (fun a b => (field_Plus.f p a b).getD 0) f g
theorem plusI_spec (a0 : Int) (f g : List Int) (hn : max f.length g.length < 17592186044416) (k : Nat) (hk : 2 * max f.length g.length + 1 < k) : poly_Plus.f k a0 f g = some (plusI a0 f g) := by
 refine each_spec _ a0 f g _ (fun x y => ?_) hn k hk
 unfold field_Plus.f
 split <;> rfl
section
open Go.Shelf
attribute [local go_sem] Oper.semAt_some
def qua {α : Type} (f : Nat → α) (k : Nat) : List α := (List.range k).map f
theorem slices_Backward_uint64_uint64_162_upto_succ {α : Type} (f : Nat → α) (k : Nat) : qua f (k + 1) = qua f k ++ [f k] := by simp [qua, List.range_succ]
theorem slices_Backward_uint64_uint64_162_upto_length {α : Type} (f : Nat → α) (k : Nat) : (qua f k).length = k := by simp [qua]
def qrb (n₀ Bs : Nat) (W W' : World) : Prop := Below n₀ W W' ∧ W'.heap[Bs]? = W.heap[Bs]?
theorem slices_Backward_uint64_uint64_162_Kp_t {n₀ Bs : Nat} {A B C : World} (h : qrb n₀ Bs A B) (k : qrb n₀ Bs B C) : qrb n₀ Bs A C := ⟨h.1.trans k.1, k.2.trans h.2⟩
theorem slices_Backward_uint64_uint64_162_Kp_b {n₀ Bs : Nat} {w : World} (hn : n₀ ≤ w.heap.size) (hs : Bs < w.heap.size) (W : World) (l : Nat) (o o' : Obj) (hl : w.heap.size ≤ l) (h : W.heap[l]? = some o) (h1 : o.isCells = false) (h2 : o.isWalk = false) : qrb n₀ Bs W (W.putObj l o') :=
 ⟨belowK_b hn W l o o' hl h h1 h2, World.putObj_heap_other (by omega)⟩
theorem slices_Backward_uint64_uint64_162_in (F : Fence) (n : Nat) (h7 : F.fn 172) (hro : F.round = none) (hn : 1 ≤ n) (l Bs n₀ cap : Nat) (A : Option Addr) (len : Nat) (V : Nat → Value) (hV : ∀ j, ∃ B m c, V j = .slice B m c) (hA : ∀ ad, A = some ad → 0 < len → ad.block < n₀) (J Jx : List Nat → World → Prop)
  (hY : ∀ pre (x : Nat) W, J pre W → pre.length < len → YieldAt F (n - 1) Try.prog l #[.int .i64 (x : Int), V x] W fun e W' =>
   (e = .returned (.bool true) ∧ J (pre ++ [x]) W' ∧ qrb n₀ Bs W W') ∨ (e = .returned (.bool false) ∧ Jx (pre ++ [x]) W'))
  (W : World) (hBs : W.cell? ⟨Bs, 0, none⟩ = some (.slice A len cap)) (hlen : len ≤ 9223372036854775807) (hc : ∀ j, j < len → ∃ ad, A = some ad ∧ W.cell? (ad.add j) = some (V j)) (h0 : J [] W) :
  CallsIn F n Try.prog 172 #[.func (.yield l) #[] #[], .pointer (some ⟨Bs, 0, none⟩)] W fun e W' => (∃ v, e = .returned v) ∧
   ((∃ ys, ys = qua (fun k => len - 1 - k) len ∧ J ys W') ∨ (∃ pre, (∃ k, k ≤ len ∧ pre = qua (fun k => len - 1 - k) k) ∧ Jx pre W')) := by
 refine callsIn_of_wp Try.func172 rfl h7 ?_ hro
 simp only [Try.ntmps172, List.size_toArray, List.length_cons, List.length_nil, Nat.reduceAdd, Nat.reduceSub, Array.replicate_succ, Array.replicate_zero, List.push_toArray, List.append_toArray, List.nil_append, List.cons_append]
 have HC := Aside0.mk hc
 clear hc
 gi_wp2
 gi_loopw [3] (fun i wr => ∃ k : Nat, k ≤ len ∧ i = .int .i64 ((len : Int) - 1 - k) ∧ J (qua (fun k => len - 1 - k) k) wr ∧ qrb n₀ Bs W wr)
  (fun i _ => (intOf i + 1).toNat)
 case atStart => exact ⟨0, Nat.zero_le _, by simp, h0, Below.refl _ _, rfl⟩
 case round =>
  obtain ⟨k, hk, rfl, hJs, hnx⟩ := hrel
  have hBs' : wr.cell? ⟨Bs, 0, none⟩ = some (.slice A len cap) := by unfold World.cell? at hBs ⊢; rw [hnx.2]; exact hBs
  by_cases hlt : k < len
  ·obtain ⟨i, hi⟩ : ∃ i : Nat, i = len - 1 - k := ⟨_, rfl⟩
   have hie : (len : Int) - 1 - k = i := by omega
   rw [hie]
   have hil : i < len := by omega
   obtain ⟨ad, rfl, hcx⟩ := HC.out i hil
   replace hcx : wr.cell? (ad.add i) = some (V i) := (hnx.1.cell (p := ad.add i) (by rw [show (ad.add i).block = ad.block by unfold Addr.add; split <;> rfl]; exact hA ad rfl (by omega))).trans hcx
   obtain ⟨B1, m1, c1, e1⟩ := hV i
   obtain ⟨fn, tmps, assign, body, hy, hR⟩ := hY _ i wr hJs (by rw [slices_Backward_uint64_uint64_162_upto_length]; exact hlt)
   have hnth : len - 1 - k = i := hi.symm
   rw [e1] at hcx hy
   have HN := Aside0.mk hnth
   have HI := Aside0.mk hi
   have HIE := Aside0.mk hie
   clear hnth hi hie e1
   have hi0 : 0 ≤ (i : Int) := by omega
   gi_wp2
   refine hR.mono ?_
   rintro e W3 (⟨rfl, hJ3, hk3⟩ | ⟨rfl, hJx3⟩)
   ·gi_wp2
    go_roundw
    case rel => exact ⟨k + 1, by omega, by have := HIE.out; congr 1; omega, by rw [slices_Backward_uint64_uint64_162_upto_succ, HN.out]; exact hJ3, slices_Backward_uint64_uint64_162_Kp_t hnx hk3⟩
    case measure => have := HIE.out; simp [intOf]
   ·gi_wp2
    refine bodyPost_ret (results_none rfl _ _ _) rfl ?_
    exact ⟨⟨_, rfl⟩, .inr ⟨_, ⟨k + 1, by omega, by rw [slices_Backward_uint64_uint64_162_upto_succ, HN.out]⟩, hJx3⟩⟩
  ·obtain rfl : k = len := by omega
   have hneg : (k : Int) - 1 - k = -1 := by omega
   rw [hneg]
   clear hneg
   gi_wp2
   go_end0
   exact ⟨⟨_, rfl⟩, .inl ⟨_, rfl, hJs⟩⟩
theorem slices_Backward_uint64_uint64_162_mk (F : Fence) (n : Nat) (h5 : F.fn 162) (hro : F.round = none) (a : Option Addr) (len cap : Nat) (w : World) :
  CallsIn F n Try.prog 162 #[.slice a len cap] w fun e w' => e = .returned (.func (.func 172) #[] #[.pointer (some ⟨w.heap.size, 0, none⟩)]) ∧ w' = w.alloc (.cells #[.slice a len cap] 25) := by
 refine callsIn_of_wp Try.func162 rfl h5 ?_ hro
 simp only [Try.ntmps162, List.size_toArray, List.length_cons, List.length_nil, Nat.reduceAdd, Nat.reduceSub, Array.replicate_succ, Array.replicate_zero, List.push_toArray, List.append_toArray, List.nil_append, List.cons_append]
 gi_wp2
 go_ret
 exact ⟨rfl, rfl⟩
theorem slices_Backward_uint64_uint64_162_stops (F : Fence) (n : Nat) (h7 : F.fn 172) (hro : F.round = none) (hn : 1 ≤ n) (Bs n₀ cap : Nat) (A : Option Addr) (len : Nat) (V : Nat → Value) (hV : ∀ j, ∃ B m c, V j = .slice B m c) (w : World) (hBs : Bs < w.heap.size) (hn₀ : n₀ ≤ w.heap.size) (hlen : len ≤ 9223372036854775807)
  (hc : w.cell? ⟨Bs, 0, none⟩ = some (.slice A len cap)) (hC : ∀ j, j < len → ∃ ad, A = some ad ∧ w.cell? (ad.add j) = some (V j)) (hA : ∀ ad, A = some ad → 0 < len → ad.block < n₀) :
  SeqStopsK F n Try.prog 172 #[.pointer (some ⟨Bs, 0, none⟩)] (fun x : Nat => #[Value.int .i64 (x : Int), V x]) (qrb n₀ Bs) (fun ys => ys = qua (fun k => len - 1 - k) len)
   (fun pre => ∃ k, k ≤ len ∧ pre = qua (fun k => len - 1 - k) k) len w := fun l J Jx W hW _ _ hY h0 => by
 have hc' := (hW.cell (p := ⟨Bs, 0, none⟩) hBs).trans hc
 exact slices_Backward_uint64_uint64_162_in F n h7 hro hn l Bs n₀ cap A len V hV hA J Jx hY W hc' hlen (fun j hj => let ⟨ad, e, h⟩ := hC j hj; ⟨ad, e, (hW.cell (World.block_lt_of_cell? _ _ h)).trans h⟩) h0
theorem slices_Backward_uint64_uint64_162_rev (len : Nat) : qua (fun k => len - 1 - k) len = (List.range len).reverse := by
 apply List.ext_getElem
 ·simp [qua]
 ·intro i h1 h2
  simp [qua, List.getElem_reverse]
end
section
open Go.Shelf
attribute [local go_sem] Oper.semAt_some
def allI (p : Int) (l : List (List Int)) : List Int := l.foldr (fun f out => plusI p f (0 :: out)) []
def twice_All.f (a0 : Int) (l1 : List (List Int)) : Option (List Int) := if l1.length ≤ 1000 ∧ l1.all (fun f => decide (f.length ≤ 1000)) = true then some (allI a0 l1) else none
def twice_All.run (p : Int) (l : List (List Int)) (pre : List Nat) : List Int := pre.foldl (fun out j => plusI p (l.getD j []) (0 :: out)) []
theorem twice_All.run_snoc (p : Int) (l : List (List Int)) (pre : List Nat) (j : Nat) : twice_All.run p l (pre ++ [j]) = plusI p (l.getD j []) (0 :: twice_All.run p l pre) := by simp [twice_All.run]
theorem twice_All.run_all (p : Int) (l : List (List Int)) : twice_All.run p l (List.range l.length).reverse = allI p l := by
 unfold twice_All.run allI
 rw [List.foldl_reverse]
 have : ∀ (m : List (List Int)) (s : Nat), (∀ i, i < m.length → l.getD (s + i) [] = m.getD i []) → (List.range' s m.length).foldr (fun j out => plusI p (l.getD j []) (0 :: out)) [] = m.foldr (fun f out => plusI p f (0 :: out)) [] := by
  intro m
  induction m with
  | nil => intro s _; rfl
  | cons f m ih =>
   intro s h
   have h0 := h 0 (by simp)
   simp only [List.length_cons, List.range'_succ, List.foldr_cons]
   rw [ih (s + 1) (fun i hi => by have := h (i + 1) (by simp; omega); rw [show s + 1 + i = s + (i + 1) by omega, this]; simp)]
   rw [show l.getD s [] = f by simpa using h0]
 rw [List.range_eq_range']
 exact this l 0 (fun i _ => by rw [Nat.zero_add])
theorem twice_All.run_length (p : Int) (l : List (List Int)) (h : l.all (fun f => decide (f.length ≤ 1000)) = true) (pre : List Nat) : (twice_All.run p l pre).length ≤ 1000 + pre.length := by
 have hj : ∀ j, (l.getD j []).length ≤ 1000 := by
  intro j
  by_cases hj : j < l.length
  ·have := List.all_eq_true.1 h l[j] (List.getElem_mem hj)
   simpa [List.getD_eq_getElem?_getD, hj] using this
  ·simp [List.getD_eq_getElem?_getD, List.getElem?_eq_none (show l.length ≤ j by omega)]
 have : ∀ (pre : List Nat) (acc : List Int), (pre.foldl (fun out j => plusI p (l.getD j []) (0 :: out)) acc).length ≤ max 1000 acc.length + pre.length := by
  intro pre
  induction pre with
  | nil => intro acc; simp; omega
  | cons j pre ih =>
   intro acc
   have h1 := zipI_length (fun a b => (field_Plus.f p a b).getD 0) (l.getD j []) (0 :: acc)
   have h2 := ih (plusI p (l.getD j []) (0 :: acc))
   have h3 := hj j
   simp only [List.length_cons] at h1
   simp only [List.foldl_cons, List.length_cons]
   unfold plusI at h2 ⊢
   omega
 have := this pre []
 simpa [twice_All.run] using this
theorem twice_All.boxed_row {A : World} {B : Nat} {t : TypeId} {v : Value} {row : Option Nat} (h : Boxed A B t v) (hr : ∀ r, row = some r → ∃ o : Obj, A.heap[r]? = some o ∧ o.isCells = false) : some B ≠ row := by
 intro e
 obtain ⟨o, ho, hc⟩ := hr B e.symm
 rw [show A.heap[B]? = _ from h] at ho
 cases ho
 simp [Obj.isCells] at hc
theorem twice_All.row_kept {A B : World} {base : Nat} {v : Value} {xs : List Int} {row : Option Nat} (h : Kd.R (Kd.int .u64) 22 A base (fun _ => True) v xs) (hg : A.grownBy B row) (hr : ∀ r, row = some r → ∃ o : Obj, A.heap[r]? = some o ∧ o.isCells = false) : Kd.R (Kd.int .u64) 22 B base (fun _ => True) v xs := by
 refine Kd.R_mono (Kd.R_step (Kd.R_bound h) (fun k hk hlt => hg.block k hlt ?_)) (fun _ _ => trivial)
 intro e
 obtain ⟨o, ho, hc⟩ := hr k e.symm
 obtain ⟨_, _, _, q, _, cells, hcl⟩ := hk
 rw [hcl] at ho
 cases ho
 simp [Obj.isCells] at hc
theorem twice_All.keeps {B : Nat} {W W1 : World} (h : Below W.heap.size W W1) (hB : Below B W W1) (p : Addr) (v : Value) : KeepsOthers W (W1.setCell p v) := by
 refine KeepsOthers.trans (show KeepsOthers W W1 from ⟨h.size, fun i o ho _ => (h.block i (Array.getElem?_eq_some_iff.1 ho).1).trans ho⟩) (KeepsOthers.setCell _ _ _)
theorem twice_All.calls (a0 : Int) (A1 : Option Addr) (c1 : Nat) (l1 : List (List Int)) (r : List Int) (w : World) (hr1 : Kd.C (Kd.slice 22 (Kd.int .u64)) w A1 l1.length l1) (hc1 : l1.length ≤ c1) (h : twice_All.f a0 l1 = some r) :
  Calls Try.prog 132 #[.int .u64 a0, .slice A1 l1.length c1] w fun e w' => ∃ v0_ : Value, e = .returned (v0_) ∧ Kd.R (Kd.int .u64) 22 w' w.heap.size (fun _ => True) v0_ r ∧ Below w.heap.size w w' := by
 unfold twice_All.f at h
 by_cases hok : l1.length ≤ 1000 ∧ l1.all (fun f => decide (f.length ≤ 1000)) = true
 case neg => rw [if_neg hok] at h; cases h
 rw [if_pos hok] at h
 obtain rfl := Option.some.inj h
 have HOK := Aside0.mk hok
 have HR := Aside0.mk hr1
 obtain ⟨V, hV, hVN, hVC⟩ : ∃ V : Nat → Value, (∀ j, ∃ B m c, V j = .slice B m c) ∧ (∀ j, ¬ j < l1.length → V j = .slice none 0 0) ∧ ∀ j, j < l1.length → ∃ ad B c, A1 = some ad ∧ w.cell? (ad.add j) = some (V j) ∧ V j = .slice B (l1.getD j []).length c ∧ (l1.getD j []).length ≤ c ∧ (Kd.int .u64).C w B (l1.getD j []).length (l1.getD j []) := by
  have hex : ∀ j, ∃ v : Value, (∃ B m c, v = .slice B m c) ∧ (¬ j < l1.length → v = .slice none 0 0) ∧ (j < l1.length → ∃ ad B c, A1 = some ad ∧ w.cell? (ad.add j) = some v ∧ v = .slice B (l1.getD j []).length c ∧ (l1.getD j []).length ≤ c ∧ (Kd.int .u64).C w B (l1.getD j []).length (l1.getD j [])) := by
   intro j
   by_cases hj : j < l1.length
   ·obtain ⟨ad, B, c, e, h1, h2, h3⟩ := qta.at_ hr1 j hj
    exact ⟨_, ⟨_, _, _, rfl⟩, fun h => absurd hj h, fun _ => ⟨ad, B, c, e, h1, rfl, h2, h3⟩⟩
   ·exact ⟨.slice none 0 0, ⟨_, _, _, rfl⟩, fun _ => rfl, fun h => absurd h hj⟩
  obtain ⟨V, hV⟩ := Classical.skolem.1 hex
  exact ⟨V, fun j => (hV j).1, fun j => (hV j).2.1, fun j hj => (hV j).2.2 hj⟩
 have HVC := Aside0.mk hVC
 have HVN := Aside0.mk hVN
 have hA : ∀ ad, A1 = some ad → 0 < l1.length → ad.block < w.heap.size := by
  rintro ad rfl hl
  obtain ⟨ad', _, _, e, h, _⟩ := hVC 0 hl
  cases e
  have := World.block_lt_of_cell? w _ h
  rw [show (ad.add 0).block = ad.block by unfold Addr.add; split <;> rfl] at this
  exact this
 have HA := Aside0.mk hA
 have hlen : l1.length ≤ 9223372036854775807 := hr1.2.1
 clear hr1 hVC hVN hA h hok
 obtain ⟨len, hL⟩ : ∃ len, len = l1.length := ⟨_, rfl⟩
 rw [← hL] at hlen ⊢
 have HL := Aside0.mk hL
 clear hL hc1
 refine (callsIn_wide (n := 5)).1 ?_
 have h1 : 1 ≤ 5 := by omega
 refine callsIn_of_wp_marks Try.func132 rfl trivial ?_ rfl
 simp only [Try.ntmps132, List.size_toArray, List.length_cons, List.length_nil, Nat.reduceAdd, Nat.reduceSub, Array.replicate_succ, Array.replicate_zero, List.push_toArray, List.append_toArray, List.nil_append, List.cons_append]
 gi_wp2_with (refine ⟨trivial, ?_⟩; gi_at_call 162; refine (slices_Backward_uint64_uint64_162_mk Fence.wide (5 - 1) trivial rfl _ _ _ _).mono ?_; rintro e w' ⟨rfl, rfl⟩)
 have bP := Boxed.new w 22 (.int .u64 a0)
 have bV := Boxed.new (w.alloc (.cells #[.int .u64 a0] 22)) 31 (.slice none 0 0)
 have bS := Boxed.new ((w.alloc (.cells #[.int .u64 a0] 22)).alloc (.cells #[.slice none 0 0] 31)) 25 (.slice A1 len c1)
 simp only [World.size_alloc] at bV bS
 have hB0 : Below w.heap.size w (((w.alloc (.cells #[.int .u64 a0] 22)).alloc (.cells #[.slice none 0 0] 31)).alloc (.cells #[.slice A1 len c1] 25)) := (((Below.refl _ w).alloc (Nat.le_refl _) _).alloc (by simp) _).alloc (by simp; omega) _
 refine wpIn_rangeFunc_ownG rfl h1 (gf := 172) (lb := #[.pointer (some ⟨w.heap.size + 1 + 1, 0, none⟩)]) rfl trivial (enters_of Try.func172 (by kernel_rfl) rfl)
  (slices_Backward_uint64_uint64_162_stops Fence.wide (5 - 1) trivial rfl (by omega) (w.heap.size + 1 + 1) w.heap.size c1 A1 len V hV _ (by simp) (by simp; omega) hlen bS.cell (fun j hj => by obtain ⟨ad, B, c, e, hc, _⟩ := HVC.out j (by rw [← HL.out]; exact hj); exact ⟨ad, e, (hB0.cell (World.block_lt_of_cell? _ _ hc)).trans hc⟩) (fun ad e hl => HA.out ad e (by rw [← HL.out]; exact hl))) slices_Backward_uint64_uint64_162_Kp_t (slices_Backward_uint64_uint64_162_Kp_b (by simp; omega) (by simp)) (Below.refl _ _) (fun _ => rfl)
  (fun pre W => (Boxed W w.heap.size 22 (.int .u64 a0) ∧ ∃ v, Boxed W (w.heap.size + 1) 31 v ∧ Kd.R (Kd.int .u64) 22 W w.heap.size (fun _ => True) v (twice_All.run a0 l1 pre) ∧ w.heap.size + 3 ≤ W.heap.size) ∧ Below w.heap.size w W)
  (fun _ _ _ => False)
  (OwnFrom.and (Own.from (fun s A B row hs hg hr => ?own) _) (ownFrom_below (Nat.le_refl _) (by simp; omega)))
  (fun _ _ _ _ _ hs _ _ => hs)
  ⟨⟨(bP.alloc _).alloc _, _, bV.alloc _, Kd.R_nil _ _ _ _ _, by simp⟩, hB0⟩
  (fun x => { tmps := #[.int .u64 a0, .slice A1 len c1, .pointer (some ⟨w.heap.size, 0, none⟩), undef, .slice none 0 0, .pointer (some ⟨w.heap.size + 1, 0, none⟩), undef, V x, .slice A1 len c1, .func (.func 172) #[] #[.pointer (some ⟨w.heap.size + 1 + 1, 0, none⟩)], .int .i64 (x : Int), V x, undef, undef, undef, undef, undef, undef, undef], defers := [] }) ?assign ?body ?done ?stop
 case own =>
  obtain ⟨h1, v, h2, h3, h4⟩ := hs
  exact ⟨h1.kept hg (twice_All.boxed_row h1 hr), v, h2.kept hg (twice_All.boxed_row h2 hr), twice_All.row_kept h3 hg hr, Nat.le_trans h4 hg.size⟩
 case assign =>
  intro l x W K hK
  gi_wp2
  exact hK
 case body =>
  rintro l pre x W ⟨⟨h1, vo, h2, h3, h4⟩, hB⟩ hlen'
  have HSZ := Aside0.mk h4
  clear h4
  have hxs := twice_All.run_length a0 l1 HOK.out.2 pre
  have hmx : Try.prog.follows .mixedOrders = true := by kernel_rfl
  obtain ⟨fx, hfx⟩ : ∃ fx, fx = l1.getD x [] := ⟨_, rfl⟩
  obtain ⟨xs, hxsd⟩ : ∃ xs, xs = twice_All.run a0 l1 pre := ⟨_, rfl⟩
  rw [← hxsd] at h3 hxs
  have hf1 : fx.length ≤ 1000 := by
   rw [hfx]
   by_cases hj : x < l1.length
   ·have := List.all_eq_true.1 HOK.out.2 l1[x] (List.getElem_mem hj)
    simpa [List.getD_eq_getElem?_getD, hj] using this
   ·simp [List.getD_eq_getElem?_getD, List.getElem?_eq_none (show l1.length ≤ x by omega)]
  have hlen2 : xs.length ≤ 2000 := by have := HOK.out.1; have := HL.out; omega
  obtain ⟨Bx, cx, hVx, hcx, hCx⟩ : ∃ B c, V x = .slice B fx.length c ∧ fx.length ≤ c ∧ Kd.C (Kd.int .u64) W B fx.length fx := by
   by_cases hj : x < l1.length
   ·obtain ⟨ad, B, c, e, hc, hv, hle, hC⟩ := HVC.out x hj
    rw [← hfx] at hv hle hC
    exact ⟨B, c, hv, hle, Kd.C_below hC hB⟩
   ·have hz : fx = [] := by rw [hfx]; simp [List.getD_eq_getElem?_getD, List.getElem?_eq_none (show l1.length ≤ x by omega)]
    rw [hz]
    exact ⟨none, 0, HVN.out x hj, Nat.le_refl _, by show Kd.C _ _ _ ([] : List Int).length _; exact Kd.C_nil _ _⟩
  obtain ⟨Ao, co, rfl⟩ := Kd.R_slice h3
  have d1 := h1.cell
  have d2 := h2.cell
  have f2 := h2.frozen
  have H1 := Aside0.mk h1
  have H2 := Aside0.mk h2
  have H3 := Aside0.mk h3
  have HBB := Aside0.mk hB
  have HF1 := Aside0.mk hf1
  have HX2 := Aside0.mk hlen2
  have HCX := Aside0.mk hCx
  have HLX := Aside0.mk hcx
  have HFX := Aside0.mk hfx
  have HXS := Aside0.mk hxsd
  have hlt1 := h1.lt
  have hlt2 := h2.lt
  have HLT2 := Aside0.mk hlt2
  clear h1 h2 h3 hB hf1 hlen2 hCx hcx hfx hxsd hxs hlen' hlt1 hlt2
  rw [hVx]
  clear hVx
  gi_wp2
  refine Go.Proofs.Ytjjnfobeeflnhaa.Rnd.start_round (m := 7) (S := fun w' => w'.cell? ⟨w.heap.size, 0, none⟩ = some (.int .u64 a0) ∧ w'.cell? ⟨w.heap.size + 1, 0, none⟩ = some (.slice Ao xs.length co)) (ds := [6]) #[false, false, false, false, false, false, false] ?hQ hmx ?hd rfl rfl ⟨d1, d2⟩ (fun hHeld => ?_)
  case hQ => rintro ⟨_, _, h⟩; exact h
  case hd => intro o ho c; simp only [List.mem_cons, List.not_mem_nil, or_false] at ho; rcases ho with rfl | rfl | rfl | rfl | rfl | rfl | rfl <;> simp
  refine take_ (i := 0) (N := (some 12)) (v := ?_) (a' := ?_) #[true, false, false, false, false, false, false] rfl rfl (by kernel_rfl) (fun _ _ _ h => h) (Or.inl ⟨by rfl, ?_⟩) hHeld ?_ ?_
  rotate_left; (rintro w' ⟨s0, s1⟩; go_simp; with_reducible rfl); rotate_left; (simp only [Act.put, qS1, qS2, qS3, i64_w, i32_w]; rfl)
  refine pure_ (i := 1) (N := (some 13)) (v := ?_) (a' := ?_) #[true, true, false, false, false, false, false] rfl rfl (by kernel_rfl) (fun _ _ _ h => h) (Or.inl ⟨by rfl, ?_⟩) ?_ ?_
  rotate_left; (intro w'; go_simp; with_reducible rfl); rotate_left; (simp only [Act.put, qS1, qS2, qS3, i64_w, i32_w]; rfl)
  refine take_ (i := 3) (N := (some 15)) (v := ?_) (a' := ?_) #[true, true, false, true, false, false, false] rfl rfl (by kernel_rfl) (fun _ _ _ h => h) (Or.inl ⟨by rfl, ?_⟩) hHeld ?_ ?_
  rotate_left; (rintro w' ⟨s0, s1⟩; go_simp; with_reducible rfl); rotate_left; (simp only [Act.put, qS1, qS2, qS3, i64_w, i32_w]; rfl)
  refine one_ (i := 2) (N := (some 14)) #[true, true, true, true, false, false, false] rfl rfl (by kernel_rfl) (by decide) (fun K hK => ?_)
  refine Kd.R_lit_step (Kd.int .u64) W.heap.size 22 (by rfl) (N := 14) rfl (xs := [0]) (inner := [.int .u64 0]) (ok := fun _ => True) (okp := fun _ => True) ?hrun ?hrep (fun _ h => h) trivial (Below.refl _ _) (Nat.le_refl _) (by simp) ?_
  case hrun => go_simp
  case hrep => exact Kd.reps_scalar (enc := Value.int .u64) [0]
  intro v1 w1 ho1 hb1 hg1 hat1
  replace hb1 : Below W.heap.size W w1 := qla (below_drew (Below.refl _ _)) hb1
  have e1 := (hb1.cell (p := ⟨w.heap.size, 0, none⟩) H1.out.lt).trans d1
  have e2 := (hb1.cell (p := ⟨w.heap.size + 1, 0, none⟩) H2.out.lt).trans d2
  refine hK.out _ _ ⟨e1, e2⟩ (fun hHeld => ?_)
  clear hK K
  refine norm_ (a' := ?_) ?_ ?_
  rotate_left
  ·show Act.put _ (some 14) _ = _
   simp only [Act.put, qS1, qS2, qS3, i64_w, i32_w]
   rfl
  refine one_ (i := 4) (N := (some 16)) #[true, true, true, true, true, false, false] rfl rfl (by kernel_rfl) (by decide) (fun K hK => ?_)
  refine Kd.R_append_rows_step (Kd.int .u64) (w0 := W) W.heap.size (by rfl) (.tmp 14) (.tmp 15) 31 22 (.int .u64 0) 8 rfl Try.underlying31 info22 rfl (by decide) (by omega) v1 [0] xs Ao xs.length co (fun _ => True) (fun _ => False) rfl rfl ho1 (Kd.C_below (Kd.R_reads' H3.out).2.2 hb1) (fun _ _ h => h) (fun _ h => h.elim) (fun _ _ => trivial) hb1 hb1.size (by have := HX2.out; simp only [List.length_cons, List.length_nil]; omega) ?_
  intro v2 w2 ho2 hb2 hg2 hat2
  have e1 := (hb2.cell (p := ⟨w.heap.size, 0, none⟩) H1.out.lt).trans d1
  have e2 := (hb2.cell (p := ⟨w.heap.size + 1, 0, none⟩) H2.out.lt).trans d2
  obtain ⟨ys, hys⟩ : ∃ ys, ys = 0 :: xs := ⟨_, rfl⟩
  replace ho2 : Kd.R (Kd.int .u64) 22 w2 W.heap.size (fun _ => True) v2 ys := by rw [hys]; exact ho2
  have hpl : ys.length ≤ 2001 := by rw [hys]; simp; exact HX2.out
  have HYS := Aside0.mk hys
  clear hys
  obtain ⟨A2, c2, rfl⟩ := Kd.R_slice ho2
  refine hK.out _ _ ⟨e1, e2⟩ (fun hHeld => ?_)
  clear hK K
  refine norm_ (a' := ?_) ?_ ?_
  rotate_left
  ·show Act.put _ (some 16) _ = _
   simp only [Act.put, qS1, qS2, qS3, i64_w, i32_w]
   rfl
  refine one_ (i := 5) (N := (some 17)) #[true, true, true, true, true, true, false] rfl rfl (by kernel_rfl) (by decide) (fun K hK => ?_)
  refine goes_ Try.func143 (by kernel_rfl) rfl #[.int .u64 a0, .slice Bx fx.length cx, .slice A2 ys.length c2] (by rfl) rfl rfl (by (try simp only [qM1, qM2, qM3]); first | done | rfl) ?_
  with_reducible refine (poly_Plus.calls 10000 a0 _ _ fx _ _ ys (plusI a0 fx ys) _ (Kd.C_below HCX.out hb2) HLX.out (Kd.R_reads' ho2).2.2 (Kd.R_reads' ho2).2.1 (plusI_spec a0 fx ys (by have := HF1.out; omega) 10000 (by have := HF1.out; omega))).mono ?_
  rintro e w3 ⟨v3, rfl, ho3, hb3⟩
  refine ⟨_, rfl, ?_⟩
  obtain ⟨A3, c3, rfl⟩ := Kd.R_slice ho3
  have hb3' : Below W.heap.size W w3 := hb2.trans (hb3.mono hb2.size)
  have e1 := (hb3'.cell (p := ⟨w.heap.size, 0, none⟩) H1.out.lt).trans d1
  have e2 := (hb3'.cell (p := ⟨w.heap.size + 1, 0, none⟩) H2.out.lt).trans d2
  have g2 := (hb3'.frozen (p := ⟨w.heap.size + 1, 0, none⟩) H2.out.lt).trans f2
  refine hK.out _ _ ⟨e1, e2⟩ (fun hHeld => ?_)
  clear hK K
  refine norm_ (a' := ?_) ?_ ?_
  rotate_left
  ·show Act.put _ (some 17) _ = _
   simp only [Act.put, qS1, qS2, qS3, i64_w, i32_w]
   rfl
  refine last_ (i := 6) (N := none) #[true, true, true, true, true, true, true] rfl rfl (by kernel_rfl) (by decide) (fun K hK => ?_)
  refine skip_ (w1 := ?_) (by rfl) rfl ?_ ?_
  rotate_left
  ·go_simp
   rfl
  refine hK.out _ _ ?_
  clear hK K
  refine done_ (by kernel_rfl) ?_
  have hne1 : w.heap.size ≠ w.heap.size + 1 := by omega
  have hne3 : w.heap.size + 1 + 1 ≠ w.heap.size + 1 := by omega
  have hBw : Below w.heap.size W w3 := hb3'.mono HBB.out.size
  refine ⟨(twice_All.keeps hb3' hb3' _ _).from _, ⟨hBw.setCell (p := ⟨w.heap.size + 1, 0, none⟩) (by show w.heap.size ≤ w.heap.size + 1; omega) _, ?_⟩, ⟨?_, .slice A3 (plusI a0 fx ys).length c3, ?_, ?_, ?_⟩, ?_⟩
  ·exact (Below.heap_setCell w3 ⟨w.heap.size + 1, 0, none⟩ _ _ hne3).trans (hb3'.block _ (by have := HSZ.out; omega))
  ·exact (Below.heap_setCell w3 ⟨w.heap.size + 1, 0, none⟩ _ _ hne1).trans ((hb3'.block _ H1.out.lt).trans H1.out)
  ·exact Boxed.set _ ((hb3'.block _ H2.out.lt).trans H2.out)
  ·rw [twice_All.run_snoc, ← HFX.out, ← HXS.out, ← HYS.out]
   have hlt := H2.out.lt
   refine Kd.R_lower (Kd.R_mono (Kd.R_far (Kd.R_bound ho3) (p := ⟨w.heap.size + 1, 0, none⟩) (fun k hk => ?_) _) (fun _ _ => trivial)) ?_
   ·have := hk.2.1
    have := hb2.size
    show k ≠ w.heap.size + 1
    omega
   ·have := HBB.out.size
    have := hb2.size
    omega
  ·have h1 := HSZ.out
   have h2 := hb3'.size
   have h3 : (w3.setCell ⟨w.heap.size + 1, 0, none⟩ (.slice A3 (plusI a0 fx ys).length c3)).heap.size = w3.heap.size := by simp [World.setCell]
   omega
  ·exact (HBB.out.trans hBw).setCell (p := ⟨w.heap.size + 1, 0, none⟩) (by show w.heap.size ≤ w.heap.size + 1; omega) _
 case done =>
  rintro D ys W hD rfl ⟨⟨h1, v, h2, h3, _⟩, hB⟩ hK
  have hrun : twice_All.run a0 l1 (List.range len).reverse = allI a0 l1 := by rw [HL.out]; exact twice_All.run_all a0 l1
  rw [slices_Backward_uint64_uint64_162_rev, hrun] at h3
  obtain ⟨Av, cv, rfl⟩ := Kd.R_slice h3
  have d2 := h2.cell
  have H3 := Aside0.mk h3
  clear h3 hrun
  gi_wp2
  refine ⟨by simp, .inl ⟨_, _, rfl, run_takeDeferred hK, ?_⟩⟩
  refine ⟨_, results_tmp rfl _ _ _, _, rfl, ?_, hB.trans (belowK_b (w := w) (Nat.le_refl _) W D _ _ (by simp at hD; omega) hK rfl rfl)⟩
  exact twice_All.row_kept H3.out (grownBy_putObj' _ D (.deferred none)) (fun r e => by cases e; exact ⟨_, hK, rfl⟩)
 case stop =>
  rintro D c pre W _ _ h _
  exact h.elim
end
def twice_High.f (k : Nat) (a0 a1 a2 : Int) (l1 : List (List Int)) (x : Int) : Option (Int × Int) := twice_at.f k a0 a1 a2 l1 x (twice_All.f a0 l1)
theorem twice_High.mono (a0 a1 a2 : Int) (l1 : List (List Int)) (x : Int) (k : Nat) : LeO (twice_High.f k a0 a1 a2 l1 x) (twice_High.f (k + 1) a0 a1 a2 l1 x) := twice_at.mono _ _ _ _ _ _ _
theorem twice_High.lit (_k : Nat) (a0 a1 a2 : Int) (A1 : Option Addr) (c1 : Nat) (l1 : List (List Int)) (w : World) (hr1 : Kd.C (Kd.slice 22 (Kd.int .u64)) w A1 l1.length l1) (hc1 : l1.length ≤ c1) :
  ∀ m, twice_All.f a0 l1 = some m → ∀ W, Below ((w.alloc (.cells #[.int .u64 a0, .int .i64 a1, .int .i64 a2] 24)).alloc (.cells #[.slice A1 l1.length c1] 25)).heap.size ((w.alloc (.cells #[.int .u64 a0, .int .i64 a1, .int .i64 a2] 24)).alloc (.cells #[.slice A1 l1.length c1] 25)) W →
   Calls Try.prog 131 (#[] ++ #[.pointer (some ⟨w.heap.size, 0, none⟩), .pointer (some ⟨w.heap.size + 1, 0, none⟩)]) W fun e w' => ∃ A c, e = .returned (.slice A m.length c) ∧ m.length ≤ c ∧ Kd.C (Kd.int .u64) w' A m.length m ∧ Below W.heap.size W w' := by
 intro m hm W hb
 obtain ⟨hB, d1, dj⟩ := twice_Low.boxes (a := undef) _ hb
 have d0 : W.cell? ⟨w.heap.size, 0, none⟩ = some (.int .u64 a0) := (dj 0).trans rfl
 have HC2 := Aside0.mk (Kd.C_below hr1 hB)
 have HM := Aside0.mk hm
 have HL := Aside0.mk hc1
 have hu := Try.underlying24
 clear hr1 hc1 hm hb hB dj
 show Calls Try.prog 131 #[.pointer (some ⟨w.heap.size, 0, none⟩), .pointer (some ⟨w.heap.size + 1, 0, none⟩)] W _
 go_enter Try.func131, Try.ntmps131
 go_wp2_with (go_at_call 132; refine (twice_All.calls a0 A1 c1 l1 m _ HC2.out HL.out HM.out).mono ?_; rintro e w1 ⟨v, rfl, ho, hb⟩; have HO := Aside0.mk ho; have HB := Aside0.mk hb; clear ho hb)
 go_ret
 obtain ⟨A, c, rfl⟩ := Kd.R_slice HO.out
 exact ⟨_, _, rfl, (Kd.R_reads' HO.out).2.1, (Kd.R_reads' HO.out).2.2, HB.out⟩
theorem twice_High.calls (k : Nat) (a0 a1 a2 : Int) (A1 : Option Addr) (c1 : Nat) (l1 : List (List Int)) (x : Int) (r1 r2 : Int) (w : World) (hr1 : Kd.C (Kd.slice 22 (Kd.int .u64)) w A1 l1.length l1) (hc1 : l1.length ≤ c1) (h : twice_High.f k a0 a1 a2 l1 x = some (r1, r2)) :
  Calls Try.prog 47 #[.agg #[.int .u64 a0, .int .i64 a1, .int .i64 a2], .slice A1 l1.length c1, .int .u64 x] w fun e w' => e = .returned (.tuple #[.int .u64 r1, .int .i64 r2]) ∧ Below w.heap.size w w' := by
 have HR := Aside0.mk hr1
 have HC := Aside0.mk hc1
 clear hr1 hc1
 have HH := Aside0.mk h
 clear h
 have hu := Try.underlying24
 go_enter Try.func47, Try.ntmps47
 go_wp2_with (go_at_call 129; refine (twice_at.any_calls k a0 a1 a2 A1 c1 l1 x _ 131 #[.pointer (some ⟨w.heap.size, 0, none⟩), .pointer (some ⟨w.heap.size + 1, 0, none⟩)] (fun args w => enters_ Try.func131 (by kernel_rfl) rfl args w) r1 r2 _ (twice_High.lit k a0 a1 a2 A1 c1 l1 w HR.out HC.out) (Kd.C_alloc (Kd.C_alloc HR.out _) _) HC.out HH.out).mono ?_; rintro e w1 ⟨rfl, hb⟩; have HB := Aside0.mk (qla (qca (qca (Below.refl _ _) _) _) hb : Below w.heap.size w w1); clear hb)
 go_ret2
 exact ⟨rfl, HB.out⟩
def twice_Whole.f (k : Nat) (a0_0 : Int) (a0_1 : Int) (a0_2 : Int) (l1 : List (List Int)) : Option (List Int × Int) := (qgb.f k a0_0 a0_1 a0_2 l1).bind fun t175 => (if t175 = 0 then ((twice_All.f a0_0 l1).bind fun t176 => (some (t176, 0))) else (some (([] : List Int), t175)))
theorem twice_Whole.mono : ∀ a0 a1 a2 a3 k, LeO (twice_Whole.f k a0 a1 a2 a3) (twice_Whole.f (k + 1) a0 a1 a2 a3) := by
 intro a0 a1 a2 a3 k
 unfold twice_Whole.f
 repeat' first
   | (with_reducible exact qgb.mono _ _ _ _ _)
   | (with_reducible exact LeO.refl _)
   | (with_reducible exact LeO.none _)
   | (with_reducible refine LeO.ite ?_ ?_)
   | (with_reducible refine LeO.bind ?_ (fun _ => ?_))
   | exact qgb.mono _ _ _ _ _
   | exact LeO.none _
   | refine LeO.ite ?_ ?_
   | refine LeO.bind ?_ (fun _ => ?_)
theorem twice_Whole.calls (k : Nat) (a0_0 : Int) (a0_1 : Int) (a0_2 : Int) (A1 : Option Addr) (c1 : Nat) (l1 : List (List Int)) (r1 : List Int) (r2 : Int) (w : World) (hr1 : Kd.C (Kd.slice 22 (Kd.int .u64)) w A1 l1.length l1) (hc1 : l1.length ≤ c1) (h : twice_Whole.f k a0_0 a0_1 a0_2 l1 = some (r1, r2)) :
  Calls Try.prog 48 #[.agg #[.int .u64 a0_0, .int .i64 a0_1, .int .i64 a0_2], .slice A1 l1.length c1] w fun e w' => ∃ v0_ : Value, e = .returned (.tuple #[v0_, .int .i64 r2]) ∧ Kd.R (Kd.int .u64) 22 w' w.heap.size (fun _ => True) v0_ r1 ∧ Below w.heap.size w w' := by
 have hu24 := Try.underlying24
 have HR1 := Aside0.mk hr1
 have HC1 := Aside0.mk hc1
 clear hr1 hc1
 have HB := Aside0.mk (Below.refl w.heap.size w)
 have H : ((qgb.f k a0_0 a0_1 a0_2 l1).bind fun t175 => (if t175 = 0 then ((twice_All.f a0_0 l1).bind fun t176 => (some (t176, 0))) else (some (([] : List Int), t175)))) = some (r1, r2) := h
 clear h
 replace H := Option.bind_eq_some_iff.mp H
 obtain ⟨t175, A30, H⟩ := H
 try dsimp only at H
 have A3 := Aside0.mk A30
 clear A30
 by_cases c4 : t175 = 0
 ·rw [if_pos c4] at H
  have c4b0 : (t175 == 0) = true := beq_iff_eq.mpr c4
  have c4b1 : (t175 != 0) = false := bne_eq_false_iff_eq.mpr c4
  clear c4
  replace H := Option.bind_eq_some_iff.mp H
  obtain ⟨t176, A50, H⟩ := H
  try dsimp only at H
  have A5 := Aside0.mk A50
  clear A50
  simp only [Option.some.injEq, Prod.mk.injEq] at H
  obtain ⟨rfl, rfl⟩ := H
  go_enter Try.func48, Try.ntmps48
  go_wp2_with (first | ((with_reducible refine gate_dst (N := 2) rfl ?_); refine box_event ?hg (N := 2) ?hd (cs := #[.int .u64 a0_0, .int .i64 a0_1, .int .i64 a0_2]) (t := 24) ?hr ?_; (case hd => rfl); (case hg => rfl); (case hr => first | (go_simp; done) | (go_simp; rfl)); intro gb174 hg w6 hbox hb; have n0_ := Aside0.mk (qla (by with_reducible repeat first | exact HB.out | apply qca | apply qba | apply qda) hb); have n1_ := Aside0.mk (hbox); have n2_ := Aside0.mk ((by rw [hg]; exact (qka (by with_reducible repeat first | exact HB.out | apply qca | apply qba | apply qda)) : w.heap.size ≤ gb174)); have n3_ := Aside0.mk ((by rw [hg]; exact (qka (by with_reducible repeat first | exact HB.out | apply qca | apply qba | apply qda)) : w.heap.size ≤ gb174)); clear HB; have HB := n0_; have BK174 := n1_; have GW174 := n2_; have GE174 := n3_; clear n0_ n1_ n2_ n3_; clear hb hbox hg; have hcz7_0 : w6.cell? ⟨gb174, 0, none⟩ = some (.int .u64 a0_0) := (qfa BK174.out 0).trans rfl; have hcz7_1 : w6.cell? ⟨gb174, 1, none⟩ = some (.int .i64 a0_1) := (qfa BK174.out 1).trans rfl; have hcz7_2 : w6.cell? ⟨gb174, 2, none⟩ = some (.int .i64 a0_2) := (qfa BK174.out 2).trans rfl; have hfz7_0 := qga BK174.out 0; have hfz7_1 := qga BK174.out 1; have hfz7_2 := qga BK174.out 2) | ((with_reducible refine qoa (f := 36) rfl ?_); refine goesL_ (some 9) rfl rfl Try.func36 (by kernel_rfl) rfl #[.agg #[.int .u64 a0_0, .int .i64 a0_1, .int .i64 a0_2], .slice A1 l1.length c1] rfl (by (try simp only [qM1, qM2, qM3]); first | done | rfl) ?_; (with_reducible refine (qgb.calls k a0_0 a0_1 a0_2 _ _ l1 t175 _ ?side1 ?side2 A3.out).mono ?_); (case side1 => repeat (first | exact (Kd.C_below HR1.out HB.out) | (with_reducible first | refine Kd.C_alloc ?_ _ | refine Kd.C_drewN ?_ _ | refine Kd.C_drew ?_))); (case side2 => exact HC1.out); rintro e w8 ⟨rfl, hb⟩; refine ⟨_, rfl, ?_⟩; have n0_ := Aside0.mk (blk_below (g := gb174) (o := .cells #[.int .u64 a0_0, .int .i64 a0_1, .int .i64 a0_2] 24 (0, 0)) (by (with_reducible repeat first | refine qma ?_ _ | refine qpa ?_ | refine qna ?_ _); exact BK174.out) hb); have n1_ := Aside0.mk (qla (by with_reducible repeat first | exact HB.out | apply qca | apply qba | apply qda | refine qha ?_ GE174.out) hb); clear BK174; clear HB; have BK174 := n0_; have HB := n1_; clear n0_ n1_; (try clear hb); (try clear hb2); (try clear hk); (try clear hi); have hcz9_0 : w8.cell? ⟨gb174, 0, none⟩ = some (.int .u64 a0_0) := (qfa BK174.out 0).trans rfl; have hcz9_1 : w8.cell? ⟨gb174, 1, none⟩ = some (.int .i64 a0_1) := (qfa BK174.out 1).trans rfl; have hcz9_2 : w8.cell? ⟨gb174, 2, none⟩ = some (.int .i64 a0_2) := (qfa BK174.out 2).trans rfl; have hfz9_0 := qga BK174.out 0; have hfz9_1 := qga BK174.out 1; have hfz9_2 := qga BK174.out 2) | ((with_reducible refine qoa (f := 132) rfl ?_); refine goesL_ (some 16) rfl rfl Try.func132 (by kernel_rfl) rfl #[.int .u64 a0_0, .slice A1 l1.length c1] rfl (by (try simp only [qM1, qM2, qM3]); first | done | rfl) ?_; (with_reducible refine (twice_All.calls a0_0 _ _ l1 t176 _ ?side1 ?side2 A5.out).mono ?_); (case side1 => repeat (first | exact (Kd.C_below HR1.out HB.out) | (with_reducible first | refine Kd.C_alloc ?_ _ | refine Kd.C_drewN ?_ _ | refine Kd.C_drew ?_))); (case side2 => exact HC1.out); rintro e w10 ⟨v177, rfl, ho0, hb⟩; refine ⟨_, rfl, ?_⟩; have n0_ := Aside0.mk (Kd.R_lower ho0 (qka (by with_reducible repeat first | exact HB.out | apply qca | apply qba | apply qda | refine qha ?_ GE174.out))); have n1_ := Aside0.mk (blk_below (g := gb174) (o := .cells #[.int .u64 a0_0, .int .i64 a0_1, .int .i64 a0_2] 24 (0, 0)) (by (with_reducible repeat first | refine qma ?_ _ | refine qpa ?_ | refine qna ?_ _); exact BK174.out) hb); have n2_ := Aside0.mk (qla (by with_reducible repeat first | exact HB.out | apply qca | apply qba | apply qda | refine qha ?_ GE174.out) hb); clear BK174; clear HB; have HO178 := n0_; have BK174 := n1_; have HB := n2_; clear n0_ n1_ n2_; (try clear hb); (try clear hb2); (try clear hk); (try clear hi); (try clear ho0)))
  go_ret2
  exact ⟨_, by first | rfl | (simp [errW_none, errW_some] <;> rfl) | (simp [*, errW_none, errW_some] <;> rfl), by (with_reducible repeat first | apply Kd.qja | apply Kd.qia | apply Kd.R_drew); exact HO178.out, by repeat (first | (with_reducible first | exact HB.out | apply qca | apply qba | apply qda | refine qha ?_ GE174.out) | exact HB.out)⟩
 ·rw [if_neg c4] at H
  have c4b0 : (t175 == 0) = false := beq_eq_false_iff_ne.mpr c4
  have c4b1 : (t175 != 0) = true := bne_iff_ne.mpr c4
  simp only [Option.some.injEq, Prod.mk.injEq] at H
  obtain ⟨rfl, rfl⟩ := H
  go_enter Try.func48, Try.ntmps48
  go_wp2_with (first | ((with_reducible refine gate_dst (N := 2) rfl ?_); refine box_event ?hg (N := 2) ?hd (cs := #[.int .u64 a0_0, .int .i64 a0_1, .int .i64 a0_2]) (t := 24) ?hr ?_; (case hd => rfl); (case hg => rfl); (case hr => first | (go_simp; done) | (go_simp; rfl)); intro gb174 hg w11 hbox hb; have n0_ := Aside0.mk (qla (by with_reducible repeat first | exact HB.out | apply qca | apply qba | apply qda) hb); have n1_ := Aside0.mk (hbox); have n2_ := Aside0.mk ((by rw [hg]; exact (qka (by with_reducible repeat first | exact HB.out | apply qca | apply qba | apply qda)) : w.heap.size ≤ gb174)); have n3_ := Aside0.mk ((by rw [hg]; exact (qka (by with_reducible repeat first | exact HB.out | apply qca | apply qba | apply qda)) : w.heap.size ≤ gb174)); clear HB; have HB := n0_; have BK174 := n1_; have GW174 := n2_; have GE174 := n3_; clear n0_ n1_ n2_ n3_; clear hb hbox hg; have hcz12_0 : w11.cell? ⟨gb174, 0, none⟩ = some (.int .u64 a0_0) := (qfa BK174.out 0).trans rfl; have hcz12_1 : w11.cell? ⟨gb174, 1, none⟩ = some (.int .i64 a0_1) := (qfa BK174.out 1).trans rfl; have hcz12_2 : w11.cell? ⟨gb174, 2, none⟩ = some (.int .i64 a0_2) := (qfa BK174.out 2).trans rfl; have hfz12_0 := qga BK174.out 0; have hfz12_1 := qga BK174.out 1; have hfz12_2 := qga BK174.out 2) | ((with_reducible refine qoa (f := 36) rfl ?_); refine goesL_ (some 9) rfl rfl Try.func36 (by kernel_rfl) rfl #[.agg #[.int .u64 a0_0, .int .i64 a0_1, .int .i64 a0_2], .slice A1 l1.length c1] rfl (by (try simp only [qM1, qM2, qM3]); first | done | rfl) ?_; (with_reducible refine (qgb.calls k a0_0 a0_1 a0_2 _ _ l1 t175 _ ?side1 ?side2 A3.out).mono ?_); (case side1 => repeat (first | exact (Kd.C_below HR1.out HB.out) | (with_reducible first | refine Kd.C_alloc ?_ _ | refine Kd.C_drewN ?_ _ | refine Kd.C_drew ?_))); (case side2 => exact HC1.out); rintro e w13 ⟨rfl, hb⟩; refine ⟨_, rfl, ?_⟩; have n0_ := Aside0.mk (blk_below (g := gb174) (o := .cells #[.int .u64 a0_0, .int .i64 a0_1, .int .i64 a0_2] 24 (0, 0)) (by (with_reducible repeat first | refine qma ?_ _ | refine qpa ?_ | refine qna ?_ _); exact BK174.out) hb); have n1_ := Aside0.mk (qla (by with_reducible repeat first | exact HB.out | apply qca | apply qba | apply qda | refine qha ?_ GE174.out) hb); clear BK174; clear HB; have BK174 := n0_; have HB := n1_; clear n0_ n1_; (try clear hb); (try clear hb2); (try clear hk); (try clear hi)))
  go_ret2
  exact ⟨_, by first | rfl | (simp [errW_none, errW_some] <;> rfl) | (simp [*, errW_none, errW_some] <;> rfl), by first | exact Kd.R_nil _ _ _ _ _ | exact Kd.N_nil _ _ _ _ _ | exact Kd.V_nil _ _ _ _ _ | exact Kd.Q_nil _ _ _ _ _ | exact Kd.S_nil _ _ _ _ _, by repeat (first | (with_reducible first | exact HB.out | apply qca | apply qba | apply qda | refine qha ?_ GE174.out) | exact HB.out)⟩
def qza.l0 : Nat → List (List Int) → List (List Int) → Int → Int → Option (Bool)
 | 0, _, _, _, _ => none
 | k + 1, x0, x1, x12, x13 => if x13 < x12 then (if 0 ≤ x13 then (if x13 < (x0.length : Int) then (if x13 < (x1.length : Int) then ((qqa.f k (rd_L3 x0 x13) (rd_L3 x1 x13)).bind fun t181 => (if t181 = true then (qza.l0 k x0 x1 x12 (wrap64 (x13 + 1))) else (some false))) else (none)) else (none)) else (none)) else (some true)
def qza.f (k : Nat) (l0 : List (List Int)) (l1 : List (List Int)) : Option (Bool) := if (l0.length : Int) = (l1.length : Int) then (qza.l0 k l0 l1 (l0.length : Int) 0) else (some false)
theorem qza.mono_l : ∀ k, (∀ y0 y1 y2 y3, LeO (qza.l0 k y0 y1 y2 y3) (qza.l0 (k + 1) y0 y1 y2 y3))
 | 0 => fun _ _ _ _ r h => by simp [qza.l0] at h
 | k + 1 => by
  have ih0 := qza.mono_l k
  ·intro y0 y1 y2 y3
   unfold qza.l0
   repeat' first
   | (with_reducible exact ih0 _ _ _ _)
   | (with_reducible exact qqa.mono _ _ _)
   | (with_reducible exact LeO.refl _)
   | (with_reducible exact LeO.none _)
   | (with_reducible refine LeO.ite ?_ ?_)
   | (with_reducible refine LeO.bind ?_ (fun _ => ?_))
   | exact ih0 _ _ _ _
   | exact qqa.mono _ _ _
   | exact LeO.none _
   | refine LeO.ite ?_ ?_
   | refine LeO.bind ?_ (fun _ => ?_)
theorem qza.mono : ∀ a0 a1 k, LeO (qza.f k a0 a1) (qza.f (k + 1) a0 a1) := by
 intro a0 a1 k
 have ih0 := qza.mono_l k
 unfold qza.f
 repeat' first
   | (with_reducible exact ih0 _ _ _ _)
   | (with_reducible exact qqa.mono _ _ _)
   | (with_reducible exact LeO.refl _)
   | (with_reducible exact LeO.none _)
   | (with_reducible refine LeO.ite ?_ ?_)
   | (with_reducible refine LeO.bind ?_ (fun _ => ?_))
   | exact ih0 _ _ _ _
   | exact qqa.mono _ _ _
   | exact LeO.none _
   | refine LeO.ite ?_ ?_
   | refine LeO.bind ?_ (fun _ => ?_)
theorem qza.calls (k : Nat) (A0 : Option Addr) (c0 : Nat) (l0 : List (List Int)) (A1 : Option Addr) (c1 : Nat) (l1 : List (List Int)) (r : Bool) (w : World) (hr0 : Kd.C (Kd.slice 22 (Kd.int .u64)) w A0 l0.length l0) (hc0 : l0.length ≤ c0) (hr1 : Kd.C (Kd.slice 22 (Kd.int .u64)) w A1 l1.length l1) (hc1 : l1.length ≤ c1) (h : qza.f k l0 l1 = some r) :
  Calls Try.prog 124 #[.slice A0 l0.length c0, .slice A1 l1.length c1] w fun e w' => e = .returned (.bool r) ∧ Drawn0 w w' := by
 have HR0 := Aside0.mk hr0
 have HC0 := Aside0.mk hc0
 clear hr0 hc0
 have HR1 := Aside0.mk hr1
 have HC1 := Aside0.mk hc1
 clear hr1 hc1
 have H : (if (l0.length : Int) = (l1.length : Int) then (qza.l0 k l0 l1 (l0.length : Int) 0) else (some false)) = some r := h
 clear h
 by_cases c3 : (l0.length : Int) = (l1.length : Int)
 ·rw [if_pos c3] at H
  have c3b0 : ((l0.length : Int) == (l1.length : Int)) = true := beq_iff_eq.mpr c3
  have c3b1 : ((l0.length : Int) != (l1.length : Int)) = false := bne_eq_false_iff_eq.mpr c3
  have c3b2 : (l0.length == l1.length) = true := by first | simpa using c3 | (simp at c3 ⊢; omega)
  clear c3
  have H' := Aside0.mk H
  clear H
  go_enter Try.func124, Try.ntmps124
  go_wp2
  repeat (go_quiet (fail); try go_wp2)
  go_loopg [13] k (fun kq v13 w' => ∃ (x13_1 : Int), v13 = .int .i64 x13_1 ∧ Aside0 (qza.l0 kq l0 l1 (l0.length : Int) x13_1 = some r) ∧ Aside0 (kq ≤ k) ∧ Drawn0 w w')
  case atStart => exact ⟨(0), (by first | rfl | (simp; done) | (simp [*]; done)), H', ⟨Nat.le_refl _⟩, by repeat (first | exact Drawn0.refl _ | apply Drawn0.step)⟩
  case round =>
   clear H'; (try clear c1); (try clear p2); (try clear c3); (try clear c3b0); (try clear c3b1); (try clear c3b2)
   obtain ⟨x13_1, rfl, HA, HK1, ⟨m1, rfl⟩⟩ := hrel
   cases gk with
   | zero => exact absurd HA.out (by simp [qza.l0])
   | succ k1 =>
    have H := HA.out
    clear HA
    simp only [qza.l0] at H
    by_cases c4 : x13_1 < (l0.length : Int)
    ·rw [if_pos c4] at H
     have c4b0 : decide (x13_1 < (l0.length : Int)) = true := decide_eq_true c4
     clear c4
     by_cases c5 : 0 ≤ x13_1
     ·rw [if_pos c5] at H
      have c5b0 : decide (0 ≤ x13_1) = true := decide_eq_true c5
      clear c5
      by_cases c6 : x13_1 < (l0.length : Int)
      ·rw [if_pos c6] at H
       have c6b0 : decide (x13_1 < (l0.length : Int)) = true := decide_eq_true c6
       clear c6
       by_cases c7 : x13_1 < (l1.length : Int)
       ·rw [if_pos c7] at H
        have c7b0 : decide (x13_1 < (l1.length : Int)) = true := decide_eq_true c7
        clear c7
        replace H := Option.bind_eq_some_iff.mp H
        obtain ⟨t181, A80, H⟩ := H
        try dsimp only at H
        have A8 := Aside0.mk A80
        clear A80
        by_cases c9 : t181 = true
        ·subst c9
         have H1 : (qza.l0 k1 l0 l1 (l0.length : Int) (wrap64 (x13_1 + 1))) = some r := by rw [if_pos rfl] at H; exact H
         clear H; have H := H1; clear H1
         have H' := Aside0.mk H
         clear H
         have p179 : 0 ≤ (x13_1 : Int) := of_decide_eq_true (by first | (with_reducible assumption) | assumption)
         have q179 : x13_1 < (l0.length : Int) := of_decide_eq_true (by first | (with_reducible assumption) | assumption)
         obtain ⟨ad179, A179_0, c179_0, e179, hx179_0, hl179_0, hi179_0⟩ := at_L3 HR0.out x13_1 p179 q179
         cases e179
         have HR179_0 := Aside0.mk hi179_0
         have HC179_0 := Aside0.mk hl179_0
         clear hi179_0 hl179_0; replace p179 := eq_true p179; replace q179 := eq_true q179
         have p180 : 0 ≤ (x13_1 : Int) := of_decide_eq_true (by first | (with_reducible assumption) | assumption)
         have q180 : x13_1 < (l1.length : Int) := of_decide_eq_true (by first | (with_reducible assumption) | assumption)
         obtain ⟨ad180, A180_0, c180_0, e180, hx180_0, hl180_0, hi180_0⟩ := at_L3 HR1.out x13_1 p180 q180
         cases e180
         have HR180_0 := Aside0.mk hi180_0
         have HC180_0 := Aside0.mk hl180_0
         clear hi180_0 hl180_0; replace p180 := eq_true p180; replace q180 := eq_true q180
         go_wp2_with (first | (go_at_call 45; (with_reducible refine (qqa.calls k1 _ _ (rd_L3 l0 x13_1) _ _ (rd_L3 l1 x13_1) true _ ?side1 ?side2 ?side3 ?side4 A8.out).mono ?_); (case side1 => repeat (first | exact HR179_0.out | (with_reducible first | refine Kd.C_alloc ?_ _ | refine Kd.C_drewN ?_ _ | refine Kd.C_drew ?_))); (case side2 => exact HC179_0.out); (case side3 => repeat (first | exact HR180_0.out | (with_reducible first | refine Kd.C_alloc ?_ _ | refine Kd.C_drewN ?_ _ | refine Kd.C_drew ?_))); (case side4 => exact HC180_0.out); rintro e w' ⟨rfl, ⟨nd, rfl⟩⟩; (try first | exact ⟨rfl, _, World.drewN_drewN _ _ _⟩ | exact ⟨rfl, _, Eq.trans (World.drewN_drewN _ _ _) (congrArg (World.drewN _) (Nat.add_assoc _ _ _))⟩)))
         repeat (go_quiet (first | (go_at_call 45; (with_reducible refine (qqa.calls k1 _ _ (rd_L3 l0 x13_1) _ _ (rd_L3 l1 x13_1) true _ ?side1 ?side2 ?side3 ?side4 A8.out).mono ?_); (case side1 => repeat (first | exact HR179_0.out | (with_reducible first | refine Kd.C_alloc ?_ _ | refine Kd.C_drewN ?_ _ | refine Kd.C_drew ?_))); (case side2 => exact HC179_0.out); (case side3 => repeat (first | exact HR180_0.out | (with_reducible first | refine Kd.C_alloc ?_ _ | refine Kd.C_drewN ?_ _ | refine Kd.C_drew ?_))); (case side4 => exact HC180_0.out); rintro e w' ⟨rfl, ⟨nd, rfl⟩⟩; (try first | exact ⟨rfl, _, World.drewN_drewN _ _ _⟩ | exact ⟨rfl, _, Eq.trans (World.drewN_drewN _ _ _) (congrArg (World.drewN _) (Nat.add_assoc _ _ _))⟩))); try go_wp2_with (first | (go_at_call 45; (with_reducible refine (qqa.calls k1 _ _ (rd_L3 l0 x13_1) _ _ (rd_L3 l1 x13_1) true _ ?side1 ?side2 ?side3 ?side4 A8.out).mono ?_); (case side1 => repeat (first | exact HR179_0.out | (with_reducible first | refine Kd.C_alloc ?_ _ | refine Kd.C_drewN ?_ _ | refine Kd.C_drew ?_))); (case side2 => exact HC179_0.out); (case side3 => repeat (first | exact HR180_0.out | (with_reducible first | refine Kd.C_alloc ?_ _ | refine Kd.C_drewN ?_ _ | refine Kd.C_drew ?_))); (case side4 => exact HC180_0.out); rintro e w' ⟨rfl, ⟨nd, rfl⟩⟩; (try first | exact ⟨rfl, _, World.drewN_drewN _ _ _⟩ | exact ⟨rfl, _, Eq.trans (World.drewN_drewN _ _ _) (congrArg (World.drewN _) (Nat.add_assoc _ _ _))⟩))))
         go_roundg k1
         case measure => have := HK1.out; omega
         case rel => exact ⟨(wrap64 (x13_1 + 1)), (by first | rfl | (simp; done) | (simp [*]; done)), H', ⟨by have := HK1.out; omega⟩, by repeat (first | exact Drawn0.refl _ | apply Drawn0.step)⟩
        ·replace c9 := Bool.eq_false_iff.mpr c9
         subst c9
         have H1 : (some false) = some r := by rw [if_neg (show ¬ (false = true) by decide)] at H; exact H
         clear H; have H := H1; clear H1
         obtain rfl := Option.some.inj H
         have p179 : 0 ≤ (x13_1 : Int) := of_decide_eq_true (by first | (with_reducible assumption) | assumption)
         have q179 : x13_1 < (l0.length : Int) := of_decide_eq_true (by first | (with_reducible assumption) | assumption)
         obtain ⟨ad179, A179_0, c179_0, e179, hx179_0, hl179_0, hi179_0⟩ := at_L3 HR0.out x13_1 p179 q179
         cases e179
         have HR179_0 := Aside0.mk hi179_0
         have HC179_0 := Aside0.mk hl179_0
         clear hi179_0 hl179_0; replace p179 := eq_true p179; replace q179 := eq_true q179
         have p180 : 0 ≤ (x13_1 : Int) := of_decide_eq_true (by first | (with_reducible assumption) | assumption)
         have q180 : x13_1 < (l1.length : Int) := of_decide_eq_true (by first | (with_reducible assumption) | assumption)
         obtain ⟨ad180, A180_0, c180_0, e180, hx180_0, hl180_0, hi180_0⟩ := at_L3 HR1.out x13_1 p180 q180
         cases e180
         have HR180_0 := Aside0.mk hi180_0
         have HC180_0 := Aside0.mk hl180_0
         clear hi180_0 hl180_0; replace p180 := eq_true p180; replace q180 := eq_true q180
         go_wp2_with (first | (go_at_call 45; (with_reducible refine (qqa.calls k1 _ _ (rd_L3 l0 x13_1) _ _ (rd_L3 l1 x13_1) false _ ?side1 ?side2 ?side3 ?side4 A8.out).mono ?_); (case side1 => repeat (first | exact HR179_0.out | (with_reducible first | refine Kd.C_alloc ?_ _ | refine Kd.C_drewN ?_ _ | refine Kd.C_drew ?_))); (case side2 => exact HC179_0.out); (case side3 => repeat (first | exact HR180_0.out | (with_reducible first | refine Kd.C_alloc ?_ _ | refine Kd.C_drewN ?_ _ | refine Kd.C_drew ?_))); (case side4 => exact HC180_0.out); rintro e w' ⟨rfl, ⟨nd, rfl⟩⟩; (try first | exact ⟨rfl, _, World.drewN_drewN _ _ _⟩ | exact ⟨rfl, _, Eq.trans (World.drewN_drewN _ _ _) (congrArg (World.drewN _) (Nat.add_assoc _ _ _))⟩)))
         repeat (go_quiet (first | (go_at_call 45; (with_reducible refine (qqa.calls k1 _ _ (rd_L3 l0 x13_1) _ _ (rd_L3 l1 x13_1) false _ ?side1 ?side2 ?side3 ?side4 A8.out).mono ?_); (case side1 => repeat (first | exact HR179_0.out | (with_reducible first | refine Kd.C_alloc ?_ _ | refine Kd.C_drewN ?_ _ | refine Kd.C_drew ?_))); (case side2 => exact HC179_0.out); (case side3 => repeat (first | exact HR180_0.out | (with_reducible first | refine Kd.C_alloc ?_ _ | refine Kd.C_drewN ?_ _ | refine Kd.C_drew ?_))); (case side4 => exact HC180_0.out); rintro e w' ⟨rfl, ⟨nd, rfl⟩⟩; (try first | exact ⟨rfl, _, World.drewN_drewN _ _ _⟩ | exact ⟨rfl, _, Eq.trans (World.drewN_drewN _ _ _) (congrArg (World.drewN _) (Nat.add_assoc _ _ _))⟩))); try go_wp2_with (first | (go_at_call 45; (with_reducible refine (qqa.calls k1 _ _ (rd_L3 l0 x13_1) _ _ (rd_L3 l1 x13_1) false _ ?side1 ?side2 ?side3 ?side4 A8.out).mono ?_); (case side1 => repeat (first | exact HR179_0.out | (with_reducible first | refine Kd.C_alloc ?_ _ | refine Kd.C_drewN ?_ _ | refine Kd.C_drew ?_))); (case side2 => exact HC179_0.out); (case side3 => repeat (first | exact HR180_0.out | (with_reducible first | refine Kd.C_alloc ?_ _ | refine Kd.C_drewN ?_ _ | refine Kd.C_drew ?_))); (case side4 => exact HC180_0.out); rintro e w' ⟨rfl, ⟨nd, rfl⟩⟩; (try first | exact ⟨rfl, _, World.drewN_drewN _ _ _⟩ | exact ⟨rfl, _, Eq.trans (World.drewN_drewN _ _ _) (congrArg (World.drewN _) (Nat.add_assoc _ _ _))⟩))))
         go_ret
         exact ⟨by first | rfl | (simp; done) | (simp [*]; done), by repeat (first | exact Drawn0.refl _ | apply Drawn0.step)⟩
       ·rw [if_neg c7] at H
        exact absurd H (by simp)
      ·rw [if_neg c6] at H
       exact absurd H (by simp)
     ·rw [if_neg c5] at H
      exact absurd H (by simp)
    ·rw [if_neg c4] at H
     have c4b0 : decide (x13_1 < (l0.length : Int)) = false := decide_eq_false c4
     clear c4
     obtain rfl := Option.some.inj H
     go_wp2
     repeat (go_quiet (fail); try go_wp2)
     go_ret
     exact ⟨by first | rfl | (simp; done) | (simp [*]; done), by repeat (first | exact Drawn0.refl _ | apply Drawn0.step)⟩
 ·rw [if_neg c3] at H
  have c3b0 : ((l0.length : Int) == (l1.length : Int)) = false := beq_eq_false_iff_ne.mpr c3
  have c3b1 : ((l0.length : Int) != (l1.length : Int)) = true := bne_iff_ne.mpr c3
  have c3b2 : (l0.length == l1.length) = false := by first | simpa using c3 | (simp at c3 ⊢; omega)
  obtain rfl := Option.some.inj H
  go_enter Try.func124, Try.ntmps124
  go_wp2
  repeat (go_quiet (fail); try go_wp2)
  go_ret
  exact ⟨by first | rfl | (simp; done) | (simp [*]; done), by repeat (first | exact Drawn0.refl _ | apply Drawn0.step)⟩
def qwb.f (k : Nat)  : Option (Bool) := (twice_Make.f k 7 5 1 2 (([3, 1, 4] : List Int))).bind fun bt186 => ((twice_Whole.f k 7 5 1 bt186.1).bind fun bt193 => ((twice_Low.f k 7 5 1 bt186.1 1).bind fun bt197 => ((twice_High.f k 7 5 1 bt186.1 1).bind fun bt199 => (if bt186.2.2 = 0 then ((qza.f k bt186.1 (([(([2, 3] : List Int)), (([1, 4] : List Int))] : List (List Int)))).bind fun t210 => (if t210 = true then (if (bt186.2.1.length : Int) = 0 then (if bt193.2 = 0 then ((qqa.f k bt193.1 (([2, 4, 4] : List Int))).bind fun t214 => (if t214 = true then (if bt197.2 = 0 then (if bt197.1 = 5 then (if bt199.2 = 0 then (if bt199.1 = 3 then ((twice_Size.f 3).bind fun t215 => (some (t215 == 15))) else (some false)) else (some false)) else (some false)) else (some false)) else (some false))) else (some false)) else (some false)) else (some false))) else (some false)))))
theorem qwb.mono : ∀ k, LeO (qwb.f k ) (qwb.f (k + 1) ) := by
 intro  k
 unfold qwb.f
 repeat' first
   | (with_reducible exact qza.mono _ _ _)
   | (with_reducible exact qqa.mono _ _ _)
   | (with_reducible exact twice_High.mono _ _ _ _ _ _)
   | (with_reducible exact twice_Low.mono _ _ _ _ _ _)
   | (with_reducible exact twice_Make.mono _ _ _ _ _ _)
   | (with_reducible exact twice_Whole.mono _ _ _ _ _)
   | (with_reducible exact LeO.refl _)
   | (with_reducible exact LeO.none _)
   | (with_reducible refine LeO.ite ?_ ?_)
   | (with_reducible refine LeO.bind ?_ (fun _ => ?_))
   | exact qza.mono _ _ _
   | exact qqa.mono _ _ _
   | exact twice_High.mono _ _ _ _ _ _
   | exact twice_Low.mono _ _ _ _ _ _
   | exact twice_Make.mono _ _ _ _ _ _
   | exact twice_Whole.mono _ _ _ _ _
   | exact LeO.none _
   | refine LeO.ite ?_ ?_
   | refine LeO.bind ?_ (fun _ => ?_)
theorem qwb.calls (k : Nat)  (r : Bool) (w : World) (h : qwb.f k  = some r) (hrt : r = true := by rfl) :
  Calls Try.prog 40 #[] w fun e w' => e = .returned (.bool r) ∧ Below w.heap.size w w' := by
 have HRT := Aside0.mk hrt
 clear hrt
 have hu24 := Try.underlying24
 have HB := Aside0.mk (Below.refl w.heap.size w)
 have H : ((twice_Make.f k 7 5 1 2 (([3, 1, 4] : List Int))).bind fun bt186 => ((twice_Whole.f k 7 5 1 bt186.1).bind fun bt193 => ((twice_Low.f k 7 5 1 bt186.1 1).bind fun bt197 => ((twice_High.f k 7 5 1 bt186.1 1).bind fun bt199 => (if bt186.2.2 = 0 then ((qza.f k bt186.1 (([(([2, 3] : List Int)), (([1, 4] : List Int))] : List (List Int)))).bind fun t210 => (if t210 = true then (if (bt186.2.1.length : Int) = 0 then (if bt193.2 = 0 then ((qqa.f k bt193.1 (([2, 4, 4] : List Int))).bind fun t214 => (if t214 = true then (if bt197.2 = 0 then (if bt197.1 = 5 then (if bt199.2 = 0 then (if bt199.1 = 3 then ((twice_Size.f 3).bind fun t215 => (some (t215 == 15))) else (some false)) else (some false)) else (some false)) else (some false)) else (some false))) else (some false)) else (some false)) else (some false))) else (some false)))))) = some r := h
 clear h
 obtain ⟨y183, hy183⟩ : ∃ y_ : List Int, y_ = (([3, 1, 4] : List Int)) := ⟨_, rfl⟩
 replace H : ((twice_Make.f k 7 5 1 2 y183).bind fun bt186 => ((twice_Whole.f k 7 5 1 bt186.1).bind fun bt193 => ((twice_Low.f k 7 5 1 bt186.1 1).bind fun bt197 => ((twice_High.f k 7 5 1 bt186.1 1).bind fun bt199 => (if bt186.2.2 = 0 then ((qza.f k bt186.1 (([(([2, 3] : List Int)), (([1, 4] : List Int))] : List (List Int)))).bind fun t210 => (if t210 = true then (if (bt186.2.1.length : Int) = 0 then (if bt193.2 = 0 then ((qqa.f k bt193.1 (([2, 4, 4] : List Int))).bind fun t214 => (if t214 = true then (if bt197.2 = 0 then (if bt197.1 = 5 then (if bt199.2 = 0 then (if bt199.1 = 3 then ((twice_Size.f 3).bind fun t215 => (some (t215 == 15))) else (some false)) else (some false)) else (some false)) else (some false)) else (some false))) else (some false)) else (some false)) else (some false))) else (some false)))))) = some r := by first | (rw [hy183]; with_reducible exact H) | (have H2_ := (Option.bind_some _ _).symm.trans H; rw [hy183]; with_reducible exact H2_) | (have H2_ := (Option.bind_some _ _).symm.trans H; with_reducible exact H2_) | with_reducible exact H | (rw [hy183]; exact H) | exact H
 have Ny183 := Aside0.mk hy183
 clear hy183
 replace H := Option.bind_eq_some_iff.mp H
 obtain ⟨⟨t186, t189, t192⟩, A10, H⟩ := H
 try dsimp only at H
 have A1 := Aside0.mk A10
 clear A10
 replace H := Option.bind_eq_some_iff.mp H
 obtain ⟨⟨t193, t196⟩, A20, H⟩ := H
 try dsimp only at H
 have A2 := Aside0.mk A20
 clear A20
 replace H := Option.bind_eq_some_iff.mp H
 obtain ⟨⟨t197, t198⟩, A30, H⟩ := H
 try dsimp only at H
 have A3 := Aside0.mk A30
 clear A30
 replace H := Option.bind_eq_some_iff.mp H
 obtain ⟨⟨t199, t200⟩, A40, H⟩ := H
 try dsimp only at H
 have A4 := Aside0.mk A40
 clear A40
 by_cases c5 : t192 = 0
 ·rw [if_pos c5] at H
  have c5b0 : (t192 == 0) = true := beq_iff_eq.mpr c5
  have c5b1 : (t192 != 0) = false := bne_eq_false_iff_eq.mpr c5
  clear c5
  obtain ⟨y201, hy201⟩ : ∃ y_ : List Int, y_ = (([2, 3] : List Int)) := ⟨_, rfl⟩
  replace H : ((qza.f k t186 (([y201, (([1, 4] : List Int))] : List (List Int)))).bind fun t210 => (if t210 = true then (if (t189.length : Int) = 0 then (if t196 = 0 then ((qqa.f k t193 (([2, 4, 4] : List Int))).bind fun t214 => (if t214 = true then (if t198 = 0 then (if t197 = 5 then (if t200 = 0 then (if t199 = 3 then ((twice_Size.f 3).bind fun t215 => (some (t215 == 15))) else (some false)) else (some false)) else (some false)) else (some false)) else (some false))) else (some false)) else (some false)) else (some false))) = some r := by first | (rw [hy201]; with_reducible exact H) | (have H2_ := (Option.bind_some _ _).symm.trans H; rw [hy201]; with_reducible exact H2_) | (have H2_ := (Option.bind_some _ _).symm.trans H; with_reducible exact H2_) | with_reducible exact H | (rw [hy201]; exact H) | exact H
  have Ny201 := Aside0.mk hy201
  clear hy201
  obtain ⟨y204, hy204⟩ : ∃ y_ : List Int, y_ = (([1, 4] : List Int)) := ⟨_, rfl⟩
  replace H : ((qza.f k t186 (([y201, y204] : List (List Int)))).bind fun t210 => (if t210 = true then (if (t189.length : Int) = 0 then (if t196 = 0 then ((qqa.f k t193 (([2, 4, 4] : List Int))).bind fun t214 => (if t214 = true then (if t198 = 0 then (if t197 = 5 then (if t200 = 0 then (if t199 = 3 then ((twice_Size.f 3).bind fun t215 => (some (t215 == 15))) else (some false)) else (some false)) else (some false)) else (some false)) else (some false))) else (some false)) else (some false)) else (some false))) = some r := by first | (rw [hy204]; with_reducible exact H) | (have H2_ := (Option.bind_some _ _).symm.trans H; rw [hy204]; with_reducible exact H2_) | (have H2_ := (Option.bind_some _ _).symm.trans H; with_reducible exact H2_) | with_reducible exact H | (rw [hy204]; exact H) | exact H
  have Ny204 := Aside0.mk hy204
  clear hy204
  obtain ⟨y207, hy207⟩ : ∃ y_ : List (List Int), y_ = (([y201, y204] : List (List Int))) := ⟨_, rfl⟩
  replace H : ((qza.f k t186 y207).bind fun t210 => (if t210 = true then (if (t189.length : Int) = 0 then (if t196 = 0 then ((qqa.f k t193 (([2, 4, 4] : List Int))).bind fun t214 => (if t214 = true then (if t198 = 0 then (if t197 = 5 then (if t200 = 0 then (if t199 = 3 then ((twice_Size.f 3).bind fun t215 => (some (t215 == 15))) else (some false)) else (some false)) else (some false)) else (some false)) else (some false))) else (some false)) else (some false)) else (some false))) = some r := by first | (rw [hy207]; with_reducible exact H) | (have H2_ := (Option.bind_some _ _).symm.trans H; rw [hy207]; with_reducible exact H2_) | (have H2_ := (Option.bind_some _ _).symm.trans H; with_reducible exact H2_) | with_reducible exact H | (rw [hy207]; exact H) | exact H
  have Ny207 := Aside0.mk hy207
  clear hy207
  replace H := Option.bind_eq_some_iff.mp H
  obtain ⟨t210, A60, H⟩ := H
  try dsimp only at H
  have A6 := Aside0.mk A60
  clear A60
  by_cases c7 : t210 = true
  ·subst c7
   have H1 : (if (t189.length : Int) = 0 then (if t196 = 0 then ((qqa.f k t193 (([2, 4, 4] : List Int))).bind fun t214 => (if t214 = true then (if t198 = 0 then (if t197 = 5 then (if t200 = 0 then (if t199 = 3 then ((twice_Size.f 3).bind fun t215 => (some (t215 == 15))) else (some false)) else (some false)) else (some false)) else (some false)) else (some false))) else (some false)) else (some false)) = some r := by rw [if_pos rfl] at H; exact H
   clear H; have H := H1; clear H1
   by_cases c8 : (t189.length : Int) = 0
   ·rw [if_pos c8] at H
    have c8b0 : ((t189.length : Int) == 0) = true := beq_iff_eq.mpr c8
    have c8b1 : ((t189.length : Int) != 0) = false := bne_eq_false_iff_eq.mpr c8
    clear c8
    by_cases c9 : t196 = 0
    ·rw [if_pos c9] at H
     have c9b0 : (t196 == 0) = true := beq_iff_eq.mpr c9
     have c9b1 : (t196 != 0) = false := bne_eq_false_iff_eq.mpr c9
     clear c9
     obtain ⟨y211, hy211⟩ : ∃ y_ : List Int, y_ = (([2, 4, 4] : List Int)) := ⟨_, rfl⟩
     replace H : ((qqa.f k t193 y211).bind fun t214 => (if t214 = true then (if t198 = 0 then (if t197 = 5 then (if t200 = 0 then (if t199 = 3 then ((twice_Size.f 3).bind fun t215 => (some (t215 == 15))) else (some false)) else (some false)) else (some false)) else (some false)) else (some false))) = some r := by first | (rw [hy211]; with_reducible exact H) | (have H2_ := (Option.bind_some _ _).symm.trans H; rw [hy211]; with_reducible exact H2_) | (have H2_ := (Option.bind_some _ _).symm.trans H; with_reducible exact H2_) | with_reducible exact H | (rw [hy211]; exact H) | exact H
     have Ny211 := Aside0.mk hy211
     clear hy211
     replace H := Option.bind_eq_some_iff.mp H
     obtain ⟨t214, A100, H⟩ := H
     try dsimp only at H
     have A10 := Aside0.mk A100
     clear A100
     by_cases c11 : t214 = true
     ·subst c11
      have H1 : (if t198 = 0 then (if t197 = 5 then (if t200 = 0 then (if t199 = 3 then ((twice_Size.f 3).bind fun t215 => (some (t215 == 15))) else (some false)) else (some false)) else (some false)) else (some false)) = some r := by rw [if_pos rfl] at H; exact H
      clear H; have H := H1; clear H1
      by_cases c12 : t198 = 0
      ·rw [if_pos c12] at H
       have c12b0 : (t198 == 0) = true := beq_iff_eq.mpr c12
       have c12b1 : (t198 != 0) = false := bne_eq_false_iff_eq.mpr c12
       clear c12
       by_cases c13 : t197 = 5
       ·rw [if_pos c13] at H
        have c13b0 : (t197 == 5) = true := beq_iff_eq.mpr c13
        have c13b1 : (t197 != 5) = false := bne_eq_false_iff_eq.mpr c13
        clear c13
        by_cases c14 : t200 = 0
        ·rw [if_pos c14] at H
         have c14b0 : (t200 == 0) = true := beq_iff_eq.mpr c14
         have c14b1 : (t200 != 0) = false := bne_eq_false_iff_eq.mpr c14
         clear c14
         by_cases c15 : t199 = 3
         ·rw [if_pos c15] at H
          have c15b0 : (t199 == 3) = true := beq_iff_eq.mpr c15
          have c15b1 : (t199 != 3) = false := bne_eq_false_iff_eq.mpr c15
          clear c15
          replace H := Option.bind_eq_some_iff.mp H
          obtain ⟨t215, A160, H⟩ := H
          try dsimp only at H
          have A16 := Aside0.mk A160
          clear A160
          obtain rfl := Option.some.inj H
          go_enter Try.func40, Try.ntmps40
          go_wp2_with (first | ((with_reducible refine gate_dst (N := 1) rfl ?_); (try (refine gate_guard (by rfl) ?_; dsimp only)); refine box_event ?hg (N := 1) ?hd (cs := #[.int .u64 0, .int .i64 0, .int .i64 0]) (t := 24) ?hr ?_; (case hd => rfl); (case hg => rfl); (case hr => first | (go_simp; done) | (go_simp; rfl)); intro gb182 hg w17 hbox hb; have n0_ := Aside0.mk (qla (by with_reducible repeat first | exact HB.out | apply qca | apply qba | apply qda) hb); have n1_ := Aside0.mk (hbox); have n2_ := Aside0.mk ((by rw [hg]; exact (qka (by with_reducible repeat first | exact HB.out | apply qca | apply qba | apply qda)) : w.heap.size ≤ gb182)); have n3_ := Aside0.mk ((by rw [hg]; exact (qka (by with_reducible repeat first | exact HB.out | apply qca | apply qba | apply qda)) : w.heap.size ≤ gb182)); clear HB; have HB := n0_; have BK182 := n1_; have GW182 := n2_; have GE182 := n3_; clear n0_ n1_ n2_ n3_; clear hb hbox hg; have hcz18_0 : w17.cell? ⟨gb182, 0, none⟩ = some (.int .u64 0) := (qfa BK182.out 0).trans rfl; have hcz18_1 : w17.cell? ⟨gb182, 1, none⟩ = some (.int .i64 0) := (qfa BK182.out 1).trans rfl; have hcz18_2 : w17.cell? ⟨gb182, 2, none⟩ = some (.int .i64 0) := (qfa BK182.out 2).trans rfl; have hfz18_0 := qga BK182.out 0; have hfz18_1 := qga BK182.out 1; have hfz18_2 := qga BK182.out 2) | ((with_reducible refine gate_dst (N := 14) rfl ?_); (try (refine gate_guard (by rfl) ?_; dsimp only)); refine Kd.R_lit (Kd.int .u64) _ 22 ?hg (N := 14) ?hd (xs := ([3, 1, 4] : List Int)) (inner := [.int .u64 3, .int .u64 1, .int .u64 4]) (ok := fun _ => True) (okp := fun _ => True) ?hr ?hp (fun _ hk => hk) trivial (Below.refl _ _) (Nat.le_refl _) (by simp) ?_; (case hd => rfl); (case hg => rfl); (case hr => first | (go_simp; done) | (go_simp; rfl)); (case hp => exact (Reps.one (show Kd.M (Kd.int .u64) _ _ _ 3 [.int .u64 3] from rfl) (Reps.one (show Kd.M (Kd.int .u64) _ _ _ 1 [.int .u64 1] from rfl) (Reps.one (show Kd.M (Kd.int .u64) _ _ _ 4 [.int .u64 4] from rfl) (Reps.none _ _))))); intro v184 w19 ho20 hb hg_ hnew_; clear hg_ hnew_; (first | rw [← Ny183.out] at ho20 | (simp only [Int.reduceToNat] at ho20; rw [← Ny183.out] at ho20)); have n0_ := Aside0.mk (Kd.R_lower ho20 (qka (by with_reducible repeat first | exact HB.out | apply qca | apply qba | apply qda | refine qha ?_ GE182.out))); have n1_ := Aside0.mk (blk_below (g := gb182) (o := .cells #[.int .u64 7, .int .i64 5, .int .i64 1] 24 (0, 0)) (by (with_reducible repeat first | refine qma ?_ _ | refine qpa ?_ | refine qna ?_ _); refine blk_put (cs := #[.int .u64 7, .int .i64 5, .int .i64 0]) ?_ 2 _ rfl; (with_reducible repeat first | refine qma ?_ _ | refine qpa ?_ | refine qna ?_ _); refine blk_put (cs := #[.int .u64 7, .int .i64 0, .int .i64 0]) ?_ 1 _ rfl; (with_reducible repeat first | refine qma ?_ _ | refine qpa ?_ | refine qna ?_ _); refine blk_put (cs := #[.int .u64 0, .int .i64 0, .int .i64 0]) ?_ 0 _ rfl; (with_reducible repeat first | refine qma ?_ _ | refine qpa ?_ | refine qna ?_ _); exact BK182.out) hb); have n2_ := Aside0.mk (qla (by with_reducible repeat first | exact HB.out | apply qca | apply qba | apply qda | refine qha ?_ GE182.out) hb); clear BK182; clear HB; have HO185 := n0_; have BK182 := n1_; have HB := n2_; clear n0_ n1_ n2_; clear hb ho20; obtain ⟨Ao21, co21, eo21⟩ := Kd.R_slice HO185.out; subst eo21) | ((with_reducible refine qoa (f := 41) rfl ?_); refine goesL_ (some 15) rfl rfl Try.func41 (by kernel_rfl) rfl #[.agg #[.int .u64 7, .int .i64 5, .int .i64 1], .int .u64 2, .slice Ao21 y183.length co21] rfl (by (try simp only [qM1, qM2, qM3]); first | done | rfl) ?_; (with_reducible refine (twice_Make.calls k 7 5 1 2 _ _ y183 t186 t189 t192 _ ?side1 ?side2 A1.out).mono ?_); (case side1 => repeat (first | exact (Kd.R_reads' HO185.out).2.2 | (with_reducible first | refine Kd.C_alloc ?_ _ | refine Kd.C_drewN ?_ _ | refine Kd.C_drew ?_))); (case side2 => exact (Kd.R_reads' HO185.out).2.1); rintro e w22 ⟨v187, v190, rfl, ho0, ho1, hb⟩; refine ⟨_, rfl, ?_⟩; have n0_ := Aside0.mk (Kd.R_elder' (by (with_reducible repeat first | apply Kd.qja | apply Kd.qia | apply Kd.R_drew); exact HO185.out) (Kd.R_base ho1) hb); have n1_ := Aside0.mk (Kd.N_lower (Kd.N_mono (ok' := fun k_ => some k_ ≠ (v190 : Value).ownBlock ∧ some k_ ≠ (.slice Ao21 y183.length co21 : Value).ownBlock ∧ k_ ≠ gb182) ho0 (fun k_ hk_ => ⟨hk_.2, (Kd.fresh' (Kd.R_lt (by (with_reducible repeat first | apply Kd.qja | apply Kd.qia | apply Kd.R_drew); exact HO185.out)) k_ hk_.1), (Kd.freshB (g := gb182) (o := .cells #[.int .u64 7, .int .i64 5, .int .i64 1] 24 (0, 0)) (by (with_reducible repeat first | refine qma ?_ _ | refine qpa ?_ | refine qna ?_ _); exact BK182.out) k_ hk_.1)⟩)) (qka (by with_reducible repeat first | exact HB.out | apply qca | apply qba | apply qda | refine qha ?_ GE182.out))); have n2_ := Aside0.mk (Kd.R_lower (Kd.R_new' (Kd.R_mono (ok' := fun k_ => True) ho1 (fun _ hk_ => trivial)) (Kd.R_lt (by (with_reducible repeat first | apply Kd.qja | apply Kd.qia | apply Kd.R_drew); exact HO185.out))) (qka (by with_reducible repeat first | exact HB.out | apply qca | apply qba | apply qda | refine qha ?_ GE182.out))); have n3_ := Aside0.mk (blk_below (g := gb182) (o := .cells #[.int .u64 7, .int .i64 5, .int .i64 1] 24 (0, 0)) (by (with_reducible repeat first | refine qma ?_ _ | refine qpa ?_ | refine qna ?_ _); exact BK182.out) hb); have n4_ := Aside0.mk (qla (by with_reducible repeat first | exact HB.out | apply qca | apply qba | apply qda | refine qha ?_ GE182.out) hb); clear HO185; clear BK182; clear HB; have HO185 := n0_; have HO188 := n1_; have HO191 := n2_; have BK182 := n3_; have HB := n4_; clear n0_ n1_ n2_ n3_ n4_; (try clear hb); (try clear hb2); (try clear hk); (try clear hi); (try clear ho0); (try clear ho1); have hcz23_0 : w22.cell? ⟨gb182, 0, none⟩ = some (.int .u64 7) := (qfa BK182.out 0).trans rfl; have hcz23_1 : w22.cell? ⟨gb182, 1, none⟩ = some (.int .i64 5) := (qfa BK182.out 1).trans rfl; have hcz23_2 : w22.cell? ⟨gb182, 2, none⟩ = some (.int .i64 1) := (qfa BK182.out 2).trans rfl; have hfz23_0 := qga BK182.out 0; have hfz23_1 := qga BK182.out 1; have hfz23_2 := qga BK182.out 2; obtain ⟨Ao24, co24, eo24⟩ := Kd.N_slice HO188.out; subst eo24) | ((with_reducible refine qoa (f := 48) rfl ?_); refine goesL_ (some 22) rfl rfl Try.func48 (by kernel_rfl) rfl #[.agg #[.int .u64 7, .int .i64 5, .int .i64 1], .slice Ao24 t186.length co24] rfl (by (try simp only [qM1, qM2, qM3]); first | done | rfl) ?_; (with_reducible refine (twice_Whole.calls k 7 5 1 _ _ t186 t193 t196 _ ?side1 ?side2 A2.out).mono ?_); (case side1 => repeat (first | exact (Kd.N_reads' HO188.out).2.2 | (with_reducible first | refine Kd.C_alloc ?_ _ | refine Kd.C_drewN ?_ _ | refine Kd.C_drew ?_))); (case side2 => exact (Kd.N_reads' HO188.out).2.1); rintro e w25 ⟨v194, rfl, ho0, hb⟩; refine ⟨_, rfl, ?_⟩; have n0_ := Aside0.mk (Kd.R_elder' (by (with_reducible repeat first | apply Kd.qja | apply Kd.qia | apply Kd.R_drew); exact HO185.out) (Kd.R_base ho0) hb); have n1_ := Aside0.mk (Kd.N_elder' (by (with_reducible repeat first | apply Kd.N_alloc | apply Kd.N_drewN | apply Kd.N_drew); exact HO188.out) (Kd.R_base ho0) hb); have n2_ := Aside0.mk (Kd.R_elder' (by (with_reducible repeat first | apply Kd.qja | apply Kd.qia | apply Kd.R_drew); exact HO191.out) (Kd.R_base ho0) hb); have n3_ := Aside0.mk (Kd.R_lower (Kd.R_new' (Kd.R_new' ho0 (Kd.R_lt (by (with_reducible repeat first | apply Kd.qja | apply Kd.qia | apply Kd.R_drew); exact HO185.out))) (Kd.R_lt (by (with_reducible repeat first | apply Kd.qja | apply Kd.qia | apply Kd.R_drew); exact HO191.out))) (qka (by with_reducible repeat first | exact HB.out | apply qca | apply qba | apply qda | refine qha ?_ GE182.out))); have n4_ := Aside0.mk (blk_below (g := gb182) (o := .cells #[.int .u64 7, .int .i64 5, .int .i64 1] 24 (0, 0)) (by (with_reducible repeat first | refine qma ?_ _ | refine qpa ?_ | refine qna ?_ _); exact BK182.out) hb); have n5_ := Aside0.mk (qla (by with_reducible repeat first | exact HB.out | apply qca | apply qba | apply qda | refine qha ?_ GE182.out) hb); clear HO185; clear HO188; clear HO191; clear BK182; clear HB; have HO185 := n0_; have HO188 := n1_; have HO191 := n2_; have HO195 := n3_; have BK182 := n4_; have HB := n5_; clear n0_ n1_ n2_ n3_ n4_ n5_; (try clear hb); (try clear hb2); (try clear hk); (try clear hi); (try clear ho0); have hcz26_0 : w25.cell? ⟨gb182, 0, none⟩ = some (.int .u64 7) := (qfa BK182.out 0).trans rfl; have hcz26_1 : w25.cell? ⟨gb182, 1, none⟩ = some (.int .i64 5) := (qfa BK182.out 1).trans rfl; have hcz26_2 : w25.cell? ⟨gb182, 2, none⟩ = some (.int .i64 1) := (qfa BK182.out 2).trans rfl; have hfz26_0 := qga BK182.out 0; have hfz26_1 := qga BK182.out 1; have hfz26_2 := qga BK182.out 2) | ((with_reducible refine qoa (f := 46) rfl ?_); refine goesL_ (some 28) rfl rfl Try.func46 (by kernel_rfl) rfl #[.agg #[.int .u64 7, .int .i64 5, .int .i64 1], .slice Ao24 t186.length co24, .int .u64 1] rfl (by (try simp only [qM1, qM2, qM3]); first | done | rfl) ?_; (with_reducible refine (twice_Low.calls k 7 5 1 _ _ t186 1 t197 t198 _ ?side1 ?side2 A3.out).mono ?_); (case side1 => repeat (first | exact (Kd.N_reads' HO188.out).2.2 | (with_reducible first | refine Kd.C_alloc ?_ _ | refine Kd.C_drewN ?_ _ | refine Kd.C_drew ?_))); (case side2 => exact (Kd.N_reads' HO188.out).2.1); rintro e w27 ⟨rfl, hb⟩; refine ⟨_, rfl, ?_⟩; have n0_ := Aside0.mk (Kd.R_below (by (with_reducible repeat first | apply Kd.qja | apply Kd.qia | apply Kd.R_drew); exact HO185.out) hb); have n1_ := Aside0.mk (Kd.N_below (by (with_reducible repeat first | apply Kd.N_alloc | apply Kd.N_drewN | apply Kd.N_drew); exact HO188.out) hb); have n2_ := Aside0.mk (Kd.R_below (by (with_reducible repeat first | apply Kd.qja | apply Kd.qia | apply Kd.R_drew); exact HO191.out) hb); have n3_ := Aside0.mk (Kd.R_below (by (with_reducible repeat first | apply Kd.qja | apply Kd.qia | apply Kd.R_drew); exact HO195.out) hb); have n4_ := Aside0.mk (blk_below (g := gb182) (o := .cells #[.int .u64 7, .int .i64 5, .int .i64 1] 24 (0, 0)) (by (with_reducible repeat first | refine qma ?_ _ | refine qpa ?_ | refine qna ?_ _); exact BK182.out) hb); have n5_ := Aside0.mk (qla (by with_reducible repeat first | exact HB.out | apply qca | apply qba | apply qda | refine qha ?_ GE182.out) hb); clear HO185; clear HO188; clear HO191; clear HO195; clear BK182; clear HB; have HO185 := n0_; have HO188 := n1_; have HO191 := n2_; have HO195 := n3_; have BK182 := n4_; have HB := n5_; clear n0_ n1_ n2_ n3_ n4_ n5_; (try clear hb); (try clear hb2); (try clear hk); (try clear hi); have hcz28_0 : w27.cell? ⟨gb182, 0, none⟩ = some (.int .u64 7) := (qfa BK182.out 0).trans rfl; have hcz28_1 : w27.cell? ⟨gb182, 1, none⟩ = some (.int .i64 5) := (qfa BK182.out 1).trans rfl; have hcz28_2 : w27.cell? ⟨gb182, 2, none⟩ = some (.int .i64 1) := (qfa BK182.out 2).trans rfl; have hfz28_0 := qga BK182.out 0; have hfz28_1 := qga BK182.out 1; have hfz28_2 := qga BK182.out 2) | ((with_reducible refine qoa (f := 47) rfl ?_); refine goesL_ (some 34) rfl rfl Try.func47 (by kernel_rfl) rfl #[.agg #[.int .u64 7, .int .i64 5, .int .i64 1], .slice Ao24 t186.length co24, .int .u64 1] rfl (by (try simp only [qM1, qM2, qM3]); first | done | rfl) ?_; (with_reducible refine (twice_High.calls k 7 5 1 _ _ t186 1 t199 t200 _ ?side1 ?side2 A4.out).mono ?_); (case side1 => repeat (first | exact (Kd.N_reads' HO188.out).2.2 | (with_reducible first | refine Kd.C_alloc ?_ _ | refine Kd.C_drewN ?_ _ | refine Kd.C_drew ?_))); (case side2 => exact (Kd.N_reads' HO188.out).2.1); rintro e w29 ⟨rfl, hb⟩; refine ⟨_, rfl, ?_⟩; have n0_ := Aside0.mk (Kd.R_below (by (with_reducible repeat first | apply Kd.qja | apply Kd.qia | apply Kd.R_drew); exact HO185.out) hb); have n1_ := Aside0.mk (Kd.N_below (by (with_reducible repeat first | apply Kd.N_alloc | apply Kd.N_drewN | apply Kd.N_drew); exact HO188.out) hb); have n2_ := Aside0.mk (Kd.R_below (by (with_reducible repeat first | apply Kd.qja | apply Kd.qia | apply Kd.R_drew); exact HO191.out) hb); have n3_ := Aside0.mk (Kd.R_below (by (with_reducible repeat first | apply Kd.qja | apply Kd.qia | apply Kd.R_drew); exact HO195.out) hb); have n4_ := Aside0.mk (blk_below (g := gb182) (o := .cells #[.int .u64 7, .int .i64 5, .int .i64 1] 24 (0, 0)) (by (with_reducible repeat first | refine qma ?_ _ | refine qpa ?_ | refine qna ?_ _); exact BK182.out) hb); have n5_ := Aside0.mk (qla (by with_reducible repeat first | exact HB.out | apply qca | apply qba | apply qda | refine qha ?_ GE182.out) hb); clear HO185; clear HO188; clear HO191; clear HO195; clear BK182; clear HB; have HO185 := n0_; have HO188 := n1_; have HO191 := n2_; have HO195 := n3_; have BK182 := n4_; have HB := n5_; clear n0_ n1_ n2_ n3_ n4_ n5_; (try clear hb); (try clear hb2); (try clear hk); (try clear hi)) | ((with_reducible refine gate_dst (N := 41) rfl ?_); (try (refine gate_guard (by rfl) ?_; dsimp only)); refine Kd.R_lit (Kd.int .u64) _ 22 ?hg (N := 41) ?hd (xs := ([2, 3] : List Int)) (inner := [.int .u64 2, .int .u64 3]) (ok := fun _ => True) (okp := fun _ => True) ?hr ?hp (fun _ hk => hk) trivial (Below.refl _ _) (Nat.le_refl _) (by simp) ?_; (case hd => rfl); (case hg => rfl); (case hr => first | (go_simp; done) | (go_simp; rfl)); (case hp => exact (Reps.one (show Kd.M (Kd.int .u64) _ _ _ 2 [.int .u64 2] from rfl) (Reps.one (show Kd.M (Kd.int .u64) _ _ _ 3 [.int .u64 3] from rfl) (Reps.none _ _)))); intro v202 w30 ho31 hb hg_ hnew_; clear hg_ hnew_; (first | rw [← Ny201.out] at ho31 | (simp only [Int.reduceToNat] at ho31; rw [← Ny201.out] at ho31)); have n0_ := Aside0.mk (Kd.R_elder' (by (with_reducible repeat first | apply Kd.qja | apply Kd.qia | apply Kd.R_drew); exact HO185.out) (Kd.R_base ho31) hb); have n1_ := Aside0.mk (Kd.N_elder' (by (with_reducible repeat first | apply Kd.N_alloc | apply Kd.N_drewN | apply Kd.N_drew); exact HO188.out) (Kd.R_base ho31) hb); have n2_ := Aside0.mk (Kd.R_elder' (by (with_reducible repeat first | apply Kd.qja | apply Kd.qia | apply Kd.R_drew); exact HO191.out) (Kd.R_base ho31) hb); have n3_ := Aside0.mk (Kd.R_elder' (by (with_reducible repeat first | apply Kd.qja | apply Kd.qia | apply Kd.R_drew); exact HO195.out) (Kd.R_base ho31) hb); have n4_ := Aside0.mk (Kd.R_lower (Kd.R_new' (Kd.R_new' (Kd.R_new' ho31 (Kd.R_lt (by (with_reducible repeat first | apply Kd.qja | apply Kd.qia | apply Kd.R_drew); exact HO185.out))) (Kd.R_lt (by (with_reducible repeat first | apply Kd.qja | apply Kd.qia | apply Kd.R_drew); exact HO191.out))) (Kd.R_lt (by (with_reducible repeat first | apply Kd.qja | apply Kd.qia | apply Kd.R_drew); exact HO195.out))) (qka (by with_reducible repeat first | exact HB.out | apply qca | apply qba | apply qda | refine qha ?_ GE182.out))); have n5_ := Aside0.mk (blk_below (g := gb182) (o := .cells #[.int .u64 7, .int .i64 5, .int .i64 1] 24 (0, 0)) (by (with_reducible repeat first | refine qma ?_ _ | refine qpa ?_ | refine qna ?_ _); exact BK182.out) hb); have n6_ := Aside0.mk (qla (by with_reducible repeat first | exact HB.out | apply qca | apply qba | apply qda | refine qha ?_ GE182.out) hb); clear HO185; clear HO188; clear HO191; clear HO195; clear BK182; clear HB; have HO185 := n0_; have HO188 := n1_; have HO191 := n2_; have HO195 := n3_; have HO203 := n4_; have BK182 := n5_; have HB := n6_; clear n0_ n1_ n2_ n3_ n4_ n5_ n6_; clear hb ho31) | ((with_reducible refine gate_dst (N := 42) rfl ?_); (try (refine gate_guard (by rfl) ?_; dsimp only)); refine Kd.R_lit (Kd.int .u64) _ 22 ?hg (N := 42) ?hd (xs := ([1, 4] : List Int)) (inner := [.int .u64 1, .int .u64 4]) (ok := fun _ => True) (okp := fun _ => True) ?hr ?hp (fun _ hk => hk) trivial (Below.refl _ _) (Nat.le_refl _) (by simp) ?_; (case hd => rfl); (case hg => rfl); (case hr => first | (go_simp; done) | (go_simp; rfl)); (case hp => exact (Reps.one (show Kd.M (Kd.int .u64) _ _ _ 1 [.int .u64 1] from rfl) (Reps.one (show Kd.M (Kd.int .u64) _ _ _ 4 [.int .u64 4] from rfl) (Reps.none _ _)))); intro v205 w32 ho33 hb hg_ hnew_; clear hg_ hnew_; (first | rw [← Ny204.out] at ho33 | (simp only [Int.reduceToNat] at ho33; rw [← Ny204.out] at ho33)); have n0_ := Aside0.mk (Kd.R_elder' (by (with_reducible repeat first | apply Kd.qja | apply Kd.qia | apply Kd.R_drew); exact HO185.out) (Kd.R_base ho33) hb); have n1_ := Aside0.mk (Kd.N_elder' (by (with_reducible repeat first | apply Kd.N_alloc | apply Kd.N_drewN | apply Kd.N_drew); exact HO188.out) (Kd.R_base ho33) hb); have n2_ := Aside0.mk (Kd.R_elder' (by (with_reducible repeat first | apply Kd.qja | apply Kd.qia | apply Kd.R_drew); exact HO191.out) (Kd.R_base ho33) hb); have n3_ := Aside0.mk (Kd.R_elder' (by (with_reducible repeat first | apply Kd.qja | apply Kd.qia | apply Kd.R_drew); exact HO195.out) (Kd.R_base ho33) hb); have n4_ := Aside0.mk (Kd.R_elder' (by (with_reducible repeat first | apply Kd.qja | apply Kd.qia | apply Kd.R_drew); exact HO203.out) (Kd.R_base ho33) hb); have n5_ := Aside0.mk (Kd.R_lower (Kd.R_new' (Kd.R_new' (Kd.R_new' (Kd.R_new' ho33 (Kd.R_lt (by (with_reducible repeat first | apply Kd.qja | apply Kd.qia | apply Kd.R_drew); exact HO185.out))) (Kd.R_lt (by (with_reducible repeat first | apply Kd.qja | apply Kd.qia | apply Kd.R_drew); exact HO191.out))) (Kd.R_lt (by (with_reducible repeat first | apply Kd.qja | apply Kd.qia | apply Kd.R_drew); exact HO195.out))) (Kd.R_lt (by (with_reducible repeat first | apply Kd.qja | apply Kd.qia | apply Kd.R_drew); exact HO203.out))) (qka (by with_reducible repeat first | exact HB.out | apply qca | apply qba | apply qda | refine qha ?_ GE182.out))); have n6_ := Aside0.mk (blk_below (g := gb182) (o := .cells #[.int .u64 7, .int .i64 5, .int .i64 1] 24 (0, 0)) (by (with_reducible repeat first | refine qma ?_ _ | refine qpa ?_ | refine qna ?_ _); exact BK182.out) hb); have n7_ := Aside0.mk (qla (by with_reducible repeat first | exact HB.out | apply qca | apply qba | apply qda | refine qha ?_ GE182.out) hb); clear HO185; clear HO188; clear HO191; clear HO195; clear HO203; clear BK182; clear HB; have HO185 := n0_; have HO188 := n1_; have HO191 := n2_; have HO195 := n3_; have HO203 := n4_; have HO206 := n5_; have BK182 := n6_; have HB := n7_; clear n0_ n1_ n2_ n3_ n4_ n5_ n6_ n7_; clear hb ho33; obtain ⟨Ao34, co34, eo34⟩ := Kd.R_slice HO203.out; subst eo34; obtain ⟨Ao35, co35, eo35⟩ := Kd.R_slice HO206.out; subst eo35) | ((with_reducible refine gate_dst (N := 43) rfl ?_); (try (refine gate_guard (by rfl) ?_; dsimp only)); refine Kd.N_lit (Kd.slice 22 (Kd.int .u64)) _ 31 ?hg (N' := 43) ?hd (xs := ([y201, y204] : List (List Int))) (inner := [.slice Ao34 y201.length co34, .slice Ao35 y204.length co35]) (ok := (fun k_ => some k_ ≠ (.slice Ao21 y183.length co21 : Value).ownBlock ∧ some k_ ≠ (.slice Ao24 t186.length co24 : Value).ownBlock ∧ some k_ ≠ (v190 : Value).ownBlock ∧ some k_ ≠ (v194 : Value).ownBlock ∧ k_ ≠ gb182)) (okp := (fun k_ => some k_ ≠ (.slice Ao21 y183.length co21 : Value).ownBlock ∧ some k_ ≠ (.slice Ao24 t186.length co24 : Value).ownBlock ∧ some k_ ≠ (v190 : Value).ownBlock ∧ some k_ ≠ (v194 : Value).ownBlock ∧ k_ ≠ gb182)) ?hr ?hp (fun _ hk => hk) ((show ∀ k_, w32.heap.size ≤ k_ → (fun k_ => some k_ ≠ (.slice Ao21 y183.length co21 : Value).ownBlock ∧ some k_ ≠ (.slice Ao24 t186.length co24 : Value).ownBlock ∧ some k_ ≠ (v190 : Value).ownBlock ∧ some k_ ≠ (v194 : Value).ownBlock ∧ k_ ≠ gb182) k_ from fun k_ hk => ⟨Kd.fresh' (Kd.R_lt (by (with_reducible repeat first | apply Kd.qja | apply Kd.qia | apply Kd.R_drew); exact HO185.out)) k_ hk, Kd.fresh' (Kd.N_lt (by (with_reducible repeat first | apply Kd.N_alloc | apply Kd.N_drewN | apply Kd.N_drew); exact HO188.out)) k_ hk, Kd.fresh' (Kd.R_lt (by (with_reducible repeat first | apply Kd.qja | apply Kd.qia | apply Kd.R_drew); exact HO191.out)) k_ hk, Kd.fresh' (Kd.R_lt (by (with_reducible repeat first | apply Kd.qja | apply Kd.qia | apply Kd.R_drew); exact HO195.out)) k_ hk, Kd.freshB (g := gb182) (o := .cells #[.int .u64 7, .int .i64 5, .int .i64 1] 24 (0, 0)) (by (with_reducible repeat first | refine qma ?_ _ | refine qpa ?_ | refine qna ?_ _); exact BK182.out) k_ hk⟩) _ (Nat.le_refl _)) (Below.refl _ _) (Nat.le_refl _) (by simp) ?_; (case hd => rfl); (case hg => rfl); (case hr => first | (go_simp; done) | (go_simp; rfl)); (case hp => exact (Reps.one (show Kd.FK (Kd.slice 22 (Kd.int .u64)) _ _ y201 [.slice Ao34 y201.length co34] from (Kd.FK_slice_mk (Kd.R_reads' (Kd.R_mono (ok' := (fun k_ => some k_ ≠ (.slice Ao21 y183.length co21 : Value).ownBlock ∧ some k_ ≠ (.slice Ao24 t186.length co24 : Value).ownBlock ∧ some k_ ≠ (v190 : Value).ownBlock ∧ some k_ ≠ (v194 : Value).ownBlock ∧ k_ ≠ gb182)) (Kd.R_types (Kd.R_apart' (HO203.out) (Kd.N_typed HO188.out) (by decide)) BK182.out (by decide)) (fun k_ hk => ⟨hk.1.1.1.1.1.2, ⟨hk.1.2, ⟨hk.1.1.1.1.2, ⟨hk.1.1.1.2, hk.2⟩⟩⟩⟩))).2.1 (Kd.R_F (Kd.R_mono (ok' := (fun k_ => some k_ ≠ (.slice Ao21 y183.length co21 : Value).ownBlock ∧ some k_ ≠ (.slice Ao24 t186.length co24 : Value).ownBlock ∧ some k_ ≠ (v190 : Value).ownBlock ∧ some k_ ≠ (v194 : Value).ownBlock ∧ k_ ≠ gb182)) (Kd.R_types (Kd.R_apart' (HO203.out) (Kd.N_typed HO188.out) (by decide)) BK182.out (by decide)) (fun k_ hk => ⟨hk.1.1.1.1.1.2, ⟨hk.1.2, ⟨hk.1.1.1.1.2, ⟨hk.1.1.1.2, hk.2⟩⟩⟩⟩))))) (Reps.one (show Kd.FK (Kd.slice 22 (Kd.int .u64)) _ _ y204 [.slice Ao35 y204.length co35] from (Kd.FK_slice_mk (Kd.R_reads' (Kd.R_mono (ok' := (fun k_ => some k_ ≠ (.slice Ao21 y183.length co21 : Value).ownBlock ∧ some k_ ≠ (.slice Ao24 t186.length co24 : Value).ownBlock ∧ some k_ ≠ (v190 : Value).ownBlock ∧ some k_ ≠ (v194 : Value).ownBlock ∧ k_ ≠ gb182)) (Kd.R_types (Kd.R_apart' (HO206.out) (Kd.N_typed HO188.out) (by decide)) BK182.out (by decide)) (fun k_ hk => ⟨hk.1.1.1.1.1.2, ⟨hk.1.2, ⟨hk.1.1.1.1.2, ⟨hk.1.1.1.2, hk.2⟩⟩⟩⟩))).2.1 (Kd.R_F (Kd.R_mono (ok' := (fun k_ => some k_ ≠ (.slice Ao21 y183.length co21 : Value).ownBlock ∧ some k_ ≠ (.slice Ao24 t186.length co24 : Value).ownBlock ∧ some k_ ≠ (v190 : Value).ownBlock ∧ some k_ ≠ (v194 : Value).ownBlock ∧ k_ ≠ gb182)) (Kd.R_types (Kd.R_apart' (HO206.out) (Kd.N_typed HO188.out) (by decide)) BK182.out (by decide)) (fun k_ hk => ⟨hk.1.1.1.1.1.2, ⟨hk.1.2, ⟨hk.1.1.1.1.2, ⟨hk.1.1.1.2, hk.2⟩⟩⟩⟩))))) (Reps.none _ _)))); intro v208 w36 ho37 hb hg_ hnew_; clear hg_ hnew_; (first | rw [← Ny207.out] at ho37 | (simp only [Int.reduceToNat] at ho37; rw [← Ny207.out] at ho37)); have n0_ := Aside0.mk (Kd.R_below (by (with_reducible repeat first | apply Kd.qja | apply Kd.qia | apply Kd.R_drew); exact HO185.out) hb); have n1_ := Aside0.mk (Kd.N_elder' (by (with_reducible repeat first | apply Kd.N_alloc | apply Kd.N_drewN | apply Kd.N_drew); exact HO188.out) (Kd.N_base ho37) hb); have n2_ := Aside0.mk (Kd.R_below (by (with_reducible repeat first | apply Kd.qja | apply Kd.qia | apply Kd.R_drew); exact HO191.out) hb); have n3_ := Aside0.mk (Kd.R_below (by (with_reducible repeat first | apply Kd.qja | apply Kd.qia | apply Kd.R_drew); exact HO195.out) hb); have n4_ := Aside0.mk (Kd.N_lower ho37 (qka (by with_reducible repeat first | exact HB.out | apply qca | apply qba | apply qda | refine qha ?_ GE182.out))); have n5_ := Aside0.mk (blk_below (g := gb182) (o := .cells #[.int .u64 7, .int .i64 5, .int .i64 1] 24 (0, 0)) (by (with_reducible repeat first | refine qma ?_ _ | refine qpa ?_ | refine qna ?_ _); exact BK182.out) hb); have n6_ := Aside0.mk (qla (by with_reducible repeat first | exact HB.out | apply qca | apply qba | apply qda | refine qha ?_ GE182.out) hb); clear HO185; clear HO188; clear HO191; clear HO195; clear BK182; clear HB; clear HO203; clear HO206; have HO185 := n0_; have HO188 := n1_; have HO191 := n2_; have HO195 := n3_; have HO209 := n4_; have BK182 := n5_; have HB := n6_; clear n0_ n1_ n2_ n3_ n4_ n5_ n6_; clear hb ho37; obtain ⟨Ao38, co38, eo38⟩ := Kd.N_slice HO209.out; subst eo38) | (go_at_call 124; (with_reducible refine (qza.calls k _ _ t186 _ _ y207 true _ ?side1 ?side2 ?side3 ?side4 A6.out).mono ?_); (case side1 => repeat (first | exact (Kd.N_reads' HO188.out).2.2 | (with_reducible first | refine Kd.C_alloc ?_ _ | refine Kd.C_drewN ?_ _ | refine Kd.C_drew ?_))); (case side2 => exact (Kd.N_reads' HO188.out).2.1); (case side3 => repeat (first | exact (Kd.N_reads' HO209.out).2.2 | (with_reducible first | refine Kd.C_alloc ?_ _ | refine Kd.C_drewN ?_ _ | refine Kd.C_drew ?_))); (case side4 => exact (Kd.N_reads' HO209.out).2.1); rintro e w' ⟨rfl, ⟨nd, rfl⟩⟩; obtain ⟨Ao39, co39, eo39⟩ := Kd.R_slice HO191.out; subst eo39) | ((with_reducible refine gate_dst (N := 57) rfl ?_); (try (refine gate_guard (by rfl) ?_; dsimp only)); refine Kd.R_lit (Kd.int .u64) _ 22 ?hg (N := 57) ?hd (xs := ([2, 4, 4] : List Int)) (inner := [.int .u64 2, .int .u64 4, .int .u64 4]) (ok := fun _ => True) (okp := fun _ => True) ?hr ?hp (fun _ hk => hk) trivial (Below.refl _ _) (Nat.le_refl _) (by simp) ?_; (case hd => rfl); (case hg => rfl); (case hr => first | (go_simp; done) | (go_simp; rfl)); (case hp => exact (Reps.one (show Kd.M (Kd.int .u64) _ _ _ 2 [.int .u64 2] from rfl) (Reps.one (show Kd.M (Kd.int .u64) _ _ _ 4 [.int .u64 4] from rfl) (Reps.one (show Kd.M (Kd.int .u64) _ _ _ 4 [.int .u64 4] from rfl) (Reps.none _ _))))); intro v212 w40 ho41 hb hg_ hnew_; clear hg_ hnew_; (first | rw [← Ny211.out] at ho41 | (simp only [Int.reduceToNat] at ho41; rw [← Ny211.out] at ho41)); have n0_ := Aside0.mk (Kd.R_elder' (by (with_reducible repeat first | apply Kd.qja | apply Kd.qia | apply Kd.R_drew); exact HO185.out) (Kd.R_base ho41) hb); have n1_ := Aside0.mk (Kd.N_elder' (by (with_reducible repeat first | apply Kd.N_alloc | apply Kd.N_drewN | apply Kd.N_drew); exact HO188.out) (Kd.R_base ho41) hb); have n2_ := Aside0.mk (Kd.R_elder' (by (with_reducible repeat first | apply Kd.qja | apply Kd.qia | apply Kd.R_drew); exact HO191.out) (Kd.R_base ho41) hb); have n3_ := Aside0.mk (Kd.R_elder' (by (with_reducible repeat first | apply Kd.qja | apply Kd.qia | apply Kd.R_drew); exact HO195.out) (Kd.R_base ho41) hb); have n4_ := Aside0.mk (Kd.N_elder' (by (with_reducible repeat first | apply Kd.N_alloc | apply Kd.N_drewN | apply Kd.N_drew); exact HO209.out) (Kd.R_base ho41) hb); have n5_ := Aside0.mk (Kd.R_lower (Kd.R_new' (Kd.R_new' (Kd.R_new' ho41 (Kd.R_lt (by (with_reducible repeat first | apply Kd.qja | apply Kd.qia | apply Kd.R_drew); exact HO185.out))) (Kd.R_lt (by (with_reducible repeat first | apply Kd.qja | apply Kd.qia | apply Kd.R_drew); exact HO191.out))) (Kd.R_lt (by (with_reducible repeat first | apply Kd.qja | apply Kd.qia | apply Kd.R_drew); exact HO195.out))) (qka (by with_reducible repeat first | exact HB.out | apply qca | apply qba | apply qda | refine qha ?_ GE182.out))); have n6_ := Aside0.mk (blk_below (g := gb182) (o := .cells #[.int .u64 7, .int .i64 5, .int .i64 1] 24 (0, 0)) (by (with_reducible repeat first | refine qma ?_ _ | refine qpa ?_ | refine qna ?_ _); exact BK182.out) hb); have n7_ := Aside0.mk (qla (by with_reducible repeat first | exact HB.out | apply qca | apply qba | apply qda | refine qha ?_ GE182.out) hb); clear HO185; clear HO188; clear HO191; clear HO195; clear HO209; clear BK182; clear HB; have HO185 := n0_; have HO188 := n1_; have HO191 := n2_; have HO195 := n3_; have HO209 := n4_; have HO213 := n5_; have BK182 := n6_; have HB := n7_; clear n0_ n1_ n2_ n3_ n4_ n5_ n6_ n7_; clear hb ho41; obtain ⟨Ao42, co42, eo42⟩ := Kd.R_slice HO195.out; subst eo42; obtain ⟨Ao43, co43, eo43⟩ := Kd.R_slice HO213.out; subst eo43) | (go_at_call 45; (with_reducible refine (qqa.calls k _ _ t193 _ _ y211 true _ ?side1 ?side2 ?side3 ?side4 A10.out).mono ?_); (case side1 => repeat (first | exact (Kd.R_reads' HO195.out).2.2 | (with_reducible first | refine Kd.C_alloc ?_ _ | refine Kd.C_drewN ?_ _ | refine Kd.C_drew ?_))); (case side2 => exact (Kd.R_reads' HO195.out).2.1); (case side3 => repeat (first | exact (Kd.R_reads' HO213.out).2.2 | (with_reducible first | refine Kd.C_alloc ?_ _ | refine Kd.C_drewN ?_ _ | refine Kd.C_drew ?_))); (case side4 => exact (Kd.R_reads' HO213.out).2.1); rintro e w' ⟨rfl, ⟨nd, rfl⟩⟩) | (go_at_call 38; (with_reducible refine (twice_Size.calls 3 t215 _ A16.out).mono ?_); rintro e w' ⟨rfl, ⟨nd, rfl⟩⟩))
          go_ret
          exact ⟨by first | rfl | (simp [errW_none, errW_some] <;> rfl) | (simp [*, errW_none, errW_some] <;> rfl), by repeat (first | (with_reducible first | exact HB.out | apply qca | apply qba | apply qda | refine qha ?_ GE182.out) | exact HB.out)⟩
         ·rw [if_neg c15] at H
          have c15b0 : (t199 == 3) = false := beq_eq_false_iff_ne.mpr c15
          have c15b1 : (t199 != 3) = true := bne_iff_ne.mpr c15
          exact absurd ((Option.some.inj H).trans HRT.out) (by decide)
        ·rw [if_neg c14] at H
         have c14b0 : (t200 == 0) = false := beq_eq_false_iff_ne.mpr c14
         have c14b1 : (t200 != 0) = true := bne_iff_ne.mpr c14
         exact absurd ((Option.some.inj H).trans HRT.out) (by decide)
       ·rw [if_neg c13] at H
        have c13b0 : (t197 == 5) = false := beq_eq_false_iff_ne.mpr c13
        have c13b1 : (t197 != 5) = true := bne_iff_ne.mpr c13
        exact absurd ((Option.some.inj H).trans HRT.out) (by decide)
      ·rw [if_neg c12] at H
       have c12b0 : (t198 == 0) = false := beq_eq_false_iff_ne.mpr c12
       have c12b1 : (t198 != 0) = true := bne_iff_ne.mpr c12
       exact absurd ((Option.some.inj H).trans HRT.out) (by decide)
     ·replace c11 := Bool.eq_false_iff.mpr c11
      subst c11
      have H1 : (some false) = some r := by rw [if_neg (show ¬ (false = true) by decide)] at H; exact H
      clear H; have H := H1; clear H1
      exact absurd ((Option.some.inj H).trans HRT.out) (by decide)
    ·rw [if_neg c9] at H
     have c9b0 : (t196 == 0) = false := beq_eq_false_iff_ne.mpr c9
     have c9b1 : (t196 != 0) = true := bne_iff_ne.mpr c9
     exact absurd ((Option.some.inj H).trans HRT.out) (by decide)
   ·rw [if_neg c8] at H
    have c8b0 : ((t189.length : Int) == 0) = false := beq_eq_false_iff_ne.mpr c8
    have c8b1 : ((t189.length : Int) != 0) = true := bne_iff_ne.mpr c8
    have c8b2 : ¬ (t189 = []) := fun h_ => c8 (by rw [h_]; rfl)
    exact absurd ((Option.some.inj H).trans HRT.out) (by decide)
  ·replace c7 := Bool.eq_false_iff.mpr c7
   subst c7
   have H1 : (some false) = some r := by rw [if_neg (show ¬ (false = true) by decide)] at H; exact H
   clear H; have H := H1; clear H1
   exact absurd ((Option.some.inj H).trans HRT.out) (by decide)
 ·rw [if_neg c5] at H
  have c5b0 : (t192 == 0) = false := beq_eq_false_iff_ne.mpr c5
  have c5b1 : (t192 != 0) = true := bne_iff_ne.mpr c5
  exact absurd ((Option.some.inj H).trans HRT.out) (by decide)
def qib.l0 : Nat → List Int → Int → Option (List Int)
 | 0, _, _ => none
 | k + 1, x0, x3 => if x3 > 0 then (if 0 ≤ (wrap64 (x3 - 1)) then (if (wrap64 (x3 - 1)) < (x0.length : Int) then (if (rd x0 (wrap64 (x3 - 1))) = 0 then (qib.l0 k x0 (wrap64 (x3 - 1))) else ((some (([] : List Int) : List Int)).bind fun y224 => (if 0 ≤ x3 then (if x3 ≤ (x0.length : Int) then (if y224.length + (x0.take (x3 : Int).toNat).length < 17592186044416 then (some (y224 ++ (x0.take (x3 : Int).toNat))) else (none)) else (none)) else (none)))) else (none)) else (none)) else ((some (([] : List Int) : List Int)).bind fun y231 => (if 0 ≤ x3 then (if x3 ≤ (x0.length : Int) then (if y231.length + (x0.take (x3 : Int).toNat).length < 17592186044416 then (some (y231 ++ (x0.take (x3 : Int).toNat))) else (none)) else (none)) else (none)))
def qib.f (k : Nat) (l0 : List Int) : Option (List Int) := qib.l0 k l0 (l0.length : Int)
theorem qib.calls (k : Nat) (A0 : Option Addr) (c0 : Nat) (l0 : List Int) (r : List Int) (w : World) (hr0 : Kd.C (Kd.int .u64) w A0 l0.length l0) (hc0 : l0.length ≤ c0) (h : qib.f k l0 = some r) :
  Calls Try.prog 60 #[.slice A0 l0.length c0] w fun e w' => ∃ v0_ : Value, e = .returned (v0_) ∧ Kd.R (Kd.int .u64) 22 w' w.heap.size (fun _ => True) v0_ r ∧ Below w.heap.size w w' := by
 have HR0 := Aside0.mk hr0
 have HC0 := Aside0.mk hc0
 clear hr0 hc0
 have HB := Aside0.mk (Below.refl w.heap.size w)
 have H : (qib.l0 k l0 (l0.length : Int)) = some r := h
 clear h
 have H' := Aside0.mk H
 clear H
 go_enter Try.func60, Try.ntmps60
 go_wp2
 go_loopg [3] k (fun kq v3 w' => ∃ (x3_1 : Int), v3 = .int .i64 x3_1 ∧ Aside0 (qib.l0 kq l0 x3_1 = some r) ∧ Aside0 (kq ≤ k) ∧ Aside0 (Below w.heap.size w w'))
 case atStart => exact ⟨((l0.length : Int)), (by first | rfl | (simp; done) | (simp [*]; done)), H', ⟨Nat.le_refl _⟩, ⟨by repeat (first | (with_reducible first | exact HB.out | apply qca | apply qba | apply qda) | exact HB.out)⟩⟩
 case round =>
  clear H'
  obtain ⟨x3_1, rfl, HA, HK1, HB⟩ := hrel
  cases gk with
  | zero => exact absurd HA.out (by simp [qib.l0])
  | succ k1 =>
   have H := HA.out
   clear HA
   simp only [qib.l0] at H
   by_cases c2 : x3_1 > 0
   ·rw [if_pos c2] at H
    have c2b0 : decide (0 < x3_1) = true := decide_eq_true c2
    clear c2
    obtain ⟨ji3, hji3⟩ : ∃ j_ : Int, (wrap64 (x3_1 - 1)) = j_ := ⟨_, rfl⟩
    replace H : (if 0 ≤ (ji3) then (if (ji3) < (l0.length : Int) then (if (rd l0 (ji3)) = 0 then (qib.l0 k1 l0 ji3) else ((some (([] : List Int) : List Int)).bind fun y224 => (if 0 ≤ x3_1 then (if x3_1 ≤ (l0.length : Int) then (if y224.length + (l0.take (x3_1 : Int).toNat).length < 17592186044416 then (some (y224 ++ (l0.take (x3_1 : Int).toNat))) else (none)) else (none)) else (none)))) else (none)) else (none)) = some r := by first | (rw [hji3] at H; exact H) | (simp only [hji3] at H ⊢; exact H)
    have hji3w : (IntKind.i64.wrap (x3_1 - 1)) = ji3 := (i64_w _).trans hji3
    by_cases c4 : 0 ≤ (ji3)
    ·rw [if_pos c4] at H
     have c4b0 : decide (0 ≤ (ji3)) = true := decide_eq_true c4
     clear c4
     by_cases c5 : (ji3) < (l0.length : Int)
     ·rw [if_pos c5] at H
      have c5b0 : decide ((ji3) < (l0.length : Int)) = true := decide_eq_true c5
      clear c5
      by_cases c6 : (rd l0 (ji3)) = 0
      ·rw [if_pos c6] at H
       have c6b0 : ((rd l0 (ji3)) == 0) = true := beq_iff_eq.mpr c6
       have c6b1 : ((rd l0 (ji3)) != 0) = false := bne_eq_false_iff_eq.mpr c6
       clear c6
       have H' := Aside0.mk H
       clear H
       have p223 : 0 ≤ ((ji3) : Int) := of_decide_eq_true (by first | (with_reducible assumption) | assumption)
       have q223 : (ji3) < (l0.length : Int) := of_decide_eq_true (by first | (with_reducible assumption) | assumption)
       obtain ⟨ad223, e223, hx223_0⟩ := Kd.at_int HR0.out (ji3) p223 q223
       cases e223
       replace hx223_0 := (HB.out.cell (World.block_lt_of_cell? w _ hx223_0)).trans hx223_0
       replace p223 := eq_true p223; replace q223 := eq_true q223
       go_wp2
       go_roundg k1
       case measure => have := HK1.out; omega
       case rel => exact ⟨(ji3), (by first | rfl | (simp; done) | (simp only [← hji3] <;> (first | rfl | simp)) | (simp [*]; done)), H', ⟨by have := HK1.out; omega⟩, ⟨by repeat (first | (with_reducible first | exact HB.out | apply qca | apply qba | apply qda) | exact HB.out)⟩⟩
      ·rw [if_neg c6] at H
       have c6b0 : ((rd l0 (ji3)) == 0) = false := beq_eq_false_iff_ne.mpr c6
       have c6b1 : ((rd l0 (ji3)) != 0) = true := bne_iff_ne.mpr c6
       obtain ⟨y224, hy224⟩ : ∃ y_ : List Int, y_ = (([] : List Int)) := ⟨_, rfl⟩
       replace H : (if 0 ≤ x3_1 then (if x3_1 ≤ (l0.length : Int) then (if y224.length + (l0.take (x3_1 : Int).toNat).length < 17592186044416 then (some (y224 ++ (l0.take (x3_1 : Int).toNat))) else (none)) else (none)) else (none)) = some r := by first | (rw [hy224]; with_reducible exact H) | (have H2_ := (Option.bind_some _ _).symm.trans H; rw [hy224]; with_reducible exact H2_) | (have H2_ := (Option.bind_some _ _).symm.trans H; with_reducible exact H2_) | with_reducible exact H | (rw [hy224]; exact H) | exact H
       have Ny224 := Aside0.mk hy224
       clear hy224
       by_cases c7 : 0 ≤ x3_1
       ·rw [if_pos c7] at H
        have c7b0 := eq_true c7
        have c7b1 : decide (0 ≤ x3_1) = true := decide_eq_true c7
        clear c7
        by_cases c8 : x3_1 ≤ (l0.length : Int)
        ·rw [if_pos c8] at H
         have c8b0 := eq_true c8
         have c8b1 : decide (x3_1 ≤ (l0.length : Int)) = true := decide_eq_true c8
         clear c8
         by_cases c9 : y224.length + (l0.take (x3_1 : Int).toNat).length < 17592186044416
         ·rw [if_pos c9] at H
          have LMc9 := Aside0.mk c9
          clear c9
          obtain ⟨y228, hy228⟩ : ∃ y_ : List Int, y_ = (y224 ++ (l0.take (x3_1 : Int).toNat)) := ⟨_, rfl⟩
          replace H : (some y228) = some r := by first | (rw [hy228]; with_reducible exact H) | (have H2_ := (Option.bind_some _ _).symm.trans H; rw [hy228]; with_reducible exact H2_) | (have H2_ := (Option.bind_some _ _).symm.trans H; with_reducible exact H2_) | with_reducible exact H | (rw [hy228]; exact H) | exact H
          have Ny228 := Aside0.mk hy228
          clear hy228
          obtain rfl := Option.some.inj H
          have p223 : 0 ≤ ((ji3) : Int) := of_decide_eq_true (by first | (with_reducible assumption) | assumption)
          have q223 : (ji3) < (l0.length : Int) := of_decide_eq_true (by first | (with_reducible assumption) | assumption)
          obtain ⟨ad223, e223, hx223_0⟩ := Kd.at_int HR0.out (ji3) p223 q223
          cases e223
          replace hx223_0 := (HB.out.cell (World.block_lt_of_cell? w _ hx223_0)).trans hx223_0
          replace p223 := eq_true p223; replace q223 := eq_true q223
          go_wp2_with (first | ((with_reducible refine gate_dst (N := 18) rfl ?_); refine Kd.R_lit (Kd.int .u64) _ 22 ?hg (N := 18) ?hd (xs := ([] : List Int)) (inner := []) (ok := fun _ => True) (okp := fun _ => True) ?hr ?hp (fun _ hk => hk) trivial (Below.refl _ _) (Nat.le_refl _) (by simp) ?_; (case hd => rfl); (case hg => rfl); (case hr => first | (go_simp; done) | (go_simp; rfl)); (case hp => exact (Reps.none _ _)); intro v225 w10 ho11 hb hg_ hnew_; clear hg_ hnew_; (first | rw [← Ny224.out] at ho11 | (simp only [Int.reduceToNat] at ho11; rw [← Ny224.out] at ho11)); have n0_ := Aside0.mk (Kd.R_lower ho11 (qka (by with_reducible repeat first | exact HB.out | apply qca | apply qba | apply qda))); have n1_ := Aside0.mk (qla (by with_reducible repeat first | exact HB.out | apply qca | apply qba | apply qda) hb); clear HB; have HO226 := n0_; have HB := n1_; clear n0_ n1_; clear hb ho11; obtain ⟨i012, hi012, _, hsz12, _⟩ := info_parts info22; obtain ⟨hcut12, hA12, hC12⟩ := print_take_of (P := Try.prog) (Value.int .u64) 0 31 22 .i64 Try.underlying31 hi012 hsz12 (some ad223) c0 l0 x3_1 (of_decide_eq_true (by first | (with_reducible assumption) | assumption)) (of_decide_eq_true (by first | (with_reducible assumption) | assumption)) HC0.out; have HR227 := Aside0.mk (Kd.C_of_reads (h1 := fun _ => rfl) (hA12 _ (Kd.reads_of_C HR0.out))); have HC227 := Aside0.mk hC12; clear hA12 hC12 hi012 hsz12) | ((with_reducible refine gate_builtin (b := .append) (xs := #[.tmp 18, .tmp 21]) rfl ?_); at_builtin; refine Kd.R_append_rows (Kd.int .u64) (w0 := w) w.heap.size rfl (.tmp 18) (.tmp 21) 31 22 (.int .u64 0) 8 rfl Try.underlying31 info22 rfl (by decide) (by omega) v225 y224 (l0.take (x3_1 : Int).toNat) _ _ _ (fun _ => True) (fun _ => False) rfl rfl ?aO ?aR (fun _ _ h => h) (fun _ h => h.elim) ?aF ?aB ?aS ?aL ?_; (case aR => first | (have e_ := (show (l0.take (x3_1 : Int).toNat).length = x3_1.toNat from (by rw [List.length_take]; have h_ : (x3_1 : Int) ≤ (l0.length : Int) := of_decide_eq_true (by first | (with_reducible assumption) | assumption); omega)); have z_ := (Kd.C_below HR227.out HB.out); rw [e_] at z_; repeat (first | exact z_ | (with_reducible first | refine Kd.C_alloc ?_ _ | refine Kd.C_drewN ?_ _ | refine Kd.C_drew ?_))) | (rw [← show (l0.take (x3_1 : Int).toNat).length = x3_1.toNat from (by rw [List.length_take]; have h_ : (x3_1 : Int) ≤ (l0.length : Int) := of_decide_eq_true (by first | (with_reducible assumption) | assumption); omega)]; repeat (first | exact (Kd.C_below HR227.out HB.out) | (with_reducible first | refine Kd.C_alloc ?_ _ | refine Kd.C_drewN ?_ _ | refine Kd.C_drew ?_))) | (repeat (first | exact (Kd.C_below HR227.out HB.out) | (with_reducible first | refine Kd.C_alloc ?_ _ | refine Kd.C_drewN ?_ _ | refine Kd.C_drew ?_)))); (case aB => exact (by with_reducible repeat first | exact HB.out | apply qca | apply qba | apply qda)); (case aF => exact (fun _ _ => trivial)); (case aO => exact (by (with_reducible repeat first | apply Kd.qja | apply Kd.qia | apply Kd.R_drew); exact HO226.out)); (case aS => exact (qka (by with_reducible repeat first | exact HB.out | apply qca | apply qba | apply qda))); (case aL => have := LMc9.out; have hlx_ := (show (l0.take (x3_1 : Int).toNat).length = x3_1.toNat from (by rw [List.length_take]; have h_ : (x3_1 : Int) ≤ (l0.length : Int) := of_decide_eq_true (by first | (with_reducible assumption) | assumption); omega)); omega); intro v229 w13 ho hb hg hat; rw [← Ny228.out] at ho; have n0_ := Aside0.mk (hb); have n1_ := Aside0.mk (ho); clear HB; clear HO226; have HB := n0_; have HO230 := n1_; clear n0_ n1_; clear ho hb hg hat))
          go_ret
          exact ⟨_, by first | rfl | (simp [errW_none, errW_some] <;> rfl) | (simp only [← hji3]; first | rfl | (simp [errW_none, errW_some] <;> rfl)) | (simp [*, errW_none, errW_some] <;> rfl), by (with_reducible repeat first | apply Kd.qja | apply Kd.qia | apply Kd.R_drew); exact HO230.out, by repeat (first | (with_reducible first | exact HB.out | apply qca | apply qba | apply qda) | exact HB.out)⟩
         ·rw [if_neg c9] at H
          exact absurd H (by simp)
        ·rw [if_neg c8] at H
         exact absurd H (by simp)
       ·rw [if_neg c7] at H
        exact absurd H (by simp)
     ·rw [if_neg c5] at H
      exact absurd H (by simp)
    ·rw [if_neg c4] at H
     exact absurd H (by simp)
   ·rw [if_neg c2] at H
    have c2b0 : decide (0 < x3_1) = false := decide_eq_false c2
    clear c2
    obtain ⟨y231, hy231⟩ : ∃ y_ : List Int, y_ = (([] : List Int)) := ⟨_, rfl⟩
    replace H : (if 0 ≤ x3_1 then (if x3_1 ≤ (l0.length : Int) then (if y231.length + (l0.take (x3_1 : Int).toNat).length < 17592186044416 then (some (y231 ++ (l0.take (x3_1 : Int).toNat))) else (none)) else (none)) else (none)) = some r := by first | (rw [hy231]; with_reducible exact H) | (have H2_ := (Option.bind_some _ _).symm.trans H; rw [hy231]; with_reducible exact H2_) | (have H2_ := (Option.bind_some _ _).symm.trans H; with_reducible exact H2_) | with_reducible exact H | (rw [hy231]; exact H) | exact H
    have Ny231 := Aside0.mk hy231
    clear hy231
    by_cases c14 : 0 ≤ x3_1
    ·rw [if_pos c14] at H
     have c14b0 := eq_true c14
     have c14b1 : decide (0 ≤ x3_1) = true := decide_eq_true c14
     clear c14
     by_cases c15 : x3_1 ≤ (l0.length : Int)
     ·rw [if_pos c15] at H
      have c15b0 := eq_true c15
      have c15b1 : decide (x3_1 ≤ (l0.length : Int)) = true := decide_eq_true c15
      clear c15
      by_cases c16 : y231.length + (l0.take (x3_1 : Int).toNat).length < 17592186044416
      ·rw [if_pos c16] at H
       have LMc16 := Aside0.mk c16
       clear c16
       obtain ⟨y235, hy235⟩ : ∃ y_ : List Int, y_ = (y231 ++ (l0.take (x3_1 : Int).toNat)) := ⟨_, rfl⟩
       replace H : (some y235) = some r := by first | (rw [hy235]; with_reducible exact H) | (have H2_ := (Option.bind_some _ _).symm.trans H; rw [hy235]; with_reducible exact H2_) | (have H2_ := (Option.bind_some _ _).symm.trans H; with_reducible exact H2_) | with_reducible exact H | (rw [hy235]; exact H) | exact H
       have Ny235 := Aside0.mk hy235
       clear hy235
       obtain rfl := Option.some.inj H
       go_wp2_with (first | ((with_reducible refine gate_dst (N := 18) rfl ?_); refine Kd.R_lit (Kd.int .u64) _ 22 ?hg (N := 18) ?hd (xs := ([] : List Int)) (inner := []) (ok := fun _ => True) (okp := fun _ => True) ?hr ?hp (fun _ hk => hk) trivial (Below.refl _ _) (Nat.le_refl _) (by simp) ?_; (case hd => rfl); (case hg => rfl); (case hr => first | (go_simp; done) | (go_simp; rfl)); (case hp => exact (Reps.none _ _)); intro v232 w17 ho18 hb hg_ hnew_; clear hg_ hnew_; (first | rw [← Ny231.out] at ho18 | (simp only [Int.reduceToNat] at ho18; rw [← Ny231.out] at ho18)); have n0_ := Aside0.mk (Kd.R_lower ho18 (qka (by with_reducible repeat first | exact HB.out | apply qca | apply qba | apply qda))); have n1_ := Aside0.mk (qla (by with_reducible repeat first | exact HB.out | apply qca | apply qba | apply qda) hb); clear HB; have HO233 := n0_; have HB := n1_; clear n0_ n1_; clear hb ho18; obtain ⟨i019, hi019, _, hsz19, _⟩ := info_parts info22; obtain ⟨hcut19, hA19, hC19⟩ := print_take_of (P := Try.prog) (Value.int .u64) 0 31 22 .i64 Try.underlying31 hi019 hsz19 A0 c0 l0 x3_1 (of_decide_eq_true (by first | (with_reducible assumption) | assumption)) (of_decide_eq_true (by first | (with_reducible assumption) | assumption)) HC0.out; have HR234 := Aside0.mk (Kd.C_of_reads (h1 := fun _ => rfl) (hA19 _ (Kd.reads_of_C HR0.out))); have HC234 := Aside0.mk hC19; clear hA19 hC19 hi019 hsz19) | ((with_reducible refine gate_builtin (b := .append) (xs := #[.tmp 18, .tmp 21]) rfl ?_); at_builtin; refine Kd.R_append_rows (Kd.int .u64) (w0 := w) w.heap.size rfl (.tmp 18) (.tmp 21) 31 22 (.int .u64 0) 8 rfl Try.underlying31 info22 rfl (by decide) (by omega) v232 y231 (l0.take (x3_1 : Int).toNat) _ _ _ (fun _ => True) (fun _ => False) rfl rfl ?aO ?aR (fun _ _ h => h) (fun _ h => h.elim) ?aF ?aB ?aS ?aL ?_; (case aR => first | (have e_ := (show (l0.take (x3_1 : Int).toNat).length = x3_1.toNat from (by rw [List.length_take]; have h_ : (x3_1 : Int) ≤ (l0.length : Int) := of_decide_eq_true (by first | (with_reducible assumption) | assumption); omega)); have z_ := (Kd.C_below HR234.out HB.out); rw [e_] at z_; repeat (first | exact z_ | (with_reducible first | refine Kd.C_alloc ?_ _ | refine Kd.C_drewN ?_ _ | refine Kd.C_drew ?_))) | (rw [← show (l0.take (x3_1 : Int).toNat).length = x3_1.toNat from (by rw [List.length_take]; have h_ : (x3_1 : Int) ≤ (l0.length : Int) := of_decide_eq_true (by first | (with_reducible assumption) | assumption); omega)]; repeat (first | exact (Kd.C_below HR234.out HB.out) | (with_reducible first | refine Kd.C_alloc ?_ _ | refine Kd.C_drewN ?_ _ | refine Kd.C_drew ?_))) | (repeat (first | exact (Kd.C_below HR234.out HB.out) | (with_reducible first | refine Kd.C_alloc ?_ _ | refine Kd.C_drewN ?_ _ | refine Kd.C_drew ?_)))); (case aB => exact (by with_reducible repeat first | exact HB.out | apply qca | apply qba | apply qda)); (case aF => exact (fun _ _ => trivial)); (case aO => exact (by (with_reducible repeat first | apply Kd.qja | apply Kd.qia | apply Kd.R_drew); exact HO233.out)); (case aS => exact (qka (by with_reducible repeat first | exact HB.out | apply qca | apply qba | apply qda))); (case aL => have := LMc16.out; have hlx_ := (show (l0.take (x3_1 : Int).toNat).length = x3_1.toNat from (by rw [List.length_take]; have h_ : (x3_1 : Int) ≤ (l0.length : Int) := of_decide_eq_true (by first | (with_reducible assumption) | assumption); omega)); omega); intro v236 w20 ho hb hg hat; rw [← Ny235.out] at ho; have n0_ := Aside0.mk (hb); have n1_ := Aside0.mk (ho); clear HB; clear HO233; have HB := n0_; have HO237 := n1_; clear n0_ n1_; clear ho hb hg hat))
       go_ret
       exact ⟨_, by first | rfl | (simp [errW_none, errW_some] <;> rfl) | (simp [*, errW_none, errW_some] <;> rfl), by (with_reducible repeat first | apply Kd.qja | apply Kd.qia | apply Kd.R_drew); exact HO237.out, by repeat (first | (with_reducible first | exact HB.out | apply qca | apply qba | apply qda) | exact HB.out)⟩
      ·rw [if_neg c16] at H
       exact absurd H (by simp)
     ·rw [if_neg c15] at H
      exact absurd H (by simp)
    ·rw [if_neg c14] at H
     exact absurd H (by simp)
def juntoref01_Add.f (a0 : Int) (a1 : Int) (a2 : Int) : Option (Int) := if a0 = 0 then (none) else (some (Int.tmod (IntKind.u64.wrap (a1 + a2)) a0))
theorem juntoref01_Add.calls (a0 : Int) (a1 : Int) (a2 : Int) (r : Int) (w : World) (h : juntoref01_Add.f a0 a1 a2 = some r) :
  Calls Try.prog 113 #[.int .u64 a0, .int .u64 a1, .int .u64 a2] w fun e w' => e = .returned (.int .u64 r) ∧ Drawn0 w w' := by
 have H : (if a0 = 0 then (none) else (some (Int.tmod (IntKind.u64.wrap (a1 + a2)) a0))) = some r := h
 clear h
 by_cases c4 : a0 = 0
 ·rw [if_pos c4] at H
  exact absurd H (by simp)
 ·rw [if_neg c4] at H
  have c4b0 : (a0 == 0) = false := beq_eq_false_iff_ne.mpr c4
  have c4b1 : (a0 != 0) = true := bne_iff_ne.mpr c4
  obtain rfl := Option.some.inj H
  go_enter Try.func113, Try.ntmps113
  go_wp2
  go_ret
  exact ⟨by first | rfl | (simp; done) | (simp [*]; done), by repeat (first | exact Drawn0.refl _ | apply Drawn0.step)⟩
def juntoref02_at.f (l0 : List Int) (a1 : Int) : Option (Int) := if a1 < (l0.length : Int) then (if 0 ≤ a1 then (some (rd l0 a1)) else (none)) else (some 0)
theorem juntoref02_at.calls (A0 : Option Addr) (c0 : Nat) (l0 : List Int) (a1 : Int) (r : Int) (w : World) (hr0 : Kd.C (Kd.int .u64) w A0 l0.length l0) (hc0 : l0.length ≤ c0) (h : juntoref02_at.f l0 a1 = some r) :
  Calls Try.prog 133 #[.slice A0 l0.length c0, .int .i64 a1] w fun e w' => e = .returned (.int .u64 r) ∧ Drawn0 w w' := by
 have HR0 := Aside0.mk hr0
 have HC0 := Aside0.mk hc0
 clear hr0 hc0
 have H : (if a1 < (l0.length : Int) then (if 0 ≤ a1 then (some (rd l0 a1)) else (none)) else (some 0)) = some r := h
 clear h
 by_cases c3 : a1 < (l0.length : Int)
 ·rw [if_pos c3] at H
  have c3b0 : decide (a1 < (l0.length : Int)) = true := decide_eq_true c3
  clear c3
  by_cases c4 : 0 ≤ a1
  ·rw [if_pos c4] at H
   have c4b0 : decide (0 ≤ a1) = true := decide_eq_true c4
   clear c4
   obtain rfl := Option.some.inj H
   have p308 : 0 ≤ (a1 : Int) := of_decide_eq_true (by first | (with_reducible assumption) | assumption)
   have q308 : a1 < (l0.length : Int) := of_decide_eq_true (by first | (with_reducible assumption) | assumption)
   obtain ⟨ad308, e308, hx308_0⟩ := Kd.at_int HR0.out a1 p308 q308
   cases e308
   replace p308 := eq_true p308; replace q308 := eq_true q308
   go_enter Try.func133, Try.ntmps133
   go_wp2
   go_ret
   exact ⟨by first | rfl | (simp; done) | (simp [*]; done), by repeat (first | exact Drawn0.refl _ | apply Drawn0.step)⟩
  ·rw [if_neg c4] at H
   exact absurd H (by simp)
 ·rw [if_neg c3] at H
  have c3b0 : decide (a1 < (l0.length : Int)) = false := decide_eq_false c3
  clear c3
  obtain rfl := Option.some.inj H
  go_enter Try.func133, Try.ntmps133
  go_wp2
  go_ret
  exact ⟨by first | rfl | (simp; done) | (simp [*]; done), by repeat (first | exact Drawn0.refl _ | apply Drawn0.step)⟩
def qxa.l0 : Nat → Int → List Int → List Int → List Int → Int → Int → Option (List Int)
 | 0, _, _, _, _, _, _ => none
 | k + 1, x0, x1, x2, x7, x16, x17 => if x17 < x16 then ((juntoref02_at.f x1 x17).bind fun t312 => ((juntoref02_at.f x2 x17).bind fun t313 => ((juntoref01_Add.f x0 t312 t313).bind fun t314 => (if 0 ≤ x17 then (if x17 < (x7.length : Int) then (qxa.l0 k x0 x1 x2 (x7.set (x17 : Int).toNat t314) x16 (wrap64 (x17 + 1))) else (none)) else (none))))) else ((qib.f k x7).bind fun t316 => (some t316))
def qxa.f (k : Nat) (a0 : Int) (l1 : List Int) (l2 : List Int) : Option (List Int) := if 0 ≤ (mx (l1.length : Int) (l2.length : Int)) then (if (mx (l1.length : Int) (l2.length : Int) : Int).toNat ≤ 35184372088832 then ((some (List.replicate (mx (l1.length : Int) (l2.length : Int) : Int).toNat 0 : List Int)).bind fun y309 => (qxa.l0 k a0 l1 l2 y309 (y309.length : Int) 0)) else (none)) else (none)
theorem qxa.calls (k : Nat) (a0 : Int) (A1 : Option Addr) (c1 : Nat) (l1 : List Int) (A2 : Option Addr) (c2 : Nat) (l2 : List Int) (r : List Int) (w : World) (hr1 : Kd.C (Kd.int .u64) w A1 l1.length l1) (hc1 : l1.length ≤ c1) (hr2 : Kd.C (Kd.int .u64) w A2 l2.length l2) (hc2 : l2.length ≤ c2) (h : qxa.f k a0 l1 l2 = some r) :
  Calls Try.prog 55 #[.int .u64 a0, .slice A1 l1.length c1, .slice A2 l2.length c2] w fun e w' => ∃ v0_ : Value, e = .returned (v0_) ∧ Kd.R (Kd.int .u64) 22 w' w.heap.size (fun _ => True) v0_ r ∧ Below w.heap.size w w' := by
 have HR1 := Aside0.mk hr1
 have HC1 := Aside0.mk hc1
 clear hr1 hc1
 have HR2 := Aside0.mk hr2
 have HC2 := Aside0.mk hc2
 clear hr2 hc2
 have HB := Aside0.mk (Below.refl w.heap.size w)
 have H : (if 0 ≤ (mx (l1.length : Int) (l2.length : Int)) then (if (mx (l1.length : Int) (l2.length : Int) : Int).toNat ≤ 35184372088832 then ((some (List.replicate (mx (l1.length : Int) (l2.length : Int) : Int).toNat 0 : List Int)).bind fun y309 => (qxa.l0 k a0 l1 l2 y309 (y309.length : Int) 0)) else (none)) else (none)) = some r := h
 clear h
 obtain ⟨ji4, hji4⟩ : ∃ j_ : Int, (mx (l1.length : Int) (l2.length : Int)) = j_ := ⟨_, rfl⟩
 replace H : (if 0 ≤ (ji4) then (if (ji4 : Int).toNat ≤ 35184372088832 then ((some (List.replicate (ji4 : Int).toNat 0 : List Int)).bind fun y309 => (qxa.l0 k a0 l1 l2 y309 (y309.length : Int) 0)) else (none)) else (none)) = some r := by first | (rw [hji4] at H; exact H) | (simp only [hji4] at H ⊢; exact H)
 (try (have hji4l : 0 ≤ ji4 := by (rw [← hji4]; unfold mx; (repeat' split) <;> omega)))
 (try (have hji4m : 0 ≤ ji4 := by omega))
 have hji4_ : (if (l1.length : Int) < (l2.length : Int) then (l2.length : Int) else (l1.length : Int)) = ji4 := hji4
 have hji4n : (if l1.length < l2.length then (l2.length : Int) else (l1.length : Int)) = ji4 := by rw [← hji4_]; simp only [Int.ofNat_lt]
 clear hji4_
 by_cases c5 : 0 ≤ (ji4)
 ·rw [if_pos c5] at H
  have c5b0 := eq_true c5
  have c5b1 : decide (0 ≤ (ji4)) = true := decide_eq_true c5
  clear c5
  by_cases c6 : (ji4 : Int).toNat ≤ 35184372088832
  ·rw [if_pos c6] at H
   have c6b0 := eq_true c6
   have c6b1 : decide ((ji4 : Int).toNat ≤ 35184372088832) = true := decide_eq_true c6
   clear c6
   obtain ⟨y309, hy309⟩ : ∃ y_ : List Int, y_ = (List.replicate (ji4 : Int).toNat 0) := ⟨_, rfl⟩
   replace H : (qxa.l0 k a0 l1 l2 y309 (y309.length : Int) 0) = some r := by first | (rw [hy309]; with_reducible exact H) | (have H2_ := (Option.bind_some _ _).symm.trans H; rw [hy309]; with_reducible exact H2_) | (have H2_ := (Option.bind_some _ _).symm.trans H; with_reducible exact H2_) | with_reducible exact H | (rw [hy309]; exact H) | exact H
   have Ny309 := Aside0.mk hy309
   clear hy309
   have H' := Aside0.mk H
   clear H
   go_enter Try.func55, Try.ntmps55
   go_wp2_with (first | ((with_reducible refine gate_dst (N := 14) rfl ?_); refine Kd.R_make (Kd.int .u64) _ 22 rfl (N := 14) rfl 31 _ _ rfl ji4 rfl rfl Try.underlying31 (.int .u64 0) 8 info22 rfl (by decide) (by omega) 0 (ok := fun _ => True) (okp := fun _ => True) rfl (fun _ hk => hk) trivial (of_decide_eq_true (by first | (with_reducible assumption) | assumption)) (Nat.le_trans (Nat.mul_le_mul_right _ (of_decide_eq_true (by first | (with_reducible assumption) | assumption) : ji4.toNat ≤ 35184372088832)) (by omega)) (Below.refl _ _) (Nat.le_refl _) ?_; intro v310 w7 ho8 hb hg_ hnew_; clear hg_ hnew_; (first | rw [← Ny309.out] at ho8 | (simp only [Int.reduceToNat] at ho8; rw [← Ny309.out] at ho8)); have n0_ := Aside0.mk (Kd.R_lower ho8 (qka (by with_reducible repeat first | exact HB.out | apply qca | apply qba | apply qda))); have n1_ := Aside0.mk (qla (by with_reducible repeat first | exact HB.out | apply qca | apply qba | apply qda) hb); clear HB; have HO311 := n0_; have HB := n1_; clear n0_ n1_; clear hb ho8; obtain ⟨Ao9, co9, eo9⟩ := Kd.R_slice HO311.out; subst eo9))
   go_loopg [17] k (fun kq v17 w' => ∃ (x7_1 : List Int) (x17_1 : Int), v17 = .int .i64 x17_1 ∧ Aside0 (qxa.l0 kq a0 l1 l2 x7_1 (y309.length : Int) x17_1 = some r) ∧ Aside0 (kq ≤ k) ∧ Aside0 (Kd.R (Kd.int .u64) 22 w' w.heap.size (fun _ => True) (.slice Ao9 y309.length co9) x7_1) ∧ Aside0 (Below w.heap.size w w'))
   case atStart => exact ⟨(y309), (0), (by first | rfl | (simp; done) | (simp [*]; done)), H', ⟨Nat.le_refl _⟩, ⟨by (with_reducible repeat first | apply Kd.qja | apply Kd.qia | apply Kd.R_drew); exact HO311.out⟩, ⟨by repeat (first | (with_reducible first | exact HB.out | apply qca | apply qba | apply qda) | exact HB.out)⟩⟩
   case round =>
    clear H'; (try clear c1); (try clear c2); (try clear p2); (try clear c5); (try clear c5b0); (try clear c5b1); (try clear c6); (try clear c6b0); (try clear c6b1)
    obtain ⟨x7_1, x17_1, rfl, HA, HK1, HO_7, HB⟩ := hrel
    have hl7_1 := (Kd.R_reads' HO_7.out).1
    rw [hl7_1] at HO_7
    (try simp only [hl7_1])
    cases gk with
    | zero => exact absurd HA.out (by simp [qxa.l0])
    | succ k1 =>
     have H := HA.out
     clear HA
     simp only [qxa.l0] at H
     by_cases c10 : x17_1 < (y309.length : Int)
     ·rw [if_pos c10] at H
      have c10b0 : decide (x17_1 < (y309.length : Int)) = true := decide_eq_true c10
      first | (have c10b9 : decide (x17_1 < (x7_1.length : Int)) = true := by rw [← hl7_1]; exact c10b0) | skip
      clear c10
      replace H := Option.bind_eq_some_iff.mp H
      obtain ⟨t312, A110, H⟩ := H
      try dsimp only at H
      have A11 := Aside0.mk A110
      clear A110
      replace H := Option.bind_eq_some_iff.mp H
      obtain ⟨t313, A120, H⟩ := H
      try dsimp only at H
      have A12 := Aside0.mk A120
      clear A120
      replace H := Option.bind_eq_some_iff.mp H
      obtain ⟨t314, A130, H⟩ := H
      try dsimp only at H
      have A13 := Aside0.mk A130
      clear A130
      by_cases c14 : 0 ≤ x17_1
      ·rw [if_pos c14] at H
       have c14b0 : decide (0 ≤ x17_1) = true := decide_eq_true c14
       clear c14
       by_cases c15 : x17_1 < (x7_1.length : Int)
       ·rw [if_pos c15] at H
        have c15b0 : decide (x17_1 < (x7_1.length : Int)) = true := decide_eq_true c15
        first | (have c15b9 : decide (x17_1 < (x7_1.length : Int)) = true := by rw [← hl7_1]; exact c15b0) | skip
        clear c15
        obtain ⟨y315, hy315⟩ : ∃ y_ : List Int, y_ = (x7_1.set (x17_1 : Int).toNat t314) := ⟨_, rfl⟩
        replace H : (qxa.l0 k1 a0 l1 l2 y315 (y309.length : Int) (wrap64 (x17_1 + 1))) = some r := by first | (rw [hy315]; with_reducible exact H) | (have H2_ := (Option.bind_some _ _).symm.trans H; rw [hy315]; with_reducible exact H2_) | (have H2_ := (Option.bind_some _ _).symm.trans H; with_reducible exact H2_) | with_reducible exact H | (rw [hy315]; exact H) | exact H
        have Ny315 := Aside0.mk hy315
        clear hy315
        have H' := Aside0.mk H
        clear H
        go_wp2_with (first | ((with_reducible refine qoa (f := 133) rfl ?_); refine goesL_ (some 25) rfl rfl Try.func133 (by kernel_rfl) rfl #[.slice A1 l1.length c1, .int .i64 x17_1] rfl (by (try simp only [qM1, qM2, qM3]); first | done | rfl) ?_; (with_reducible refine (juntoref02_at.calls _ _ l1 x17_1 t312 _ ?side1 ?side2 A11.out).mono ?_); (case side1 => repeat (first | exact (Kd.C_below HR1.out HB.out) | (with_reducible first | refine Kd.C_alloc ?_ _ | refine Kd.C_drewN ?_ _ | refine Kd.C_drew ?_))); (case side2 => exact HC1.out); rintro e w' ⟨rfl, ⟨nd, rfl⟩⟩; refine ⟨_, rfl, ?_⟩; (try (rw [drewN_self wr]; generalize hq_ : World.drewN wr _ = wr; have n0_ : Aside0 (Kd.R (Kd.int .u64) 22 wr w.heap.size (fun _ => True) (.slice Ao9 x7_1.length co9) x7_1) := ⟨by rw [← hq_]; exact (by (with_reducible repeat first | apply Kd.qja | apply Kd.qia | apply Kd.R_drew); exact HO_7.out)⟩; have n1_ : Aside0 (Below w.heap.size w wr) := ⟨by rw [← hq_]; exact (by with_reducible repeat first | exact HB.out | apply qca | apply qba | apply qda)⟩; clear HO_7 HB hq_; have HO_7 := n0_; have HB := n1_; clear n0_ n1_))) | ((with_reducible refine qoa (f := 133) rfl ?_); refine goesL_ (some 28) rfl rfl Try.func133 (by kernel_rfl) rfl #[.slice A2 l2.length c2, .int .i64 x17_1] rfl (by (try simp only [qM1, qM2, qM3]); first | done | rfl) ?_; (with_reducible refine (juntoref02_at.calls _ _ l2 x17_1 t313 _ ?side1 ?side2 A12.out).mono ?_); (case side1 => repeat (first | exact (Kd.C_below HR2.out HB.out) | (with_reducible first | refine Kd.C_alloc ?_ _ | refine Kd.C_drewN ?_ _ | refine Kd.C_drew ?_))); (case side2 => exact HC2.out); rintro e w' ⟨rfl, ⟨nd, rfl⟩⟩; refine ⟨_, rfl, ?_⟩; (try (rw [drewN_self wr]; generalize hq_ : World.drewN wr _ = wr; have n0_ : Aside0 (Kd.R (Kd.int .u64) 22 wr w.heap.size (fun _ => True) (.slice Ao9 x7_1.length co9) x7_1) := ⟨by rw [← hq_]; exact (by (with_reducible repeat first | apply Kd.qja | apply Kd.qia | apply Kd.R_drew); exact HO_7.out)⟩; have n1_ : Aside0 (Below w.heap.size w wr) := ⟨by rw [← hq_]; exact (by with_reducible repeat first | exact HB.out | apply qca | apply qba | apply qda)⟩; clear HO_7 HB hq_; have HO_7 := n0_; have HB := n1_; clear n0_ n1_))) | ((with_reducible refine qoa (f := 113) rfl ?_); refine goesL_ (some 29) rfl rfl Try.func113 (by kernel_rfl) rfl #[.int .u64 a0, .int .u64 t312, .int .u64 t313] rfl (by (try simp only [qM1, qM2, qM3]); first | done | rfl) ?_; (with_reducible refine (juntoref01_Add.calls a0 t312 t313 t314 _ A13.out).mono ?_); rintro e w' ⟨rfl, ⟨nd, rfl⟩⟩; refine ⟨_, rfl, ?_⟩; (try (rw [drewN_self wr]; generalize hq_ : World.drewN wr _ = wr; have n0_ : Aside0 (Kd.R (Kd.int .u64) 22 wr w.heap.size (fun _ => True) (.slice Ao9 x7_1.length co9) x7_1) := ⟨by rw [← hq_]; exact (by (with_reducible repeat first | apply Kd.qja | apply Kd.qia | apply Kd.R_drew); exact HO_7.out)⟩; have n1_ : Aside0 (Below w.heap.size w wr) := ⟨by rw [← hq_]; exact (by with_reducible repeat first | exact HB.out | apply qca | apply qba | apply qda)⟩; clear HO_7 HB hq_; have HO_7 := n0_; have HB := n1_; clear n0_ n1_)); have p16 : 0 ≤ (x17_1 : Int) := of_decide_eq_true (by first | (with_reducible assumption) | assumption); have q16 : (x17_1 : Int) < ((x7_1.length : Int) : Int) := of_decide_eq_true (by first | (with_reducible assumption) | assumption); obtain ⟨go16, co16, eo16, gb16, gl16, cl16, HG16⟩ := Kd.R_form HO_7.out (by omega); (first | cases eo16 | (injection eo16 with ea_ en_ ec_; (first | subst ea_ | (injection ea_ with ea_; subst ea_)); subst ec_; clear en_)); have GB16 := Aside0.mk gb16; have GG16 := Aside0.mk HG16; clear gb16 gl16 HG16; obtain ⟨hx16_0, hf16_0⟩ := Kd.R_celln 0 HO_7.out (x17_1 : Int) p16 q16; replace p16 := eq_true p16; replace q16 := eq_true q16; obtain ⟨hy17_, hz17_⟩ := Kd.R_celln 0 HO_7.out (x17_1 : Int) (of_decide_eq_true (by first | (with_reducible assumption) | assumption)) (of_decide_eq_true (by first | (with_reducible assumption) | assumption)); have HP17 := Kd.R_putg HO_7.out (x17_1 : Int) t314) | ((with_reducible refine gate_store (t := 22) (p := 30) rfl ?_); refine store_event (t := 22) (p := 30) (v := ?vo_w18) (w1 := (wr.setCell ⟨go16, (x17_1 : Int).toNat, none⟩ (.int .u64 t314))) ?hg ?ho ?hn ?hr ?_; (case ho => rfl); (case hg => rfl); (case hn => rfl); (case hr => first | (go_simp; done) | (go_simp; rfl)); intro w18 hw; have hg : wr.grownBy w18 (some go16) := (by rw [hw]; exact HP17.2); have hp_ : Kd.R (Kd.int .u64) 22 w18 w.heap.size (fun _ => True) (.slice (some ⟨go16, 0, none⟩) x7_1.length co9) y315 := (by rw [hw, Ny315.out]; exact HP17.1); clear HP17; have n0_ := Aside0.mk (hp_); have n1_ := Aside0.mk ((by rw [hw]; exact qha (HB.out) GB16.out : Below w.heap.size w w18)); clear HO_7; clear HB; have HO_7 := n0_; have HB := n1_; clear n0_ n1_; clear hg hw hp_))
        (try simp only [← hl7_1])
        go_roundg k1
        case measure => have := HK1.out; omega
        case rel => exact ⟨(y315), (wrap64 (x17_1 + 1)), (by first | rfl | (simp; done) | (simp [*]; done)), H', ⟨by have := HK1.out; omega⟩, ⟨by (try simp only [hl7_1]); (with_reducible repeat first | apply Kd.qja | apply Kd.qia | apply Kd.R_drew); exact HO_7.out⟩, ⟨by repeat (first | (with_reducible first | exact HB.out | apply qca | apply qba | apply qda) | exact HB.out)⟩⟩
       ·rw [if_neg c15] at H
        exact absurd H (by simp)
      ·rw [if_neg c14] at H
       exact absurd H (by simp)
     ·rw [if_neg c10] at H
      have c10b0 : decide (x17_1 < (y309.length : Int)) = false := decide_eq_false c10
      first | (have c10b9 : decide (x17_1 < (x7_1.length : Int)) = false := by rw [← hl7_1]; exact c10b0) | skip
      clear c10
      replace H := Option.bind_eq_some_iff.mp H
      obtain ⟨t316, A190, H⟩ := H
      try dsimp only at H
      have A19 := Aside0.mk A190
      clear A190
      obtain rfl := Option.some.inj H
      go_wp2_with (first | ((with_reducible refine qoa (f := 60) rfl ?_); refine goesL_ (some 33) rfl rfl Try.func60 (by kernel_rfl) rfl #[.slice Ao9 x7_1.length co9] rfl (by (try simp only [qM1, qM2, qM3]); first | done | rfl) ?_; (with_reducible refine (qib.calls k1 _ _ x7_1 t316 _ ?side1 ?side2 A19.out).mono ?_); (case side1 => repeat (first | exact (Kd.R_reads' HO_7.out).2.2 | (with_reducible first | refine Kd.C_alloc ?_ _ | refine Kd.C_drewN ?_ _ | refine Kd.C_drew ?_))); (case side2 => exact (Kd.R_reads' HO_7.out).2.1); rintro e w20 ⟨v317, rfl, ho0, hb⟩; refine ⟨_, rfl, ?_⟩; have n0_ := Aside0.mk (Kd.R_elder' (by (with_reducible repeat first | apply Kd.qja | apply Kd.qia | apply Kd.R_drew); exact HO_7.out) (Kd.R_base ho0) hb); have n1_ := Aside0.mk (Kd.R_lower (Kd.R_new' ho0 (Kd.R_lt (by (with_reducible repeat first | apply Kd.qja | apply Kd.qia | apply Kd.R_drew); exact HO_7.out))) (qka (by with_reducible repeat first | exact HB.out | apply qca | apply qba | apply qda))); have n2_ := Aside0.mk (qla (by with_reducible repeat first | exact HB.out | apply qca | apply qba | apply qda) hb); clear HO_7; clear HB; have HO_7 := n0_; have HO318 := n1_; have HB := n2_; clear n0_ n1_ n2_; (try clear hb); (try clear hb2); (try clear hk); (try clear hi); (try clear ho0)))
      go_ret
      exact ⟨_, by first | rfl | (simp [errW_none, errW_some] <;> rfl) | (simp only [← hji4]; first | rfl | (simp [errW_none, errW_some] <;> rfl)) | (simp [*, errW_none, errW_some] <;> rfl), by (with_reducible repeat first | apply Kd.qja | apply Kd.qia | apply Kd.R_drew); exact Kd.R_mono HO318.out (fun _ hk => trivial), by repeat (first | (with_reducible first | exact HB.out | apply qca | apply qba | apply qda) | exact HB.out)⟩
  ·rw [if_neg c6] at H
   exact absurd H (by simp)
 ·rw [if_neg c5] at H
  exact absurd H (by simp)
def qpb.f (a0 : Int) (a1 : Int) (a2 : Int) : Option (Int) := if a0 = 0 then (none) else (some (Int.tmod (IntKind.u64.wrap (a1 * a2)) a0))
theorem qpb.calls (a0 : Int) (a1 : Int) (a2 : Int) (r : Int) (w : World) (h : qpb.f a0 a1 a2 = some r) :
  Calls Try.prog 59 #[.int .u64 a0, .int .u64 a1, .int .u64 a2] w fun e w' => e = .returned (.int .u64 r) ∧ Drawn0 w w' := by
 have H : (if a0 = 0 then (none) else (some (Int.tmod (IntKind.u64.wrap (a1 * a2)) a0))) = some r := h
 clear h
 by_cases c4 : a0 = 0
 ·rw [if_pos c4] at H
  exact absurd H (by simp)
 ·rw [if_neg c4] at H
  have c4b0 : (a0 == 0) = false := beq_eq_false_iff_ne.mpr c4
  have c4b1 : (a0 != 0) = true := bne_iff_ne.mpr c4
  obtain rfl := Option.some.inj H
  go_enter Try.func59, Try.ntmps59
  go_wp2
  go_ret
  exact ⟨by first | rfl | (simp; done) | (simp [*]; done), by repeat (first | exact Drawn0.refl _ | apply Drawn0.step)⟩
def qkb.l0 : Nat → Int → Int → Int → Int → List Int → Int → Int → Option (Int)
 | 0, _, _, _, _, _, _, _ => none
 | k + 1, x0, x2, x7, x8, x11, x12, x13 => if x13 < x12 then (if 0 ≤ x13 then (if x13 < (x11.length : Int) then ((qpb.f x0 (rd x11 x13) x8).bind fun t331 => ((juntoref01_Add.f x0 x7 t331).bind fun t332 => ((qpb.f x0 x8 x2).bind fun t333 => (qkb.l0 k x0 x2 t332 t333 x11 x12 (wrap64 (x13 + 1)))))) else (none)) else (none)) else (some x7)
def qkb.f (k : Nat) (a0 : Int) (l1 : List Int) (a2 : Int) : Option (Int) := qkb.l0 k a0 a2 0 1 l1 (l1.length : Int) 0
theorem qkb.calls (k : Nat) (a0 : Int) (A1 : Option Addr) (c1 : Nat) (l1 : List Int) (a2 : Int) (r : Int) (w : World) (hr1 : Kd.C (Kd.int .u64) w A1 l1.length l1) (hc1 : l1.length ≤ c1) (h : qkb.f k a0 l1 a2 = some r) :
  Calls Try.prog 58 #[.int .u64 a0, .slice A1 l1.length c1, .int .u64 a2] w fun e w' => e = .returned (.int .u64 r) ∧ Drawn0 w w' := by
 have HR1 := Aside0.mk hr1
 have HC1 := Aside0.mk hc1
 clear hr1 hc1
 have H : (qkb.l0 k a0 a2 0 1 l1 (l1.length : Int) 0) = some r := h
 clear h
 have H' := Aside0.mk H
 clear H
 go_enter Try.func58, Try.ntmps58
 go_wp2
 go_loopg [7, 8, 13] k (fun kq v7 v8 v13 w' => ∃ (x7_1 : Int) (x8_1 : Int) (x13_1 : Int), v7 = .int .u64 x7_1 ∧ v8 = .int .u64 x8_1 ∧ v13 = .int .i64 x13_1 ∧ Aside0 (qkb.l0 kq a0 a2 x7_1 x8_1 l1 (l1.length : Int) x13_1 = some r) ∧ Aside0 (kq ≤ k) ∧ Drawn0 w w')
 case atStart => exact ⟨(0), (1), (0), (by first | rfl | (simp; done) | (simp [*]; done)), (by first | rfl | (simp; done) | (simp [*]; done)), (by first | rfl | (simp; done) | (simp [*]; done)), H', ⟨Nat.le_refl _⟩, by repeat (first | exact Drawn0.refl _ | apply Drawn0.step)⟩
 case round =>
  clear H'; (try clear c1); (try clear p2)
  obtain ⟨x7_1, x8_1, x13_1, rfl, rfl, rfl, HA, HK1, ⟨m1, rfl⟩⟩ := hrel
  cases gk with
  | zero => exact absurd HA.out (by simp [qkb.l0])
  | succ k1 =>
   have H := HA.out
   clear HA
   simp only [qkb.l0] at H
   by_cases c4 : x13_1 < (l1.length : Int)
   ·rw [if_pos c4] at H
    have c4b0 : decide (x13_1 < (l1.length : Int)) = true := decide_eq_true c4
    clear c4
    by_cases c5 : 0 ≤ x13_1
    ·rw [if_pos c5] at H
     have c5b0 : decide (0 ≤ x13_1) = true := decide_eq_true c5
     clear c5
     by_cases c6 : x13_1 < (l1.length : Int)
     ·rw [if_pos c6] at H
      have c6b0 : decide (x13_1 < (l1.length : Int)) = true := decide_eq_true c6
      clear c6
      replace H := Option.bind_eq_some_iff.mp H
      obtain ⟨t331, A70, H⟩ := H
      try dsimp only at H
      have A7 := Aside0.mk A70
      clear A70
      replace H := Option.bind_eq_some_iff.mp H
      obtain ⟨t332, A80, H⟩ := H
      try dsimp only at H
      have A8 := Aside0.mk A80
      clear A80
      replace H := Option.bind_eq_some_iff.mp H
      obtain ⟨t333, A90, H⟩ := H
      try dsimp only at H
      have A9 := Aside0.mk A90
      clear A90
      have H' := Aside0.mk H
      clear H
      have p330 : 0 ≤ (x13_1 : Int) := of_decide_eq_true (by first | (with_reducible assumption) | assumption)
      have q330 : x13_1 < (l1.length : Int) := of_decide_eq_true (by first | (with_reducible assumption) | assumption)
      obtain ⟨ad330, e330, hx330_0⟩ := Kd.at_int HR1.out x13_1 p330 q330
      cases e330
      replace p330 := eq_true p330; replace q330 := eq_true q330
      go_wp2_with (first | ((with_reducible refine qoa (f := 59) rfl ?_); refine goesL_ (some 22) rfl rfl Try.func59 (by kernel_rfl) rfl #[.int .u64 a0, .int .u64 (rd l1 x13_1), .int .u64 x8_1] rfl (by (try simp only [qM1, qM2, qM3]); first | done | rfl) ?_; (with_reducible refine (qpb.calls a0 (rd l1 x13_1) x8_1 t331 _ A7.out).mono ?_); rintro e w' ⟨rfl, ⟨nd, rfl⟩⟩; refine ⟨_, rfl, ?_⟩) | ((with_reducible refine qoa (f := 113) rfl ?_); refine goesL_ (some 23) rfl rfl Try.func113 (by kernel_rfl) rfl #[.int .u64 a0, .int .u64 x7_1, .int .u64 t331] rfl (by (try simp only [qM1, qM2, qM3]); first | done | rfl) ?_; (with_reducible refine (juntoref01_Add.calls a0 x7_1 t331 t332 _ A8.out).mono ?_); rintro e w' ⟨rfl, ⟨nd, rfl⟩⟩; refine ⟨_, rfl, ?_⟩) | ((with_reducible refine qoa (f := 59) rfl ?_); refine goesL_ (some 27) rfl rfl Try.func59 (by kernel_rfl) rfl #[.int .u64 a0, .int .u64 x8_1, .int .u64 a2] rfl (by (try simp only [qM1, qM2, qM3]); first | done | rfl) ?_; (with_reducible refine (qpb.calls a0 x8_1 a2 t333 _ A9.out).mono ?_); rintro e w' ⟨rfl, ⟨nd, rfl⟩⟩; refine ⟨_, rfl, ?_⟩))
      go_roundg k1
      case measure => have := HK1.out; omega
      case rel => exact ⟨(t332), (t333), (wrap64 (x13_1 + 1)), (by first | rfl | (simp; done) | (simp [*]; done)), (by first | rfl | (simp; done) | (simp [*]; done)), (by first | rfl | (simp; done) | (simp [*]; done)), H', ⟨by have := HK1.out; omega⟩, by repeat (first | exact Drawn0.refl _ | apply Drawn0.step)⟩
     ·rw [if_neg c6] at H
      exact absurd H (by simp)
    ·rw [if_neg c5] at H
     exact absurd H (by simp)
   ·rw [if_neg c4] at H
    have c4b0 : decide (x13_1 < (l1.length : Int)) = false := decide_eq_false c4
    clear c4
    obtain rfl := Option.some.inj H
    go_wp2
    go_ret
    exact ⟨by first | rfl | (simp; done) | (simp [*]; done), by repeat (first | exact Drawn0.refl _ | apply Drawn0.step)⟩
theorem qkb.callsB (k : Nat) (a0 : Int) (A1 : Option Addr) (c1 : Nat) (l1 : List Int) (a2 : Int) (r : Int) (w : World) (hr1 : Kd.C (Kd.int .u64) w A1 l1.length l1) (hc1 : l1.length ≤ c1) (h : qkb.f k a0 l1 a2 = some r) :
  Calls Try.prog 58 #[.int .u64 a0, .slice A1 l1.length c1, .int .u64 a2] w fun e w' => e = .returned (.int .u64 r) ∧ Below w.heap.size w w' := (qkb.calls k a0 A1 c1 l1 a2 r w hr1 hc1 h).mono fun _ _ h_ => ⟨h_.1, h_.2.below⟩
mutual
def qra.l0 : Nat → Int → List Int → List Int → List Int → Int → Int → Option (List Int)
 | 0, _, _, _, _, _, _ => none
 | k + 1, x0, x1, x2, x7, x17, x18 => if x18 < x17 then (qra.l1 k x0 x1 x2 x7 x18 x17 x18 (x2.length : Int) 0) else ((qib.f k x7).bind fun t369 => (some t369))
def qra.l1 : Nat → Int → List Int → List Int → List Int → Int → Int → Int → Int → Int → Option (List Int)
 | 0, _, _, _, _, _, _, _, _, _ => none
 | k + 1, x0, x1, x2, x7, x8, x17, x18, x22, x23 => if x23 < x22 then (if 0 ≤ (wrap64 (x8 + x23)) then (if (wrap64 (x8 + x23)) < (x7.length : Int) then (if 0 ≤ x8 then (if x8 < (x1.length : Int) then (if 0 ≤ x23 then (if x23 < (x2.length : Int) then ((qpb.f x0 (rd x1 x8) (rd x2 x23)).bind fun t375 => ((juntoref01_Add.f x0 (rd x7 (wrap64 (x8 + x23))) t375).bind fun t376 => (qra.l1 k x0 x1 x2 (x7.set ((wrap64 (x8 + x23)) : Int).toNat t376) x8 x17 x18 x22 (wrap64 (x23 + 1))))) else (none)) else (none)) else (none)) else (none)) else (none)) else (none)) else (qra.l0 k x0 x1 x2 x7 x17 (wrap64 (x18 + 1)))
end
def qra.f (k : Nat) (a0 : Int) (l1 : List Int) (l2 : List Int) : Option (List Int) := if 0 ≤ (wrap64 ((l1.length : Int) + (l2.length : Int))) then (if (wrap64 ((l1.length : Int) + (l2.length : Int)) : Int).toNat ≤ 35184372088832 then (qra.l0 k a0 l1 l2 (List.replicate (wrap64 ((l1.length : Int) + (l2.length : Int)) : Int).toNat 0) (l1.length : Int) 0) else (none)) else (none)
def qra.T8 : Bool × List (List Nat × List Nat) := (true, [([], []), ([], []), ([], []), ([1, 2], [1, 2]), ([], []), ([], []), ([], []), ([], []), ([6, 7], [6, 7]), ([5, 8], [5, 8]), ([9], [9]), ([], []), ([], []), ([], []), ([12, 13], [12, 13]), ([14], [14]), ([], []), ([], []), ([16, 17], [16, 17]), ([18], [18]), ([11, 15, 19], [11, 15, 19]), ([4, 10, 20, 20], [4, 10, 20]), ([0, 3, 0, 1, 2, 3, 4, 5, 6, 7, 8, 9, 10, 11, 12, 13, 14, 15, 16, 17, 18, 19, 20, 21], [0, 3]), ([22, 21, 21, 0, 1, 2, 3, 4, 5, 6, 7, 8, 9, 10, 11, 12, 13, 14, 15, 16, 17, 18, 19, 20, 21], [21, 22])])
def qra.B8 : List Nat := [0, 0, 0, 6, 0, 0, 0, 0, 192, 480, 992, 0, 0, 0, 12288, 28672, 0, 0, 196608, 458752, 1046528, 2097136, 4194303, 8388607]
theorem qra.tab8 : rtab .any (opsOf Try.f56 8) = qra.T8 := by kernel_rfl
theorem qra.bits8 : waitsOk qra.T8.2 qra.B8 = true := by kernel_rfl
theorem qra.calls (k : Nat) (a0 : Int) (A1 : Option Addr) (c1 : Nat) (l1 : List Int) (A2 : Option Addr) (c2 : Nat) (l2 : List Int) (r : List Int) (w : World) (hr1 : Kd.C (Kd.int .u64) w A1 l1.length l1) (hc1 : l1.length ≤ c1) (hr2 : Kd.C (Kd.int .u64) w A2 l2.length l2) (hc2 : l2.length ≤ c2) (h : qra.f k a0 l1 l2 = some r) :
  Calls Try.prog 56 #[.int .u64 a0, .slice A1 l1.length c1, .slice A2 l2.length c2] w fun e w' => ∃ v0_ : Value, e = .returned (v0_) ∧ Kd.R (Kd.int .u64) 22 w' w.heap.size (fun _ => True) v0_ r ∧ Below w.heap.size w w' := by
 have HR1 := Aside0.mk hr1
 have HC1 := Aside0.mk hc1
 clear hr1 hc1
 have HR2 := Aside0.mk hr2
 have HC2 := Aside0.mk hc2
 clear hr2 hc2
 have HB := Aside0.mk (Below.refl w.heap.size w)
 have H : (if 0 ≤ (wrap64 ((l1.length : Int) + (l2.length : Int))) then (if (wrap64 ((l1.length : Int) + (l2.length : Int)) : Int).toNat ≤ 35184372088832 then (qra.l0 k a0 l1 l2 (List.replicate (wrap64 ((l1.length : Int) + (l2.length : Int)) : Int).toNat 0) (l1.length : Int) 0) else (none)) else (none)) = some r := h
 clear h
 obtain ⟨ji4, hji4⟩ : ∃ j_ : Int, (wrap64 ((l1.length : Int) + (l2.length : Int))) = j_ := ⟨_, rfl⟩
 replace H : (if 0 ≤ (ji4) then (if (ji4 : Int).toNat ≤ 35184372088832 then (qra.l0 k a0 l1 l2 (List.replicate (ji4 : Int).toNat 0) (l1.length : Int) 0) else (none)) else (none)) = some r := by first | (rw [hji4] at H; exact H) | (simp only [hji4] at H ⊢; exact H)
 have hji4w : (IntKind.i64.wrap ((l1.length : Int) + (l2.length : Int))) = ji4 := (i64_w _).trans hji4
 by_cases c5 : 0 ≤ (ji4)
 ·rw [if_pos c5] at H
  have c5b0 := eq_true c5
  have c5b1 : decide (0 ≤ (ji4)) = true := decide_eq_true c5
  clear c5
  by_cases c6 : (ji4 : Int).toNat ≤ 35184372088832
  ·rw [if_pos c6] at H
   have c6b0 := eq_true c6
   have c6b1 : decide ((ji4 : Int).toNat ≤ 35184372088832) = true := decide_eq_true c6
   clear c6
   obtain ⟨y366, hy366⟩ : ∃ y_ : List Int, y_ = (List.replicate (ji4 : Int).toNat 0) := ⟨_, rfl⟩
   replace H : (qra.l0 k a0 l1 l2 y366 (l1.length : Int) 0) = some r := by first | (rw [hy366]; with_reducible exact H) | (have H2_ := (Option.bind_some _ _).symm.trans H; rw [hy366]; with_reducible exact H2_) | (have H2_ := (Option.bind_some _ _).symm.trans H; with_reducible exact H2_) | with_reducible exact H | (rw [hy366]; exact H) | exact H
   have Ny366 := Aside0.mk hy366
   clear hy366
   have H' := Aside0.mk H
   clear H
   go_enter Try.func56, Try.ntmps56
   go_wp2_with (first | ((with_reducible refine gate_dst (N := 15) rfl ?_); refine Kd.R_make (Kd.int .u64) _ 22 rfl (N := 15) rfl 31 _ _ rfl ji4 rfl rfl Try.underlying31 (.int .u64 0) 8 info22 rfl (by decide) (by omega) 0 (ok := fun _ => True) (okp := fun _ => True) rfl (fun _ hk => hk) trivial (of_decide_eq_true (by first | (with_reducible assumption) | assumption)) (Nat.le_trans (Nat.mul_le_mul_right _ (of_decide_eq_true (by first | (with_reducible assumption) | assumption) : ji4.toNat ≤ 35184372088832)) (by omega)) (Below.refl _ _) (Nat.le_refl _) ?_; intro v367 w7 ho8 hb hg_ hnew_; clear hg_ hnew_; (first | rw [← Ny366.out] at ho8 | (simp only [Int.reduceToNat] at ho8; rw [← Ny366.out] at ho8)); have n0_ := Aside0.mk (Kd.R_lower ho8 (qka (by with_reducible repeat first | exact HB.out | apply qca | apply qba | apply qda))); have n1_ := Aside0.mk (qla (by with_reducible repeat first | exact HB.out | apply qca | apply qba | apply qda) hb); clear HB; have HO368 := n0_; have HB := n1_; clear n0_ n1_; clear hb ho8))
   go_loopg [18] k (fun kq v18 w' => ∃ (x7_1 : List Int) (x18_1 : Int), v18 = .int .i64 x18_1 ∧ Aside0 (qra.l0 kq a0 l1 l2 x7_1 (l1.length : Int) x18_1 = some r) ∧ Aside0 (kq ≤ k) ∧ Aside0 (Kd.R (Kd.int .u64) 22 w' w.heap.size (fun _ => True) v367 x7_1) ∧ Aside0 (Below w.heap.size w w'))
   case atStart => exact ⟨(y366), (0), (by first | rfl | (simp; done) | (simp [*]; done)), H', ⟨Nat.le_refl _⟩, ⟨by (with_reducible repeat first | apply Kd.qja | apply Kd.qia | apply Kd.R_drew); exact HO368.out⟩, ⟨by repeat (first | (with_reducible first | exact HB.out | apply qca | apply qba | apply qda) | exact HB.out)⟩⟩
   case round =>
    clear H'; (try clear c1); (try clear c2); (try clear p2); (try clear c5); (try clear c5b0); (try clear c5b1); (try clear c6); (try clear c6b0); (try clear c6b1); (try clear p6)
    obtain ⟨x7_1, x18_1, rfl, HA, HK1, HO_7, HB⟩ := hrel
    cases gk with
    | zero => exact absurd HA.out (by simp [qra.l0])
    | succ k1 =>
     have H := HA.out
     clear HA
     simp only [qra.l0] at H
     by_cases c9 : x18_1 < (l1.length : Int)
     ·rw [if_pos c9] at H
      have c9b0 : decide (x18_1 < (l1.length : Int)) = true := decide_eq_true c9
      clear c9
      have H' := Aside0.mk H
      clear H
      go_wp2
      go_loopg [23] k1 (fun kq v23 w' => ∃ (x7_2 : List Int) (x23_2 : Int), v23 = .int .i64 x23_2 ∧ Aside0 (qra.l1 kq a0 l1 l2 x7_2 x18_1 (l1.length : Int) x18_1 (l2.length : Int) x23_2 = some r) ∧ Aside0 (kq ≤ k1) ∧ Aside0 (Kd.R (Kd.int .u64) 22 w' w.heap.size (fun _ => True) v367 x7_2) ∧ Aside0 (Below w.heap.size w w'))
      case atStart => exact ⟨(x7_1), (0), (by first | rfl | (simp; done) | (simp [*]; done)), H', ⟨Nat.le_refl _⟩, ⟨by (with_reducible repeat first | apply Kd.qja | apply Kd.qia | apply Kd.R_drew); exact HO_7.out⟩, ⟨by repeat (first | (with_reducible first | exact HB.out | apply qca | apply qba | apply qda) | exact HB.out)⟩⟩
      case round =>
       clear H'; (try clear c1); (try clear c2); (try clear p2); (try clear c5); (try clear c5b0); (try clear c5b1); (try clear c6); (try clear c6b0); (try clear c6b1); (try clear p6); (try clear c9); (try clear c9b0); (try clear p2); (try clear p6)
       obtain ⟨x7_2, x23_2, rfl, HA, HK2, HO_7, HB⟩ := hrel
       cases gk with
       | zero => exact absurd HA.out (by simp [qra.l1])
       | succ k2 =>
        have H := HA.out
        clear HA
        simp only [qra.l1] at H
        by_cases c10 : x23_2 < (l2.length : Int)
        ·rw [if_pos c10] at H
         have c10b0 : decide (x23_2 < (l2.length : Int)) = true := decide_eq_true c10
         clear c10
         obtain ⟨ji11, hji11⟩ : ∃ j_ : Int, (wrap64 (x18_1 + x23_2)) = j_ := ⟨_, rfl⟩
         replace H : (if 0 ≤ (ji11) then (if (ji11) < (x7_2.length : Int) then (if 0 ≤ x18_1 then (if x18_1 < (l1.length : Int) then (if 0 ≤ x23_2 then (if x23_2 < (l2.length : Int) then ((qpb.f a0 (rd l1 x18_1) (rd l2 x23_2)).bind fun t375 => ((juntoref01_Add.f a0 (rd x7_2 (ji11)) t375).bind fun t376 => (qra.l1 k2 a0 l1 l2 (x7_2.set ((ji11) : Int).toNat t376) x18_1 (l1.length : Int) x18_1 (l2.length : Int) (wrap64 (x23_2 + 1))))) else (none)) else (none)) else (none)) else (none)) else (none)) else (none)) = some r := by first | (rw [hji11] at H; exact H) | (simp only [hji11] at H ⊢; exact H)
         have hji11w : (IntKind.i64.wrap (x18_1 + x23_2)) = ji11 := (i64_w _).trans hji11
         by_cases c12 : 0 ≤ (ji11)
         ·rw [if_pos c12] at H
          have c12b0 : decide (0 ≤ (ji11)) = true := decide_eq_true c12
          clear c12
          by_cases c13 : (ji11) < (x7_2.length : Int)
          ·rw [if_pos c13] at H
           have c13b0 : decide ((ji11) < (x7_2.length : Int)) = true := decide_eq_true c13
           clear c13
           by_cases c14 : 0 ≤ x18_1
           ·rw [if_pos c14] at H
            have c14b0 : decide (0 ≤ x18_1) = true := decide_eq_true c14
            clear c14
            by_cases c15 : x18_1 < (l1.length : Int)
            ·rw [if_pos c15] at H
             have c15b0 : decide (x18_1 < (l1.length : Int)) = true := decide_eq_true c15
             clear c15
             by_cases c16 : 0 ≤ x23_2
             ·rw [if_pos c16] at H
              have c16b0 : decide (0 ≤ x23_2) = true := decide_eq_true c16
              clear c16
              by_cases c17 : x23_2 < (l2.length : Int)
              ·rw [if_pos c17] at H
               have c17b0 : decide (x23_2 < (l2.length : Int)) = true := decide_eq_true c17
               clear c17
               replace H := Option.bind_eq_some_iff.mp H
               obtain ⟨t375, A180, H⟩ := H
               try dsimp only at H
               have A18 := Aside0.mk A180
               clear A180
               replace H := Option.bind_eq_some_iff.mp H
               obtain ⟨t376, A190, H⟩ := H
               try dsimp only at H
               have A19 := Aside0.mk A190
               clear A190
               obtain ⟨y377, hy377⟩ : ∃ y_ : List Int, y_ = (x7_2.set ((ji11) : Int).toNat t376) := ⟨_, rfl⟩
               replace H : (qra.l1 k2 a0 l1 l2 y377 x18_1 (l1.length : Int) x18_1 (l2.length : Int) (wrap64 (x23_2 + 1))) = some r := by first | (rw [hy377]; with_reducible exact H) | (have H2_ := (Option.bind_some _ _).symm.trans H; rw [hy377]; with_reducible exact H2_) | (have H2_ := (Option.bind_some _ _).symm.trans H; with_reducible exact H2_) | with_reducible exact H | (rw [hy377]; exact H) | exact H
               have Ny377 := Aside0.mk hy377
               clear hy377
               have H' := Aside0.mk H
               clear H
               try go_wp2
               have n0_ := Aside0.mk (Kd.R_drew HO_7.out)
               have n1_ := Aside0.mk (qda HB.out)
               clear HO_7 HB; have HO_7 := n0_; have HB := n1_; clear n0_ n1_
               obtain ⟨Ao22, co22, eo22⟩ := Kd.R_slice HO_7.out
               (first | subst eo22 | (injection eo22 with f1_ f2_ f3_; have f4_ := f1_.symm; have f5_ := f3_.symm; clear f1_ f2_ f3_; subst f4_; subst f5_))
               have p372 : 0 ≤ ((ji11) : Int) := of_decide_eq_true (by first | (with_reducible assumption) | assumption)
               have q372 : (ji11) < (x7_2.length : Int) := of_decide_eq_true (by first | (with_reducible assumption) | assumption)
               obtain ⟨ad372, e372, hx372_0⟩ := Kd.at_int (Kd.R_reads' HO_7.out).2.2 (ji11) p372 q372
               cases e372
               replace p372 := eq_true p372; replace q372 := eq_true q372
               have p373 : 0 ≤ (x18_1 : Int) := of_decide_eq_true (by first | (with_reducible assumption) | assumption)
               have q373 : x18_1 < (l1.length : Int) := of_decide_eq_true (by first | (with_reducible assumption) | assumption)
               obtain ⟨ad373, e373, hx373_0⟩ := Kd.at_int HR1.out x18_1 p373 q373
               have hw373_0 := hx373_0
               cases e373
               replace hx373_0 := (HB.out.cell (World.block_lt_of_cell? w _ hx373_0)).trans hx373_0
               replace p373 := eq_true p373; replace q373 := eq_true q373
               have p374 : 0 ≤ (x23_2 : Int) := of_decide_eq_true (by first | (with_reducible assumption) | assumption)
               have q374 : x23_2 < (l2.length : Int) := of_decide_eq_true (by first | (with_reducible assumption) | assumption)
               obtain ⟨ad374, e374, hx374_0⟩ := Kd.at_int HR2.out x23_2 p374 q374
               have hw374_0 := hx374_0
               cases e374
               replace hx374_0 := (HB.out.cell (World.block_lt_of_cell? w _ hx374_0)).trans hx374_0
               replace p374 := eq_true p374; replace q374 := eq_true q374
               refine start_ (n := 24) (S := fun w' => w'.cell? (ad372.add ((ji11)).toNat) = some (.int .u64 (rd x7_2 (ji11))) ∧ w'.cell? (ad373.add (x18_1).toNat) = some (.int .u64 (rd l1 x18_1)) ∧ w'.cell? (ad374.add (x23_2).toNat) = some (.int .u64 (rd l2 x23_2))) (ds := [23]) #[false, false, false, false, false, false, false, false, false, false, false, false, false, false, false, false, false, false, false, false, false, false, false, false] (by kernel_rfl) rfl rfl ⟨hx372_0, ((HB.out.cell (World.block_lt_of_cell? w _ hw373_0)).trans hw373_0), ((HB.out.cell (World.block_lt_of_cell? w _ hw374_0)).trans hw374_0)⟩ (fun hHeld => ?_); refine with_tabW qra.tab8 qra.bits8 (fun HT_ HW_ => ?_)
               generalize wr.drew = w21 at HO_7 HB hx372_0 hx373_0 hx374_0 hHeld ⊢
               refine pure_ (i := 0) (N := some 26) (v := ?_) (a' := ?_) #[true, false, false, false, false, false, false, false, false, false, false, false, false, false, false, false, false, false, false, false, false, false, false, false] rfl rfl (any_of HT_.out (by kernel_rfl)) (fun _ _ _ h => h) (Or.inl ⟨by rfl, ?_⟩) ?_ ?_
               rotate_left; (intro w'; go_simp; with_reducible rfl); rotate_left; (simp only [Act.put, qS1, qS2, qS3, i64_w, i32_w]; rfl)
               refine pure_ (i := 1) (N := some 27) (v := ?_) (a' := ?_) #[true, true, false, false, false, false, false, false, false, false, false, false, false, false, false, false, false, false, false, false, false, false, false, false] rfl rfl (any_of HT_.out (by kernel_rfl)) (fun _ _ _ h => h) (Or.inl ⟨by rfl, ?_⟩) ?_ ?_
               rotate_left; (intro w'; go_simp; with_reducible rfl); rotate_left; (simp only [Act.put, qS1, qS2, qS3, i64_w, i32_w]; rfl)
               refine pure_ (i := 2) (N := some 28) (v := ?_) (a' := ?_) #[true, true, true, false, false, false, false, false, false, false, false, false, false, false, false, false, false, false, false, false, false, false, false, false] rfl rfl (any_of HT_.out (by kernel_rfl)) (fun _ _ _ h => h) (Or.inl ⟨by rfl, ?_⟩) ?_ ?_
               rotate_left; (intro w'; go_simp; with_reducible rfl); rotate_left; (simp only [Act.put, qS1, qS2, qS3, i64_w, i32_w]; rfl)
               refine pure_ (i := 3) (N := some 29) (v := ?_) (a' := ?_) #[true, true, true, true, false, false, false, false, false, false, false, false, false, false, false, false, false, false, false, false, false, false, false, false] rfl rfl (any_of HT_.out (by kernel_rfl)) (fun _ _ _ h => h) (Or.inl ⟨by rfl, ?_⟩) ?_ ?_
               rotate_left; (intro w'; go_simp; with_reducible rfl); rotate_left; (simp only [Act.put, qS1, qS2, qS3, i64_w, i32_w]; rfl)
               refine pure_ (i := 4) (N := some 30) (v := ?_) (a' := ?_) #[true, true, true, true, true, false, false, false, false, false, false, false, false, false, false, false, false, false, false, false, false, false, false, false] rfl rfl (any_of HT_.out (by kernel_rfl)) (fun _ _ _ h => h) (Or.inl ⟨by rfl, ?_⟩) ?_ ?_
               rotate_left; (intro w'; go_simp; with_reducible rfl); rotate_left; (simp only [Act.put, qS1, qS2, qS3, i64_w, i32_w]; rfl)
               refine pure_ (i := 5) (N := some 31) (v := ?_) (a' := ?_) #[true, true, true, true, true, true, false, false, false, false, false, false, false, false, false, false, false, false, false, false, false, false, false, false] rfl rfl (any_of HT_.out (by kernel_rfl)) (fun _ _ _ h => h) (Or.inl ⟨by rfl, ?_⟩) ?_ ?_
               rotate_left; (intro w'; go_simp; with_reducible rfl); rotate_left; (simp only [Act.put, qS1, qS2, qS3, i64_w, i32_w]; rfl)
               refine pure_ (i := 6) (N := some 32) (v := ?_) (a' := ?_) #[true, true, true, true, true, true, true, false, false, false, false, false, false, false, false, false, false, false, false, false, false, false, false, false] rfl rfl (any_of HT_.out (by kernel_rfl)) (fun _ _ _ h => h) (Or.inl ⟨by rfl, ?_⟩) ?_ ?_
               rotate_left; (intro w'; go_simp; with_reducible rfl); rotate_left; (simp only [Act.put, qS1, qS2, qS3, i64_w, i32_w]; rfl)
               refine pure_ (i := 7) (N := some 33) (v := ?_) (a' := ?_) #[true, true, true, true, true, true, true, true, false, false, false, false, false, false, false, false, false, false, false, false, false, false, false, false] rfl rfl (any_of HT_.out (by kernel_rfl)) (fun _ _ _ h => h) (Or.inl ⟨by rfl, ?_⟩) ?_ ?_
               rotate_left; (intro w'; go_simp; with_reducible rfl); rotate_left; (simp only [Act.put, qS1, qS2, qS3, i64_w, i32_w]; rfl)
               refine pure_ (i := 8) (N := some 34) (v := ?_) (a' := ?_) #[true, true, true, true, true, true, true, true, true, false, false, false, false, false, false, false, false, false, false, false, false, false, false, false] rfl rfl (any_of HT_.out (by kernel_rfl)) (fun _ _ _ h => h) (Or.inl ⟨by rfl, ?_⟩) ?_ ?_
               rotate_left; (intro w'; go_simp; with_reducible rfl); rotate_left; (simp only [Act.put, qS1, qS2, qS3, i64_w, i32_w]; rfl)
               refine pure_ (i := 9) (N := some 35) (v := ?_) (a' := ?_) #[true, true, true, true, true, true, true, true, true, true, false, false, false, false, false, false, false, false, false, false, false, false, false, false] rfl rfl (any_of HT_.out (by kernel_rfl)) (fun _ _ _ h => h) (Or.inl ⟨by rfl, ?_⟩) ?_ ?_
               rotate_left; (intro w'; go_simp; with_reducible rfl); rotate_left; (simp only [Act.put, qS1, qS2, qS3, i64_w, i32_w]; rfl)
               refine pure_ (i := 11) (N := some 37) (v := ?_) (a' := ?_) #[true, true, true, true, true, true, true, true, true, true, false, true, false, false, false, false, false, false, false, false, false, false, false, false] rfl rfl (any_of HT_.out (by kernel_rfl)) (fun _ _ _ h => h) (Or.inl ⟨by rfl, ?_⟩) ?_ ?_
               rotate_left; (intro w'; go_simp; with_reducible rfl); rotate_left; (simp only [Act.put, qS1, qS2, qS3, i64_w, i32_w]; rfl)
               refine pure_ (i := 12) (N := some 38) (v := ?_) (a' := ?_) #[true, true, true, true, true, true, true, true, true, true, false, true, true, false, false, false, false, false, false, false, false, false, false, false] rfl rfl (any_of HT_.out (by kernel_rfl)) (fun _ _ _ h => h) (Or.inl ⟨by rfl, ?_⟩) ?_ ?_
               rotate_left; (intro w'; go_simp; with_reducible rfl); rotate_left; (simp only [Act.put, qS1, qS2, qS3, i64_w, i32_w]; rfl)
               refine pure_ (i := 13) (N := some 39) (v := ?_) (a' := ?_) #[true, true, true, true, true, true, true, true, true, true, false, true, true, true, false, false, false, false, false, false, false, false, false, false] rfl rfl (any_of HT_.out (by kernel_rfl)) (fun _ _ _ h => h) (Or.inl ⟨by rfl, ?_⟩) ?_ ?_
               rotate_left; (intro w'; go_simp; with_reducible rfl); rotate_left; (simp only [Act.put, qS1, qS2, qS3, i64_w, i32_w]; rfl)
               refine pure_ (i := 14) (N := some 40) (v := ?_) (a' := ?_) #[true, true, true, true, true, true, true, true, true, true, false, true, true, true, true, false, false, false, false, false, false, false, false, false] rfl rfl (any_of HT_.out (by kernel_rfl)) (fun _ _ _ h => h) (Or.inl ⟨by rfl, ?_⟩) ?_ ?_
               rotate_left; (intro w'; go_simp; with_reducible rfl); rotate_left; (simp only [Act.put, qS1, qS2, qS3, i64_w, i32_w]; rfl)
               refine pure_ (i := 16) (N := some 42) (v := ?_) (a' := ?_) #[true, true, true, true, true, true, true, true, true, true, false, true, true, true, true, false, true, false, false, false, false, false, false, false] rfl rfl (any_of HT_.out (by kernel_rfl)) (fun _ _ _ h => h) (Or.inl ⟨by rfl, ?_⟩) ?_ ?_
               rotate_left; (intro w'; go_simp; with_reducible rfl); rotate_left; (simp only [Act.put, qS1, qS2, qS3, i64_w, i32_w]; rfl)
               refine pure_ (i := 17) (N := some 43) (v := ?_) (a' := ?_) #[true, true, true, true, true, true, true, true, true, true, false, true, true, true, true, false, true, true, false, false, false, false, false, false] rfl rfl (any_of HT_.out (by kernel_rfl)) (fun _ _ _ h => h) (Or.inl ⟨by rfl, ?_⟩) ?_ ?_
               rotate_left; (intro w'; go_simp; with_reducible rfl); rotate_left; (simp only [Act.put, qS1, qS2, qS3, i64_w, i32_w]; rfl)
               refine pure_ (i := 18) (N := some 44) (v := ?_) (a' := ?_) #[true, true, true, true, true, true, true, true, true, true, false, true, true, true, true, false, true, true, true, false, false, false, false, false] rfl rfl (any_of HT_.out (by kernel_rfl)) (fun _ _ _ h => h) (Or.inl ⟨by rfl, ?_⟩) ?_ ?_
               rotate_left; (intro w'; go_simp; with_reducible rfl); rotate_left; (simp only [Act.put, qS1, qS2, qS3, i64_w, i32_w]; rfl)
               refine take_ (i := 10) (N := some 36) (v := ?_) (a' := ?_) #[true, true, true, true, true, true, true, true, true, true, true, true, true, true, true, false, true, true, true, false, false, false, false, false] rfl rfl (take_ofW HT_.out HW_.out (by kernel_rfl)) (fun _ _ _ h => h) (Or.inl ⟨by rfl, ?_⟩) hHeld ?_ ?_
               rotate_left; (rintro w' ⟨s0, s1, s2⟩; go_simp; with_reducible rfl); rotate_left; (simp only [Act.put, qS1, qS2, qS3, i64_w, i32_w]; rfl)
               refine take_ (i := 15) (N := some 41) (v := ?_) (a' := ?_) #[true, true, true, true, true, true, true, true, true, true, true, true, true, true, true, true, true, true, true, false, false, false, false, false] rfl rfl (take_ofW HT_.out HW_.out (by kernel_rfl)) (fun _ _ _ h => h) (Or.inl ⟨by rfl, ?_⟩) hHeld ?_ ?_
               rotate_left; (rintro w' ⟨s0, s1, s2⟩; go_simp; with_reducible rfl); rotate_left; (simp only [Act.put, qS1, qS2, qS3, i64_w, i32_w]; rfl)
               refine take_ (i := 19) (N := some 45) (v := ?_) (a' := ?_) #[true, true, true, true, true, true, true, true, true, true, true, true, true, true, true, true, true, true, true, true, false, false, false, false] rfl rfl (take_ofW HT_.out HW_.out (by kernel_rfl)) (fun _ _ _ h => h) (Or.inl ⟨by rfl, ?_⟩) hHeld ?_ ?_
               rotate_left; (rintro w' ⟨s0, s1, s2⟩; go_simp; with_reducible rfl); rotate_left; (simp only [Act.put, qS1, qS2, qS3, i64_w, i32_w]; rfl)
               refine one_ (i := 20) (N := some 46) #[true, true, true, true, true, true, true, true, true, true, true, true, true, true, true, true, true, true, true, true, true, false, false, false] rfl rfl (one_of HT_.out (by kernel_rfl)) (by decide) (fun K hK => ?_)
               refine goes_ Try.func59 (by kernel_rfl) rfl #[.int .u64 a0, .int .u64 (rd l1 x18_1), .int .u64 (rd l2 x23_2)] (by rfl) rfl rfl (by (try simp only [qM1, qM2, qM3]); first | done | rfl | (simp only [List.length_drop, List.length_take]; rfl)) ?_
               with_reducible refine (qpb.calls a0 (rd l1 x18_1) (rd l2 x23_2) t375 _ A18.out).mono ?_
               rintro e w' ⟨rfl, ⟨nd, rfl⟩⟩
               refine ⟨_, rfl, ?_⟩
               refine hK.out _ _ ⟨hHeld.1, ((HB.out.cell (World.block_lt_of_cell? w _ hw373_0)).trans hw373_0), ((HB.out.cell (World.block_lt_of_cell? w _ hw374_0)).trans hw374_0)⟩ (fun hHeld => ?_)
               clear hK K
               refine norm_ (a' := ?_) ?_ ?_
               rotate_left
               ·show Act.put _ (some 46) _ = _
                simp only [Act.put, qS1, qS2, qS3, i64_w, i32_w]
                rfl
               refine one_ (i := 21) (N := some 47) #[true, true, true, true, true, true, true, true, true, true, true, true, true, true, true, true, true, true, true, true, true, true, false, false] rfl rfl (one_of HT_.out (by kernel_rfl)) (by decide) (fun K hK => ?_)
               refine goes_ Try.func113 (by kernel_rfl) rfl #[.int .u64 a0, .int .u64 (rd x7_2 (ji11)), .int .u64 t375] (by rfl) rfl rfl (by (try simp only [qM1, qM2, qM3]); first | done | (simp only [hji11]; rfl) | rfl | (simp only [List.length_drop, List.length_take]; rfl)) ?_
               with_reducible refine (juntoref01_Add.calls a0 (rd x7_2 (ji11)) t375 t376 _ A19.out).mono ?_
               rintro e w' ⟨rfl, ⟨nd, rfl⟩⟩
               refine ⟨_, rfl, ?_⟩
               have p20 : 0 ≤ ((ji11) : Int) := of_decide_eq_true (by first | (with_reducible assumption) | assumption)
               have q20 : ((ji11) : Int) < ((x7_2.length : Int) : Int) := of_decide_eq_true (by first | (with_reducible assumption) | assumption)
               obtain ⟨go20, co20, eo20, gb20, gl20, cl20, HG20⟩ := Kd.R_form HO_7.out (by omega)
               (first | cases eo20 | (injection eo20 with ea_ en_ ec_; (first | subst ea_ | (injection ea_ with ea_; subst ea_)); subst ec_; clear en_))
               have GB20 := Aside0.mk gb20
               have GG20 := Aside0.mk HG20
               clear gb20 gl20 HG20
               (first | simp only [add_plain] at hx372_0 | skip)
               obtain ⟨hx20_0, hf20_0⟩ := Kd.R_celln 0 HO_7.out ((ji11) : Int) p20 q20
               replace p20 := eq_true p20; replace q20 := eq_true q20
               have HP23 := Kd.R_putn HO_7.out ((ji11) : Int) t376
               rw [← Ny377.out] at HP23
               have HQ23 := Aside0.mk HP23
               clear HP23
               refine hK.out _ _ ⟨hHeld.1, ((HB.out.cell (World.block_lt_of_cell? w _ hw373_0)).trans hw373_0), ((HB.out.cell (World.block_lt_of_cell? w _ hw374_0)).trans hw374_0)⟩ (fun hHeld => ?_)
               clear hK K
               refine norm_ (a' := ?_) ?_ ?_
               rotate_left
               ·show Act.put _ (some 47) _ = _
                simp only [Act.put, qS1, qS2, qS3, i64_w, i32_w]
                rfl
               refine pure_ (i := 22) (N := some 48) (v := ?_) (a' := ?_) #[true, true, true, true, true, true, true, true, true, true, true, true, true, true, true, true, true, true, true, true, true, true, true, false] rfl rfl (any_of HT_.out (by kernel_rfl)) (fun _ _ _ h => h) (Or.inl ⟨by rfl, ?_⟩) ?_ ?_
               rotate_left; (intro w'; go_simp; with_reducible rfl); rotate_left; (simp only [Act.put, qS1, qS2, qS3, i64_w, i32_w]; rfl)
               refine last_ (i := 23) (N := none) #[true, true, true, true, true, true, true, true, true, true, true, true, true, true, true, true, true, true, true, true, true, true, true, true] rfl rfl (one_of HT_.out (by kernel_rfl)) (by decide) (fun K hK => ?_)
               refine skip_ (w1 := ?_) (by rfl) rfl ?_ ?_
               rotate_left
               ·go_simp
                rfl
               refine hK.out _ _ ?_
               clear hK K
               refine done_ (done_of HT_.out (by kernel_rfl)) ?_
               try go_wp2
               go_roundg k2
               case measure => have := HK1.out; have := HK2.out; omega
               case rel => exact ⟨(y377), (wrap64 (x23_2 + 1)), (by first | rfl | (simp; done) | (simp [*]; done)), H', ⟨by have := HK1.out; have := HK2.out; omega⟩, ⟨by (with_reducible repeat first | apply Kd.qja | apply Kd.qia | apply Kd.R_drew); exact HQ23.out⟩, ⟨by repeat (first | (with_reducible first | exact HB.out | apply qca | apply qba | apply qda | refine qha ?_ GB20.out) | exact HB.out)⟩⟩
              ·rw [if_neg c17] at H
               exact absurd H (by simp)
             ·rw [if_neg c16] at H
              exact absurd H (by simp)
            ·rw [if_neg c15] at H
             exact absurd H (by simp)
           ·rw [if_neg c14] at H
            exact absurd H (by simp)
          ·rw [if_neg c13] at H
           exact absurd H (by simp)
         ·rw [if_neg c12] at H
          exact absurd H (by simp)
        ·rw [if_neg c10] at H
         have c10b0 : decide (x23_2 < (l2.length : Int)) = false := decide_eq_false c10
         clear c10
         have H' := Aside0.mk H
         clear H
         go_wp2
         go_roundg k2
         case measure => have := HK1.out; have := HK2.out; omega
         case rel => exact ⟨(x7_2), (wrap64 (x18_1 + 1)), (by first | rfl | (simp; done) | (simp [*]; done)), H', ⟨by have := HK1.out; have := HK2.out; omega⟩, ⟨by (with_reducible repeat first | apply Kd.qja | apply Kd.qia | apply Kd.R_drew); exact HO_7.out⟩, ⟨by repeat (first | (with_reducible first | exact HB.out | apply qca | apply qba | apply qda) | exact HB.out)⟩⟩
     ·rw [if_neg c9] at H
      have c9b0 : decide (x18_1 < (l1.length : Int)) = false := decide_eq_false c9
      clear c9
      replace H := Option.bind_eq_some_iff.mp H
      obtain ⟨t369, A240, H⟩ := H
      try dsimp only at H
      have A24 := Aside0.mk A240
      clear A240
      obtain rfl := Option.some.inj H
      obtain ⟨Ao25, co25, eo25⟩ := Kd.R_slice HO_7.out
      subst eo25
      go_wp2_with (first | ((with_reducible refine qoa (f := 60) rfl ?_); refine goesL_ (some 52) rfl rfl Try.func60 (by kernel_rfl) rfl #[.slice Ao25 x7_1.length co25] rfl (by (try simp only [qM1, qM2, qM3]); first | done | rfl) ?_; (with_reducible refine (qib.calls k1 _ _ x7_1 t369 _ ?side1 ?side2 A24.out).mono ?_); (case side1 => repeat (first | exact (Kd.R_reads' HO_7.out).2.2 | (with_reducible first | refine Kd.C_alloc ?_ _ | refine Kd.C_drewN ?_ _ | refine Kd.C_drew ?_))); (case side2 => exact (Kd.R_reads' HO_7.out).2.1); rintro e w26 ⟨v370, rfl, ho0, hb⟩; refine ⟨_, rfl, ?_⟩; have n0_ := Aside0.mk (Kd.R_elder' (by (with_reducible repeat first | apply Kd.qja | apply Kd.qia | apply Kd.R_drew); exact HO_7.out) (Kd.R_base ho0) hb); have n1_ := Aside0.mk (Kd.R_lower (Kd.R_new' ho0 (Kd.R_lt (by (with_reducible repeat first | apply Kd.qja | apply Kd.qia | apply Kd.R_drew); exact HO_7.out))) (qka (by with_reducible repeat first | exact HB.out | apply qca | apply qba | apply qda))); have n2_ := Aside0.mk (qla (by with_reducible repeat first | exact HB.out | apply qca | apply qba | apply qda) hb); clear HO_7; clear HB; have HO_7 := n0_; have HO371 := n1_; have HB := n2_; clear n0_ n1_ n2_; (try clear hb); (try clear hb2); (try clear hk); (try clear hi); (try clear ho0)))
      go_ret
      exact ⟨_, by first | rfl | (simp [errW_none, errW_some] <;> rfl) | (simp only [← hji4]; first | rfl | (simp [errW_none, errW_some] <;> rfl)) | (simp [*, errW_none, errW_some] <;> rfl), by (with_reducible repeat first | apply Kd.qja | apply Kd.qia | apply Kd.R_drew); exact Kd.R_mono HO371.out (fun _ hk => trivial), by repeat (first | (with_reducible first | exact HB.out | apply qca | apply qba | apply qda) | exact HB.out)⟩
  ·rw [if_neg c6] at H
   exact absurd H (by simp)
 ·rw [if_neg c5] at H
  exact absurd H (by simp)
def qdb.l0 : Nat → Int → List Int → Int → List Int → Int → Int → Option (List Int)
 | 0, _, _, _, _, _, _ => none
 | k + 1, x0, x1, x2, x7, x13, x14 => if x14 < x13 then (if 0 ≤ x14 then (if x14 < (x1.length : Int) then ((qpb.f x0 (rd x1 x14) x2).bind fun t382 => (if x14 < (x7.length : Int) then (qdb.l0 k x0 x1 x2 (x7.set (x14 : Int).toNat t382) x13 (wrap64 (x14 + 1))) else (none))) else (none)) else (none)) else ((qib.f k x7).bind fun t384 => (some t384))
def qdb.f (k : Nat) (a0 : Int) (l1 : List Int) (a2 : Int) : Option (List Int) := if 0 ≤ (l1.length : Int) then (if ((l1.length : Int) : Int).toNat ≤ 35184372088832 then (qdb.l0 k a0 l1 a2 (List.replicate ((l1.length : Int) : Int).toNat 0) (l1.length : Int) 0) else (none)) else (none)
theorem qdb.calls (k : Nat) (a0 : Int) (A1 : Option Addr) (c1 : Nat) (l1 : List Int) (a2 : Int) (r : List Int) (w : World) (hr1 : Kd.C (Kd.int .u64) w A1 l1.length l1) (hc1 : l1.length ≤ c1) (h : qdb.f k a0 l1 a2 = some r) :
  Calls Try.prog 90 #[.int .u64 a0, .slice A1 l1.length c1, .int .u64 a2] w fun e w' => ∃ v0_ : Value, e = .returned (v0_) ∧ Kd.R (Kd.int .u64) 22 w' w.heap.size (fun _ => True) v0_ r ∧ Below w.heap.size w w' := by
 have HR1 := Aside0.mk hr1
 have HC1 := Aside0.mk hc1
 clear hr1 hc1
 have HB := Aside0.mk (Below.refl w.heap.size w)
 have H : (if 0 ≤ (l1.length : Int) then (if ((l1.length : Int) : Int).toNat ≤ 35184372088832 then (qdb.l0 k a0 l1 a2 (List.replicate ((l1.length : Int) : Int).toNat 0) (l1.length : Int) 0) else (none)) else (none)) = some r := h
 clear h
 by_cases c4 : 0 ≤ (l1.length : Int)
 ·rw [if_pos c4] at H
  have c4b0 := eq_true c4
  have c4b1 : decide (0 ≤ (l1.length : Int)) = true := decide_eq_true c4
  clear c4
  by_cases c5 : ((l1.length : Int) : Int).toNat ≤ 35184372088832
  ·rw [if_pos c5] at H
   have c5b0 := eq_true c5
   have c5b1 : decide (((l1.length : Int) : Int).toNat ≤ 35184372088832) = true := decide_eq_true c5
   clear c5
   obtain ⟨y378, hy378⟩ : ∃ y_ : List Int, y_ = (List.replicate ((l1.length : Int) : Int).toNat 0) := ⟨_, rfl⟩
   replace H : (qdb.l0 k a0 l1 a2 y378 (l1.length : Int) 0) = some r := by first | (rw [hy378]; with_reducible exact H) | (have H2_ := (Option.bind_some _ _).symm.trans H; rw [hy378]; with_reducible exact H2_) | (have H2_ := (Option.bind_some _ _).symm.trans H; with_reducible exact H2_) | with_reducible exact H | (rw [hy378]; exact H) | exact H
   have Ny378 := Aside0.mk hy378
   clear hy378
   have H' := Aside0.mk H
   clear H
   go_enter Try.func90, Try.ntmps90
   go_wp2_with (first | ((with_reducible refine gate_dst (N := 11) rfl ?_); refine Kd.R_make (Kd.int .u64) _ 22 rfl (N := 11) rfl 31 _ _ rfl (l1.length : Int) rfl rfl Try.underlying31 (.int .u64 0) 8 info22 rfl (by decide) (by omega) 0 (ok := fun _ => True) (okp := fun _ => True) rfl (fun _ hk => hk) trivial (of_decide_eq_true (by first | (with_reducible assumption) | assumption)) (Nat.le_trans (Nat.mul_le_mul_right _ (of_decide_eq_true (by first | (with_reducible assumption) | assumption) : (l1.length : Int).toNat ≤ 35184372088832)) (by omega)) (Below.refl _ _) (Nat.le_refl _) ?_; intro v379 w6 ho7 hb hg_ hnew_; clear hg_ hnew_; (first | rw [← Ny378.out] at ho7 | (simp only [Int.reduceToNat] at ho7; rw [← Ny378.out] at ho7)); have n0_ := Aside0.mk (Kd.R_lower ho7 (qka (by with_reducible repeat first | exact HB.out | apply qca | apply qba | apply qda))); have n1_ := Aside0.mk (qla (by with_reducible repeat first | exact HB.out | apply qca | apply qba | apply qda) hb); clear HB; have HO380 := n0_; have HB := n1_; clear n0_ n1_; clear hb ho7))
   go_loopg [14] k (fun kq v14 w' => ∃ (x7_1 : List Int) (x14_1 : Int), v14 = .int .i64 x14_1 ∧ Aside0 (qdb.l0 kq a0 l1 a2 x7_1 (l1.length : Int) x14_1 = some r) ∧ Aside0 (kq ≤ k) ∧ Aside0 (Kd.R (Kd.int .u64) 22 w' w.heap.size (fun _ => True) v379 x7_1) ∧ Aside0 (Below w.heap.size w w'))
   case atStart => exact ⟨(y378), (0), (by first | rfl | (simp; done) | (simp [*]; done)), H', ⟨Nat.le_refl _⟩, ⟨by (with_reducible repeat first | apply Kd.qja | apply Kd.qia | apply Kd.R_drew); exact HO380.out⟩, ⟨by repeat (first | (with_reducible first | exact HB.out | apply qca | apply qba | apply qda) | exact HB.out)⟩⟩
   case round =>
    clear H'; (try clear c1); (try clear p2); (try clear c4); (try clear c4b0); (try clear c4b1); (try clear c5); (try clear c5b0); (try clear c5b1)
    obtain ⟨x7_1, x14_1, rfl, HA, HK1, HO_7, HB⟩ := hrel
    cases gk with
    | zero => exact absurd HA.out (by simp [qdb.l0])
    | succ k1 =>
     have H := HA.out
     clear HA
     simp only [qdb.l0] at H
     by_cases c8 : x14_1 < (l1.length : Int)
     ·rw [if_pos c8] at H
      have c8b0 : decide (x14_1 < (l1.length : Int)) = true := decide_eq_true c8
      clear c8
      by_cases c9 : 0 ≤ x14_1
      ·rw [if_pos c9] at H
       have c9b0 : decide (0 ≤ x14_1) = true := decide_eq_true c9
       clear c9
       by_cases c10 : x14_1 < (l1.length : Int)
       ·rw [if_pos c10] at H
        have c10b0 : decide (x14_1 < (l1.length : Int)) = true := decide_eq_true c10
        clear c10
        replace H := Option.bind_eq_some_iff.mp H
        obtain ⟨t382, A110, H⟩ := H
        try dsimp only at H
        have A11 := Aside0.mk A110
        clear A110
        by_cases c12 : x14_1 < (x7_1.length : Int)
        ·rw [if_pos c12] at H
         have c12b0 : decide (x14_1 < (x7_1.length : Int)) = true := decide_eq_true c12
         clear c12
         obtain ⟨y383, hy383⟩ : ∃ y_ : List Int, y_ = (x7_1.set (x14_1 : Int).toNat t382) := ⟨_, rfl⟩
         replace H : (qdb.l0 k1 a0 l1 a2 y383 (l1.length : Int) (wrap64 (x14_1 + 1))) = some r := by first | (rw [hy383]; with_reducible exact H) | (have H2_ := (Option.bind_some _ _).symm.trans H; rw [hy383]; with_reducible exact H2_) | (have H2_ := (Option.bind_some _ _).symm.trans H; with_reducible exact H2_) | with_reducible exact H | (rw [hy383]; exact H) | exact H
         have Ny383 := Aside0.mk hy383
         clear hy383
         have H' := Aside0.mk H
         clear H
         have p381 : 0 ≤ (x14_1 : Int) := of_decide_eq_true (by first | (with_reducible assumption) | assumption)
         have q381 : x14_1 < (l1.length : Int) := of_decide_eq_true (by first | (with_reducible assumption) | assumption)
         obtain ⟨ad381, e381, hx381_0⟩ := Kd.at_int HR1.out x14_1 p381 q381
         cases e381
         replace hx381_0 := (HB.out.cell (World.block_lt_of_cell? w _ hx381_0)).trans hx381_0
         replace p381 := eq_true p381; replace q381 := eq_true q381
         go_wp2_with (first | ((with_reducible refine qoa (f := 59) rfl ?_); refine goesL_ (some 25) rfl rfl Try.func59 (by kernel_rfl) rfl #[.int .u64 a0, .int .u64 (rd l1 x14_1), .int .u64 a2] rfl (by (try simp only [qM1, qM2, qM3]); first | done | rfl) ?_; (with_reducible refine (qpb.calls a0 (rd l1 x14_1) a2 t382 _ A11.out).mono ?_); rintro e w' ⟨rfl, ⟨nd, rfl⟩⟩; refine ⟨_, rfl, ?_⟩; (try (rw [drewN_self wr]; generalize hq_ : World.drewN wr _ = wr; have n0_ : Aside0 (Kd.R (Kd.int .u64) 22 wr w.heap.size (fun _ => True) v379 x7_1) := ⟨by rw [← hq_]; exact (by (with_reducible repeat first | apply Kd.qja | apply Kd.qia | apply Kd.R_drew); exact HO_7.out)⟩; have n1_ : Aside0 (Below w.heap.size w wr) := ⟨by rw [← hq_]; exact (by with_reducible repeat first | exact HB.out | apply qca | apply qba | apply qda)⟩; clear HO_7 HB hq_; have HO_7 := n0_; have HB := n1_; clear n0_ n1_)); have p13 : 0 ≤ (x14_1 : Int) := of_decide_eq_true (by first | (with_reducible assumption) | assumption); have q13 : (x14_1 : Int) < ((x7_1.length : Int) : Int) := of_decide_eq_true (by first | (with_reducible assumption) | assumption); obtain ⟨go13, co13, eo13, gb13, gl13, cl13, HG13⟩ := Kd.R_form HO_7.out (by omega); (first | cases eo13 | (injection eo13 with ea_ en_ ec_; (first | subst ea_ | (injection ea_ with ea_; subst ea_)); subst ec_; clear en_)); have GB13 := Aside0.mk gb13; have GG13 := Aside0.mk HG13; clear gb13 gl13 HG13; obtain ⟨hx13_0, hf13_0⟩ := Kd.R_celln 0 HO_7.out (x14_1 : Int) p13 q13; replace p13 := eq_true p13; replace q13 := eq_true q13; obtain ⟨hy14_, hz14_⟩ := Kd.R_celln 0 HO_7.out (x14_1 : Int) (of_decide_eq_true (by first | (with_reducible assumption) | assumption)) (of_decide_eq_true (by first | (with_reducible assumption) | assumption)); have HP14 := Kd.R_putg HO_7.out (x14_1 : Int) t382) | ((with_reducible refine gate_store (t := 22) (p := 26) rfl ?_); refine store_event (t := 22) (p := 26) (v := ?vo_w15) (w1 := (wr.setCell ⟨go13, (x14_1 : Int).toNat, none⟩ (.int .u64 t382))) ?hg ?ho ?hn ?hr ?_; (case ho => rfl); (case hg => rfl); (case hn => rfl); (case hr => first | (go_simp; done) | (go_simp; rfl)); intro w15 hw; have hg : wr.grownBy w15 (some go13) := (by rw [hw]; exact HP14.2); have hp_ : Kd.R (Kd.int .u64) 22 w15 w.heap.size (fun _ => True) (.slice (some ⟨go13, 0, none⟩) x7_1.length co13) y383 := (by rw [hw, Ny383.out]; exact HP14.1); clear HP14; have n0_ := Aside0.mk (hp_); have n1_ := Aside0.mk ((by rw [hw]; exact qha (HB.out) GB13.out : Below w.heap.size w w15)); clear HO_7; clear HB; have HO_7 := n0_; have HB := n1_; clear n0_ n1_; clear hg hw hp_))
         go_roundg k1
         case measure => have := HK1.out; omega
         case rel => exact ⟨(y383), (wrap64 (x14_1 + 1)), (by first | rfl | (simp; done) | (simp [*]; done)), H', ⟨by have := HK1.out; omega⟩, ⟨by (with_reducible repeat first | apply Kd.qja | apply Kd.qia | apply Kd.R_drew); exact HO_7.out⟩, ⟨by repeat (first | (with_reducible first | exact HB.out | apply qca | apply qba | apply qda) | exact HB.out)⟩⟩
        ·rw [if_neg c12] at H
         exact absurd H (by simp)
       ·rw [if_neg c10] at H
        exact absurd H (by simp)
      ·rw [if_neg c9] at H
       exact absurd H (by simp)
     ·rw [if_neg c8] at H
      have c8b0 : decide (x14_1 < (l1.length : Int)) = false := decide_eq_false c8
      clear c8
      replace H := Option.bind_eq_some_iff.mp H
      obtain ⟨t384, A160, H⟩ := H
      try dsimp only at H
      have A16 := Aside0.mk A160
      clear A160
      obtain rfl := Option.some.inj H
      obtain ⟨Ao17, co17, eo17⟩ := Kd.R_slice HO_7.out
      subst eo17
      go_wp2_with (first | ((with_reducible refine qoa (f := 60) rfl ?_); refine goesL_ (some 29) rfl rfl Try.func60 (by kernel_rfl) rfl #[.slice Ao17 x7_1.length co17] rfl (by (try simp only [qM1, qM2, qM3]); first | done | rfl) ?_; (with_reducible refine (qib.calls k1 _ _ x7_1 t384 _ ?side1 ?side2 A16.out).mono ?_); (case side1 => repeat (first | exact (Kd.R_reads' HO_7.out).2.2 | (with_reducible first | refine Kd.C_alloc ?_ _ | refine Kd.C_drewN ?_ _ | refine Kd.C_drew ?_))); (case side2 => exact (Kd.R_reads' HO_7.out).2.1); rintro e w18 ⟨v385, rfl, ho0, hb⟩; refine ⟨_, rfl, ?_⟩; have n0_ := Aside0.mk (Kd.R_elder' (by (with_reducible repeat first | apply Kd.qja | apply Kd.qia | apply Kd.R_drew); exact HO_7.out) (Kd.R_base ho0) hb); have n1_ := Aside0.mk (Kd.R_lower (Kd.R_new' ho0 (Kd.R_lt (by (with_reducible repeat first | apply Kd.qja | apply Kd.qia | apply Kd.R_drew); exact HO_7.out))) (qka (by with_reducible repeat first | exact HB.out | apply qca | apply qba | apply qda))); have n2_ := Aside0.mk (qla (by with_reducible repeat first | exact HB.out | apply qca | apply qba | apply qda) hb); clear HO_7; clear HB; have HO_7 := n0_; have HO386 := n1_; have HB := n2_; clear n0_ n1_ n2_; (try clear hb); (try clear hb2); (try clear hk); (try clear hi); (try clear ho0)))
      go_ret
      exact ⟨_, by first | rfl | (simp [errW_none, errW_some] <;> rfl) | (simp [*, errW_none, errW_some] <;> rfl), by (with_reducible repeat first | apply Kd.qja | apply Kd.qia | apply Kd.R_drew); exact Kd.R_mono HO386.out (fun _ hk => trivial), by repeat (first | (with_reducible first | exact HB.out | apply qca | apply qba | apply qda) | exact HB.out)⟩
  ·rw [if_neg c5] at H
   exact absurd H (by simp)
 ·rw [if_neg c4] at H
  exact absurd H (by simp)
def juntoref02_Sub.f (k : Nat) (a0 : Int) (l1 : List Int) (l2 : List Int) : Option (List Int) := (qdb.f k a0 l2 (IntKind.u64.wrap (a0 - 1))).bind fun t387 => ((qxa.f k a0 l1 t387).bind fun t390 => (some t390))
theorem juntoref02_Sub.calls (k : Nat) (a0 : Int) (A1 : Option Addr) (c1 : Nat) (l1 : List Int) (A2 : Option Addr) (c2 : Nat) (l2 : List Int) (r : List Int) (w : World) (hr1 : Kd.C (Kd.int .u64) w A1 l1.length l1) (hc1 : l1.length ≤ c1) (hr2 : Kd.C (Kd.int .u64) w A2 l2.length l2) (hc2 : l2.length ≤ c2) (h : juntoref02_Sub.f k a0 l1 l2 = some r) :
  Calls Try.prog 57 #[.int .u64 a0, .slice A1 l1.length c1, .slice A2 l2.length c2] w fun e w' => ∃ v0_ : Value, e = .returned (v0_) ∧ Kd.R (Kd.int .u64) 22 w' w.heap.size (fun _ => True) v0_ r ∧ Below w.heap.size w w' := by
 have HR1 := Aside0.mk hr1
 have HC1 := Aside0.mk hc1
 clear hr1 hc1
 have HR2 := Aside0.mk hr2
 have HC2 := Aside0.mk hc2
 clear hr2 hc2
 have HB := Aside0.mk (Below.refl w.heap.size w)
 have H : ((qdb.f k a0 l2 (IntKind.u64.wrap (a0 - 1))).bind fun t387 => ((qxa.f k a0 l1 t387).bind fun t390 => (some t390))) = some r := h
 clear h
 replace H := Option.bind_eq_some_iff.mp H
 obtain ⟨t387, A40, H⟩ := H
 try dsimp only at H
 have A4 := Aside0.mk A40
 clear A40
 replace H := Option.bind_eq_some_iff.mp H
 obtain ⟨t390, A50, H⟩ := H
 try dsimp only at H
 have A5 := Aside0.mk A50
 clear A50
 obtain rfl := Option.some.inj H
 go_enter Try.func57, Try.ntmps57
 go_wp2_with (first | ((with_reducible refine qoa (f := 90) rfl ?_); refine goesL_ (some 13) rfl rfl Try.func90 (by kernel_rfl) rfl #[.int .u64 a0, .slice A2 l2.length c2, .int .u64 (IntKind.u64.wrap (a0 - 1))] rfl (by (try simp only [qM1, qM2, qM3]); first | done | rfl) ?_; (with_reducible refine (qdb.calls k a0 _ _ l2 (IntKind.u64.wrap (a0 - 1)) t387 _ ?side1 ?side2 A4.out).mono ?_); (case side1 => repeat (first | exact HR2.out | (with_reducible first | refine Kd.C_alloc ?_ _ | refine Kd.C_drewN ?_ _ | refine Kd.C_drew ?_))); (case side2 => exact HC2.out); rintro e w6 ⟨v388, rfl, ho0, hb⟩; refine ⟨_, rfl, ?_⟩; have n0_ := Aside0.mk (Kd.R_lower ho0 (qka (by with_reducible repeat first | exact HB.out | apply qca | apply qba | apply qda))); have n1_ := Aside0.mk (qla (by with_reducible repeat first | exact HB.out | apply qca | apply qba | apply qda) hb); clear HB; have HO389 := n0_; have HB := n1_; clear n0_ n1_; (try clear hb); (try clear hb2); (try clear hk); (try clear hi); (try clear ho0); obtain ⟨Ao7, co7, eo7⟩ := Kd.R_slice HO389.out; subst eo7) | ((with_reducible refine qoa (f := 55) rfl ?_); refine goesL_ (some 14) rfl rfl Try.func55 (by kernel_rfl) rfl #[.int .u64 a0, .slice A1 l1.length c1, .slice Ao7 t387.length co7] rfl (by (try simp only [qM1, qM2, qM3]); first | done | rfl) ?_; (with_reducible refine (qxa.calls k a0 _ _ l1 _ _ t387 t390 _ ?side1 ?side2 ?side3 ?side4 A5.out).mono ?_); (case side1 => repeat (first | exact (Kd.C_below HR1.out HB.out) | (with_reducible first | refine Kd.C_alloc ?_ _ | refine Kd.C_drewN ?_ _ | refine Kd.C_drew ?_))); (case side2 => exact HC1.out); (case side3 => repeat (first | exact (Kd.R_reads' HO389.out).2.2 | (with_reducible first | refine Kd.C_alloc ?_ _ | refine Kd.C_drewN ?_ _ | refine Kd.C_drew ?_))); (case side4 => exact (Kd.R_reads' HO389.out).2.1); rintro e w8 ⟨v391, rfl, ho0, hb⟩; refine ⟨_, rfl, ?_⟩; have n0_ := Aside0.mk (Kd.R_elder' (by (with_reducible repeat first | apply Kd.qja | apply Kd.qia | apply Kd.R_drew); exact HO389.out) (Kd.R_base ho0) hb); have n1_ := Aside0.mk (Kd.R_lower (Kd.R_new' ho0 (Kd.R_lt (by (with_reducible repeat first | apply Kd.qja | apply Kd.qia | apply Kd.R_drew); exact HO389.out))) (qka (by with_reducible repeat first | exact HB.out | apply qca | apply qba | apply qda))); have n2_ := Aside0.mk (qla (by with_reducible repeat first | exact HB.out | apply qca | apply qba | apply qda) hb); clear HO389; clear HB; have HO389 := n0_; have HO392 := n1_; have HB := n2_; clear n0_ n1_ n2_; (try clear hb); (try clear hb2); (try clear hk); (try clear hi); (try clear ho0)))
 go_ret
 exact ⟨_, by first | rfl | (simp [errW_none, errW_some] <;> rfl) | (simp [*, errW_none, errW_some] <;> rfl), by (with_reducible repeat first | apply Kd.qja | apply Kd.qia | apply Kd.R_drew); exact Kd.R_mono HO392.out (fun _ hk => trivial), by repeat (first | (with_reducible first | exact HB.out | apply qca | apply qba | apply qda) | exact HB.out)⟩
def field_Minus.f (a0 : Int) (a1 : Int) (a2 : Int) : Option (Int) := if a0 = 0 then (none) else ((field_Plus.f a0 a1 (Int.tmod (IntKind.u64.wrap (a0 - a2)) a0)).bind fun t473 => (some t473))
theorem field_Minus.calls (a0 : Int) (a1 : Int) (a2 : Int) (r : Int) (w : World) (h : field_Minus.f a0 a1 a2 = some r) :
  Calls Try.prog 142 #[.int .u64 a0, .int .u64 a1, .int .u64 a2] w fun e w' => e = .returned (.int .u64 r) ∧ Drawn0 w w' := by
 have H : (if a0 = 0 then (none) else ((field_Plus.f a0 a1 (Int.tmod (IntKind.u64.wrap (a0 - a2)) a0)).bind fun t473 => (some t473))) = some r := h
 clear h
 by_cases c4 : a0 = 0
 ·rw [if_pos c4] at H
  exact absurd H (by simp)
 ·rw [if_neg c4] at H
  have c4b0 : (a0 == 0) = false := beq_eq_false_iff_ne.mpr c4
  have c4b1 : (a0 != 0) = true := bne_iff_ne.mpr c4
  replace H := Option.bind_eq_some_iff.mp H
  obtain ⟨t473, A50, H⟩ := H
  try dsimp only at H
  have A5 := Aside0.mk A50
  clear A50
  obtain rfl := Option.some.inj H
  go_enter Try.func142, Try.ntmps142
  go_wp2_with (first | ((with_reducible refine qoa (f := 147) rfl ?_); refine goesL_ (some 14) rfl rfl Try.func147 (by kernel_rfl) rfl #[.int .u64 a0, .int .u64 a1, .int .u64 (Int.tmod (IntKind.u64.wrap (a0 - a2)) a0)] rfl (by (try simp only [qM1, qM2, qM3]); first | done | rfl) ?_; (with_reducible refine (field_Plus.calls a0 a1 (Int.tmod (IntKind.u64.wrap (a0 - a2)) a0) t473 _ A5.out).mono ?_); rintro e w' ⟨rfl, ⟨nd, rfl⟩⟩; refine ⟨_, rfl, ?_⟩))
  go_ret
  exact ⟨by first | rfl | (simp; done) | (simp [*]; done), by repeat (first | exact Drawn0.refl _ | apply Drawn0.step)⟩
theorem field_Minus.callsB (a0 : Int) (a1 : Int) (a2 : Int) (r : Int) (w : World) (h : field_Minus.f a0 a1 a2 = some r) :
  Calls Try.prog 142 #[.int .u64 a0, .int .u64 a1, .int .u64 a2] w fun e w' => e = .returned (.int .u64 r) ∧ Below w.heap.size w w' := (field_Minus.calls a0 a1 a2 r w h).mono fun _ _ h_ => ⟨h_.1, h_.2.below⟩
def poly_Minus.f (k : Nat) (a0 : Int) (l1 l2 : List Int) : Option (List Int) := poly_each.f k field_Minus.f a0 l1 l2
theorem poly_Minus.mono (a0 : Int) (l1 l2 : List Int) (k : Nat) : LeO (poly_Minus.f k a0 l1 l2) (poly_Minus.f (k + 1) a0 l1 l2) := poly_each.mono _ _ _ _ _
theorem poly_Minus.calls (k : Nat) (a0 : Int) (A1 : Option Addr) (c1 : Nat) (l1 : List Int) (A2 : Option Addr) (c2 : Nat) (l2 : List Int) (r : List Int) (w : World) (hr1 : Kd.C (Kd.int .u64) w A1 l1.length l1) (hc1 : l1.length ≤ c1) (hr2 : Kd.C (Kd.int .u64) w A2 l2.length l2) (hc2 : l2.length ≤ c2) (h : poly_Minus.f k a0 l1 l2 = some r) :
  Calls Try.prog 135 #[.int .u64 a0, .slice A1 l1.length c1, .slice A2 l2.length c2] w fun e w' => ∃ v0_ : Value, e = .returned (v0_) ∧ Kd.R (Kd.int .u64) 22 w' w.heap.size (fun _ => True) v0_ r ∧ Below w.heap.size w w' := by
 have K := Aside0.mk (poly_each.calls k field_Minus.f 142 (fun args w => enters_ Try.func142 (by kernel_rfl) rfl args w) (fun a b c r w h => field_Minus.calls a b c r w h) a0 A1 c1 l1 A2 c2 l2 r w hr1 hc1 hr2 hc2 h)
 clear hr1 hr2 hc1 hc2 h
 go_enter Try.func135, Try.ntmps135
 go_wp2_with (go_at_call 164; refine K.out.mono ?_; rintro e w' ⟨v, rfl, hR, hB⟩; have HR := Aside0.mk hR; have HB := Aside0.mk hB; clear hR hB)
 go_ret
 exact ⟨_, rfl, HR.out, HB.out⟩
def minusI (p : Int) (f g : List Int) : List Int := zipI (fun a b => (field_Minus.f p a b).getD 0) f g
theorem minusI_spec (a0 : Int) (f g : List Int) (h0 : a0 ≠ 0) (hn : max f.length g.length < 17592186044416) (k : Nat) (hk : 2 * max f.length g.length + 1 < k) : poly_Minus.f k a0 f g = some (minusI a0 f g) := by
 refine each_spec _ a0 f g _ (fun x y => ?_) hn k hk
 unfold field_Minus.f
 rw [if_neg h0]
 unfold field_Plus.f
 split <;> rfl
def poly_By.l0 : Nat → Int → Int → List Int → List Int → Int → Int → Option (List Int)
 | 0, _, _, _, _, _, _ => none
 | k + 1, x0, x2, x7, x13, x14, x15 => if x15 < x14 then (if 0 ≤ x15 then (if x15 < (x13.length : Int) then ((field_Times.f x0 (rd x13 x15) x2).bind fun t478 => (if x15 < (x7.length : Int) then (poly_By.l0 k x0 x2 (x7.set (x15 : Int).toNat t478) x13 x14 (wrap64 (x15 + 1))) else (none))) else (none)) else (none)) else ((qwa.f k x7).bind fun t480 => (some t480))
def poly_By.f (k : Nat) (a0 : Int) (l1 : List Int) (a2 : Int) : Option (List Int) := if 0 ≤ (l1.length : Int) then (if ((l1.length : Int) : Int).toNat ≤ 35184372088832 then (poly_By.l0 k a0 a2 (List.replicate ((l1.length : Int) : Int).toNat 0) l1 (l1.length : Int) 0) else (none)) else (none)
theorem poly_By.calls (k : Nat) (a0 : Int) (A1 : Option Addr) (c1 : Nat) (l1 : List Int) (a2 : Int) (r : List Int) (w : World) (hr1 : Kd.C (Kd.int .u64) w A1 l1.length l1) (hc1 : l1.length ≤ c1) (h : poly_By.f k a0 l1 a2 = some r) :
  Calls Try.prog 136 #[.int .u64 a0, .slice A1 l1.length c1, .int .u64 a2] w fun e w' => ∃ v0_ : Value, e = .returned (v0_) ∧ Kd.R (Kd.int .u64) 22 w' w.heap.size (fun _ => True) v0_ r ∧ Below w.heap.size w w' := by
 have HR1 := Aside0.mk hr1
 have HC1 := Aside0.mk hc1
 clear hr1 hc1
 have HB := Aside0.mk (Below.refl w.heap.size w)
 have H : (if 0 ≤ (l1.length : Int) then (if ((l1.length : Int) : Int).toNat ≤ 35184372088832 then (poly_By.l0 k a0 a2 (List.replicate ((l1.length : Int) : Int).toNat 0) l1 (l1.length : Int) 0) else (none)) else (none)) = some r := h
 clear h
 by_cases c4 : 0 ≤ (l1.length : Int)
 ·rw [if_pos c4] at H
  have c4b0 := eq_true c4
  have c4b1 : decide (0 ≤ (l1.length : Int)) = true := decide_eq_true c4
  clear c4
  by_cases c5 : ((l1.length : Int) : Int).toNat ≤ 35184372088832
  ·rw [if_pos c5] at H
   have c5b0 := eq_true c5
   have c5b1 : decide (((l1.length : Int) : Int).toNat ≤ 35184372088832) = true := decide_eq_true c5
   clear c5
   obtain ⟨y474, hy474⟩ : ∃ y_ : List Int, y_ = (List.replicate ((l1.length : Int) : Int).toNat 0) := ⟨_, rfl⟩
   replace H : (poly_By.l0 k a0 a2 y474 l1 (l1.length : Int) 0) = some r := by first | (rw [hy474]; with_reducible exact H) | (have H2_ := (Option.bind_some _ _).symm.trans H; rw [hy474]; with_reducible exact H2_) | (have H2_ := (Option.bind_some _ _).symm.trans H; with_reducible exact H2_) | with_reducible exact H | (rw [hy474]; exact H) | exact H
   have Ny474 := Aside0.mk hy474
   clear hy474
   have H' := Aside0.mk H
   clear H
   go_enter Try.func136, Try.ntmps136
   go_wp2_with (first | ((with_reducible refine gate_dst (N := 12) rfl ?_); refine Kd.R_make (Kd.int .u64) _ 22 rfl (N := 12) rfl 31 _ _ rfl (l1.length : Int) rfl rfl Try.underlying31 (.int .u64 0) 8 info22 rfl (by decide) (by omega) 0 (ok := fun _ => True) (okp := fun _ => True) rfl (fun _ hk => hk) trivial (of_decide_eq_true (by first | (with_reducible assumption) | assumption)) (Nat.le_trans (Nat.mul_le_mul_right _ (of_decide_eq_true (by first | (with_reducible assumption) | assumption) : (l1.length : Int).toNat ≤ 35184372088832)) (by omega)) (Below.refl _ _) (Nat.le_refl _) ?_; intro v475 w6 ho7 hb hg_ hnew_; clear hg_ hnew_; (first | rw [← Ny474.out] at ho7 | (simp only [Int.reduceToNat] at ho7; rw [← Ny474.out] at ho7)); have n0_ := Aside0.mk (Kd.R_lower ho7 (qka (by with_reducible repeat first | exact HB.out | apply qca | apply qba | apply qda))); have n1_ := Aside0.mk (qla (by with_reducible repeat first | exact HB.out | apply qca | apply qba | apply qda) hb); clear HB; have HO476 := n0_; have HB := n1_; clear n0_ n1_; clear hb ho7))
   go_loopg [15] k (fun kq v15 w' => ∃ (x7_1 : List Int) (x15_1 : Int), v15 = .int .i64 x15_1 ∧ Aside0 (poly_By.l0 kq a0 a2 x7_1 l1 (l1.length : Int) x15_1 = some r) ∧ Aside0 (kq ≤ k) ∧ Aside0 (Kd.R (Kd.int .u64) 22 w' w.heap.size (fun _ => True) v475 x7_1) ∧ Aside0 (Below w.heap.size w w'))
   case atStart => exact ⟨(y474), (0), (by first | rfl | (simp; done) | (simp [*]; done)), H', ⟨Nat.le_refl _⟩, ⟨by (with_reducible repeat first | apply Kd.qja | apply Kd.qia | apply Kd.R_drew); exact HO476.out⟩, ⟨by repeat (first | (with_reducible first | exact HB.out | apply qca | apply qba | apply qda) | exact HB.out)⟩⟩
   case round =>
    clear H'; (try clear c1); (try clear p2); (try clear c4); (try clear c4b0); (try clear c4b1); (try clear c5); (try clear c5b0); (try clear c5b1)
    obtain ⟨x7_1, x15_1, rfl, HA, HK1, HO_7, HB⟩ := hrel
    cases gk with
    | zero => exact absurd HA.out (by simp [poly_By.l0])
    | succ k1 =>
     have H := HA.out
     clear HA
     simp only [poly_By.l0] at H
     by_cases c8 : x15_1 < (l1.length : Int)
     ·rw [if_pos c8] at H
      have c8b0 : decide (x15_1 < (l1.length : Int)) = true := decide_eq_true c8
      clear c8
      by_cases c9 : 0 ≤ x15_1
      ·rw [if_pos c9] at H
       have c9b0 : decide (0 ≤ x15_1) = true := decide_eq_true c9
       clear c9
       by_cases c10 : x15_1 < (l1.length : Int)
       ·rw [if_pos c10] at H
        have c10b0 : decide (x15_1 < (l1.length : Int)) = true := decide_eq_true c10
        clear c10
        replace H := Option.bind_eq_some_iff.mp H
        obtain ⟨t478, A110, H⟩ := H
        try dsimp only at H
        have A11 := Aside0.mk A110
        clear A110
        by_cases c12 : x15_1 < (x7_1.length : Int)
        ·rw [if_pos c12] at H
         have c12b0 : decide (x15_1 < (x7_1.length : Int)) = true := decide_eq_true c12
         clear c12
         obtain ⟨y479, hy479⟩ : ∃ y_ : List Int, y_ = (x7_1.set (x15_1 : Int).toNat t478) := ⟨_, rfl⟩
         replace H : (poly_By.l0 k1 a0 a2 y479 l1 (l1.length : Int) (wrap64 (x15_1 + 1))) = some r := by first | (rw [hy479]; with_reducible exact H) | (have H2_ := (Option.bind_some _ _).symm.trans H; rw [hy479]; with_reducible exact H2_) | (have H2_ := (Option.bind_some _ _).symm.trans H; with_reducible exact H2_) | with_reducible exact H | (rw [hy479]; exact H) | exact H
         have Ny479 := Aside0.mk hy479
         clear hy479
         have H' := Aside0.mk H
         clear H
         have p477 : 0 ≤ (x15_1 : Int) := of_decide_eq_true (by first | (with_reducible assumption) | assumption)
         have q477 : x15_1 < (l1.length : Int) := of_decide_eq_true (by first | (with_reducible assumption) | assumption)
         obtain ⟨ad477, e477, hx477_0⟩ := Kd.at_int HR1.out x15_1 p477 q477
         cases e477
         replace hx477_0 := (HB.out.cell (World.block_lt_of_cell? w _ hx477_0)).trans hx477_0
         replace p477 := eq_true p477; replace q477 := eq_true q477
         go_wp2_with (first | ((with_reducible refine qoa (f := 148) rfl ?_); refine goesL_ (some 25) rfl rfl Try.func148 (by kernel_rfl) rfl #[.int .u64 a0, .int .u64 (rd l1 x15_1), .int .u64 a2] rfl (by (try simp only [qM1, qM2, qM3]); first | done | rfl) ?_; (with_reducible refine (field_Times.calls a0 (rd l1 x15_1) a2 t478 _ A11.out).mono ?_); rintro e w' ⟨rfl, ⟨nd, rfl⟩⟩; refine ⟨_, rfl, ?_⟩; (try (rw [drewN_self wr]; generalize hq_ : World.drewN wr _ = wr; have n0_ : Aside0 (Kd.R (Kd.int .u64) 22 wr w.heap.size (fun _ => True) v475 x7_1) := ⟨by rw [← hq_]; exact (by (with_reducible repeat first | apply Kd.qja | apply Kd.qia | apply Kd.R_drew); exact HO_7.out)⟩; have n1_ : Aside0 (Below w.heap.size w wr) := ⟨by rw [← hq_]; exact (by with_reducible repeat first | exact HB.out | apply qca | apply qba | apply qda)⟩; clear HO_7 HB hq_; have HO_7 := n0_; have HB := n1_; clear n0_ n1_)); have p13 : 0 ≤ (x15_1 : Int) := of_decide_eq_true (by first | (with_reducible assumption) | assumption); have q13 : (x15_1 : Int) < ((x7_1.length : Int) : Int) := of_decide_eq_true (by first | (with_reducible assumption) | assumption); obtain ⟨go13, co13, eo13, gb13, gl13, cl13, HG13⟩ := Kd.R_form HO_7.out (by omega); (first | cases eo13 | (injection eo13 with ea_ en_ ec_; (first | subst ea_ | (injection ea_ with ea_; subst ea_)); subst ec_; clear en_)); have GB13 := Aside0.mk gb13; have GG13 := Aside0.mk HG13; clear gb13 gl13 HG13; obtain ⟨hx13_0, hf13_0⟩ := Kd.R_celln 0 HO_7.out (x15_1 : Int) p13 q13; replace p13 := eq_true p13; replace q13 := eq_true q13; obtain ⟨hy14_, hz14_⟩ := Kd.R_celln 0 HO_7.out (x15_1 : Int) (of_decide_eq_true (by first | (with_reducible assumption) | assumption)) (of_decide_eq_true (by first | (with_reducible assumption) | assumption)); have HP14 := Kd.R_putg HO_7.out (x15_1 : Int) t478) | ((with_reducible refine gate_store (t := 22) (p := 26) rfl ?_); refine store_event (t := 22) (p := 26) (v := ?vo_w15) (w1 := (wr.setCell ⟨go13, (x15_1 : Int).toNat, none⟩ (.int .u64 t478))) ?hg ?ho ?hn ?hr ?_; (case ho => rfl); (case hg => rfl); (case hn => rfl); (case hr => first | (go_simp; done) | (go_simp; rfl)); intro w15 hw; have hg : wr.grownBy w15 (some go13) := (by rw [hw]; exact HP14.2); have hp_ : Kd.R (Kd.int .u64) 22 w15 w.heap.size (fun _ => True) (.slice (some ⟨go13, 0, none⟩) x7_1.length co13) y479 := (by rw [hw, Ny479.out]; exact HP14.1); clear HP14; have n0_ := Aside0.mk (hp_); have n1_ := Aside0.mk ((by rw [hw]; exact qha (HB.out) GB13.out : Below w.heap.size w w15)); clear HO_7; clear HB; have HO_7 := n0_; have HB := n1_; clear n0_ n1_; clear hg hw hp_))
         go_roundg k1
         case measure => have := HK1.out; omega
         case rel => exact ⟨(y479), (wrap64 (x15_1 + 1)), (by first | rfl | (simp; done) | (simp [*]; done)), H', ⟨by have := HK1.out; omega⟩, ⟨by (with_reducible repeat first | apply Kd.qja | apply Kd.qia | apply Kd.R_drew); exact HO_7.out⟩, ⟨by repeat (first | (with_reducible first | exact HB.out | apply qca | apply qba | apply qda) | exact HB.out)⟩⟩
        ·rw [if_neg c12] at H
         exact absurd H (by simp)
       ·rw [if_neg c10] at H
        exact absurd H (by simp)
      ·rw [if_neg c9] at H
       exact absurd H (by simp)
     ·rw [if_neg c8] at H
      have c8b0 : decide (x15_1 < (l1.length : Int)) = false := decide_eq_false c8
      clear c8
      replace H := Option.bind_eq_some_iff.mp H
      obtain ⟨t480, A160, H⟩ := H
      try dsimp only at H
      have A16 := Aside0.mk A160
      clear A160
      obtain rfl := Option.some.inj H
      obtain ⟨Ao17, co17, eo17⟩ := Kd.R_slice HO_7.out
      subst eo17
      go_wp2_with (first | ((with_reducible refine qoa (f := 127) rfl ?_); refine goesL_ (some 29) rfl rfl Try.func127 (by kernel_rfl) rfl #[.slice Ao17 x7_1.length co17] rfl (by (try simp only [qM1, qM2, qM3]); first | done | rfl) ?_; (with_reducible refine (qwa.calls k1 _ _ x7_1 t480 _ ?side1 ?side2 A16.out).mono ?_); (case side1 => repeat (first | exact (Kd.R_reads' HO_7.out).2.2 | (with_reducible first | refine Kd.C_alloc ?_ _ | refine Kd.C_drewN ?_ _ | refine Kd.C_drew ?_))); (case side2 => exact (Kd.R_reads' HO_7.out).2.1); rintro e w18 ⟨v481, rfl, ho0, hb⟩; refine ⟨_, rfl, ?_⟩; have n0_ := Aside0.mk (Kd.R_elder' (by (with_reducible repeat first | apply Kd.qja | apply Kd.qia | apply Kd.R_drew); exact HO_7.out) (Kd.R_base ho0) hb); have n1_ := Aside0.mk (Kd.R_lower (Kd.R_new' ho0 (Kd.R_lt (by (with_reducible repeat first | apply Kd.qja | apply Kd.qia | apply Kd.R_drew); exact HO_7.out))) (qka (by with_reducible repeat first | exact HB.out | apply qca | apply qba | apply qda))); have n2_ := Aside0.mk (qla (by with_reducible repeat first | exact HB.out | apply qca | apply qba | apply qda) hb); clear HO_7; clear HB; have HO_7 := n0_; have HO482 := n1_; have HB := n2_; clear n0_ n1_ n2_; (try clear hb); (try clear hb2); (try clear hk); (try clear hi); (try clear ho0)))
      go_ret
      exact ⟨_, by first | rfl | (simp [errW_none, errW_some] <;> rfl) | (simp [*, errW_none, errW_some] <;> rfl), by (with_reducible repeat first | apply Kd.qja | apply Kd.qia | apply Kd.R_drew); exact Kd.R_mono HO482.out (fun _ hk => trivial), by repeat (first | (with_reducible first | exact HB.out | apply qca | apply qba | apply qda) | exact HB.out)⟩
  ·rw [if_neg c5] at H
   exact absurd H (by simp)
 ·rw [if_neg c4] at H
  exact absurd H (by simp)
end Go.Proofs.Ytjjnfobeeflnhaa.J
