/- Part 7 of the proof of ShareBack: what the functions compute as plain Lean functions, that the machine comes to just these answers, and that the answer is true; no conditions. -/
import Derived.Test.YtjjnfobeeflnhaaShareBackZ0
import Derived.Test.YtjjnfobeeflnhaaShareBackZ1
import Derived.Test.YtjjnfobeeflnhaaShareBackZ2
import Derived.Test.YtjjnfobeeflnhaaShareBackZ3
import Derived.Test.YtjjnfobeeflnhaaShareBackZ4
import Derived.Test.YtjjnfobeeflnhaaShareBackZ5
import Derived.Test.YtjjnfobeeflnhaaShareBackZ6
import Derived.Shelf.SlicesE.Compact
import Derived.RangeFuncBox
import Derived.RangeFuncLeaves
import Derived.RangeFuncCalls
import Derived.RangeFuncWrites
import Derived.Shelf.Abstract
import Derived.OwnWalkIn
import Derived.TacticsInMore
import Derived.LoopNIn
import Derived.LoopIn
import Derived.Maps.AppendAt
set_option linter.unusedSimpArgs false
set_option linter.unusedVariables false
set_option maxHeartbeats 8000000
set_option maxRecDepth 1000000
namespace Go.Proofs.Ytjjnfobeeflnhaa.J
open Go.RowKit Go.Proofs.YtjjnfobeeflnhaaW.PrintWords Go.Proofs.YtjjnfobeeflnhaaW.PrintLast Go.Proofs.YtjjnfobeeflnhaaW.PrintMore
attribute [local go_sem] max2_int min2_int max_two min_two max_three min_three max_four min_four
section
open Go.Shelf
attribute [local go_sem] Oper.semAt_some
theorem qeb.values_calls (Bs cap : Nat) (A : Option Addr) (zs : List Int) (w : World) (hlen : zs.length < 17592186044416) (hBs : w.cell? ⟨Bs, 0, none⟩ = some (.slice A zs.length cap)) (hBl : Bs < w.heap.size) (hC : Kd.C (Kd.int .u64) w A zs.length zs) :
  Calls Try.prog 177 #[.slice none 0 0, .func (.func 176) #[] #[.pointer (some ⟨Bs, 0, none⟩)]] w fun e w' => ∃ v, e = .returned v ∧ w'.ownsRow w.heap.size 22 1 v zs.length (zs.map (Value.int .u64)) ∧ Below w.heap.size w w' := by
 have hA : ∀ ad, A = some ad → 0 < zs.length → ad.block < w.heap.size := by
  rintro ad rfl hl
  obtain ⟨ad', e, h⟩ := Kd.at_int hC 0 (by omega) (by omega)
  cases e
  have := World.block_lt_of_cell? w _ h
  rw [show (ad.add (Int.toNat 0)).block = ad.block by unfold Addr.add; split <;> rfl] at this
  exact this
 have HC := Aside0.mk hC
 clear hC
 have hmax : zs.length ≤ maxLen := by unfold maxLen; omega
 have hbytes : zs.length * 8 ≤ 140737488355328 := by omega
 refine (callsIn_wide (n := 5)).1 ?_
 have h1 : 1 ≤ 5 := by omega
 obtain ⟨i0, hi, hz0, hz1, hz2⟩ := info_parts info22
 refine callsIn_of_wp_marks Try.func177 rfl trivial ?_ rfl
 simp only [Try.ntmps177, List.size_toArray, List.length_cons, List.length_nil, Nat.reduceAdd, Nat.reduceSub, Array.replicate_succ, Array.replicate_zero, List.push_toArray, List.append_toArray, List.nil_append, List.cons_append]
 gi_wp2
 have bO := Boxed.new w 31 (.slice none 0 0)
 have hB0 : Below w.heap.size w (w.alloc (.cells #[.slice none 0 0] 31)) := (Below.refl _ w).alloc (Nat.le_refl _) _
 refine wpIn_rangeFunc_ownG rfl h1 (gf := 176) (lb := #[.pointer (some ⟨Bs, 0, none⟩)]) rfl trivial (enters_of Try.func176 (by kernel_rfl) rfl)
  (slices_Values_uint64_uint64_stops Fence.wide (5 - 1) trivial rfl (by omega) Bs w.heap.size cap A zs _ (by simp; omega) (by simp) ((hB0.cell (p := ⟨Bs, 0, none⟩) hBl).trans hBs) (Kd.C_below HC.out hB0) hA) belowK_t (belowK_b (by simp)) (Below.refl _ _) (fun _ => rfl)
  (fun pre W => (∃ v, Boxed W w.heap.size 31 v ∧ W.ownsRow w.heap.size 22 1 v pre.length (pre.map (Value.int .u64)) ∧ True) ∧ Below w.heap.size w W)
  (fun _ _ _ => False)
  (OwnFrom.and (Own.from (holdsRow_own w.heap.size w.heap.size 31 22 1 (fun pre : List Int => pre.length) (fun pre => pre.map (Value.int .u64)) (fun pre v => True)) _) (ownFrom_below (Nat.le_refl _) (by simp)))
  (fun _ _ _ _ _ hs _ _ => hs)
  ⟨⟨_, bO, World.ownsRow_nil _ _ _ _, trivial⟩, hB0⟩
  (fun x => { tmps := #[.slice none 0 0, .func (.func 176) #[] #[.pointer (some ⟨Bs, 0, none⟩)], .pointer (some ⟨w.heap.size, 0, none⟩), undef, .slice none 0 0, .int .u64 x, .func (.func 176) #[] #[.pointer (some ⟨Bs, 0, none⟩)], .int .u64 x, undef, undef, undef, undef, undef], defers := [] }) ?assign ?body ?done ?stop
 case assign =>
  intro l x W K hK
  gi_wp2
  exact hK
 case body =>
  rintro l pre x W ⟨⟨v, hv, hrow, -⟩, hB⟩ hlt
  have hc := hv.cell
  gi_wp2_with (gi_at_builtin; refine wpListIn_append_own _ rfl _ _ 31 rfl w.heap.size 22 i0 (.int .u64 0) 1 8 Try.underlying31 hi hz0 hz1 hz2 rfl (by decide) _ _ _ rfl (hrow.alloc _) ⟨W.heap.size, 0, none⟩ 1 1 [.int .u64 x] rfl rfl (cell_one_new _ _ _) (by simp [Value.oneCell']) (by omega) (by omega) (by have := hB.size; simp; omega) ?_; intro v' w1 hown' hgrow _; obtain ⟨g', cap', rfl⟩ := ownsRow_succ hown'; obtain ⟨hv1, hv2, hr2, hk2, hb2⟩ := hv.appended (by decide) hrow hB.size (Nat.le_refl _) hown' hgrow; have hc1 := hv1.cell; have hf1 := hv1.frozen)
  exact ⟨hk2.from _, hb2, ⟨_, hv2, by simpa using hr2, trivial⟩, hB.trans hb2⟩
 case done =>
  rintro D ys W hD rfl ⟨⟨v, hv, hrow, -⟩, hB⟩ hK
  have hc := hv.cell
  gi_wp2
  refine ⟨by simp, .inl ⟨_, _, rfl, run_takeDeferred hK, ?_⟩⟩
  exact ⟨_, results_tmp rfl _ _ _, v, rfl, ownsRow_putObj hrow _ hK rfl, hB.trans (belowK_b (w := w) (Nat.le_refl _) W D _ _ (by simp at hD; omega) hK rfl rfl)⟩
 case stop =>
  rintro D c pre W _ _ h _
  exact h.elim
end
theorem qeb.collect_calls (Bs cap : Nat) (A : Option Addr) (zs : List Int) (w : World) (hlen : zs.length < 17592186044416) (hBs : w.cell? ⟨Bs, 0, none⟩ = some (.slice A zs.length cap)) (hBl : Bs < w.heap.size) (hC : Kd.C (Kd.int .u64) w A zs.length zs) :
  Calls Try.prog 174 #[.func (.func 176) #[] #[.pointer (some ⟨Bs, 0, none⟩)]] w fun e w' => ∃ v, e = .returned v ∧ w'.ownsRow w.heap.size 22 1 v zs.length (zs.map (Value.int .u64)) ∧ Below w.heap.size w w' := by
 have K := Aside0.mk (qeb.values_calls Bs cap A zs w hlen hBs hBl hC)
 clear hlen hBs hBl hC
 go_enter Try.func174, Try.ntmps174
 go_wp2_with (go_at_call 177; refine K.out.mono ?_; rintro e w' ⟨v, rfl, hR, hB⟩; have HR := Aside0.mk hR; have HB := Aside0.mk hB; clear hR hB)
 go_ret
 exact ⟨_, rfl, HR.out, HB.out⟩
section
open Go.Sort
theorem qeb.holds_block {w : World} {g : Nat} {cur : Array Value} {e : TypeId} {ss : List Int} (hb : w.heap[g]? = some (.cells cur e (0, 0))) (ht : cur.toList.take ss.length = ss.map (Value.int .u64)) : Holds (Value.int .u64) w g 0 ss.toArray := by
 intro j hj
 have hj' : j < ss.length := by simpa using hj
 refine ⟨?_, by simp [World.frozen?, hb]⟩
 have h1 : (cur.toList.take ss.length)[j]? = (ss.map (Value.int .u64))[j]? := by rw [ht]
 rw [List.getElem?_take_of_lt hj'] at h1
 simp only [World.cell?, hb, Nat.zero_add]
 simp only [Option.isSome_none, Bool.false_eq_true, if_false]
 rw [← Array.getElem?_toList, h1]
 simp [hj']
theorem qeb.heap_put {w : World} {g n : Nat} {os : Array Obj} {cur : Array Value} {e : TypeId} {fr : Nat × Nat} (d : Array Int) (hb : w.heap[g]? = some (.cells cur e fr)) :
  (grow (putRow (Value.int .u64) (Sort.ahead w n) g 0 d) os).heap[g]? = some (.cells (putCells (Value.int .u64) 0 d cur) e fr) := by
 have hg : g < w.heap.size := (Array.getElem?_eq_some_iff.1 hb).1
 rw [heap_grow_old _ _ (by simpa using hg)]
 simp [putRow, mapBlock, Sort.ahead, Array.getElem?_modify, hb, onCells]
theorem qeb.grown_put {w : World} {g n : Nat} {os : Array Obj} (d : Array Int) : w.grownBy (grow (putRow (Value.int .u64) (Sort.ahead w n) g 0 d) os) (some g) := by
 refine ⟨rfl, rfl, rfl, by simp, fun k hk hne => ?_⟩
 rw [heap_grow_old _ _ (by simpa using hk)]
 have : g ≠ k := fun e => hne (by rw [e])
 simp [putRow, mapBlock, Sort.ahead, Array.getElem?_modify, this]
theorem qeb.take_put (cur : Array Value) (ts : List Int) (h : ts.length ≤ cur.size) : (putCells (Value.int .u64) 0 ts.toArray cur).toList.take ts.length = ts.map (Value.int .u64) := by
 apply List.ext_getElem?
 intro j
 by_cases hj : j < ts.length
 ·rw [List.getElem?_take_of_lt hj, Array.getElem?_toList]
  simp [putCells, hj, show j < cur.size by omega]
 ·rw [List.getElem?_take_eq_none (by omega), List.getElem?_eq_none (by simp; omega)]
theorem qeb.owns_put {w : World} {base g cap n : Nat} {e : TypeId} {os : Array Obj} {cur : Array Value} {ss ts : List Int} (hl : ts.length = ss.length) (hbase : base ≤ g) (hb : w.heap[g]? = some (.cells cur e (0, 0)))
  (h1 : ss.length ≤ cap) (h2 : cap ≤ maxLen) (h3 : cur.size = cap * 1) :
  (grow (putRow (Value.int .u64) (Sort.ahead w n) g 0 ts.toArray) os).ownsRow base e 1 (.slice (some ⟨g, 0, none⟩) ss.length cap) ss.length (ts.map (Value.int .u64)) :=
 ⟨by simp [hl], .inr ⟨g, cap, _, rfl, hbase, qeb.heap_put _ hb, h1, h2, by simp [putCells, h3], by rw [Nat.mul_one, ← hl]; exact qeb.take_put cur ts (by omega)⟩⟩
end
theorem qeb.sorted_calls (Bs cap : Nat) (A : Option Addr) (zs : List Int) (w : World) (hlen : zs.length < 17592186044416) (hBs : w.cell? ⟨Bs, 0, none⟩ = some (.slice A zs.length cap)) (hBl : Bs < w.heap.size) (hC : Kd.C (Kd.int .u64) w A zs.length zs) :
  Calls Try.prog 167 #[.func (.func 176) #[] #[.pointer (some ⟨Bs, 0, none⟩)]] w fun e w' => ∃ v, e = .returned v ∧ w'.ownsRow w.heap.size 22 1 v zs.length ((zs.mergeSort fun x y => decide (x ≤ y)).map (Value.int .u64)) ∧ Below w.heap.size w w' := by
 have K1 := Aside0.mk (qeb.collect_calls Bs cap A zs w hlen hBs hBl hC)
 clear hBs hBl hC
 go_enter Try.func167, Try.ntmps167
 go_wp2_with (go_at_call 174; refine K1.out.mono ?_; rintro e W ⟨v, rfl, hrow, hb⟩)
 rcases hrow.2 with ⟨rfl, hz⟩ | ⟨gb, cp, cur, rfl, hbase, hgb, r1, r2, r3, r4⟩
 ·have HR := Aside0.mk hrow
  have HB := Aside0.mk hb
  have HZ := Aside0.mk hz
  clear hrow hb hz K1
  go_wp2_with (go_at_call 175; refine (Srt.Sort_int_nil none 0 W).mono ?_; rintro e w' ⟨rfl, rfl⟩)
  go_ret
  obtain rfl : zs = [] := List.eq_nil_of_length_eq_zero HZ.out
  exact ⟨_, rfl, by simpa using HR.out, HB.out⟩
 ·have K2 := Aside0.mk (Srt.slices_Sort_int gb 0 cp zs W (qeb.holds_block hgb (by simpa using r4)) (Array.getElem?_eq_some_iff.1 hgb).1 (by omega))
  have KO := Aside0.mk (fun n os => qeb.owns_put (n := n) (os := os) (ss := zs) (ts := zs.mergeSort fun x y => decide (x ≤ y)) (by simp) hbase hgb r1 r2 r3)
  have HB := Aside0.mk (fun n os => hb.grown (qeb.grown_put (g := gb) (n := n) (os := os) (zs.mergeSort fun x y => decide (x ≤ y)).toArray) hb.size (fun j hj => by cases hj; exact hbase))
  clear hrow hb hgb r4 K1 r1 r2 r3 hbase
  go_wp2_with (go_at_call 175; refine K2.out.mono ?_; rintro e w' ⟨rfl, nn, os, rfl⟩)
  go_ret
  exact ⟨_, rfl, KO.out nn os, HB.out nn os⟩
def qeb.cmp_ren : Go.Shelf.Ren := ⟨fun | 43 => 169 | n => n, fun | 3 => 3 | 4 => 4 | 22 => 31 | 23 => 22 | n => n, fun n => n⟩
theorem qeb.cmp_lays : SlLaysE.n43 Try.prog qeb.cmp_ren := { mixed := by kernel_rfl, f43 := ⟨Try.f169.name, by decide, Try.func169.trans (congrArg some (by kernel_rfl))⟩, t0 := Try.underlying0, a0 := Try.isAgg0, z0 := Try.sizeOf0, v0 := Try.zeroValue0, t3 := Try.underlying3, a3 := Try.isAgg3, z3 := Try.sizeOf3, v3 := Try.zeroValue3, t4 := Try.underlying4, a4 := Try.isAgg4, z4 := Try.sizeOf4, v4 := Try.zeroValue4, t22 := Try.underlying31, a22 := Try.isAgg31, z22 := Try.sizeOf31, v22 := Try.zeroValue31, a23 := Try.isAgg22, z23 := Try.sizeOf22 }
theorem qeb.compact_nil (w : World) : Calls Try.prog 169 #[.slice none 0 0] w fun e w' => e = .returned (.slice none 0 0) ∧ w = w' := by
 go_enter Try.func169, Try.ntmps169
 go_wp2
 go_ret
 exact ⟨rfl, rfl⟩
theorem qeb.compact_calls (v : Value) (n : Nat) (ts : List Int) (w0 w : World) (hn : ts.length = n) (hB : Below w0.heap.size w0 w) (hrow : w.ownsRow w0.heap.size 22 1 v n (ts.map (Value.int .u64))) :
  Calls Try.prog 169 #[v] w fun e w' => ∃ A c, e = .returned (.slice A (Go.Lib.compactUpTo ts.toArray ts.length).length c) ∧ Below w0.heap.size w0 w' := by
 subst hn
 rcases hrow.2 with ⟨rfl, hz⟩ | ⟨gb, cp, cur, rfl, hbase, hgb, r1, r2, r3, r4⟩
 ·obtain rfl : ts = [] := List.eq_nil_of_length_eq_zero hz
  refine (qeb.compact_nil w).mono ?_
  rintro e w' ⟨rfl, rfl⟩
  exact ⟨none, 0, rfl, hB⟩
 ·have hm : maxLen ≤ 9223372036854775807 := by decide
  have h := AnyE.slices_Compact qeb.cmp_lays (Value.int .u64) (fun _ => rfl) (EqlAt.intD _ _ _) (NeqAt.intD _ _ _) 0 Try.zeroValue22 gb 0 cp ts.toArray w (qeb.holds_block hgb (by simpa using r4)) (by rw [List.size_toArray]; omega) (by rw [List.size_toArray]; omega)
  refine Calls.mono (show Calls Try.prog 169 #[.slice (some ⟨gb, 0, none⟩) ts.length cp] w _ from h) ?_
  rintro e w' ⟨rfl, q, rfl⟩
  refine ⟨_, _, rfl, ?_⟩
  have hg := qeb.grown_put (w := w) (g := gb) (n := q) (os := #[]) (Go.Lib.compactUpTo ts.toArray ts.toArray.size ++ List.replicate (ts.toArray.size - (Go.Lib.compactUpTo ts.toArray ts.toArray.size).length) 0).toArray
  rw [Go.Sort.grow_empty] at hg
  exact hB.grown hg hB.size (fun j hj => by cases hj; exact hbase)
theorem qeb.compact_len (ts : List Int) (hs : ts.Pairwise (· ≤ ·)) : (Go.Lib.compactUpTo ts.toArray ts.length).length = ts.length ↔ ts.Nodup := by
 have key : (Go.Lib.compactUpTo ts.toArray ts.length).length = ts.length ↔ ∀ j, j < ts.length → Go.Lib.keeps ts.toArray j = true := by
  unfold Go.Lib.compactUpTo
  rw [List.length_map]
  constructor
  ·intro h j hj
   have := List.length_filter_eq_length_iff.1 (h.trans List.length_range.symm)
   exact this j (List.mem_range.2 hj)
  ·intro h
   rw [List.filter_eq_self.2 (fun j hj => h j (List.mem_range.1 hj)), List.length_range]
 rw [key]
 constructor
 ·intro h
  have hlt : ∀ i, i + 1 < ts.length → ts[i]! < ts[i + 1]! := fun i hi => by
   have h1 := h (i + 1) hi
   have h2 := List.pairwise_iff_getElem.1 hs i (i + 1) (by omega) hi (by omega)
   simp [Go.Lib.keeps] at h1
   rw [getElem!_pos ts i (by omega), getElem!_pos ts (i + 1) hi]
   rw [List.getElem?_eq_getElem hi, List.getElem?_eq_getElem (show i < ts.length by omega)] at h1
   simp only [Option.getD_some] at h1
   omega
  have hlt2 : ∀ d i, i + 1 + d < ts.length → ts[i]! < ts[i + 1 + d]! := by
   intro d
   induction d with
   | zero => intro i hi; exact hlt i hi
   | succ d ih =>
    intro i hi
    have a := ih i (by omega)
    have b := hlt (i + 1 + d) (by omega)
    have : i + 1 + (d + 1) = i + 1 + d + 1 := by omega
    rw [this]; omega
  refine List.pairwise_iff_getElem.2 fun i j hi hj hij => ?_
  have := hlt2 (j - i - 1) i (by omega)
  rw [show i + 1 + (j - i - 1) = j by omega, getElem!_pos ts i hi, getElem!_pos ts j hj] at this
  omega
 ·intro h j hj
  simp only [Go.Lib.keeps, decide_eq_true_eq]
  by_cases h0 : j = 0
  ·exact .inl h0
  ·refine .inr fun e => ?_
   have e' : ts[j] = ts[j - 1] := by
    have := e
    simp only [List.getElem!_toArray] at this
    rwa [getElem!_pos ts j hj, getElem!_pos ts (j - 1) (by omega)] at this
   have := List.pairwise_iff_getElem.1 h (j - 1) j (by omega) hj (by omega)
   exact this e'.symm
theorem qeb.len_sorted (zs : List Int) : (Go.Lib.compactUpTo (zs.mergeSort fun x y => decide (x ≤ y)).toArray zs.length).length = zs.length ↔ zs.Nodup := by
 have h := qeb.compact_len (zs.mergeSort fun x y => decide (x ≤ y)) (by
  have := List.pairwise_mergeSort (le := fun x y : Int => decide (x ≤ y)) (fun a b c h1 h2 => by simp at *; omega) (fun a b => by simp; omega) zs
  exact this.imp fun h => by simpa using h)
 rw [List.length_mergeSort] at h
 rw [h]
 exact (List.mergeSort_perm zs _).nodup_iff
def qeb.f (_k : Nat) (l0 : List Int) : Option Bool := if l0.length < 17592186044416 then some (decide l0.Nodup) else none
theorem qeb.calls (k : Nat) (A0 : Option Addr) (c0 : Nat) (l0 : List Int) (r : Bool) (w : World) (hr0 : Kd.C (Kd.int .u64) w A0 l0.length l0) (hc0 : l0.length ≤ c0) (h : qeb.f k l0 = some r) :
  Calls Try.prog 153 #[.slice A0 l0.length c0] w fun e w' => e = .returned (.bool r) ∧ Below w.heap.size w w' := by
 unfold qeb.f at h
 by_cases hlen : l0.length < 17592186044416
 ·rw [if_pos hlen] at h
  cases h
  have hB0 : Below w.heap.size w (w.alloc (.cells #[.slice A0 l0.length c0] 31)) := (Below.refl _ w).alloc (Nat.le_refl _) _
  have bX := Boxed.new w 31 (.slice A0 l0.length c0)
  have K1 := Aside0.mk (slices_Values_uint64_uint64_mk A0 l0.length c0 w)
  have K2 := Aside0.mk (qeb.sorted_calls w.heap.size c0 A0 l0 _ hlen bX.cell (by simp) (Kd.C_below hr0 hB0))
  have K3 := Aside0.mk (fun v w1 hB hrow => qeb.compact_calls v l0.length (l0.mergeSort fun x y => decide (x ≤ y)) (w.alloc (.cells #[.slice A0 l0.length c0] 31)) w1 (by simp) hB hrow)
  have HB0 := Aside0.mk hB0
  have HD := Aside0.mk (qeb.len_sorted l0)
  clear hr0 hc0 bX hB0
  go_enter Try.func153, Try.ntmps153
  go_wp2_with (first
   | (go_at_call 168; refine K1.out.mono ?_; rintro e w' ⟨rfl, rfl⟩)
   | (go_at_call 167; refine K2.out.mono ?_; rintro e w2 ⟨v, rfl, hR, hB⟩; have K4 := Aside0.mk (K3.out v w2 hB hR); clear hR hB)
   | (go_at_call 169; refine K4.out.mono ?_; rintro e w3 ⟨A9, c9, rfl, hB⟩; have HB := Aside0.mk hB; clear hB))
  go_ret
  refine ⟨?_, ?_⟩
  ·refine congrArg Ending.returned (congrArg Value.bool ?_)
   have hd := HD.out
   try rw [List.length_mergeSort]
   rw [Bool.eq_iff_iff]
   simp only [beq_iff_eq, decide_eq_true_eq]
   rw [← hd]
   omega
  ·exact HB0.out.trans (HB.out.mono (by simp))
 ·rw [if_neg hlen] at h; cases h
def qlb.l0 : Nat → Int → List (S86) → List Int → List (S86) → Int → Int → Option (List Int × Int)
 | 0, _, _, _, _, _, _ => none
 | k + 1, x0, x1, x6, x16, x17, x18 => if x18 < x17 then (if 0 ≤ x18 then (if x18 < (x16.length : Int) then ((qcb.f k x0 (([(rd_T86 x16 x18).f0, (rd_T86 x16 x18).f1] : List Int))).bind fun t1291 => (if t1291 = 0 then (if x6.length < 17592186044416 then (qlb.l0 k x0 x1 (x6 ++ [(rd_T86 x16 x18).f0]) x16 x17 (wrap64 (x18 + 1))) else (none)) else (some (([] : List Int), t1291)))) else (none)) else (none)) else ((qeb.f k x6).bind fun t1295 => (if t1295 = true then ((qza.f k x0 x1).bind fun t1296 => (some (t1296, 0))) else (some (([] : List Int), 6))))
def qlb.f (k : Nat) (a0 : Int) (l1 : List (S86)) : Option (List Int × Int) := (qbb.f k a0).bind fun t1285 => (if t1285 = true then (if (l1.length : Int) > 201 then (some (([] : List Int), 3)) else (qlb.l0 k a0 l1 ([] : List Int) l1 (l1.length : Int) 0)) else (some (([] : List Int), 2)))
theorem qlb.calls (k : Nat) (a0 : Int) (A1 : Option Addr) (c1 : Nat) (l1 : List (S86)) (r1 : List Int) (r2 : Int) (w : World) (hr1 : Kd.C k86 w A1 l1.length l1) (hc1 : l1.length ≤ c1) (h : qlb.f k a0 l1 = some (r1, r2)) :
  Calls Try.prog 91 #[.int .u64 a0, .slice A1 l1.length c1] w fun e w' => ∃ v0_ : Value, e = .returned (.tuple #[v0_, .int .i64 r2]) ∧ Kd.R (Kd.int .u64) 22 w' w.heap.size (fun _ => True) v0_ r1 ∧ Below w.heap.size w w' := by
 have hu86 := Try.underlying86
 have HR1 := Aside0.mk hr1
 have HC1 := Aside0.mk hc1
 clear hr1 hc1
 have HB := Aside0.mk (Below.refl w.heap.size w)
 have H : ((qbb.f k a0).bind fun t1285 => (if t1285 = true then (if (l1.length : Int) > 201 then (some (([] : List Int), 3)) else (qlb.l0 k a0 l1 ([] : List Int) l1 (l1.length : Int) 0)) else (some (([] : List Int), 2)))) = some (r1, r2) := h
 clear h
 replace H := Option.bind_eq_some_iff.mp H
 obtain ⟨t1285, A30, H⟩ := H
 try dsimp only at H
 have A3 := Aside0.mk A30
 clear A30
 by_cases c4 : t1285 = true
 ·subst c4
  have H1 : (if (l1.length : Int) > 201 then (some (([] : List Int), 3)) else (qlb.l0 k a0 l1 ([] : List Int) l1 (l1.length : Int) 0)) = some (r1, r2) := by rw [if_pos rfl] at H; exact H
  clear H; have H := H1; clear H1
  by_cases c5 : (l1.length : Int) > 201
  ·rw [if_pos c5] at H
   have c5b0 : decide (201 < (l1.length : Int)) = true := decide_eq_true c5
   have c5b1 : decide (201 < l1.length) = true := decide_eq_true (by omega)
   clear c5
   simp only [Option.some.injEq, Prod.mk.injEq] at H
   obtain ⟨rfl, rfl⟩ := H
   go_enter Try.func91, Try.ntmps91
   go_wp2_with (first | ((with_reducible refine qqa (f := 137) rfl ?_); refine goesL_ (some 11) rfl rfl Try.func137 (by kernel_rfl) rfl #[.int .u64 a0] rfl (by (try simp only [qM1, qM2, qM3]); first | done | rfl) ?_; (with_reducible refine (qbb.calls k a0 true _ A3.out).mono ?_); rintro e w' ⟨rfl, ⟨nd, rfl⟩⟩; refine ⟨_, rfl, ?_⟩))
   go_ret2
   exact ⟨_, by first | rfl | (simp [errW_none, errW_some] <;> rfl) | (simp [*, errW_none, errW_some] <;> rfl), by first | exact Kd.R_nil _ _ _ _ _ | exact Kd.N_nil _ _ _ _ _ | exact Kd.V_nil _ _ _ _ _ | exact Kd.Q_nil _ _ _ _ _ | exact Kd.S_nil _ _ _ _ _, by repeat (first | (with_reducible first | exact HB.out | apply qda | apply qba | apply qca) | exact HB.out)⟩
  ·rw [if_neg c5] at H
   have c5b0 : decide (201 < (l1.length : Int)) = false := decide_eq_false c5
   have c5b1 : decide (201 < l1.length) = false := decide_eq_false (by omega)
   clear c5
   have H' := Aside0.mk H
   clear H
   go_enter Try.func91, Try.ntmps91
   go_wp2_with (first | ((with_reducible refine qqa (f := 137) rfl ?_); refine goesL_ (some 11) rfl rfl Try.func137 (by kernel_rfl) rfl #[.int .u64 a0] rfl (by (try simp only [qM1, qM2, qM3]); first | done | rfl) ?_; (with_reducible refine (qbb.calls k a0 true _ A3.out).mono ?_); rintro e w' ⟨rfl, ⟨nd, rfl⟩⟩; refine ⟨_, rfl, ?_⟩))
   go_loopg [6, 18] k (fun kq v6 v18 w' => ∃ (x6_1 : List Int) (x18_1 : Int), v18 = .int .i64 x18_1 ∧ Aside0 (qlb.l0 kq a0 l1 x6_1 l1 (l1.length : Int) x18_1 = some (r1, r2)) ∧ Aside0 (kq ≤ k) ∧ Aside0 (Kd.R (Kd.int .u64) 22 w' w.heap.size (fun _ => True) v6 x6_1) ∧ Aside0 (Below w.heap.size w w'))
   case atStart => exact ⟨(([] : List Int)), (0), (by first | rfl | (simp; done) | (simp [*]; done)), H', ⟨Nat.le_refl _⟩, ⟨by first | exact Kd.R_nil _ _ _ _ _ | exact Kd.N_nil _ _ _ _ _ | exact Kd.V_nil _ _ _ _ _ | exact Kd.Q_nil _ _ _ _ _ | exact Kd.S_nil _ _ _ _ _⟩, ⟨by repeat (first | (with_reducible first | exact HB.out | apply qda | apply qba | apply qca) | exact HB.out)⟩⟩
   case round =>
    clear H'; (try clear c1); (try clear p2); (try clear c4); (try clear c5); (try clear c5b0); (try clear c5b1)
    obtain ⟨x6_1, x18_1, rfl, HA, HK1, HO_6, HB⟩ := hrel
    cases gk with
    | zero => exact absurd HA.out (by simp [qlb.l0])
    | succ k1 =>
     have H := HA.out
     clear HA
     simp only [qlb.l0] at H
     by_cases c6 : x18_1 < (l1.length : Int)
     ·rw [if_pos c6] at H
      have c6b0 : decide (x18_1 < (l1.length : Int)) = true := decide_eq_true c6
      clear c6
      by_cases c7 : 0 ≤ x18_1
      ·rw [if_pos c7] at H
       have c7b0 : decide (0 ≤ x18_1) = true := decide_eq_true c7
       clear c7
       by_cases c8 : x18_1 < (l1.length : Int)
       ·rw [if_pos c8] at H
        have c8b0 : decide (x18_1 < (l1.length : Int)) = true := decide_eq_true c8
        clear c8
        obtain ⟨y1288, hy1288⟩ : ∃ y_ : List Int, y_ = (([(rd_T86 l1 x18_1).f0, (rd_T86 l1 x18_1).f1] : List Int)) := ⟨_, rfl⟩
        replace H : ((qcb.f k1 a0 y1288).bind fun t1291 => (if t1291 = 0 then (if x6_1.length < 17592186044416 then (qlb.l0 k1 a0 l1 (x6_1 ++ [(rd_T86 l1 x18_1).f0]) l1 (l1.length : Int) (wrap64 (x18_1 + 1))) else (none)) else (some (([] : List Int), t1291)))) = some (r1, r2) := by first | (rw [hy1288]; with_reducible exact H) | (have H2_ := (Option.bind_some _ _).symm.trans H; rw [hy1288]; with_reducible exact H2_) | (have H2_ := (Option.bind_some _ _).symm.trans H; with_reducible exact H2_) | with_reducible exact H | (rw [hy1288]; exact H) | exact H
        have Ny1288 := Aside0.mk hy1288
        clear hy1288
        replace H := Option.bind_eq_some_iff.mp H
        obtain ⟨t1291, A90, H⟩ := H
        try dsimp only at H
        have A9 := Aside0.mk A90
        clear A90
        by_cases c10 : t1291 = 0
        ·rw [if_pos c10] at H
         have c10b0 : (t1291 == 0) = true := beq_iff_eq.mpr c10
         have c10b1 : (t1291 != 0) = false := bne_eq_false_iff_eq.mpr c10
         clear c10
         by_cases c11 : x6_1.length < 17592186044416
         ·rw [if_pos c11] at H
          have LMc11 := Aside0.mk c11
          clear c11
          obtain ⟨y1292, hy1292⟩ : ∃ y_ : List Int, y_ = (x6_1 ++ [(rd_T86 l1 x18_1).f0]) := ⟨_, rfl⟩
          replace H : (qlb.l0 k1 a0 l1 y1292 l1 (l1.length : Int) (wrap64 (x18_1 + 1))) = some (r1, r2) := by first | (rw [hy1292]; with_reducible exact H) | (have H2_ := (Option.bind_some _ _).symm.trans H; rw [hy1292]; with_reducible exact H2_) | (have H2_ := (Option.bind_some _ _).symm.trans H; with_reducible exact H2_) | with_reducible exact H | (rw [hy1292]; exact H) | exact H
          have Ny1292 := Aside0.mk hy1292
          clear hy1292
          have H' := Aside0.mk H
          clear H
          have p1286 : 0 ≤ (x18_1 : Int) := of_decide_eq_true (by first | (with_reducible assumption) | assumption)
          have q1286 : x18_1 < (l1.length : Int) := of_decide_eq_true (by first | (with_reducible assumption) | assumption)
          obtain ⟨ad1286, e1286, hx1286_0, hx1286_1⟩ := at_T86 HR1.out x18_1 p1286 q1286
          cases e1286
          replace hx1286_0 := (HB.out.cell (World.block_lt_of_cell? w _ hx1286_0)).trans hx1286_0
          replace hx1286_1 := (HB.out.cell (World.block_lt_of_cell? w _ hx1286_1)).trans hx1286_1
          replace p1286 := eq_true p1286; replace q1286 := eq_true q1286
          go_wp2_with (first | ((with_reducible refine gate_dst (N := 8) rfl ?_); refine box_event ?hg (N := 8) ?hd (cs := #[.int .u64 0, .int .u64 0]) (t := 86) ?hr ?_; (case hd => rfl); (case hg => rfl); (case hr => first | (go_simp; done) | (go_simp; rfl)); intro gb1287 hg w12 hbox hb; have n0_ := Aside0.mk (Kd.R_below (by (with_reducible repeat first | apply Kd.qoa | apply Kd.qna | apply Kd.R_drew); exact HO_6.out) hb); have n1_ := Aside0.mk (qma (by with_reducible repeat first | exact HB.out | apply qda | apply qba | apply qca) hb); have n2_ := Aside0.mk (hbox); have n3_ := Aside0.mk ((by rw [hg]; exact (qla (by with_reducible repeat first | exact HB.out | apply qda | apply qba | apply qca)) : w.heap.size ≤ gb1287)); have n4_ := Aside0.mk ((by rw [hg]; exact (qla (by with_reducible repeat first | exact HB.out | apply qda | apply qba | apply qca)) : w.heap.size ≤ gb1287)); clear HO_6; clear HB; have HO_6 := n0_; have HB := n1_; have BK1287 := n2_; have GW1287 := n3_; have GE1287 := n4_; clear n0_ n1_ n2_ n3_ n4_; clear hb hbox hg; have hcz13_0 : w12.cell? ⟨gb1287, 0, none⟩ = some (.int .u64 0) := (qja BK1287.out 0).trans rfl; have hcz13_1 : w12.cell? ⟨gb1287, 1, none⟩ = some (.int .u64 0) := (qja BK1287.out 1).trans rfl; have hfz13_0 := qha BK1287.out 0; have hfz13_1 := qha BK1287.out 1) | ((with_reducible refine gate_dst (N := 27) rfl ?_); refine Kd.R_lit (Kd.int .u64) _ 22 ?hg (N := 27) ?hd (xs := ([(rd_T86 l1 x18_1).f0, (rd_T86 l1 x18_1).f1] : List Int)) (inner := [.int .u64 ((rd_T86 l1 x18_1).f0), .int .u64 ((rd_T86 l1 x18_1).f1)]) (ok := fun _ => True) (okp := fun _ => True) ?hr ?hp (fun _ hk => hk) trivial (Below.refl _ _) (Nat.le_refl _) (by simp) ?_; (case hd => rfl); (case hg => rfl); (case hr => first | (go_simp; done) | (go_simp; rfl)); (case hp => exact (Reps.one (show Kd.M (Kd.int .u64) _ _ _ ((rd_T86 l1 x18_1).f0) [.int .u64 ((rd_T86 l1 x18_1).f0)] from rfl) (Reps.one (show Kd.M (Kd.int .u64) _ _ _ ((rd_T86 l1 x18_1).f1) [.int .u64 ((rd_T86 l1 x18_1).f1)] from rfl) (Reps.none _ _)))); intro v1289 w14 ho15 hb hg_ hnew_; clear hg_ hnew_; (first | rw [← Ny1288.out] at ho15 | (simp only [Int.reduceToNat] at ho15; rw [← Ny1288.out] at ho15)); have n0_ := Aside0.mk (Kd.R_elder' (by (with_reducible repeat first | apply Kd.qoa | apply Kd.qna | apply Kd.R_drew); exact (Kd.R_mono (Kd.R_far (p := ⟨gb1287, 1, none⟩) (Kd.R_far (p := ⟨gb1287, 0, none⟩) (Kd.R_types HO_6.out BK1287.out (by decide)) (fun _ hk => hk.2) (.int .u64 ((rd_T86 l1 x18_1).f0))) (fun _ hk => hk.2) (.int .u64 ((rd_T86 l1 x18_1).f1))) (fun _ h_ => h_.1))) (Kd.R_base ho15) hb); have n1_ := Aside0.mk (Kd.R_lower (Kd.R_new' ho15 (Kd.R_lt (by (with_reducible repeat first | apply Kd.qoa | apply Kd.qna | apply Kd.R_drew); exact (Kd.R_mono (Kd.R_far (p := ⟨gb1287, 1, none⟩) (Kd.R_far (p := ⟨gb1287, 0, none⟩) (Kd.R_types HO_6.out BK1287.out (by decide)) (fun _ hk => hk.2) (.int .u64 ((rd_T86 l1 x18_1).f0))) (fun _ hk => hk.2) (.int .u64 ((rd_T86 l1 x18_1).f1))) (fun _ h_ => h_.1))))) (qla (by with_reducible repeat first | exact HB.out | apply qda | apply qba | apply qca | refine qga ?_ GE1287.out))); have n2_ := Aside0.mk (qpa (g := gb1287) (o := .cells #[.int .u64 ((rd_T86 l1 x18_1).f0), .int .u64 ((rd_T86 l1 x18_1).f1)] 86 (0, 0)) (by (with_reducible repeat first | refine qfa ?_ _ | refine qia ?_ | refine qea ?_ _); refine blk_put (cs := #[.int .u64 ((rd_T86 l1 x18_1).f0), .int .u64 0]) ?_ 1 _ rfl; (with_reducible repeat first | refine qfa ?_ _ | refine qia ?_ | refine qea ?_ _); refine blk_put (cs := #[.int .u64 0, .int .u64 0]) ?_ 0 _ rfl; (with_reducible repeat first | refine qfa ?_ _ | refine qia ?_ | refine qea ?_ _); exact BK1287.out) hb); have n3_ := Aside0.mk (qma (by with_reducible repeat first | exact HB.out | apply qda | apply qba | apply qca | refine qga ?_ GE1287.out) hb); clear HO_6; clear BK1287; clear HB; have HO_6 := n0_; have HO1290 := n1_; have BK1287 := n2_; have HB := n3_; clear n0_ n1_ n2_ n3_; clear hb ho15; obtain ⟨Ao16, co16, eo16⟩ := Kd.R_slice HO1290.out; subst eo16) | ((with_reducible refine qqa (f := 123) rfl ?_); refine goesL_ (some 28) rfl rfl Try.func123 (by kernel_rfl) rfl #[.int .u64 a0, .slice Ao16 y1288.length co16] rfl (by (try simp only [qM1, qM2, qM3]); first | done | rfl) ?_; (with_reducible refine (qcb.calls k1 a0 _ _ y1288 t1291 _ ?side1 ?side2 A9.out).mono ?_); (case side1 => repeat (first | exact (Kd.R_reads' HO1290.out).2.2 | (with_reducible first | refine Kd.C_alloc ?_ _ | refine Kd.C_drewN ?_ _ | refine Kd.C_drew ?_))); (case side2 => exact (Kd.R_reads' HO1290.out).2.1); rintro e w' ⟨rfl, ⟨nd, rfl⟩⟩; refine ⟨_, rfl, ?_⟩; have hcz17_0 : w14.cell? ⟨gb1287, 0, none⟩ = some (.int .u64 ((rd_T86 l1 x18_1).f0)) := (qja BK1287.out 0).trans rfl; have hcz17_1 : w14.cell? ⟨gb1287, 1, none⟩ = some (.int .u64 ((rd_T86 l1 x18_1).f1)) := (qja BK1287.out 1).trans rfl; have hfz17_0 := qha BK1287.out 0; have hfz17_1 := qha BK1287.out 1) | ((with_reducible refine gate_builtin (b := .append) (xs := #[.tmp 32, .tmp 35]) rfl ?_); at_builtin; refine Kd.R_append (Kd.int .u64) (w0 := w) w.heap.size rfl (.tmp 32) (.tmp 35) 31 22 (.int .u64 0) 8 rfl Try.underlying31 info22 rfl (by decide) (by omega) u6 x6_1 ((rd_T86 l1 x18_1).f0) [.int .u64 ((rd_T86 l1 x18_1).f0)] (fun k_ => some k_ ≠ (.slice Ao16 y1288.length co16 : Value).ownBlock) (fun _ => False) rfl rfl ?aP (fun _ hk => hk.elim) ?aF ?aO ?aB ?aS ?aL ?_; (case aP => exact rfl); (case aB => exact (by with_reducible repeat first | exact HB.out | apply qda | apply qba | apply qca | refine qga ?_ GE1287.out)); (case aF => exact (fun k_ hk => Kd.fresh' (Kd.R_lt (by (with_reducible repeat first | apply Kd.qoa | apply Kd.qna | apply Kd.R_drew); exact HO1290.out)) k_ hk)); (case aO => exact (by (with_reducible repeat first | apply Kd.qoa | apply Kd.qna | apply Kd.R_drew); exact Kd.R_mono HO_6.out (fun _ hk => hk.2))); (case aS => exact (qla (by with_reducible repeat first | exact HB.out | apply qda | apply qba | apply qca | refine qga ?_ GE1287.out))); (case aL => have := LMc11.out; omega); intro v1293 w18 ho hb hg hat; rw [← Ny1292.out] at ho; have n0_ := Aside0.mk (blk_grown (g := gb1287) (o := .cells #[.int .u64 ((rd_T86 l1 x18_1).f0), .int .u64 ((rd_T86 l1 x18_1).f1)] 86 (0, 0)) (by (with_reducible repeat first | refine qfa ?_ _ | refine qia ?_ | refine qea ?_ _); exact BK1287.out) hg (Kd.R_ne HO_6.out BK1287.out (by decide))); have n1_ := Aside0.mk (Kd.R_after (ok := (fun _ => True)) (by (with_reducible repeat first | apply Kd.qoa | apply Kd.qna | apply Kd.R_drew); exact HO1290.out) hg hat); have n2_ := Aside0.mk (hb); have n3_ := Aside0.mk (ho); clear BK1287; clear HO1290; clear HB; clear HO_6; have BK1287 := n0_; have HO1290 := n1_; have HB := n2_; have HO1294 := n3_; clear n0_ n1_ n2_ n3_; clear ho hb hg hat))
          go_roundg k1
          case measure => have := HK1.out; omega
          case rel => exact ⟨(y1292), (wrap64 (x18_1 + 1)), (by first | rfl | (simp; done) | (simp [*]; done)), H', ⟨by have := HK1.out; omega⟩, ⟨by (with_reducible repeat first | apply Kd.qoa | apply Kd.qna | apply Kd.R_drew); exact Kd.R_mono HO1294.out (fun _ hk => trivial)⟩, ⟨by repeat (first | (with_reducible first | exact HB.out | apply qda | apply qba | apply qca | refine qga ?_ GE1287.out) | exact HB.out)⟩⟩
         ·rw [if_neg c11] at H
          exact absurd H (by simp)
        ·rw [if_neg c10] at H
         have c10b0 : (t1291 == 0) = false := beq_eq_false_iff_ne.mpr c10
         have c10b1 : (t1291 != 0) = true := bne_iff_ne.mpr c10
         simp only [Option.some.injEq, Prod.mk.injEq] at H
         obtain ⟨rfl, rfl⟩ := H
         have p1286 : 0 ≤ (x18_1 : Int) := of_decide_eq_true (by first | (with_reducible assumption) | assumption)
         have q1286 : x18_1 < (l1.length : Int) := of_decide_eq_true (by first | (with_reducible assumption) | assumption)
         obtain ⟨ad1286, e1286, hx1286_0, hx1286_1⟩ := at_T86 HR1.out x18_1 p1286 q1286
         cases e1286
         replace hx1286_0 := (HB.out.cell (World.block_lt_of_cell? w _ hx1286_0)).trans hx1286_0
         replace hx1286_1 := (HB.out.cell (World.block_lt_of_cell? w _ hx1286_1)).trans hx1286_1
         replace p1286 := eq_true p1286; replace q1286 := eq_true q1286
         go_wp2_with (first | ((with_reducible refine gate_dst (N := 8) rfl ?_); refine box_event ?hg (N := 8) ?hd (cs := #[.int .u64 0, .int .u64 0]) (t := 86) ?hr ?_; (case hd => rfl); (case hg => rfl); (case hr => first | (go_simp; done) | (go_simp; rfl)); intro gb1287 hg w19 hbox hb; have n0_ := Aside0.mk (Kd.R_below (by (with_reducible repeat first | apply Kd.qoa | apply Kd.qna | apply Kd.R_drew); exact HO_6.out) hb); have n1_ := Aside0.mk (qma (by with_reducible repeat first | exact HB.out | apply qda | apply qba | apply qca) hb); have n2_ := Aside0.mk (hbox); have n3_ := Aside0.mk ((by rw [hg]; exact (qla (by with_reducible repeat first | exact HB.out | apply qda | apply qba | apply qca)) : w.heap.size ≤ gb1287)); have n4_ := Aside0.mk ((by rw [hg]; exact (qla (by with_reducible repeat first | exact HB.out | apply qda | apply qba | apply qca)) : w.heap.size ≤ gb1287)); clear HO_6; clear HB; have HO_6 := n0_; have HB := n1_; have BK1287 := n2_; have GW1287 := n3_; have GE1287 := n4_; clear n0_ n1_ n2_ n3_ n4_; clear hb hbox hg; have hcz20_0 : w19.cell? ⟨gb1287, 0, none⟩ = some (.int .u64 0) := (qja BK1287.out 0).trans rfl; have hcz20_1 : w19.cell? ⟨gb1287, 1, none⟩ = some (.int .u64 0) := (qja BK1287.out 1).trans rfl; have hfz20_0 := qha BK1287.out 0; have hfz20_1 := qha BK1287.out 1) | ((with_reducible refine gate_dst (N := 27) rfl ?_); refine Kd.R_lit (Kd.int .u64) _ 22 ?hg (N := 27) ?hd (xs := ([(rd_T86 l1 x18_1).f0, (rd_T86 l1 x18_1).f1] : List Int)) (inner := [.int .u64 ((rd_T86 l1 x18_1).f0), .int .u64 ((rd_T86 l1 x18_1).f1)]) (ok := fun _ => True) (okp := fun _ => True) ?hr ?hp (fun _ hk => hk) trivial (Below.refl _ _) (Nat.le_refl _) (by simp) ?_; (case hd => rfl); (case hg => rfl); (case hr => first | (go_simp; done) | (go_simp; rfl)); (case hp => exact (Reps.one (show Kd.M (Kd.int .u64) _ _ _ ((rd_T86 l1 x18_1).f0) [.int .u64 ((rd_T86 l1 x18_1).f0)] from rfl) (Reps.one (show Kd.M (Kd.int .u64) _ _ _ ((rd_T86 l1 x18_1).f1) [.int .u64 ((rd_T86 l1 x18_1).f1)] from rfl) (Reps.none _ _)))); intro v1289 w21 ho22 hb hg_ hnew_; clear hg_ hnew_; (first | rw [← Ny1288.out] at ho22 | (simp only [Int.reduceToNat] at ho22; rw [← Ny1288.out] at ho22)); have n0_ := Aside0.mk (Kd.R_elder' (by (with_reducible repeat first | apply Kd.qoa | apply Kd.qna | apply Kd.R_drew); exact (Kd.R_mono (Kd.R_far (p := ⟨gb1287, 1, none⟩) (Kd.R_far (p := ⟨gb1287, 0, none⟩) (Kd.R_types HO_6.out BK1287.out (by decide)) (fun _ hk => hk.2) (.int .u64 ((rd_T86 l1 x18_1).f0))) (fun _ hk => hk.2) (.int .u64 ((rd_T86 l1 x18_1).f1))) (fun _ h_ => h_.1))) (Kd.R_base ho22) hb); have n1_ := Aside0.mk (Kd.R_lower (Kd.R_new' ho22 (Kd.R_lt (by (with_reducible repeat first | apply Kd.qoa | apply Kd.qna | apply Kd.R_drew); exact (Kd.R_mono (Kd.R_far (p := ⟨gb1287, 1, none⟩) (Kd.R_far (p := ⟨gb1287, 0, none⟩) (Kd.R_types HO_6.out BK1287.out (by decide)) (fun _ hk => hk.2) (.int .u64 ((rd_T86 l1 x18_1).f0))) (fun _ hk => hk.2) (.int .u64 ((rd_T86 l1 x18_1).f1))) (fun _ h_ => h_.1))))) (qla (by with_reducible repeat first | exact HB.out | apply qda | apply qba | apply qca | refine qga ?_ GE1287.out))); have n2_ := Aside0.mk (qpa (g := gb1287) (o := .cells #[.int .u64 ((rd_T86 l1 x18_1).f0), .int .u64 ((rd_T86 l1 x18_1).f1)] 86 (0, 0)) (by (with_reducible repeat first | refine qfa ?_ _ | refine qia ?_ | refine qea ?_ _); refine blk_put (cs := #[.int .u64 ((rd_T86 l1 x18_1).f0), .int .u64 0]) ?_ 1 _ rfl; (with_reducible repeat first | refine qfa ?_ _ | refine qia ?_ | refine qea ?_ _); refine blk_put (cs := #[.int .u64 0, .int .u64 0]) ?_ 0 _ rfl; (with_reducible repeat first | refine qfa ?_ _ | refine qia ?_ | refine qea ?_ _); exact BK1287.out) hb); have n3_ := Aside0.mk (qma (by with_reducible repeat first | exact HB.out | apply qda | apply qba | apply qca | refine qga ?_ GE1287.out) hb); clear HO_6; clear BK1287; clear HB; have HO_6 := n0_; have HO1290 := n1_; have BK1287 := n2_; have HB := n3_; clear n0_ n1_ n2_ n3_; clear hb ho22; obtain ⟨Ao23, co23, eo23⟩ := Kd.R_slice HO1290.out; subst eo23) | ((with_reducible refine qqa (f := 123) rfl ?_); refine goesL_ (some 28) rfl rfl Try.func123 (by kernel_rfl) rfl #[.int .u64 a0, .slice Ao23 y1288.length co23] rfl (by (try simp only [qM1, qM2, qM3]); first | done | rfl) ?_; (with_reducible refine (qcb.calls k1 a0 _ _ y1288 t1291 _ ?side1 ?side2 A9.out).mono ?_); (case side1 => repeat (first | exact (Kd.R_reads' HO1290.out).2.2 | (with_reducible first | refine Kd.C_alloc ?_ _ | refine Kd.C_drewN ?_ _ | refine Kd.C_drew ?_))); (case side2 => exact (Kd.R_reads' HO1290.out).2.1); rintro e w' ⟨rfl, ⟨nd, rfl⟩⟩; refine ⟨_, rfl, ?_⟩))
         go_ret2
         exact ⟨_, by first | rfl | (simp [errW_none, errW_some] <;> rfl) | (simp [*, errW_none, errW_some] <;> rfl), by first | exact Kd.R_nil _ _ _ _ _ | exact Kd.N_nil _ _ _ _ _ | exact Kd.V_nil _ _ _ _ _ | exact Kd.Q_nil _ _ _ _ _ | exact Kd.S_nil _ _ _ _ _, by repeat (first | (with_reducible first | exact HB.out | apply qda | apply qba | apply qca | refine qga ?_ GE1287.out) | exact HB.out)⟩
       ·rw [if_neg c8] at H
        exact absurd H (by simp)
      ·rw [if_neg c7] at H
       exact absurd H (by simp)
     ·rw [if_neg c6] at H
      have c6b0 : decide (x18_1 < (l1.length : Int)) = false := decide_eq_false c6
      clear c6
      replace H := Option.bind_eq_some_iff.mp H
      obtain ⟨t1295, A240, H⟩ := H
      try dsimp only at H
      have A24 := Aside0.mk A240
      clear A240
      by_cases c25 : t1295 = true
      ·subst c25
       have H1 : ((qza.f k1 a0 l1).bind fun t1296 => (some (t1296, 0))) = some (r1, r2) := by rw [if_pos rfl] at H; exact H
       clear H; have H := H1; clear H1
       replace H := Option.bind_eq_some_iff.mp H
       obtain ⟨t1296, A260, H⟩ := H
       try dsimp only at H
       have A26 := Aside0.mk A260
       clear A260
       simp only [Option.some.injEq, Prod.mk.injEq] at H
       obtain ⟨rfl, rfl⟩ := H
       obtain ⟨Ao27, co27, eo27⟩ := Kd.R_slice HO_6.out
       subst eo27
       go_wp2_with (first | ((with_reducible refine qqa (f := 153) rfl ?_); refine goesL_ (some 39) rfl rfl Try.func153 (by kernel_rfl) rfl #[.slice Ao27 x6_1.length co27] rfl (by (try simp only [qM1, qM2, qM3]); first | done | rfl) ?_; (with_reducible refine (qeb.calls k1 _ _ x6_1 true _ ?side1 ?side2 A24.out).mono ?_); (case side1 => repeat (first | exact (Kd.R_reads' HO_6.out).2.2 | (with_reducible first | refine Kd.C_alloc ?_ _ | refine Kd.C_drewN ?_ _ | refine Kd.C_drew ?_))); (case side2 => exact (Kd.R_reads' HO_6.out).2.1); rintro e w28 ⟨rfl, hb⟩; refine ⟨_, rfl, ?_⟩; have n0_ := Aside0.mk (Kd.R_below (by (with_reducible repeat first | apply Kd.qoa | apply Kd.qna | apply Kd.R_drew); exact HO_6.out) hb); have n1_ := Aside0.mk (qma (by with_reducible repeat first | exact HB.out | apply qda | apply qba | apply qca) hb); clear HO_6; clear HB; have HO_6 := n0_; have HB := n1_; clear n0_ n1_; (try clear hb); (try clear hb2); (try clear hk); (try clear hi)) | ((with_reducible refine qqa (f := 149) rfl ?_); refine goesL_ (some 43) rfl rfl Try.func149 (by kernel_rfl) rfl #[.int .u64 a0, .slice A1 l1.length c1] rfl (by (try simp only [qM1, qM2, qM3]); first | done | rfl) ?_; (with_reducible refine (qza.calls k1 a0 _ _ l1 t1296 _ ?side1 ?side2 A26.out).mono ?_); (case side1 => repeat (first | exact (Kd.C_below HR1.out HB.out) | (with_reducible first | refine Kd.C_alloc ?_ _ | refine Kd.C_drewN ?_ _ | refine Kd.C_drew ?_))); (case side2 => exact HC1.out); rintro e w29 ⟨v1297, rfl, ho0, hb⟩; refine ⟨_, rfl, ?_⟩; have n0_ := Aside0.mk (Kd.R_elder' (by (with_reducible repeat first | apply Kd.qoa | apply Kd.qna | apply Kd.R_drew); exact HO_6.out) (Kd.R_base ho0) hb); have n1_ := Aside0.mk (Kd.R_lower (Kd.R_new' ho0 (Kd.R_lt (by (with_reducible repeat first | apply Kd.qoa | apply Kd.qna | apply Kd.R_drew); exact HO_6.out))) (qla (by with_reducible repeat first | exact HB.out | apply qda | apply qba | apply qca))); have n2_ := Aside0.mk (qma (by with_reducible repeat first | exact HB.out | apply qda | apply qba | apply qca) hb); clear HO_6; clear HB; have HO_6 := n0_; have HO1298 := n1_; have HB := n2_; clear n0_ n1_ n2_; (try clear hb); (try clear hb2); (try clear hk); (try clear hi); (try clear ho0)))
       go_ret2
       exact ⟨_, by first | rfl | (simp [errW_none, errW_some] <;> rfl) | (simp [*, errW_none, errW_some] <;> rfl), by (with_reducible repeat first | apply Kd.qoa | apply Kd.qna | apply Kd.R_drew); exact Kd.R_mono HO1298.out (fun _ hk => trivial), by repeat (first | (with_reducible first | exact HB.out | apply qda | apply qba | apply qca) | exact HB.out)⟩
      ·replace c25 := Bool.eq_false_iff.mpr c25
       subst c25
       have H1 : (some (([] : List Int), 6)) = some (r1, r2) := by rw [if_neg (show ¬ (false = true) by decide)] at H; exact H
       clear H; have H := H1; clear H1
       simp only [Option.some.injEq, Prod.mk.injEq] at H
       obtain ⟨rfl, rfl⟩ := H
       obtain ⟨Ao30, co30, eo30⟩ := Kd.R_slice HO_6.out
       subst eo30
       go_wp2_with (first | ((with_reducible refine qqa (f := 153) rfl ?_); refine goesL_ (some 39) rfl rfl Try.func153 (by kernel_rfl) rfl #[.slice Ao30 x6_1.length co30] rfl (by (try simp only [qM1, qM2, qM3]); first | done | rfl) ?_; (with_reducible refine (qeb.calls k1 _ _ x6_1 false _ ?side1 ?side2 A24.out).mono ?_); (case side1 => repeat (first | exact (Kd.R_reads' HO_6.out).2.2 | (with_reducible first | refine Kd.C_alloc ?_ _ | refine Kd.C_drewN ?_ _ | refine Kd.C_drew ?_))); (case side2 => exact (Kd.R_reads' HO_6.out).2.1); rintro e w31 ⟨rfl, hb⟩; refine ⟨_, rfl, ?_⟩; have n0_ := Aside0.mk (Kd.R_below (by (with_reducible repeat first | apply Kd.qoa | apply Kd.qna | apply Kd.R_drew); exact HO_6.out) hb); have n1_ := Aside0.mk (qma (by with_reducible repeat first | exact HB.out | apply qda | apply qba | apply qca) hb); clear HO_6; clear HB; have HO_6 := n0_; have HB := n1_; clear n0_ n1_; (try clear hb); (try clear hb2); (try clear hk); (try clear hi)))
       go_ret2
       exact ⟨_, by first | rfl | (simp [errW_none, errW_some] <;> rfl) | (simp [*, errW_none, errW_some] <;> rfl), by first | exact Kd.R_nil _ _ _ _ _ | exact Kd.N_nil _ _ _ _ _ | exact Kd.V_nil _ _ _ _ _ | exact Kd.Q_nil _ _ _ _ _ | exact Kd.S_nil _ _ _ _ _, by repeat (first | (with_reducible first | exact HB.out | apply qda | apply qba | apply qca) | exact HB.out)⟩
 ·replace c4 := Bool.eq_false_iff.mpr c4
  subst c4
  have H1 : (some (([] : List Int), 2)) = some (r1, r2) := by rw [if_neg (show ¬ (false = true) by decide)] at H; exact H
  clear H; have H := H1; clear H1
  simp only [Option.some.injEq, Prod.mk.injEq] at H
  obtain ⟨rfl, rfl⟩ := H
  go_enter Try.func91, Try.ntmps91
  go_wp2_with (first | ((with_reducible refine qqa (f := 137) rfl ?_); refine goesL_ (some 11) rfl rfl Try.func137 (by kernel_rfl) rfl #[.int .u64 a0] rfl (by (try simp only [qM1, qM2, qM3]); first | done | rfl) ?_; (with_reducible refine (qbb.calls k a0 false _ A3.out).mono ?_); rintro e w' ⟨rfl, ⟨nd, rfl⟩⟩; refine ⟨_, rfl, ?_⟩))
  go_ret2
  exact ⟨_, by first | rfl | (simp [errW_none, errW_some] <;> rfl) | (simp [*, errW_none, errW_some] <;> rfl), by first | exact Kd.R_nil _ _ _ _ _ | exact Kd.N_nil _ _ _ _ _ | exact Kd.V_nil _ _ _ _ _ | exact Kd.Q_nil _ _ _ _ _ | exact Kd.S_nil _ _ _ _ _, by repeat (first | (with_reducible first | exact HB.out | apply qda | apply qba | apply qca) | exact HB.out)⟩
mutual
def qya.l0 : Nat → List Int → Int → Int → Option (Bool)
 | 0, _, _, _ => none
 | k + 1, x0, x6, x7 => if x7 < x6 then (qya.l1 k x0 x7 0 x6 x7) else (some false)
def qya.l1 : Nat → List Int → Int → Int → Int → Int → Option (Bool)
 | 0, _, _, _, _, _ => none
 | k + 1, x0, x3, x4, x6, x7 => if x4 < x3 then (if 0 ≤ x3 then (if x3 < (x0.length : Int) then (if 0 ≤ x4 then (if x4 < (x0.length : Int) then (if (rd x0 x3) = (rd x0 x4) then (some true) else (qya.l1 k x0 x3 (wrap64 (x4 + 1)) x6 x7)) else (none)) else (none)) else (none)) else (none)) else (qya.l0 k x0 x6 (wrap64 (x7 + 1)))
end
def qya.f (k : Nat) (l0 : List Int) : Option (Bool) := qya.l0 k l0 (l0.length : Int) 0
theorem qya.calls (k : Nat) (A0 : Option Addr) (c0 : Nat) (l0 : List Int) (r : Bool) (w : World) (hr0 : Kd.C (Kd.int .u64) w A0 l0.length l0) (hc0 : l0.length ≤ c0) (h : qya.f k l0 = some r) :
  Calls Try.prog 98 #[.slice A0 l0.length c0] w fun e w' => e = .returned (.bool r) ∧ Drawn0 w w' := by
 have HR0 := Aside0.mk hr0
 have HC0 := Aside0.mk hc0
 clear hr0 hc0
 have H : (qya.l0 k l0 (l0.length : Int) 0) = some r := h
 clear h
 have H' := Aside0.mk H
 clear H
 go_enter Try.func98, Try.ntmps98
 go_wp2
 repeat (go_quiet (fail); try go_wp2)
 go_loopg [7] k (fun kq v7 w' => ∃ (x7_1 : Int), v7 = .int .i64 x7_1 ∧ Aside0 (qya.l0 kq l0 (l0.length : Int) x7_1 = some r) ∧ Aside0 (kq ≤ k) ∧ Drawn0 w w')
 case atStart => exact ⟨(0), (by first | rfl | (simp; done) | (simp [*]; done)), H', ⟨Nat.le_refl _⟩, by repeat (first | exact Drawn0.refl _ | apply Drawn0.step)⟩
 case round =>
  clear H'
  obtain ⟨x7_1, rfl, HA, HK1, ⟨m1, rfl⟩⟩ := hrel
  cases gk with
  | zero => exact absurd HA.out (by simp [qya.l0])
  | succ k1 =>
   have H := HA.out
   clear HA
   simp only [qya.l0] at H
   by_cases c2 : x7_1 < (l0.length : Int)
   ·rw [if_pos c2] at H
    have c2b0 : decide (x7_1 < (l0.length : Int)) = true := decide_eq_true c2
    clear c2
    have H' := Aside0.mk H
    clear H
    go_wp2
    repeat (go_quiet (fail); try go_wp2)
    go_loopg [4] k1 (fun kq v4 w' => ∃ (x4_2 : Int), v4 = .int .i64 x4_2 ∧ Aside0 (qya.l1 kq l0 x7_1 x4_2 (l0.length : Int) x7_1 = some r) ∧ Aside0 (kq ≤ k1) ∧ Drawn0 w w')
    case atStart => exact ⟨(0), (by first | rfl | (simp; done) | (simp [*]; done)), H', ⟨Nat.le_refl _⟩, by repeat (first | exact Drawn0.refl _ | apply Drawn0.step)⟩
    case round =>
     clear H'; (try clear c2); (try clear c2b0); (try clear p2)
     obtain ⟨x4_2, rfl, HA, HK2, ⟨m2, rfl⟩⟩ := hrel
     cases gk with
     | zero => exact absurd HA.out (by simp [qya.l1])
     | succ k2 =>
      have H := HA.out
      clear HA
      simp only [qya.l1] at H
      by_cases c3 : x4_2 < x7_1
      ·rw [if_pos c3] at H
       have c3b0 : decide (x4_2 < x7_1) = true := decide_eq_true c3
       clear c3
       by_cases c4 : 0 ≤ x7_1
       ·rw [if_pos c4] at H
        have c4b0 : decide (0 ≤ x7_1) = true := decide_eq_true c4
        clear c4
        by_cases c5 : x7_1 < (l0.length : Int)
        ·rw [if_pos c5] at H
         have c5b0 : decide (x7_1 < (l0.length : Int)) = true := decide_eq_true c5
         clear c5
         by_cases c6 : 0 ≤ x4_2
         ·rw [if_pos c6] at H
          have c6b0 : decide (0 ≤ x4_2) = true := decide_eq_true c6
          clear c6
          by_cases c7 : x4_2 < (l0.length : Int)
          ·rw [if_pos c7] at H
           have c7b0 : decide (x4_2 < (l0.length : Int)) = true := decide_eq_true c7
           clear c7
           by_cases c8 : (rd l0 x7_1) = (rd l0 x4_2)
           ·rw [if_pos c8] at H
            have c8b0 : ((rd l0 x7_1) == (rd l0 x4_2)) = true := beq_iff_eq.mpr c8
            have c8b1 : ((rd l0 x7_1) != (rd l0 x4_2)) = false := bne_eq_false_iff_eq.mpr c8
            clear c8
            obtain rfl := Option.some.inj H
            have p1302 : 0 ≤ (x7_1 : Int) := of_decide_eq_true (by first | (with_reducible assumption) | assumption)
            have q1302 : x7_1 < (l0.length : Int) := of_decide_eq_true (by first | (with_reducible assumption) | assumption)
            obtain ⟨ad1302, e1302, hx1302_0⟩ := Kd.at_int HR0.out x7_1 p1302 q1302
            cases e1302
            replace p1302 := eq_true p1302; replace q1302 := eq_true q1302
            have p1303 : 0 ≤ (x4_2 : Int) := of_decide_eq_true (by first | (with_reducible assumption) | assumption)
            have q1303 : x4_2 < (l0.length : Int) := of_decide_eq_true (by first | (with_reducible assumption) | assumption)
            obtain ⟨ad1303, e1303, hx1303_0⟩ := Kd.at_int HR0.out x4_2 p1303 q1303
            obtain rfl : ad1302 = ad1303 := (by injection e1303)
            replace p1303 := eq_true p1303; replace q1303 := eq_true q1303
            go_wp2
            repeat (go_quiet (fail); try go_wp2)
            go_ret
            exact ⟨by first | rfl | (simp; done) | (simp [*]; done), by repeat (first | exact Drawn0.refl _ | apply Drawn0.step)⟩
           ·rw [if_neg c8] at H
            have c8b0 : ((rd l0 x7_1) == (rd l0 x4_2)) = false := beq_eq_false_iff_ne.mpr c8
            have c8b1 : ((rd l0 x7_1) != (rd l0 x4_2)) = true := bne_iff_ne.mpr c8
            have H' := Aside0.mk H
            clear H
            have p1302 : 0 ≤ (x7_1 : Int) := of_decide_eq_true (by first | (with_reducible assumption) | assumption)
            have q1302 : x7_1 < (l0.length : Int) := of_decide_eq_true (by first | (with_reducible assumption) | assumption)
            obtain ⟨ad1302, e1302, hx1302_0⟩ := Kd.at_int HR0.out x7_1 p1302 q1302
            cases e1302
            replace p1302 := eq_true p1302; replace q1302 := eq_true q1302
            have p1303 : 0 ≤ (x4_2 : Int) := of_decide_eq_true (by first | (with_reducible assumption) | assumption)
            have q1303 : x4_2 < (l0.length : Int) := of_decide_eq_true (by first | (with_reducible assumption) | assumption)
            obtain ⟨ad1303, e1303, hx1303_0⟩ := Kd.at_int HR0.out x4_2 p1303 q1303
            obtain rfl : ad1302 = ad1303 := (by injection e1303)
            replace p1303 := eq_true p1303; replace q1303 := eq_true q1303
            go_wp2
            repeat (go_quiet (fail); try go_wp2)
            go_roundg k2
            case measure => have := HK1.out; have := HK2.out; omega
            case rel => exact ⟨(wrap64 (x4_2 + 1)), (by first | rfl | (simp; done) | (simp [*]; done)), H', ⟨by have := HK1.out; have := HK2.out; omega⟩, by repeat (first | exact Drawn0.refl _ | apply Drawn0.step)⟩
          ·rw [if_neg c7] at H
           exact absurd H (by simp)
         ·rw [if_neg c6] at H
          exact absurd H (by simp)
        ·rw [if_neg c5] at H
         exact absurd H (by simp)
       ·rw [if_neg c4] at H
        exact absurd H (by simp)
      ·rw [if_neg c3] at H
       have c3b0 : decide (x4_2 < x7_1) = false := decide_eq_false c3
       clear c3
       have H' := Aside0.mk H
       clear H
       go_wp2
       repeat (go_quiet (fail); try go_wp2)
       go_roundg k2
       case measure => have := HK1.out; have := HK2.out; omega
       case rel => exact ⟨(wrap64 (x7_1 + 1)), (by first | rfl | (simp; done) | (simp [*]; done)), H', ⟨by have := HK1.out; have := HK2.out; omega⟩, by repeat (first | exact Drawn0.refl _ | apply Drawn0.step)⟩
   ·rw [if_neg c2] at H
    have c2b0 : decide (x7_1 < (l0.length : Int)) = false := decide_eq_false c2
    clear c2
    obtain rfl := Option.some.inj H
    go_wp2
    repeat (go_quiet (fail); try go_wp2)
    go_ret
    exact ⟨by first | rfl | (simp; done) | (simp [*]; done), by repeat (first | exact Drawn0.refl _ | apply Drawn0.step)⟩
def qhb.j0 : Nat → Int → Int → List (S86) → Bool → Option (Int × Int)
 | 0, _, _, _, _ => none
 | k + 1, x0, x1, x2, x20 => if x20 = true then (some (0, 2)) else ((qlb.f k x0 x2).bind fun bt1825 => (if bt1825.2 = 0 then (if (x2.length : Int) < (wrap64 (x1 + 1)) then (some (0, 11)) else (if (bt1825.1.length : Int) > (wrap64 (x1 + 1)) then (some (0, 12)) else ((qzb.f x0 bt1825.1 0).bind fun t1829 => (some (t1829, 0))))) else (some (0, bt1825.2))))
def qhb.f (k : Nat) (a0 : Int) (a1 : Int) (l2 : List (S86)) : Option (Int × Int) := (qbb.f k a0).bind fun t1824 => (if t1824 = true then (if a1 < 0 then (qhb.j0 k a0 a1 l2 true) else (qhb.j0 k a0 a1 l2 (decide (a1 > 200)))) else (qhb.j0 k a0 a1 l2 true))
theorem qhb.calls (k : Nat) (a0 : Int) (a1 : Int) (A2 : Option Addr) (c2 : Nat) (l2 : List (S86)) (r1 : Int) (r2 : Int) (w : World) (hr2 : Kd.C k86 w A2 l2.length l2) (hc2 : l2.length ≤ c2) (h : qhb.f k a0 a1 l2 = some (r1, r2)) :
  Calls Try.prog 119 #[.int .u64 a0, .int .i64 a1, .slice A2 l2.length c2] w fun e w' => e = .returned (.tuple #[.int .u64 r1, .int .i64 r2]) ∧ Below w.heap.size w w' := by
 have HR2 := Aside0.mk hr2
 have HC2 := Aside0.mk hc2
 clear hr2 hc2
 have HB := Aside0.mk (Below.refl w.heap.size w)
 have H : ((qbb.f k a0).bind fun t1824 => (if t1824 = true then (if a1 < 0 then (qhb.j0 k a0 a1 l2 true) else (qhb.j0 k a0 a1 l2 (decide (a1 > 200)))) else (qhb.j0 k a0 a1 l2 true))) = some (r1, r2) := h
 clear h
 have HC4 := Aside0.mk H
 clear H
 go_enter Try.func119, Try.ntmps119
 go_upto_region 1 with (fail)
 go_cut [20] (fun v20 wc => ∃ (kq : Nat) (x20_3 : Bool), v20 = .bool x20_3 ∧ Aside0 (qhb.j0 kq a0 a1 l2 x20_3 = some (r1, r2)) ∧ Aside0 (kq ≤ k) ∧ Aside0 (Below w.heap.size w wc))
 case first =>
  have H := HC4.out
  clear HC4
  replace H := Option.bind_eq_some_iff.mp H
  obtain ⟨t1824, A50, H⟩ := H
  try dsimp only at H
  have A5 := Aside0.mk A50
  clear A50
  by_cases c6 : t1824 = true
  ·subst c6
   have H1 : (if a1 < 0 then (qhb.j0 k a0 a1 l2 true) else (qhb.j0 k a0 a1 l2 (decide (a1 > 200)))) = some (r1, r2) := by rw [if_pos rfl] at H; exact H
   clear H; have H := H1; clear H1
   by_cases c7 : a1 < 0
   ·rw [if_pos c7] at H
    have c7b0 : decide (a1 < 0) = true := decide_eq_true c7
    clear c7
    (first | rw [c7b0] | (simp only [i64_w, i32_w]; rw [c7b0]) | skip)
    have H' := Aside0.mk H
    clear H
    go_wp2_with (first | ((with_reducible refine qqa (f := 137) rfl ?_); refine goesL_ (some 11) rfl rfl Try.func137 (by kernel_rfl) rfl #[.int .u64 a0] rfl (by (try simp only [qM1, qM2, qM3]); first | done | rfl) ?_; (with_reducible refine (qbb.calls k a0 true _ A5.out).mono ?_); rintro e w' ⟨rfl, ⟨nd, rfl⟩⟩; refine ⟨_, rfl, ?_⟩))
    go_meet
    case rel => exact ⟨_, (true), (by first | rfl | (simp; done) | (simp [*]; done)), H', ⟨by first | omega | exact Nat.le_refl _⟩, ⟨by repeat (first | (with_reducible first | exact HB.out | apply qda | apply qba | apply qca) | exact HB.out)⟩⟩
   ·rw [if_neg c7] at H
    have c7b0 : decide (a1 < 0) = false := decide_eq_false c7
    clear c7
    (first | rw [c7b0] | (simp only [i64_w, i32_w]; rw [c7b0]) | skip)
    have H' := Aside0.mk H
    clear H
    go_wp2_with (first | ((with_reducible refine qqa (f := 137) rfl ?_); refine goesL_ (some 11) rfl rfl Try.func137 (by kernel_rfl) rfl #[.int .u64 a0] rfl (by (try simp only [qM1, qM2, qM3]); first | done | rfl) ?_; (with_reducible refine (qbb.calls k a0 true _ A5.out).mono ?_); rintro e w' ⟨rfl, ⟨nd, rfl⟩⟩; refine ⟨_, rfl, ?_⟩))
    go_meet
    case rel => exact ⟨_, (decide (a1 > 200)), (by first | rfl | (simp; done) | (simp [*]; done)), H', ⟨by first | omega | exact Nat.le_refl _⟩, ⟨by repeat (first | (with_reducible first | exact HB.out | apply qda | apply qba | apply qca) | exact HB.out)⟩⟩
  ·replace c6 := Bool.eq_false_iff.mpr c6
   subst c6
   have H1 : (qhb.j0 k a0 a1 l2 true) = some (r1, r2) := by rw [if_neg (show ¬ (false = true) by decide)] at H; exact H
   clear H; have H := H1; clear H1
   have H' := Aside0.mk H
   clear H
   go_wp2_with (first | ((with_reducible refine qqa (f := 137) rfl ?_); refine goesL_ (some 11) rfl rfl Try.func137 (by kernel_rfl) rfl #[.int .u64 a0] rfl (by (try simp only [qM1, qM2, qM3]); first | done | rfl) ?_; (with_reducible refine (qbb.calls k a0 false _ A5.out).mono ?_); rintro e w' ⟨rfl, ⟨nd, rfl⟩⟩; refine ⟨_, rfl, ?_⟩))
   go_meet
   case rel => exact ⟨_, (true), (by first | rfl | (simp; done) | (simp [*]; done)), H', ⟨by first | omega | exact Nat.le_refl _⟩, ⟨by repeat (first | (with_reducible first | exact HB.out | apply qda | apply qba | apply qca) | exact HB.out)⟩⟩
 case rest =>
  clear HC4; (try clear c1); (try clear c2); (try clear p2); (try clear c6); (try clear c7); (try clear c7b0)
  obtain ⟨kq, x20_3, rfl, HA, HJ3, HB⟩ := hcut
  cases kq with
  | zero => exact absurd HA.out (by simp [qhb.j0])
  | succ kj3 =>
   have H := HA.out
   clear HA
   simp only [qhb.j0] at H
   by_cases c8 : x20_3 = true
   ·subst c8
    have H1 : (some (0, 2)) = some (r1, r2) := by rw [if_pos rfl] at H; exact H
    clear H; have H := H1; clear H1
    simp only [Option.some.injEq, Prod.mk.injEq] at H
    obtain ⟨rfl, rfl⟩ := H
    go_wp2
    go_ret2
    exact ⟨by first | rfl | (simp [errW_none, errW_some] <;> rfl) | (simp [*, errW_none, errW_some] <;> rfl), by repeat (first | (with_reducible first | exact HB.out | apply qda | apply qba | apply qca) | exact HB.out)⟩
   ·replace c8 := Bool.eq_false_iff.mpr c8
    subst c8
    have H1 : ((qlb.f kj3 a0 l2).bind fun bt1825 => (if bt1825.2 = 0 then (if (l2.length : Int) < (wrap64 (a1 + 1)) then (some (0, 11)) else (if (bt1825.1.length : Int) > (wrap64 (a1 + 1)) then (some (0, 12)) else ((qzb.f a0 bt1825.1 0).bind fun t1829 => (some (t1829, 0))))) else (some (0, bt1825.2)))) = some (r1, r2) := by rw [if_neg (show ¬ (false = true) by decide)] at H; exact H
    clear H; have H := H1; clear H1
    replace H := Option.bind_eq_some_iff.mp H
    obtain ⟨⟨t1825, t1826⟩, A90, H⟩ := H
    try dsimp only at H
    have A9 := Aside0.mk A90
    clear A90
    by_cases c10 : t1826 = 0
    ·rw [if_pos c10] at H
     have c10b0 : (t1826 == 0) = true := beq_iff_eq.mpr c10
     have c10b1 : (t1826 != 0) = false := bne_eq_false_iff_eq.mpr c10
     clear c10
     by_cases c11 : (l2.length : Int) < (wrap64 (a1 + 1))
     ·rw [if_pos c11] at H
      have c11b0 : decide ((l2.length : Int) < (wrap64 (a1 + 1))) = true := decide_eq_true c11
      clear c11
      simp only [Option.some.injEq, Prod.mk.injEq] at H
      obtain ⟨rfl, rfl⟩ := H
      go_wp2_with (first | ((with_reducible refine qqa (f := 91) rfl ?_); refine goesL_ (some 24) rfl rfl Try.func91 (by kernel_rfl) rfl #[.int .u64 a0, .slice A2 l2.length c2] rfl (by (try simp only [qM1, qM2, qM3]); first | done | rfl) ?_; (with_reducible refine (qlb.calls kj3 a0 _ _ l2 t1825 t1826 _ ?side1 ?side2 A9.out).mono ?_); (case side1 => repeat (first | exact (Kd.C_below HR2.out HB.out) | (with_reducible first | refine Kd.C_alloc ?_ _ | refine Kd.C_drewN ?_ _ | refine Kd.C_drew ?_))); (case side2 => exact HC2.out); rintro e w12 ⟨v1827, rfl, ho0, hb⟩; refine ⟨_, rfl, ?_⟩; have n0_ := Aside0.mk (Kd.R_lower ho0 (qla (by with_reducible repeat first | exact HB.out | apply qda | apply qba | apply qca))); have n1_ := Aside0.mk (qma (by with_reducible repeat first | exact HB.out | apply qda | apply qba | apply qca) hb); clear HB; have HO1828 := n0_; have HB := n1_; clear n0_ n1_; (try clear hb); (try clear hb2); (try clear hk); (try clear hi); (try clear ho0)))
      go_ret2
      exact ⟨by first | rfl | (simp [errW_none, errW_some] <;> rfl) | (simp [*, errW_none, errW_some] <;> rfl), by repeat (first | (with_reducible first | exact HB.out | apply qda | apply qba | apply qca) | exact HB.out)⟩
     ·rw [if_neg c11] at H
      have c11b0 : decide ((l2.length : Int) < (wrap64 (a1 + 1))) = false := decide_eq_false c11
      clear c11
      by_cases c13 : (t1825.length : Int) > (wrap64 (a1 + 1))
      ·rw [if_pos c13] at H
       have c13b0 : decide ((wrap64 (a1 + 1)) < (t1825.length : Int)) = true := decide_eq_true c13
       clear c13
       simp only [Option.some.injEq, Prod.mk.injEq] at H
       obtain ⟨rfl, rfl⟩ := H
       go_wp2_with (first | ((with_reducible refine qqa (f := 91) rfl ?_); refine goesL_ (some 24) rfl rfl Try.func91 (by kernel_rfl) rfl #[.int .u64 a0, .slice A2 l2.length c2] rfl (by (try simp only [qM1, qM2, qM3]); first | done | rfl) ?_; (with_reducible refine (qlb.calls kj3 a0 _ _ l2 t1825 t1826 _ ?side1 ?side2 A9.out).mono ?_); (case side1 => repeat (first | exact (Kd.C_below HR2.out HB.out) | (with_reducible first | refine Kd.C_alloc ?_ _ | refine Kd.C_drewN ?_ _ | refine Kd.C_drew ?_))); (case side2 => exact HC2.out); rintro e w14 ⟨v1827, rfl, ho0, hb⟩; refine ⟨_, rfl, ?_⟩; have n0_ := Aside0.mk (Kd.R_lower ho0 (qla (by with_reducible repeat first | exact HB.out | apply qda | apply qba | apply qca))); have n1_ := Aside0.mk (qma (by with_reducible repeat first | exact HB.out | apply qda | apply qba | apply qca) hb); clear HB; have HO1828 := n0_; have HB := n1_; clear n0_ n1_; (try clear hb); (try clear hb2); (try clear hk); (try clear hi); (try clear ho0); obtain ⟨Ao15, co15, eo15⟩ := Kd.R_slice HO1828.out; subst eo15))
       go_ret2
       exact ⟨by first | rfl | (simp [errW_none, errW_some] <;> rfl) | (simp [*, errW_none, errW_some] <;> rfl), by repeat (first | (with_reducible first | exact HB.out | apply qda | apply qba | apply qca) | exact HB.out)⟩
      ·rw [if_neg c13] at H
       have c13b0 : decide ((wrap64 (a1 + 1)) < (t1825.length : Int)) = false := decide_eq_false c13
       clear c13
       replace H := Option.bind_eq_some_iff.mp H
       obtain ⟨t1829, A160, H⟩ := H
       try dsimp only at H
       have A16 := Aside0.mk A160
       clear A160
       simp only [Option.some.injEq, Prod.mk.injEq] at H
       obtain ⟨rfl, rfl⟩ := H
       go_wp2_with (first | ((with_reducible refine qqa (f := 91) rfl ?_); refine goesL_ (some 24) rfl rfl Try.func91 (by kernel_rfl) rfl #[.int .u64 a0, .slice A2 l2.length c2] rfl (by (try simp only [qM1, qM2, qM3]); first | done | rfl) ?_; (with_reducible refine (qlb.calls kj3 a0 _ _ l2 t1825 t1826 _ ?side1 ?side2 A9.out).mono ?_); (case side1 => repeat (first | exact (Kd.C_below HR2.out HB.out) | (with_reducible first | refine Kd.C_alloc ?_ _ | refine Kd.C_drewN ?_ _ | refine Kd.C_drew ?_))); (case side2 => exact HC2.out); rintro e w17 ⟨v1827, rfl, ho0, hb⟩; refine ⟨_, rfl, ?_⟩; have n0_ := Aside0.mk (Kd.R_lower ho0 (qla (by with_reducible repeat first | exact HB.out | apply qda | apply qba | apply qca))); have n1_ := Aside0.mk (qma (by with_reducible repeat first | exact HB.out | apply qda | apply qba | apply qca) hb); clear HB; have HO1828 := n0_; have HB := n1_; clear n0_ n1_; (try clear hb); (try clear hb2); (try clear hk); (try clear hi); (try clear ho0); obtain ⟨Ao18, co18, eo18⟩ := Kd.R_slice HO1828.out; subst eo18) | ((with_reducible refine qqa (f := 134) rfl ?_); refine goesL_ (some 45) rfl rfl Try.func134 (by kernel_rfl) rfl #[.int .u64 a0, .slice Ao18 t1825.length co18, .int .u64 0] rfl (by (try simp only [qM1, qM2, qM3]); first | done | rfl) ?_; (with_reducible refine (qzb.calls a0 _ _ t1825 0 t1829 _ ?side1 ?side2 A16.out).mono ?_); (case side1 => repeat (first | exact (Kd.R_reads' HO1828.out).2.2 | (with_reducible first | refine Kd.C_alloc ?_ _ | refine Kd.C_drewN ?_ _ | refine Kd.C_drew ?_))); (case side2 => exact (Kd.R_reads' HO1828.out).2.1); rintro e w19 ⟨rfl, hb⟩; refine ⟨_, rfl, ?_⟩; have n0_ := Aside0.mk (Kd.R_below (by (with_reducible repeat first | apply Kd.qoa | apply Kd.qna | apply Kd.R_drew); exact HO1828.out) hb); have n1_ := Aside0.mk (qma (by with_reducible repeat first | exact HB.out | apply qda | apply qba | apply qca) hb); clear HO1828; clear HB; have HO1828 := n0_; have HB := n1_; clear n0_ n1_; (try clear hb); (try clear hb2); (try clear hk); (try clear hi)))
       go_ret2
       exact ⟨by first | rfl | (simp [errW_none, errW_some] <;> rfl) | (simp [*, errW_none, errW_some] <;> rfl), by repeat (first | (with_reducible first | exact HB.out | apply qda | apply qba | apply qca) | exact HB.out)⟩
    ·rw [if_neg c10] at H
     have c10b0 : (t1826 == 0) = false := beq_eq_false_iff_ne.mpr c10
     have c10b1 : (t1826 != 0) = true := bne_iff_ne.mpr c10
     simp only [Option.some.injEq, Prod.mk.injEq] at H
     obtain ⟨rfl, rfl⟩ := H
     go_wp2_with (first | ((with_reducible refine qqa (f := 91) rfl ?_); refine goesL_ (some 24) rfl rfl Try.func91 (by kernel_rfl) rfl #[.int .u64 a0, .slice A2 l2.length c2] rfl (by (try simp only [qM1, qM2, qM3]); first | done | rfl) ?_; (with_reducible refine (qlb.calls kj3 a0 _ _ l2 t1825 t1826 _ ?side1 ?side2 A9.out).mono ?_); (case side1 => repeat (first | exact (Kd.C_below HR2.out HB.out) | (with_reducible first | refine Kd.C_alloc ?_ _ | refine Kd.C_drewN ?_ _ | refine Kd.C_drew ?_))); (case side2 => exact HC2.out); rintro e w20 ⟨v1827, rfl, ho0, hb⟩; refine ⟨_, rfl, ?_⟩; have n0_ := Aside0.mk (Kd.R_lower ho0 (qla (by with_reducible repeat first | exact HB.out | apply qda | apply qba | apply qca))); have n1_ := Aside0.mk (qma (by with_reducible repeat first | exact HB.out | apply qda | apply qba | apply qca) hb); clear HB; have HO1828 := n0_; have HB := n1_; clear n0_ n1_; (try clear hb); (try clear hb2); (try clear hk); (try clear hi); (try clear ho0)))
     go_ret2
     exact ⟨by first | rfl | (simp [errW_none, errW_some] <;> rfl) | (simp [*, errW_none, errW_some] <;> rfl), by repeat (first | (with_reducible first | exact HB.out | apply qda | apply qba | apply qca) | exact HB.out)⟩
end Go.Proofs.Ytjjnfobeeflnhaa.J
