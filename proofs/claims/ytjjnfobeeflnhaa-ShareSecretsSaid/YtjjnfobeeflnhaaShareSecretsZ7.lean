/- Part 7 of the proof of ShareSecrets: what the functions compute as plain Lean functions, that the machine comes to just these answers, and that the answer is true; no conditions. -/
import Derived.Test.YtjjnfobeeflnhaaShareSecretsZ0
import Derived.Test.YtjjnfobeeflnhaaShareSecretsZ1
import Derived.Test.YtjjnfobeeflnhaaShareSecretsZ2
import Derived.Test.YtjjnfobeeflnhaaShareSecretsZ3
import Derived.Test.YtjjnfobeeflnhaaShareSecretsZ4
import Derived.Test.YtjjnfobeeflnhaaShareSecretsZ5
import Derived.Test.YtjjnfobeeflnhaaShareSecretsZ6
import Derived.Shelf.SlicesE.Compact
import Derived.RangeFuncBox
import Derived.RangeFuncLeaves
import Derived.RangeFuncCalls
import Derived.RangeFuncWrites
import Derived.Shelf.Abstract
import Derived.OwnWalkIn
import Derived.TacticsInMore
import Derived.LoopNIn
import Derived.LoopIn
import Derived.Maps.AppendAt
import Derived.Test.YtjjnfobeeflnhaaRows
import Derived.WalkKit
import Derived.ProofKit
import Derived.OpenShut
import Derived.ShutString
import Derived.ChangeOld
import Derived.Below
import Derived.SizedLaws
/- What Go functions of the program compute, as plain Lean functions, and that the machine comes to just these answers (written by a program for this seat). -/
namespace Go.Proofs.Ytjjnfobeeflnhaa.J
open Go.RowKit Go.Proofs.YtjjnfobeeflnhaaW.PrintWords Go.Proofs.YtjjnfobeeflnhaaW.PrintLast Go.Proofs.YtjjnfobeeflnhaaW.PrintMore
attribute [local go_sem] max2_int min2_int max_two min_two max_three min_three max_four min_four   -- for this text's walks alone
set_option linter.unusedVariables false
set_option linter.unusedSimpArgs false

/-! ### poly_unlike: function 153 -/
section
open Go.Shelf
attribute [local go_sem] Oper.semAt_some
set_option maxRecDepth 100000 in
set_option maxHeartbeats 4000000 in
/-- Appended to nothing: what a slice's iterator hands out, in a row of the call's own. -/
theorem poly_unlike.values_calls (Bs cap : Nat) (A : Option Addr) (zs : List Int) (w : World) (hlen : zs.length < 17592186044416) (hBs : w.cell? ⟨Bs, 0, none⟩ = some (.slice A zs.length cap)) (hBl : Bs < w.heap.size) (hC : Kd.C (Kd.int .u64) w A zs.length zs) :
  Calls Try.prog 177 #[.slice none 0 0, .func (.func 176) #[] #[.pointer (some ⟨Bs, 0, none⟩)]] w fun e w' => ∃ v, e = .returned v ∧ w'.ownsRow w.heap.size 22 1 v zs.length (zs.map (Value.int .u64)) ∧ Below w.heap.size w w' := by
 have hA : ∀ ad, A = some ad → 0 < zs.length → ad.block < w.heap.size := by
  rintro ad rfl hl
  obtain ⟨ad', e, h⟩ := Kd.at_int hC 0 (by omega) (by omega)
  cases e
  have := World.block_lt_of_cell? w _ h
  rw [show (ad.add (Int.toNat 0)).block = ad.block by unfold Addr.add; split <;> rfl] at this
  exact this
 have HC := Aside0.mk hC
 clear hC
 have hmax : zs.length ≤ maxLen := by unfold maxLen; omega
 have hbytes : zs.length * 8 ≤ 140737488355328 := by omega
 refine (callsIn_wide (n := 5)).1 ?_
 have h1 : 1 ≤ 5 := by omega
 obtain ⟨i0, hi, hz0, hz1, hz2⟩ := info_parts info22
 refine callsIn_of_wp_marks Try.func177 rfl trivial ?_ rfl
 simp only [Try.ntmps177, List.size_toArray, List.length_cons, List.length_nil, Nat.reduceAdd, Nat.reduceSub, Array.replicate_succ, Array.replicate_zero, List.push_toArray, List.append_toArray, List.nil_append, List.cons_append]
 gi_wp2
 have bO := Boxed.new w 31 (.slice none 0 0)
 have hB0 : Below w.heap.size w (w.alloc (.cells #[.slice none 0 0] 31)) := (Below.refl _ w).alloc (Nat.le_refl _) _
 refine wpIn_rangeFunc_ownG rfl h1 (gf := 176) (lb := #[.pointer (some ⟨Bs, 0, none⟩)]) rfl trivial (enters_of Try.func176 (by kernel_rfl) rfl)
  (slices_Values_uint64_uint64_stops Fence.wide (5 - 1) trivial rfl (by omega) Bs w.heap.size cap A zs _ (by simp; omega) (by simp) ((hB0.cell (p := ⟨Bs, 0, none⟩) hBl).trans hBs) (Kd.C_below HC.out hB0) hA) belowK_t (belowK_b (by simp)) (Below.refl _ _) (fun _ => rfl)
  (fun pre W => (∃ v, Boxed W w.heap.size 31 v ∧ W.ownsRow w.heap.size 22 1 v pre.length (pre.map (Value.int .u64)) ∧ True) ∧ Below w.heap.size w W)
  (fun _ _ _ => False)
  (OwnFrom.and (Own.from (holdsRow_own w.heap.size w.heap.size 31 22 1 (fun pre : List Int => pre.length) (fun pre => pre.map (Value.int .u64)) (fun pre v => True)) _) (ownFrom_below (Nat.le_refl _) (by simp)))
  (fun _ _ _ _ _ hs _ _ => hs)
  ⟨⟨_, bO, World.ownsRow_nil _ _ _ _, trivial⟩, hB0⟩
  (fun x => { tmps := #[.slice none 0 0, .func (.func 176) #[] #[.pointer (some ⟨Bs, 0, none⟩)], .pointer (some ⟨w.heap.size, 0, none⟩), undef, .slice none 0 0, .int .u64 x, .func (.func 176) #[] #[.pointer (some ⟨Bs, 0, none⟩)], .int .u64 x, undef, undef, undef, undef, undef], defers := [] }) ?assign ?body ?done ?stop
 case assign =>
  intro l x W K hK
  gi_wp2
  exact hK
 case body =>
  rintro l pre x W ⟨⟨v, hv, hrow, -⟩, hB⟩ hlt
  have hc := hv.cell
  gi_wp2_with (gi_at_builtin; refine wpListIn_append_own _ rfl _ _ 31 rfl w.heap.size 22 i0 (.int .u64 0) 1 8 Try.underlying31 hi hz0 hz1 hz2 rfl (by decide) _ _ _ rfl (hrow.alloc _) ⟨W.heap.size, 0, none⟩ 1 1 [.int .u64 x] rfl rfl (cell_one_new _ _ _) (by simp [Value.oneCell']) (by omega) (by omega) (by have := hB.size; simp; omega) ?_; intro v' w1 hown' hgrow _; obtain ⟨g', cap', rfl⟩ := ownsRow_succ hown'; obtain ⟨hv1, hv2, hr2, hk2, hb2⟩ := hv.appended (by decide) hrow hB.size (Nat.le_refl _) hown' hgrow; have hc1 := hv1.cell; have hf1 := hv1.frozen)
  exact ⟨hk2.from _, hb2, ⟨_, hv2, by simpa using hr2, trivial⟩, hB.trans hb2⟩
 case done =>
  rintro D ys W hD rfl ⟨⟨v, hv, hrow, -⟩, hB⟩ hK
  have hc := hv.cell
  gi_wp2
  refine ⟨by simp, .inl ⟨_, _, rfl, run_takeDeferred hK, ?_⟩⟩
  exact ⟨_, results_tmp rfl _ _ _, v, rfl, ownsRow_putObj hrow _ hK rfl, hB.trans (belowK_b (w := w) (Nat.le_refl _) W D _ _ (by simp at hD; omega) hK rfl rfl)⟩
 case stop =>
  rintro D c pre W _ _ h _
  exact h.elim
end
/-! collected, sorted, compacted -/
set_option maxHeartbeats 4000000 in
theorem poly_unlike.collect_calls (Bs cap : Nat) (A : Option Addr) (zs : List Int) (w : World) (hlen : zs.length < 17592186044416) (hBs : w.cell? ⟨Bs, 0, none⟩ = some (.slice A zs.length cap)) (hBl : Bs < w.heap.size) (hC : Kd.C (Kd.int .u64) w A zs.length zs) :
  Calls Try.prog 174 #[.func (.func 176) #[] #[.pointer (some ⟨Bs, 0, none⟩)]] w fun e w' => ∃ v, e = .returned v ∧ w'.ownsRow w.heap.size 22 1 v zs.length (zs.map (Value.int .u64)) ∧ Below w.heap.size w w' := by
 have K := Aside0.mk (poly_unlike.values_calls Bs cap A zs w hlen hBs hBl hC)
 clear hlen hBs hBl hC
 go_enter Try.func174, Try.ntmps174
 go_wp2_with (go_at_call 177; refine K.out.mono ?_; rintro e w' ⟨v, rfl, hR, hB⟩; have HR := Aside0.mk hR; have HB := Aside0.mk hB; clear hR hB)
 go_ret
 exact ⟨_, rfl, HR.out, HB.out⟩
/-! a row of the call's own, behind the sort -/
section
open Go.Sort
theorem poly_unlike.holds_block {w : World} {g : Nat} {cur : Array Value} {e : TypeId} {ss : List Int} (hb : w.heap[g]? = some (.cells cur e (0, 0))) (ht : cur.toList.take ss.length = ss.map (Value.int .u64)) : Holds (Value.int .u64) w g 0 ss.toArray := by
 intro j hj
 have hj' : j < ss.length := by simpa using hj
 refine ⟨?_, by simp [World.frozen?, hb]⟩
 have h1 : (cur.toList.take ss.length)[j]? = (ss.map (Value.int .u64))[j]? := by rw [ht]
 rw [List.getElem?_take_of_lt hj'] at h1
 simp only [World.cell?, hb, Nat.zero_add]
 simp only [Option.isSome_none, Bool.false_eq_true, if_false]
 rw [← Array.getElem?_toList, h1]
 simp [hj']
theorem poly_unlike.heap_put {w : World} {g n : Nat} {os : Array Obj} {cur : Array Value} {e : TypeId} {fr : Nat × Nat} (d : Array Int) (hb : w.heap[g]? = some (.cells cur e fr)) :
  (grow (putRow (Value.int .u64) (Sort.ahead w n) g 0 d) os).heap[g]? = some (.cells (putCells (Value.int .u64) 0 d cur) e fr) := by
 have hg : g < w.heap.size := (Array.getElem?_eq_some_iff.1 hb).1
 rw [heap_grow_old _ _ (by simpa using hg)]
 simp [putRow, mapBlock, Sort.ahead, Array.getElem?_modify, hb, onCells]
theorem poly_unlike.grown_put {w : World} {g n : Nat} {os : Array Obj} (d : Array Int) : w.grownBy (grow (putRow (Value.int .u64) (Sort.ahead w n) g 0 d) os) (some g) := by
 refine ⟨rfl, rfl, rfl, by simp, fun k hk hne => ?_⟩
 rw [heap_grow_old _ _ (by simpa using hk)]
 have : g ≠ k := fun e => hne (by rw [e])
 simp [putRow, mapBlock, Sort.ahead, Array.getElem?_modify, this]
theorem poly_unlike.take_put (cur : Array Value) (ts : List Int) (h : ts.length ≤ cur.size) : (putCells (Value.int .u64) 0 ts.toArray cur).toList.take ts.length = ts.map (Value.int .u64) := by
 apply List.ext_getElem?
 intro j
 by_cases hj : j < ts.length
 ·rw [List.getElem?_take_of_lt hj, Array.getElem?_toList]
  simp [putCells, hj, show j < cur.size by omega]
 ·rw [List.getElem?_take_eq_none (by omega), List.getElem?_eq_none (by simp; omega)]
theorem poly_unlike.owns_put {w : World} {base g cap n : Nat} {e : TypeId} {os : Array Obj} {cur : Array Value} {ss ts : List Int} (hl : ts.length = ss.length) (hbase : base ≤ g) (hb : w.heap[g]? = some (.cells cur e (0, 0)))
  (h1 : ss.length ≤ cap) (h2 : cap ≤ maxLen) (h3 : cur.size = cap * 1) :
  (grow (putRow (Value.int .u64) (Sort.ahead w n) g 0 ts.toArray) os).ownsRow base e 1 (.slice (some ⟨g, 0, none⟩) ss.length cap) ss.length (ts.map (Value.int .u64)) :=
 ⟨by simp [hl], .inr ⟨g, cap, _, rfl, hbase, poly_unlike.heap_put _ hb, h1, h2, by simp [putCells, h3], by rw [Nat.mul_one, ← hl]; exact poly_unlike.take_put cur ts (by omega)⟩⟩
end
set_option maxRecDepth 100000 in
set_option maxHeartbeats 4000000 in
theorem poly_unlike.sorted_calls (Bs cap : Nat) (A : Option Addr) (zs : List Int) (w : World) (hlen : zs.length < 17592186044416) (hBs : w.cell? ⟨Bs, 0, none⟩ = some (.slice A zs.length cap)) (hBl : Bs < w.heap.size) (hC : Kd.C (Kd.int .u64) w A zs.length zs) :
  Calls Try.prog 167 #[.func (.func 176) #[] #[.pointer (some ⟨Bs, 0, none⟩)]] w fun e w' => ∃ v, e = .returned v ∧ w'.ownsRow w.heap.size 22 1 v zs.length ((zs.mergeSort fun x y => decide (x ≤ y)).map (Value.int .u64)) ∧ Below w.heap.size w w' := by
 have K1 := Aside0.mk (poly_unlike.collect_calls Bs cap A zs w hlen hBs hBl hC)
 clear hBs hBl hC
 go_enter Try.func167, Try.ntmps167
 go_wp2_with (go_at_call 174; refine K1.out.mono ?_; rintro e W ⟨v, rfl, hrow, hb⟩)
 rcases hrow.2 with ⟨rfl, hz⟩ | ⟨gb, cp, cur, rfl, hbase, hgb, r1, r2, r3, r4⟩
 ·have HR := Aside0.mk hrow
  have HB := Aside0.mk hb
  have HZ := Aside0.mk hz
  clear hrow hb hz K1
  go_wp2_with (go_at_call 175; refine (Srt.Sort_int_nil none 0 W).mono ?_; rintro e w' ⟨rfl, rfl⟩)
  go_ret
  obtain rfl : zs = [] := List.eq_nil_of_length_eq_zero HZ.out
  exact ⟨_, rfl, by simpa using HR.out, HB.out⟩
 ·have K2 := Aside0.mk (Srt.slices_Sort_int gb 0 cp zs W (poly_unlike.holds_block hgb (by simpa using r4)) (Array.getElem?_eq_some_iff.1 hgb).1 (by omega))
  have KO := Aside0.mk (fun n os => poly_unlike.owns_put (n := n) (os := os) (ss := zs) (ts := zs.mergeSort fun x y => decide (x ≤ y)) (by simp) hbase hgb r1 r2 r3)
  have HB := Aside0.mk (fun n os => hb.grown (poly_unlike.grown_put (g := gb) (n := n) (os := os) (zs.mergeSort fun x y => decide (x ≤ y)).toArray) hb.size (fun j hj => by cases hj; exact hbase))
  clear hrow hb hgb r4 K1 r1 r2 r3 hbase
  go_wp2_with (go_at_call 175; refine K2.out.mono ?_; rintro e w' ⟨rfl, nn, os, rfl⟩)
  go_ret
  exact ⟨_, rfl, KO.out nn os, HB.out nn os⟩
/-! slices.Compact -/
def poly_unlike.cmp_ren : Go.Shelf.Ren := ⟨fun | 43 => 169 | n => n, fun | 3 => 3 | 4 => 4 | 22 => 31 | 23 => 22 | n => n, fun n => n⟩
set_option maxRecDepth 1000000 in
theorem poly_unlike.cmp_lays : SlLaysE.n43 Try.prog poly_unlike.cmp_ren := { mixed := by kernel_rfl, f43 := ⟨Try.f169.name, by decide, Try.func169.trans (congrArg some (by kernel_rfl))⟩, t0 := Try.underlying0, a0 := Try.isAgg0, z0 := Try.sizeOf0, v0 := Try.zeroValue0, t3 := Try.underlying3, a3 := Try.isAgg3, z3 := Try.sizeOf3, v3 := Try.zeroValue3, t4 := Try.underlying4, a4 := Try.isAgg4, z4 := Try.sizeOf4, v4 := Try.zeroValue4, t22 := Try.underlying31, a22 := Try.isAgg31, z22 := Try.sizeOf31, v22 := Try.zeroValue31, a23 := Try.isAgg22, z23 := Try.sizeOf22 }
set_option maxHeartbeats 4000000 in
theorem poly_unlike.compact_nil (w : World) : Calls Try.prog 169 #[.slice none 0 0] w fun e w' => e = .returned (.slice none 0 0) ∧ w = w' := by
 go_enter Try.func169, Try.ntmps169
 go_wp2
 go_ret
 exact ⟨rfl, rfl⟩
set_option maxRecDepth 1000000 in
set_option maxHeartbeats 4000000 in
/-- A row of the call's own, compacted: how long it is then. -/
theorem poly_unlike.compact_calls (v : Value) (n : Nat) (ts : List Int) (w0 w : World) (hn : ts.length = n) (hB : Below w0.heap.size w0 w) (hrow : w.ownsRow w0.heap.size 22 1 v n (ts.map (Value.int .u64))) :
  Calls Try.prog 169 #[v] w fun e w' => ∃ A c, e = .returned (.slice A (Go.Lib.compactUpTo ts.toArray ts.length).length c) ∧ Below w0.heap.size w0 w' := by
 subst hn
 rcases hrow.2 with ⟨rfl, hz⟩ | ⟨gb, cp, cur, rfl, hbase, hgb, r1, r2, r3, r4⟩
 ·obtain rfl : ts = [] := List.eq_nil_of_length_eq_zero hz
  refine (poly_unlike.compact_nil w).mono ?_
  rintro e w' ⟨rfl, rfl⟩
  exact ⟨none, 0, rfl, hB⟩
 ·have hm : maxLen ≤ 9223372036854775807 := by decide
  have h := AnyE.slices_Compact poly_unlike.cmp_lays (Value.int .u64) (fun _ => rfl) (EqlAt.intD _ _ _) (NeqAt.intD _ _ _) 0 Try.zeroValue22 gb 0 cp ts.toArray w (poly_unlike.holds_block hgb (by simpa using r4)) (by rw [List.size_toArray]; omega) (by rw [List.size_toArray]; omega)
  refine Calls.mono (show Calls Try.prog 169 #[.slice (some ⟨gb, 0, none⟩) ts.length cp] w _ from h) ?_
  rintro e w' ⟨rfl, q, rfl⟩
  refine ⟨_, _, rfl, ?_⟩
  have hg := poly_unlike.grown_put (w := w) (g := gb) (n := q) (os := #[]) (Go.Lib.compactUpTo ts.toArray ts.toArray.size ++ List.replicate (ts.toArray.size - (Go.Lib.compactUpTo ts.toArray ts.toArray.size).length) 0).toArray
  rw [Go.Sort.grow_empty] at hg
  exact hB.grown hg hB.size (fun j hj => by cases hj; exact hbase)
/-- Sorted and compacted it is as long as before just where no two are alike. -/
theorem poly_unlike.compact_len (ts : List Int) (hs : ts.Pairwise (· ≤ ·)) : (Go.Lib.compactUpTo ts.toArray ts.length).length = ts.length ↔ ts.Nodup := by
 have key : (Go.Lib.compactUpTo ts.toArray ts.length).length = ts.length ↔ ∀ j, j < ts.length → Go.Lib.keeps ts.toArray j = true := by
  unfold Go.Lib.compactUpTo
  rw [List.length_map]
  constructor
  ·intro h j hj
   have := List.length_filter_eq_length_iff.1 (h.trans List.length_range.symm)
   exact this j (List.mem_range.2 hj)
  ·intro h
   rw [List.filter_eq_self.2 (fun j hj => h j (List.mem_range.1 hj)), List.length_range]
 rw [key]
 constructor
 ·intro h
  have hlt : ∀ i, i + 1 < ts.length → ts[i]! < ts[i + 1]! := fun i hi => by
   have h1 := h (i + 1) hi
   have h2 := List.pairwise_iff_getElem.1 hs i (i + 1) (by omega) hi (by omega)
   simp [Go.Lib.keeps] at h1
   rw [getElem!_pos ts i (by omega), getElem!_pos ts (i + 1) hi]
   rw [List.getElem?_eq_getElem hi, List.getElem?_eq_getElem (show i < ts.length by omega)] at h1
   simp only [Option.getD_some] at h1
   omega
  have hlt2 : ∀ d i, i + 1 + d < ts.length → ts[i]! < ts[i + 1 + d]! := by
   intro d
   induction d with
   | zero => intro i hi; exact hlt i hi
   | succ d ih =>
    intro i hi
    have a := ih i (by omega)
    have b := hlt (i + 1 + d) (by omega)
    have : i + 1 + (d + 1) = i + 1 + d + 1 := by omega
    rw [this]; omega
  refine List.pairwise_iff_getElem.2 fun i j hi hj hij => ?_
  have := hlt2 (j - i - 1) i (by omega)
  rw [show i + 1 + (j - i - 1) = j by omega, getElem!_pos ts i hi, getElem!_pos ts j hj] at this
  omega
 ·intro h j hj
  simp only [Go.Lib.keeps, decide_eq_true_eq]
  by_cases h0 : j = 0
  ·exact .inl h0
  ·refine .inr fun e => ?_
   have e' : ts[j] = ts[j - 1] := by
    have := e
    simp only [List.getElem!_toArray] at this
    rwa [getElem!_pos ts j hj, getElem!_pos ts (j - 1) (by omega)] at this
   have := List.pairwise_iff_getElem.1 h (j - 1) j (by omega) hj (by omega)
   exact this e'.symm
theorem poly_unlike.len_sorted (zs : List Int) : (Go.Lib.compactUpTo (zs.mergeSort fun x y => decide (x ≤ y)).toArray zs.length).length = zs.length ↔ zs.Nodup := by
 have h := poly_unlike.compact_len (zs.mergeSort fun x y => decide (x ≤ y)) (by
  have := List.pairwise_mergeSort (le := fun x y : Int => decide (x ≤ y)) (fun a b c h1 h2 => by simp at *; omega) (fun a b => by simp; omega) zs
  exact this.imp fun h => by simpa using h)
 rw [List.length_mergeSort] at h
 rw [h]
 exact (List.mergeSort_perm zs _).nodup_iff
/-- What it answers: whether no two are alike. -/
def poly_unlike.f (_k : Nat) (l0 : List Int) : Option Bool := if l0.length < 17592186044416 then some (decide l0.Nodup) else none
theorem poly_unlike.mono : ∀ a0 k, LeO (poly_unlike.f k a0) (poly_unlike.f (k + 1) a0) := fun _ _ => LeO.refl _
set_option maxHeartbeats 4000000 in
theorem poly_unlike.calls (k : Nat) (A0 : Option Addr) (c0 : Nat) (l0 : List Int) (r : Bool) (w : World) (hr0 : Kd.C (Kd.int .u64) w A0 l0.length l0) (hc0 : l0.length ≤ c0) (h : poly_unlike.f k l0 = some r) :
  Calls Try.prog 153 #[.slice A0 l0.length c0] w fun e w' => e = .returned (.bool r) ∧ Below w.heap.size w w' := by
 unfold poly_unlike.f at h
 by_cases hlen : l0.length < 17592186044416
 ·rw [if_pos hlen] at h
  cases h
  have hB0 : Below w.heap.size w (w.alloc (.cells #[.slice A0 l0.length c0] 31)) := (Below.refl _ w).alloc (Nat.le_refl _) _
  have bX := Boxed.new w 31 (.slice A0 l0.length c0)
  have K1 := Aside0.mk (slices_Values_uint64_uint64_mk A0 l0.length c0 w)
  have K2 := Aside0.mk (poly_unlike.sorted_calls w.heap.size c0 A0 l0 _ hlen bX.cell (by simp) (Kd.C_below hr0 hB0))
  have K3 := Aside0.mk (fun v w1 hB hrow => poly_unlike.compact_calls v l0.length (l0.mergeSort fun x y => decide (x ≤ y)) (w.alloc (.cells #[.slice A0 l0.length c0] 31)) w1 (by simp) hB hrow)
  have HB0 := Aside0.mk hB0
  have HD := Aside0.mk (poly_unlike.len_sorted l0)
  clear hr0 hc0 bX hB0
  go_enter Try.func153, Try.ntmps153
  go_wp2_with (first
   | (go_at_call 168; refine K1.out.mono ?_; rintro e w' ⟨rfl, rfl⟩)
   | (go_at_call 167; refine K2.out.mono ?_; rintro e w2 ⟨v, rfl, hR, hB⟩; have K4 := Aside0.mk (K3.out v w2 hB hR); clear hR hB)
   | (go_at_call 169; refine K4.out.mono ?_; rintro e w3 ⟨A9, c9, rfl, hB⟩; have HB := Aside0.mk hB; clear hB))
  go_ret
  refine ⟨?_, ?_⟩
  ·refine congrArg Ending.returned (congrArg Value.bool ?_)
   have hd := HD.out
   try rw [List.length_mergeSort]
   rw [Bool.eq_iff_iff]
   simp only [beq_iff_eq, decide_eq_true_eq]
   rw [← hd]
   omega
  ·exact HB0.out.trans (HB.out.mono (by simp))
 ·rw [if_neg hlen] at h; cases h

end Go.Proofs.Ytjjnfobeeflnhaa.J

/- What Go functions of the program compute, as plain Lean functions, and that the machine comes to just these answers (written by a program for this seat). -/
namespace Go.Proofs.Ytjjnfobeeflnhaa.J
open Go.RowKit Go.Proofs.YtjjnfobeeflnhaaW.PrintWords Go.Proofs.YtjjnfobeeflnhaaW.PrintLast Go.Proofs.YtjjnfobeeflnhaaW.PrintMore
attribute [local go_sem] max2_int min2_int max_two min_two max_three min_three max_four min_four   -- for this text's walks alone
set_option linter.unusedVariables false
set_option linter.unusedSimpArgs false

/-! ### poly_Through: function 91 -/
def poly_Through.l0 : Nat → Int → List (S86) → List Int → List (S86) → Int → Int → Option (List Int × Int)
 | 0, _, _, _, _, _, _ => none
 | k + 1, x0, x1, x6, x16, x17, x18 => if x18 < x17 then (if 0 ≤ x18 then (if x18 < (x16.length : Int) then ((field_Below.f k x0 (([(rd_T86 x16 x18).f0, (rd_T86 x16 x18).f1] : List Int))).bind fun t1302 => (if t1302 = 0 then (if x6.length < 17592186044416 then (poly_Through.l0 k x0 x1 (x6 ++ [(rd_T86 x16 x18).f0]) x16 x17 (wrap64 (x18 + 1))) else (none)) else (some (([] : List Int), t1302)))) else (none)) else (none)) else ((poly_unlike.f k x6).bind fun t1306 => (if t1306 = true then ((poly_Fit.f k x0 x1).bind fun t1307 => (some (t1307, 0))) else (some (([] : List Int), 6))))
def poly_Through.f (k : Nat) (a0 : Int) (l1 : List (S86)) : Option (List Int × Int) := (field_Is.f k a0).bind fun t1296 => (if t1296 = true then (if (l1.length : Int) > 201 then (some (([] : List Int), 3)) else (poly_Through.l0 k a0 l1 ([] : List Int) l1 (l1.length : Int) 0)) else (some (([] : List Int), 2)))
theorem poly_Through.mono_l : ∀ k, (∀ y0 y1 y2 y3 y4 y5, LeO (poly_Through.l0 k y0 y1 y2 y3 y4 y5) (poly_Through.l0 (k + 1) y0 y1 y2 y3 y4 y5))
 | 0 => fun _ _ _ _ _ _ r h => by simp [poly_Through.l0] at h
 | k + 1 => by
  have ih0 := poly_Through.mono_l k
  ·intro y0 y1 y2 y3 y4 y5
   unfold poly_Through.l0
   repeat' first
   | (with_reducible exact ih0 _ _ _ _ _ _)
   | (with_reducible exact field_Below.mono _ _ _)
   | (with_reducible exact field_Is.mono _ _)
   | (with_reducible exact poly_Fit.mono _ _ _)
   | (with_reducible exact poly_unlike.mono _ _)
   | (with_reducible exact LeO.refl _)
   | (with_reducible exact LeO.none _)
   | (with_reducible refine LeO.ite ?_ ?_)
   | (with_reducible refine LeO.bind ?_ (fun _ => ?_))
   | exact ih0 _ _ _ _ _ _
   | exact field_Below.mono _ _ _
   | exact field_Is.mono _ _
   | exact poly_Fit.mono _ _ _
   | exact poly_unlike.mono _ _
   | exact LeO.none _
   | refine LeO.ite ?_ ?_
   | refine LeO.bind ?_ (fun _ => ?_)
theorem poly_Through.mono : ∀ a0 a1 k, LeO (poly_Through.f k a0 a1) (poly_Through.f (k + 1) a0 a1) := by
 intro a0 a1 k
 have ih0 := poly_Through.mono_l k
 unfold poly_Through.f
 repeat' first
   | (with_reducible exact ih0 _ _ _ _ _ _)
   | (with_reducible exact field_Below.mono _ _ _)
   | (with_reducible exact field_Is.mono _ _)
   | (with_reducible exact poly_Fit.mono _ _ _)
   | (with_reducible exact poly_unlike.mono _ _)
   | (with_reducible exact LeO.refl _)
   | (with_reducible exact LeO.none _)
   | (with_reducible refine LeO.ite ?_ ?_)
   | (with_reducible refine LeO.bind ?_ (fun _ => ?_))
   | exact ih0 _ _ _ _ _ _
   | exact field_Below.mono _ _ _
   | exact field_Is.mono _ _
   | exact poly_Fit.mono _ _ _
   | exact poly_unlike.mono _ _
   | exact LeO.none _
   | refine LeO.ite ?_ ?_
   | refine LeO.bind ?_ (fun _ => ?_)
set_option maxHeartbeats 8000000 in
set_option maxRecDepth 100000 in
theorem poly_Through.calls (k : Nat) (a0 : Int) (A1 : Option Addr) (c1 : Nat) (l1 : List (S86)) (r1 : List Int) (r2 : Int) (w : World) (hr1 : Kd.C k86 w A1 l1.length l1) (hc1 : l1.length ≤ c1) (h : poly_Through.f k a0 l1 = some (r1, r2)) :
  Calls Try.prog 91 #[.int .u64 a0, .slice A1 l1.length c1] w fun e w' => ∃ v0_ : Value, e = .returned (.tuple #[v0_, .int .i64 r2]) ∧ Kd.R (Kd.int .u64) 22 w' w.heap.size (fun _ => True) v0_ r1 ∧ Below w.heap.size w w' := by
 have hu86 := Try.underlying86
 have HR1 := Aside0.mk hr1
 have HC1 := Aside0.mk hc1
 clear hr1 hc1
 have HB := Aside0.mk (Below.refl w.heap.size w)
 have H : ((field_Is.f k a0).bind fun t1296 => (if t1296 = true then (if (l1.length : Int) > 201 then (some (([] : List Int), 3)) else (poly_Through.l0 k a0 l1 ([] : List Int) l1 (l1.length : Int) 0)) else (some (([] : List Int), 2)))) = some (r1, r2) := h
 clear h
 replace H := Option.bind_eq_some_iff.mp H
 obtain ⟨t1296, A30, H⟩ := H
 replace H : (if t1296 = true then (if (l1.length : Int) > 201 then (some (([] : List Int), 3)) else (poly_Through.l0 k a0 l1 ([] : List Int) l1 (l1.length : Int) 0)) else (some (([] : List Int), 2))) = some (r1, r2) := H
 have A3 := Aside0.mk A30
 clear A30
 by_cases c4 : t1296 = true
 ·subst c4
  have H1 : (if (l1.length : Int) > 201 then (some (([] : List Int), 3)) else (poly_Through.l0 k a0 l1 ([] : List Int) l1 (l1.length : Int) 0)) = some (r1, r2) := by rw [if_pos rfl] at H; exact H
  clear H
  have H := H1
  clear H1
  by_cases c5 : (l1.length : Int) > 201
  ·rw [if_pos c5] at H
   have c5b0 : decide (201 < (l1.length : Int)) = true := decide_eq_true c5
   have c5b1 : decide (201 < l1.length) = true := decide_eq_true (by omega)
   clear c5
   simp only [Option.some.injEq, Prod.mk.injEq] at H
   obtain ⟨rfl, rfl⟩ := H
   go_enter Try.func91, Try.ntmps91
   go_wp2_with (first | ((with_reducible refine gate_callee (f := 137) rfl ?_); refine goesL_ (some 11) rfl rfl Try.func137 (by kernel_rfl) rfl #[.int .u64 a0] rfl (by (try simp only [List.map_toArray, List.map_cons, List.map_nil]); first | done | rfl | (simp only [List.length_drop, List.length_take]; rfl)) ?_; (with_reducible refine (field_Is.calls k a0 true _ A3.out).mono ?_); rintro e w' ⟨rfl, ⟨nd, rfl⟩⟩; refine ⟨_, rfl, ?_⟩))
   go_ret2
   exact ⟨_, by first | rfl | (simp [errW_none, errW_some] <;> rfl) | (simp [*, errW_none, errW_some] <;> rfl), by first | exact Kd.R_nil _ _ _ _ _ | exact Kd.N_nil _ _ _ _ _ | exact Kd.V_nil _ _ _ _ _ | exact Kd.Q_nil _ _ _ _ _ | exact Kd.S_nil _ _ _ _ _, by repeat (first | (with_reducible first | exact HB.out | apply below_alloc | apply pw_below_drewN | apply below_drew1) | exact HB.out)⟩
  ·rw [if_neg c5] at H
   have c5b0 : decide (201 < (l1.length : Int)) = false := decide_eq_false c5
   have c5b1 : decide (201 < l1.length) = false := decide_eq_false (by omega)
   clear c5
   have H' := Aside0.mk H
   clear H
   go_enter Try.func91, Try.ntmps91
   go_wp2_with (first | ((with_reducible refine gate_callee (f := 137) rfl ?_); refine goesL_ (some 11) rfl rfl Try.func137 (by kernel_rfl) rfl #[.int .u64 a0] rfl (by (try simp only [List.map_toArray, List.map_cons, List.map_nil]); first | done | rfl | (simp only [List.length_drop, List.length_take]; rfl)) ?_; (with_reducible refine (field_Is.calls k a0 true _ A3.out).mono ?_); rintro e w' ⟨rfl, ⟨nd, rfl⟩⟩; refine ⟨_, rfl, ?_⟩))
   go_loopg [6, 18] k (fun kq v6 v18 w' => ∃ (x6_1 : List Int) (x18_1 : Int), v18 = .int .i64 x18_1 ∧ Aside0 (poly_Through.l0 kq a0 l1 x6_1 l1 (l1.length : Int) x18_1 = some (r1, r2)) ∧ Aside0 (kq ≤ k) ∧ Aside0 (Kd.R (Kd.int .u64) 22 w' w.heap.size (fun _ => True) v6 x6_1) ∧ Aside0 (Below w.heap.size w w'))
   case atStart => exact ⟨(([] : List Int)), (0), (by first | rfl | (simp; done) | (simp [*]; done)), H', ⟨Nat.le_refl _⟩, ⟨by first | exact Kd.R_nil _ _ _ _ _ | exact Kd.N_nil _ _ _ _ _ | exact Kd.V_nil _ _ _ _ _ | exact Kd.Q_nil _ _ _ _ _ | exact Kd.S_nil _ _ _ _ _⟩, ⟨by repeat (first | (with_reducible first | exact HB.out | apply below_alloc | apply pw_below_drewN | apply below_drew1) | exact HB.out)⟩⟩
   case round =>
    clear H'
    try clear c1
    try clear p2
    try clear c4
    try clear c5
    try clear c5b0
    try clear c5b1
    obtain ⟨x6_1, x18_1, rfl, HA, HK1, HO_6, HB⟩ := hrel
    cases gk with
    | zero => exact absurd HA.out (by simp [poly_Through.l0])
    | succ k1 =>
     have H := HA.out
     clear HA
     simp only [poly_Through.l0] at H
     by_cases c6 : x18_1 < (l1.length : Int)
     ·rw [if_pos c6] at H
      have c6b0 : decide (x18_1 < (l1.length : Int)) = true := decide_eq_true c6
      clear c6
      by_cases c7 : 0 ≤ x18_1
      ·rw [if_pos c7] at H
       have c7b0 : decide (0 ≤ x18_1) = true := decide_eq_true c7
       clear c7
       by_cases c8 : x18_1 < (l1.length : Int)
       ·rw [if_pos c8] at H
        have c8b0 : decide (x18_1 < (l1.length : Int)) = true := decide_eq_true c8
        clear c8
        obtain ⟨y1299, hy1299⟩ : ∃ y_ : List Int, y_ = (([(rd_T86 l1 x18_1).f0, (rd_T86 l1 x18_1).f1] : List Int)) := ⟨_, rfl⟩
        replace H : ((field_Below.f k1 a0 y1299).bind fun t1302 => (if t1302 = 0 then (if x6_1.length < 17592186044416 then (poly_Through.l0 k1 a0 l1 (x6_1 ++ [(rd_T86 l1 x18_1).f0]) l1 (l1.length : Int) (wrap64 (x18_1 + 1))) else (none)) else (some (([] : List Int), t1302)))) = some (r1, r2) := by first | (rw [hy1299]; with_reducible exact H) | (have H2_ := (Option.bind_some _ _).symm.trans H; rw [hy1299]; with_reducible exact H2_) | (have H2_ := (Option.bind_some _ _).symm.trans H; with_reducible exact H2_) | with_reducible exact H | (rw [hy1299]; exact H) | exact H
        have Ny1299 := Aside0.mk hy1299
        clear hy1299
        replace H := Option.bind_eq_some_iff.mp H
        obtain ⟨t1302, A90, H⟩ := H
        replace H : (if t1302 = 0 then (if x6_1.length < 17592186044416 then (poly_Through.l0 k1 a0 l1 (x6_1 ++ [(rd_T86 l1 x18_1).f0]) l1 (l1.length : Int) (wrap64 (x18_1 + 1))) else (none)) else (some (([] : List Int), t1302))) = some (r1, r2) := H
        have A9 := Aside0.mk A90
        clear A90
        by_cases c10 : t1302 = 0
        ·rw [if_pos c10] at H
         have c10b0 : (t1302 == 0) = true := beq_iff_eq.mpr c10
         have c10b1 : (t1302 != 0) = false := bne_eq_false_iff_eq.mpr c10
         clear c10
         by_cases c11 : x6_1.length < 17592186044416
         ·rw [if_pos c11] at H
          have LMc11 := Aside0.mk c11
          clear c11
          obtain ⟨y1303, hy1303⟩ : ∃ y_ : List Int, y_ = (x6_1 ++ [(rd_T86 l1 x18_1).f0]) := ⟨_, rfl⟩
          replace H : (poly_Through.l0 k1 a0 l1 y1303 l1 (l1.length : Int) (wrap64 (x18_1 + 1))) = some (r1, r2) := by first | (rw [hy1303]; with_reducible exact H) | (have H2_ := (Option.bind_some _ _).symm.trans H; rw [hy1303]; with_reducible exact H2_) | (have H2_ := (Option.bind_some _ _).symm.trans H; with_reducible exact H2_) | with_reducible exact H | (rw [hy1303]; exact H) | exact H
          have Ny1303 := Aside0.mk hy1303
          clear hy1303
          have H' := Aside0.mk H
          clear H
          have p1297 : 0 ≤ (x18_1 : Int) := of_decide_eq_true (by first | (with_reducible assumption) | assumption)
          have q1297 : x18_1 < (l1.length : Int) := of_decide_eq_true (by first | (with_reducible assumption) | assumption)
          obtain ⟨ad1297, e1297, hx1297_0, hx1297_1⟩ := at_T86 HR1.out x18_1 p1297 q1297
          cases e1297
          replace hx1297_0 := (HB.out.cell (World.block_lt_of_cell? w _ hx1297_0)).trans hx1297_0
          replace hx1297_1 := (HB.out.cell (World.block_lt_of_cell? w _ hx1297_1)).trans hx1297_1
          replace p1297 := eq_true p1297
          replace q1297 := eq_true q1297
          go_wp2_with (first | ((with_reducible refine gate_dst (N := 8) rfl ?_); refine box_event ?hg (N := 8) ?hd (cs := #[.int .u64 0, .int .u64 0]) (t := 86) ?hr ?_; (case hd => rfl); (case hg => rfl); (case hr => first | (go_simp; done) | (go_simp; rfl)); intro gb1298 hg w12 hbox hb; have n0_ := Aside0.mk (Kd.R_below (by (with_reducible repeat (first | apply Kd.R_alloc | apply Kd.R_drewN | apply Kd.R_drew)); exact HO_6.out) hb); have n1_ := Aside0.mk (below_step (by repeat (first | (with_reducible first | exact HB.out | apply below_alloc | apply pw_below_drewN | apply below_drew1) | exact HB.out)) hb); have n2_ := Aside0.mk (hbox); have n3_ := Aside0.mk ((by rw [hg]; exact (below_size (by repeat (first | (with_reducible first | exact HB.out | apply below_alloc | apply pw_below_drewN | apply below_drew1) | exact HB.out))) : w.heap.size ≤ gb1298)); have n4_ := Aside0.mk ((by rw [hg]; exact (below_size (by repeat (first | (with_reducible first | exact HB.out | apply below_alloc | apply pw_below_drewN | apply below_drew1) | exact HB.out))) : w.heap.size ≤ gb1298)); clear HO_6; clear HB; have HO_6 := n0_; have HB := n1_; have BK1298 := n2_; have GW1298 := n3_; have GE1298 := n4_; clear n0_ n1_ n2_ n3_ n4_; clear hb hbox hg; have hcz13_0 : w12.cell? ⟨gb1298, 0, none⟩ = some (.int .u64 0) := (blk_cell BK1298.out 0).trans rfl; have hcz13_1 : w12.cell? ⟨gb1298, 1, none⟩ = some (.int .u64 0) := (blk_cell BK1298.out 1).trans rfl; have hfz13_0 := blk_frozen BK1298.out 0; have hfz13_1 := blk_frozen BK1298.out 1) | ((with_reducible refine gate_dst (N := 27) rfl ?_); refine Kd.R_lit (Kd.int .u64) _ 22 ?hg (N := 27) ?hd (xs := ([(rd_T86 l1 x18_1).f0, (rd_T86 l1 x18_1).f1] : List Int)) (inner := [.int .u64 ((rd_T86 l1 x18_1).f0), .int .u64 ((rd_T86 l1 x18_1).f1)]) (ok := fun _ => True) (okp := fun _ => True) ?hr ?hp (fun _ hk => hk) trivial (Below.refl _ _) (Nat.le_refl _) (by simp) ?_; (case hd => rfl); (case hg => rfl); (case hr => first | (go_simp; done) | (go_simp; rfl)); (case hp => exact (Reps.one (show Kd.M (Kd.int .u64) _ _ _ ((rd_T86 l1 x18_1).f0) [.int .u64 ((rd_T86 l1 x18_1).f0)] from rfl) (Reps.one (show Kd.M (Kd.int .u64) _ _ _ ((rd_T86 l1 x18_1).f1) [.int .u64 ((rd_T86 l1 x18_1).f1)] from rfl) (Reps.none _ _)))); intro v1300 w14 ho15 hb hg_ hnew_; clear hg_ hnew_; (first | rw [← Ny1299.out] at ho15 | (simp only [Int.reduceToNat] at ho15; rw [← Ny1299.out] at ho15)); have n0_ := Aside0.mk (Kd.R_elder' (by (with_reducible repeat (first | apply Kd.R_alloc | apply Kd.R_drewN | apply Kd.R_drew)); exact (Kd.R_mono (Kd.R_far (p := ⟨gb1298, 1, none⟩) (Kd.R_far (p := ⟨gb1298, 0, none⟩) (Kd.R_types HO_6.out BK1298.out (by decide)) (fun _ hk => hk.2) (.int .u64 ((rd_T86 l1 x18_1).f0))) (fun _ hk => hk.2) (.int .u64 ((rd_T86 l1 x18_1).f1))) (fun _ h_ => h_.1))) (Kd.R_base ho15) hb); have n1_ := Aside0.mk (Kd.R_lower (Kd.R_new' ho15 (Kd.R_lt (by (with_reducible repeat (first | apply Kd.R_alloc | apply Kd.R_drewN | apply Kd.R_drew)); exact (Kd.R_mono (Kd.R_far (p := ⟨gb1298, 1, none⟩) (Kd.R_far (p := ⟨gb1298, 0, none⟩) (Kd.R_types HO_6.out BK1298.out (by decide)) (fun _ hk => hk.2) (.int .u64 ((rd_T86 l1 x18_1).f0))) (fun _ hk => hk.2) (.int .u64 ((rd_T86 l1 x18_1).f1))) (fun _ h_ => h_.1))))) (below_size (by repeat (first | (with_reducible first | exact HB.out | apply below_alloc | apply pw_below_drewN | apply below_drew1 | refine below_set ?_ GE1298.out) | exact HB.out)))); have n2_ := Aside0.mk (blk_below (g := gb1298) (o := .cells #[.int .u64 ((rd_T86 l1 x18_1).f0), .int .u64 ((rd_T86 l1 x18_1).f1)] 86 (0, 0)) (by (with_reducible repeat (first | refine blk_drewN ?_ _ | refine blk_drew ?_ | refine blk_alloc ?_ _)); refine blk_put (cs := #[.int .u64 ((rd_T86 l1 x18_1).f0), .int .u64 0]) ?_ 1 _ rfl; (with_reducible repeat (first | refine blk_drewN ?_ _ | refine blk_drew ?_ | refine blk_alloc ?_ _)); refine blk_put (cs := #[.int .u64 0, .int .u64 0]) ?_ 0 _ rfl; (with_reducible repeat (first | refine blk_drewN ?_ _ | refine blk_drew ?_ | refine blk_alloc ?_ _)); exact BK1298.out) hb); have n3_ := Aside0.mk (below_step (by repeat (first | (with_reducible first | exact HB.out | apply below_alloc | apply pw_below_drewN | apply below_drew1 | refine below_set ?_ GE1298.out) | exact HB.out)) hb); clear HO_6; clear BK1298; clear HB; have HO_6 := n0_; have HO1301 := n1_; have BK1298 := n2_; have HB := n3_; clear n0_ n1_ n2_ n3_; clear hb ho15; obtain ⟨Ao16, co16, eo16⟩ := Kd.R_slice HO1301.out; subst eo16) | ((with_reducible refine gate_callee (f := 123) rfl ?_); refine goesL_ (some 28) rfl rfl Try.func123 (by kernel_rfl) rfl #[.int .u64 a0, .slice Ao16 y1299.length co16] rfl (by (try simp only [List.map_toArray, List.map_cons, List.map_nil]); first | done | rfl | (simp only [List.length_drop, List.length_take]; rfl)) ?_; (with_reducible refine (field_Below.calls k1 a0 _ _ y1299 t1302 _ ?side1 ?side2 A9.out).mono ?_); (case side1 => repeat (first | exact (Kd.R_reads' HO1301.out).2.2 | (with_reducible refine Kd.C_alloc ?_ _) | (with_reducible refine Kd.C_drewN ?_ _) | (with_reducible refine Kd.C_drew ?_))); (case side2 => exact (Kd.R_reads' HO1301.out).2.1); rintro e w' ⟨rfl, ⟨nd, rfl⟩⟩; refine ⟨_, rfl, ?_⟩; have hcz17_0 : w14.cell? ⟨gb1298, 0, none⟩ = some (.int .u64 ((rd_T86 l1 x18_1).f0)) := (blk_cell BK1298.out 0).trans rfl; have hcz17_1 : w14.cell? ⟨gb1298, 1, none⟩ = some (.int .u64 ((rd_T86 l1 x18_1).f1)) := (blk_cell BK1298.out 1).trans rfl; have hfz17_0 := blk_frozen BK1298.out 0; have hfz17_1 := blk_frozen BK1298.out 1) | ((with_reducible refine gate_builtin (b := .append) (xs := #[.tmp 32, .tmp 35]) rfl ?_); at_builtin; refine Kd.R_append (Kd.int .u64) (w0 := w) w.heap.size rfl (.tmp 32) (.tmp 35) 31 22 (.int .u64 0) 8 rfl Try.underlying31 info22 rfl (by decide) (by omega) u6 x6_1 ((rd_T86 l1 x18_1).f0) [.int .u64 ((rd_T86 l1 x18_1).f0)] (fun k_ => some k_ ≠ (.slice Ao16 y1299.length co16 : Value).ownBlock) (fun _ => False) rfl rfl ?aP (fun _ hk => hk.elim) ?aF ?aO ?aB ?aS ?aL ?_; (case aP => exact rfl); (case aB => exact (by repeat (first | (with_reducible first | exact HB.out | apply below_alloc | apply pw_below_drewN | apply below_drew1 | refine below_set ?_ GE1298.out) | exact HB.out))); (case aF => exact (fun k_ hk => Kd.fresh' (Kd.R_lt (by (with_reducible repeat (first | apply Kd.R_alloc | apply Kd.R_drewN | apply Kd.R_drew)); exact HO1301.out)) k_ hk)); (case aO => exact (by (with_reducible repeat (first | apply Kd.R_alloc | apply Kd.R_drewN | apply Kd.R_drew)); exact Kd.R_mono HO_6.out (fun _ hk => hk.2))); (case aS => exact (below_size (by repeat (first | (with_reducible first | exact HB.out | apply below_alloc | apply pw_below_drewN | apply below_drew1 | refine below_set ?_ GE1298.out) | exact HB.out)))); (case aL => have := LMc11.out; omega); intro v1304 w18 ho hb hg hat; rw [← Ny1303.out] at ho; have n0_ := Aside0.mk (blk_grown (g := gb1298) (o := .cells #[.int .u64 ((rd_T86 l1 x18_1).f0), .int .u64 ((rd_T86 l1 x18_1).f1)] 86 (0, 0)) (by (with_reducible repeat (first | refine blk_drewN ?_ _ | refine blk_drew ?_ | refine blk_alloc ?_ _)); exact BK1298.out) hg (Kd.R_ne HO_6.out BK1298.out (by decide))); have n1_ := Aside0.mk (Kd.R_after (ok := (fun _ => True)) (by (with_reducible repeat (first | apply Kd.R_alloc | apply Kd.R_drewN | apply Kd.R_drew)); exact HO1301.out) hg hat); have n2_ := Aside0.mk (hb); have n3_ := Aside0.mk (ho); clear BK1298; clear HO1301; clear HB; clear HO_6; have BK1298 := n0_; have HO1301 := n1_; have HB := n2_; have HO1305 := n3_; clear n0_ n1_ n2_ n3_; clear ho hb hg hat))
          go_roundg k1
          case measure => have := HK1.out; omega
          case rel => exact ⟨(y1303), (wrap64 (x18_1 + 1)), (by first | rfl | (simp; done) | (simp [*]; done)), H', ⟨by have := HK1.out; omega⟩, ⟨by (with_reducible repeat (first | apply Kd.R_alloc | apply Kd.R_drewN | apply Kd.R_drew)); exact Kd.R_mono HO1305.out (fun _ hk => trivial)⟩, ⟨by repeat (first | (with_reducible first | exact HB.out | apply below_alloc | apply pw_below_drewN | apply below_drew1 | refine below_set ?_ GE1298.out) | exact HB.out)⟩⟩
         ·rw [if_neg c11] at H
          exact absurd H (by simp)
        ·rw [if_neg c10] at H
         have c10b0 : (t1302 == 0) = false := beq_eq_false_iff_ne.mpr c10
         have c10b1 : (t1302 != 0) = true := bne_iff_ne.mpr c10
         simp only [Option.some.injEq, Prod.mk.injEq] at H
         obtain ⟨rfl, rfl⟩ := H
         have p1297 : 0 ≤ (x18_1 : Int) := of_decide_eq_true (by first | (with_reducible assumption) | assumption)
         have q1297 : x18_1 < (l1.length : Int) := of_decide_eq_true (by first | (with_reducible assumption) | assumption)
         obtain ⟨ad1297, e1297, hx1297_0, hx1297_1⟩ := at_T86 HR1.out x18_1 p1297 q1297
         cases e1297
         replace hx1297_0 := (HB.out.cell (World.block_lt_of_cell? w _ hx1297_0)).trans hx1297_0
         replace hx1297_1 := (HB.out.cell (World.block_lt_of_cell? w _ hx1297_1)).trans hx1297_1
         replace p1297 := eq_true p1297
         replace q1297 := eq_true q1297
         go_wp2_with (first | ((with_reducible refine gate_dst (N := 8) rfl ?_); refine box_event ?hg (N := 8) ?hd (cs := #[.int .u64 0, .int .u64 0]) (t := 86) ?hr ?_; (case hd => rfl); (case hg => rfl); (case hr => first | (go_simp; done) | (go_simp; rfl)); intro gb1298 hg w19 hbox hb; have n0_ := Aside0.mk (Kd.R_below (by (with_reducible repeat (first | apply Kd.R_alloc | apply Kd.R_drewN | apply Kd.R_drew)); exact HO_6.out) hb); have n1_ := Aside0.mk (below_step (by repeat (first | (with_reducible first | exact HB.out | apply below_alloc | apply pw_below_drewN | apply below_drew1) | exact HB.out)) hb); have n2_ := Aside0.mk (hbox); have n3_ := Aside0.mk ((by rw [hg]; exact (below_size (by repeat (first | (with_reducible first | exact HB.out | apply below_alloc | apply pw_below_drewN | apply below_drew1) | exact HB.out))) : w.heap.size ≤ gb1298)); have n4_ := Aside0.mk ((by rw [hg]; exact (below_size (by repeat (first | (with_reducible first | exact HB.out | apply below_alloc | apply pw_below_drewN | apply below_drew1) | exact HB.out))) : w.heap.size ≤ gb1298)); clear HO_6; clear HB; have HO_6 := n0_; have HB := n1_; have BK1298 := n2_; have GW1298 := n3_; have GE1298 := n4_; clear n0_ n1_ n2_ n3_ n4_; clear hb hbox hg; have hcz20_0 : w19.cell? ⟨gb1298, 0, none⟩ = some (.int .u64 0) := (blk_cell BK1298.out 0).trans rfl; have hcz20_1 : w19.cell? ⟨gb1298, 1, none⟩ = some (.int .u64 0) := (blk_cell BK1298.out 1).trans rfl; have hfz20_0 := blk_frozen BK1298.out 0; have hfz20_1 := blk_frozen BK1298.out 1) | ((with_reducible refine gate_dst (N := 27) rfl ?_); refine Kd.R_lit (Kd.int .u64) _ 22 ?hg (N := 27) ?hd (xs := ([(rd_T86 l1 x18_1).f0, (rd_T86 l1 x18_1).f1] : List Int)) (inner := [.int .u64 ((rd_T86 l1 x18_1).f0), .int .u64 ((rd_T86 l1 x18_1).f1)]) (ok := fun _ => True) (okp := fun _ => True) ?hr ?hp (fun _ hk => hk) trivial (Below.refl _ _) (Nat.le_refl _) (by simp) ?_; (case hd => rfl); (case hg => rfl); (case hr => first | (go_simp; done) | (go_simp; rfl)); (case hp => exact (Reps.one (show Kd.M (Kd.int .u64) _ _ _ ((rd_T86 l1 x18_1).f0) [.int .u64 ((rd_T86 l1 x18_1).f0)] from rfl) (Reps.one (show Kd.M (Kd.int .u64) _ _ _ ((rd_T86 l1 x18_1).f1) [.int .u64 ((rd_T86 l1 x18_1).f1)] from rfl) (Reps.none _ _)))); intro v1300 w21 ho22 hb hg_ hnew_; clear hg_ hnew_; (first | rw [← Ny1299.out] at ho22 | (simp only [Int.reduceToNat] at ho22; rw [← Ny1299.out] at ho22)); have n0_ := Aside0.mk (Kd.R_elder' (by (with_reducible repeat (first | apply Kd.R_alloc | apply Kd.R_drewN | apply Kd.R_drew)); exact (Kd.R_mono (Kd.R_far (p := ⟨gb1298, 1, none⟩) (Kd.R_far (p := ⟨gb1298, 0, none⟩) (Kd.R_types HO_6.out BK1298.out (by decide)) (fun _ hk => hk.2) (.int .u64 ((rd_T86 l1 x18_1).f0))) (fun _ hk => hk.2) (.int .u64 ((rd_T86 l1 x18_1).f1))) (fun _ h_ => h_.1))) (Kd.R_base ho22) hb); have n1_ := Aside0.mk (Kd.R_lower (Kd.R_new' ho22 (Kd.R_lt (by (with_reducible repeat (first | apply Kd.R_alloc | apply Kd.R_drewN | apply Kd.R_drew)); exact (Kd.R_mono (Kd.R_far (p := ⟨gb1298, 1, none⟩) (Kd.R_far (p := ⟨gb1298, 0, none⟩) (Kd.R_types HO_6.out BK1298.out (by decide)) (fun _ hk => hk.2) (.int .u64 ((rd_T86 l1 x18_1).f0))) (fun _ hk => hk.2) (.int .u64 ((rd_T86 l1 x18_1).f1))) (fun _ h_ => h_.1))))) (below_size (by repeat (first | (with_reducible first | exact HB.out | apply below_alloc | apply pw_below_drewN | apply below_drew1 | refine below_set ?_ GE1298.out) | exact HB.out)))); have n2_ := Aside0.mk (blk_below (g := gb1298) (o := .cells #[.int .u64 ((rd_T86 l1 x18_1).f0), .int .u64 ((rd_T86 l1 x18_1).f1)] 86 (0, 0)) (by (with_reducible repeat (first | refine blk_drewN ?_ _ | refine blk_drew ?_ | refine blk_alloc ?_ _)); refine blk_put (cs := #[.int .u64 ((rd_T86 l1 x18_1).f0), .int .u64 0]) ?_ 1 _ rfl; (with_reducible repeat (first | refine blk_drewN ?_ _ | refine blk_drew ?_ | refine blk_alloc ?_ _)); refine blk_put (cs := #[.int .u64 0, .int .u64 0]) ?_ 0 _ rfl; (with_reducible repeat (first | refine blk_drewN ?_ _ | refine blk_drew ?_ | refine blk_alloc ?_ _)); exact BK1298.out) hb); have n3_ := Aside0.mk (below_step (by repeat (first | (with_reducible first | exact HB.out | apply below_alloc | apply pw_below_drewN | apply below_drew1 | refine below_set ?_ GE1298.out) | exact HB.out)) hb); clear HO_6; clear BK1298; clear HB; have HO_6 := n0_; have HO1301 := n1_; have BK1298 := n2_; have HB := n3_; clear n0_ n1_ n2_ n3_; clear hb ho22; obtain ⟨Ao23, co23, eo23⟩ := Kd.R_slice HO1301.out; subst eo23) | ((with_reducible refine gate_callee (f := 123) rfl ?_); refine goesL_ (some 28) rfl rfl Try.func123 (by kernel_rfl) rfl #[.int .u64 a0, .slice Ao23 y1299.length co23] rfl (by (try simp only [List.map_toArray, List.map_cons, List.map_nil]); first | done | rfl | (simp only [List.length_drop, List.length_take]; rfl)) ?_; (with_reducible refine (field_Below.calls k1 a0 _ _ y1299 t1302 _ ?side1 ?side2 A9.out).mono ?_); (case side1 => repeat (first | exact (Kd.R_reads' HO1301.out).2.2 | (with_reducible refine Kd.C_alloc ?_ _) | (with_reducible refine Kd.C_drewN ?_ _) | (with_reducible refine Kd.C_drew ?_))); (case side2 => exact (Kd.R_reads' HO1301.out).2.1); rintro e w' ⟨rfl, ⟨nd, rfl⟩⟩; refine ⟨_, rfl, ?_⟩))
         go_ret2
         exact ⟨_, by first | rfl | (simp [errW_none, errW_some] <;> rfl) | (simp [*, errW_none, errW_some] <;> rfl), by first | exact Kd.R_nil _ _ _ _ _ | exact Kd.N_nil _ _ _ _ _ | exact Kd.V_nil _ _ _ _ _ | exact Kd.Q_nil _ _ _ _ _ | exact Kd.S_nil _ _ _ _ _, by repeat (first | (with_reducible first | exact HB.out | apply below_alloc | apply pw_below_drewN | apply below_drew1 | refine below_set ?_ GE1298.out) | exact HB.out)⟩
       ·rw [if_neg c8] at H
        exact absurd H (by simp)
      ·rw [if_neg c7] at H
       exact absurd H (by simp)
     ·rw [if_neg c6] at H
      have c6b0 : decide (x18_1 < (l1.length : Int)) = false := decide_eq_false c6
      clear c6
      replace H := Option.bind_eq_some_iff.mp H
      obtain ⟨t1306, A240, H⟩ := H
      replace H : (if t1306 = true then ((poly_Fit.f k1 a0 l1).bind fun t1307 => (some (t1307, 0))) else (some (([] : List Int), 6))) = some (r1, r2) := H
      have A24 := Aside0.mk A240
      clear A240
      by_cases c25 : t1306 = true
      ·subst c25
       have H1 : ((poly_Fit.f k1 a0 l1).bind fun t1307 => (some (t1307, 0))) = some (r1, r2) := by rw [if_pos rfl] at H; exact H
       clear H
       have H := H1
       clear H1
       replace H := Option.bind_eq_some_iff.mp H
       obtain ⟨t1307, A260, H⟩ := H
       replace H : (some (t1307, 0)) = some (r1, r2) := H
       have A26 := Aside0.mk A260
       clear A260
       simp only [Option.some.injEq, Prod.mk.injEq] at H
       obtain ⟨rfl, rfl⟩ := H
       obtain ⟨Ao27, co27, eo27⟩ := Kd.R_slice HO_6.out
       subst eo27
       go_wp2_with (first | ((with_reducible refine gate_callee (f := 153) rfl ?_); refine goesL_ (some 39) rfl rfl Try.func153 (by kernel_rfl) rfl #[.slice Ao27 x6_1.length co27] rfl (by (try simp only [List.map_toArray, List.map_cons, List.map_nil]); first | done | rfl | (simp only [List.length_drop, List.length_take]; rfl)) ?_; (with_reducible refine (poly_unlike.calls k1 _ _ x6_1 true _ ?side1 ?side2 A24.out).mono ?_); (case side1 => repeat (first | exact (Kd.R_reads' HO_6.out).2.2 | (with_reducible refine Kd.C_alloc ?_ _) | (with_reducible refine Kd.C_drewN ?_ _) | (with_reducible refine Kd.C_drew ?_))); (case side2 => exact (Kd.R_reads' HO_6.out).2.1); rintro e w28 ⟨rfl, hb⟩; refine ⟨_, rfl, ?_⟩; have n0_ := Aside0.mk (Kd.R_below (by (with_reducible repeat (first | apply Kd.R_alloc | apply Kd.R_drewN | apply Kd.R_drew)); exact HO_6.out) hb); have n1_ := Aside0.mk (below_step (by repeat (first | (with_reducible first | exact HB.out | apply below_alloc | apply pw_below_drewN | apply below_drew1) | exact HB.out)) hb); clear HO_6; clear HB; have HO_6 := n0_; have HB := n1_; clear n0_ n1_; (try clear hb); (try clear hb2); (try clear hk); (try clear hi)) | ((with_reducible refine gate_callee (f := 149) rfl ?_); refine goesL_ (some 43) rfl rfl Try.func149 (by kernel_rfl) rfl #[.int .u64 a0, .slice A1 l1.length c1] rfl (by (try simp only [List.map_toArray, List.map_cons, List.map_nil]); first | done | rfl | (simp only [List.length_drop, List.length_take]; rfl)) ?_; (with_reducible refine (poly_Fit.calls k1 a0 _ _ l1 t1307 _ ?side1 ?side2 A26.out).mono ?_); (case side1 => repeat (first | exact (Kd.C_below HR1.out HB.out) | (with_reducible refine Kd.C_alloc ?_ _) | (with_reducible refine Kd.C_drewN ?_ _) | (with_reducible refine Kd.C_drew ?_))); (case side2 => exact HC1.out); rintro e w29 ⟨v1308, rfl, ho0, hb⟩; refine ⟨_, rfl, ?_⟩; have n0_ := Aside0.mk (Kd.R_elder' (by (with_reducible repeat (first | apply Kd.R_alloc | apply Kd.R_drewN | apply Kd.R_drew)); exact HO_6.out) (Kd.R_base ho0) hb); have n1_ := Aside0.mk (Kd.R_lower (Kd.R_new' ho0 (Kd.R_lt (by (with_reducible repeat (first | apply Kd.R_alloc | apply Kd.R_drewN | apply Kd.R_drew)); exact HO_6.out))) (below_size (by repeat (first | (with_reducible first | exact HB.out | apply below_alloc | apply pw_below_drewN | apply below_drew1) | exact HB.out)))); have n2_ := Aside0.mk (below_step (by repeat (first | (with_reducible first | exact HB.out | apply below_alloc | apply pw_below_drewN | apply below_drew1) | exact HB.out)) hb); clear HO_6; clear HB; have HO_6 := n0_; have HO1309 := n1_; have HB := n2_; clear n0_ n1_ n2_; (try clear hb); (try clear hb2); (try clear hk); (try clear hi); (try clear ho0)))
       go_ret2
       exact ⟨_, by first | rfl | (simp [errW_none, errW_some] <;> rfl) | (simp [*, errW_none, errW_some] <;> rfl), by (with_reducible repeat (first | apply Kd.R_alloc | apply Kd.R_drewN | apply Kd.R_drew)); exact Kd.R_mono HO1309.out (fun _ hk => trivial), by repeat (first | (with_reducible first | exact HB.out | apply below_alloc | apply pw_below_drewN | apply below_drew1) | exact HB.out)⟩
      ·replace c25 := Bool.eq_false_iff.mpr c25
       subst c25
       have H1 : (some (([] : List Int), 6)) = some (r1, r2) := by rw [if_neg (show ¬ (false = true) by decide)] at H; exact H
       clear H
       have H := H1
       clear H1
       simp only [Option.some.injEq, Prod.mk.injEq] at H
       obtain ⟨rfl, rfl⟩ := H
       obtain ⟨Ao30, co30, eo30⟩ := Kd.R_slice HO_6.out
       subst eo30
       go_wp2_with (first | ((with_reducible refine gate_callee (f := 153) rfl ?_); refine goesL_ (some 39) rfl rfl Try.func153 (by kernel_rfl) rfl #[.slice Ao30 x6_1.length co30] rfl (by (try simp only [List.map_toArray, List.map_cons, List.map_nil]); first | done | rfl | (simp only [List.length_drop, List.length_take]; rfl)) ?_; (with_reducible refine (poly_unlike.calls k1 _ _ x6_1 false _ ?side1 ?side2 A24.out).mono ?_); (case side1 => repeat (first | exact (Kd.R_reads' HO_6.out).2.2 | (with_reducible refine Kd.C_alloc ?_ _) | (with_reducible refine Kd.C_drewN ?_ _) | (with_reducible refine Kd.C_drew ?_))); (case side2 => exact (Kd.R_reads' HO_6.out).2.1); rintro e w31 ⟨rfl, hb⟩; refine ⟨_, rfl, ?_⟩; have n0_ := Aside0.mk (Kd.R_below (by (with_reducible repeat (first | apply Kd.R_alloc | apply Kd.R_drewN | apply Kd.R_drew)); exact HO_6.out) hb); have n1_ := Aside0.mk (below_step (by repeat (first | (with_reducible first | exact HB.out | apply below_alloc | apply pw_below_drewN | apply below_drew1) | exact HB.out)) hb); clear HO_6; clear HB; have HO_6 := n0_; have HB := n1_; clear n0_ n1_; (try clear hb); (try clear hb2); (try clear hk); (try clear hi)))
       go_ret2
       exact ⟨_, by first | rfl | (simp [errW_none, errW_some] <;> rfl) | (simp [*, errW_none, errW_some] <;> rfl), by first | exact Kd.R_nil _ _ _ _ _ | exact Kd.N_nil _ _ _ _ _ | exact Kd.V_nil _ _ _ _ _ | exact Kd.Q_nil _ _ _ _ _ | exact Kd.S_nil _ _ _ _ _, by repeat (first | (with_reducible first | exact HB.out | apply below_alloc | apply pw_below_drewN | apply below_drew1) | exact HB.out)⟩
 ·replace c4 := Bool.eq_false_iff.mpr c4
  subst c4
  have H1 : (some (([] : List Int), 2)) = some (r1, r2) := by rw [if_neg (show ¬ (false = true) by decide)] at H; exact H
  clear H
  have H := H1
  clear H1
  simp only [Option.some.injEq, Prod.mk.injEq] at H
  obtain ⟨rfl, rfl⟩ := H
  go_enter Try.func91, Try.ntmps91
  go_wp2_with (first | ((with_reducible refine gate_callee (f := 137) rfl ?_); refine goesL_ (some 11) rfl rfl Try.func137 (by kernel_rfl) rfl #[.int .u64 a0] rfl (by (try simp only [List.map_toArray, List.map_cons, List.map_nil]); first | done | rfl | (simp only [List.length_drop, List.length_take]; rfl)) ?_; (with_reducible refine (field_Is.calls k a0 false _ A3.out).mono ?_); rintro e w' ⟨rfl, ⟨nd, rfl⟩⟩; refine ⟨_, rfl, ?_⟩))
  go_ret2
  exact ⟨_, by first | rfl | (simp [errW_none, errW_some] <;> rfl) | (simp [*, errW_none, errW_some] <;> rfl), by first | exact Kd.R_nil _ _ _ _ _ | exact Kd.N_nil _ _ _ _ _ | exact Kd.V_nil _ _ _ _ _ | exact Kd.Q_nil _ _ _ _ _ | exact Kd.S_nil _ _ _ _ _, by repeat (first | (with_reducible first | exact HB.out | apply below_alloc | apply pw_below_drewN | apply below_drew1) | exact HB.out)⟩

/-! ### juntoref02_Twice: function 98 -/
mutual
def juntoref02_Twice.l0 : Nat → List Int → Int → Int → Option (Bool)
 | 0, _, _, _ => none
 | k + 1, x0, x6, x7 => if x7 < x6 then (juntoref02_Twice.l1 k x0 x7 0 x6 x7) else (some false)
def juntoref02_Twice.l1 : Nat → List Int → Int → Int → Int → Int → Option (Bool)
 | 0, _, _, _, _, _ => none
 | k + 1, x0, x3, x4, x6, x7 => if x4 < x3 then (if 0 ≤ x3 then (if x3 < (x0.length : Int) then (if 0 ≤ x4 then (if x4 < (x0.length : Int) then (if (rd x0 x3) = (rd x0 x4) then (some true) else (juntoref02_Twice.l1 k x0 x3 (wrap64 (x4 + 1)) x6 x7)) else (none)) else (none)) else (none)) else (none)) else (juntoref02_Twice.l0 k x0 x6 (wrap64 (x7 + 1)))
end
def juntoref02_Twice.f (k : Nat) (l0 : List Int) : Option (Bool) := juntoref02_Twice.l0 k l0 (l0.length : Int) 0
theorem juntoref02_Twice.mono_l : ∀ k, (∀ y0 y1 y2, LeO (juntoref02_Twice.l0 k y0 y1 y2) (juntoref02_Twice.l0 (k + 1) y0 y1 y2)) ∧ (∀ y0 y1 y2 y3 y4, LeO (juntoref02_Twice.l1 k y0 y1 y2 y3 y4) (juntoref02_Twice.l1 (k + 1) y0 y1 y2 y3 y4))
 | 0 => ⟨fun _ _ _ r h => by simp [juntoref02_Twice.l0] at h, fun _ _ _ _ _ r h => by simp [juntoref02_Twice.l1] at h⟩
 | k + 1 => by
  obtain ⟨ih0, ih1⟩ := juntoref02_Twice.mono_l k
  refine ⟨?_, ?_⟩
  ·intro y0 y1 y2
   unfold juntoref02_Twice.l0
   repeat' first
   | (with_reducible exact ih0 _ _ _)
   | (with_reducible exact ih1 _ _ _ _ _)
   | (with_reducible exact LeO.refl _)
   | (with_reducible exact LeO.none _)
   | (with_reducible refine LeO.ite ?_ ?_)
   | (with_reducible refine LeO.bind ?_ (fun _ => ?_))
   | exact ih0 _ _ _
   | exact ih1 _ _ _ _ _
   | exact LeO.none _
   | refine LeO.ite ?_ ?_
   | refine LeO.bind ?_ (fun _ => ?_)
  ·intro y0 y1 y2 y3 y4
   unfold juntoref02_Twice.l1
   repeat' first
   | (with_reducible exact ih0 _ _ _)
   | (with_reducible exact ih1 _ _ _ _ _)
   | (with_reducible exact LeO.refl _)
   | (with_reducible exact LeO.none _)
   | (with_reducible refine LeO.ite ?_ ?_)
   | (with_reducible refine LeO.bind ?_ (fun _ => ?_))
   | exact ih0 _ _ _
   | exact ih1 _ _ _ _ _
   | exact LeO.none _
   | refine LeO.ite ?_ ?_
   | refine LeO.bind ?_ (fun _ => ?_)
theorem juntoref02_Twice.mono : ∀ a0 k, LeO (juntoref02_Twice.f k a0) (juntoref02_Twice.f (k + 1) a0) := by
 intro a0 k
 obtain ⟨ih0, ih1⟩ := juntoref02_Twice.mono_l k
 unfold juntoref02_Twice.f
 repeat' first
   | (with_reducible exact ih0 _ _ _)
   | (with_reducible exact ih1 _ _ _ _ _)
   | (with_reducible exact LeO.refl _)
   | (with_reducible exact LeO.none _)
   | (with_reducible refine LeO.ite ?_ ?_)
   | (with_reducible refine LeO.bind ?_ (fun _ => ?_))
   | exact ih0 _ _ _
   | exact ih1 _ _ _ _ _
   | exact LeO.none _
   | refine LeO.ite ?_ ?_
   | refine LeO.bind ?_ (fun _ => ?_)
set_option maxHeartbeats 8000000 in
set_option maxRecDepth 100000 in
theorem juntoref02_Twice.calls (k : Nat) (A0 : Option Addr) (c0 : Nat) (l0 : List Int) (r : Bool) (w : World) (hr0 : Kd.C (Kd.int .u64) w A0 l0.length l0) (hc0 : l0.length ≤ c0) (h : juntoref02_Twice.f k l0 = some r) :
  Calls Try.prog 98 #[.slice A0 l0.length c0] w fun e w' => e = .returned (.bool r) ∧ Drawn0 w w' := by
 have HR0 := Aside0.mk hr0
 have HC0 := Aside0.mk hc0
 clear hr0 hc0
 have H : (juntoref02_Twice.l0 k l0 (l0.length : Int) 0) = some r := h
 clear h
 have H' := Aside0.mk H
 clear H
 go_enter Try.func98, Try.ntmps98
 go_wp2
 repeat (go_quiet (fail); try go_wp2)
 go_loopg [7] k (fun kq v7 w' => ∃ (x7_1 : Int), v7 = .int .i64 x7_1 ∧ Aside0 (juntoref02_Twice.l0 kq l0 (l0.length : Int) x7_1 = some r) ∧ Aside0 (kq ≤ k) ∧ Drawn0 w w')
 case atStart => exact ⟨(0), (by first | rfl | (simp; done) | (simp [*]; done)), H', ⟨Nat.le_refl _⟩, by repeat (first | exact Drawn0.refl _ | apply Drawn0.step)⟩
 case round =>
  clear H'
  obtain ⟨x7_1, rfl, HA, HK1, ⟨m1, rfl⟩⟩ := hrel
  cases gk with
  | zero => exact absurd HA.out (by simp [juntoref02_Twice.l0])
  | succ k1 =>
   have H := HA.out
   clear HA
   simp only [juntoref02_Twice.l0] at H
   by_cases c2 : x7_1 < (l0.length : Int)
   ·rw [if_pos c2] at H
    have c2b0 : decide (x7_1 < (l0.length : Int)) = true := decide_eq_true c2
    clear c2
    have H' := Aside0.mk H
    clear H
    go_wp2
    repeat (go_quiet (fail); try go_wp2)
    go_loopg [4] k1 (fun kq v4 w' => ∃ (x4_2 : Int), v4 = .int .i64 x4_2 ∧ Aside0 (juntoref02_Twice.l1 kq l0 x7_1 x4_2 (l0.length : Int) x7_1 = some r) ∧ Aside0 (kq ≤ k1) ∧ Drawn0 w w')
    case atStart => exact ⟨(0), (by first | rfl | (simp; done) | (simp [*]; done)), H', ⟨Nat.le_refl _⟩, by repeat (first | exact Drawn0.refl _ | apply Drawn0.step)⟩
    case round =>
     clear H'
     try clear c2
     try clear c2b0
     try clear p2
     obtain ⟨x4_2, rfl, HA, HK2, ⟨m2, rfl⟩⟩ := hrel
     cases gk with
     | zero => exact absurd HA.out (by simp [juntoref02_Twice.l1])
     | succ k2 =>
      have H := HA.out
      clear HA
      simp only [juntoref02_Twice.l1] at H
      by_cases c3 : x4_2 < x7_1
      ·rw [if_pos c3] at H
       have c3b0 : decide (x4_2 < x7_1) = true := decide_eq_true c3
       clear c3
       by_cases c4 : 0 ≤ x7_1
       ·rw [if_pos c4] at H
        have c4b0 : decide (0 ≤ x7_1) = true := decide_eq_true c4
        clear c4
        by_cases c5 : x7_1 < (l0.length : Int)
        ·rw [if_pos c5] at H
         have c5b0 : decide (x7_1 < (l0.length : Int)) = true := decide_eq_true c5
         clear c5
         by_cases c6 : 0 ≤ x4_2
         ·rw [if_pos c6] at H
          have c6b0 : decide (0 ≤ x4_2) = true := decide_eq_true c6
          clear c6
          by_cases c7 : x4_2 < (l0.length : Int)
          ·rw [if_pos c7] at H
           have c7b0 : decide (x4_2 < (l0.length : Int)) = true := decide_eq_true c7
           clear c7
           by_cases c8 : (rd l0 x7_1) = (rd l0 x4_2)
           ·rw [if_pos c8] at H
            have c8b0 : ((rd l0 x7_1) == (rd l0 x4_2)) = true := beq_iff_eq.mpr c8
            have c8b1 : ((rd l0 x7_1) != (rd l0 x4_2)) = false := bne_eq_false_iff_eq.mpr c8
            clear c8
            obtain rfl := Option.some.inj H
            have p1313 : 0 ≤ (x7_1 : Int) := of_decide_eq_true (by first | (with_reducible assumption) | assumption)
            have q1313 : x7_1 < (l0.length : Int) := of_decide_eq_true (by first | (with_reducible assumption) | assumption)
            obtain ⟨ad1313, e1313, hx1313_0⟩ := Kd.at_int HR0.out x7_1 p1313 q1313
            cases e1313
            replace p1313 := eq_true p1313
            replace q1313 := eq_true q1313
            have p1314 : 0 ≤ (x4_2 : Int) := of_decide_eq_true (by first | (with_reducible assumption) | assumption)
            have q1314 : x4_2 < (l0.length : Int) := of_decide_eq_true (by first | (with_reducible assumption) | assumption)
            obtain ⟨ad1314, e1314, hx1314_0⟩ := Kd.at_int HR0.out x4_2 p1314 q1314
            obtain rfl : ad1313 = ad1314 := (by injection e1314)
            replace p1314 := eq_true p1314
            replace q1314 := eq_true q1314
            go_wp2
            repeat (go_quiet (fail); try go_wp2)
            go_ret
            exact ⟨by first | rfl | (simp; done) | (simp [*]; done), by repeat (first | exact Drawn0.refl _ | apply Drawn0.step)⟩
           ·rw [if_neg c8] at H
            have c8b0 : ((rd l0 x7_1) == (rd l0 x4_2)) = false := beq_eq_false_iff_ne.mpr c8
            have c8b1 : ((rd l0 x7_1) != (rd l0 x4_2)) = true := bne_iff_ne.mpr c8
            have H' := Aside0.mk H
            clear H
            have p1313 : 0 ≤ (x7_1 : Int) := of_decide_eq_true (by first | (with_reducible assumption) | assumption)
            have q1313 : x7_1 < (l0.length : Int) := of_decide_eq_true (by first | (with_reducible assumption) | assumption)
            obtain ⟨ad1313, e1313, hx1313_0⟩ := Kd.at_int HR0.out x7_1 p1313 q1313
            cases e1313
            replace p1313 := eq_true p1313
            replace q1313 := eq_true q1313
            have p1314 : 0 ≤ (x4_2 : Int) := of_decide_eq_true (by first | (with_reducible assumption) | assumption)
            have q1314 : x4_2 < (l0.length : Int) := of_decide_eq_true (by first | (with_reducible assumption) | assumption)
            obtain ⟨ad1314, e1314, hx1314_0⟩ := Kd.at_int HR0.out x4_2 p1314 q1314
            obtain rfl : ad1313 = ad1314 := (by injection e1314)
            replace p1314 := eq_true p1314
            replace q1314 := eq_true q1314
            go_wp2
            repeat (go_quiet (fail); try go_wp2)
            go_roundg k2
            case measure => have := HK1.out; have := HK2.out; omega
            case rel => exact ⟨(wrap64 (x4_2 + 1)), (by first | rfl | (simp; done) | (simp [*]; done)), H', ⟨by have := HK1.out; have := HK2.out; omega⟩, by repeat (first | exact Drawn0.refl _ | apply Drawn0.step)⟩
          ·rw [if_neg c7] at H
           exact absurd H (by simp)
         ·rw [if_neg c6] at H
          exact absurd H (by simp)
        ·rw [if_neg c5] at H
         exact absurd H (by simp)
       ·rw [if_neg c4] at H
        exact absurd H (by simp)
      ·rw [if_neg c3] at H
       have c3b0 : decide (x4_2 < x7_1) = false := decide_eq_false c3
       clear c3
       have H' := Aside0.mk H
       clear H
       go_wp2
       repeat (go_quiet (fail); try go_wp2)
       go_roundg k2
       case measure => have := HK1.out; have := HK2.out; omega
       case rel => exact ⟨(wrap64 (x7_1 + 1)), (by first | rfl | (simp; done) | (simp [*]; done)), H', ⟨by have := HK1.out; have := HK2.out; omega⟩, by repeat (first | exact Drawn0.refl _ | apply Drawn0.step)⟩
   ·rw [if_neg c2] at H
    have c2b0 : decide (x7_1 < (l0.length : Int)) = false := decide_eq_false c2
    clear c2
    obtain rfl := Option.some.inj H
    go_wp2
    repeat (go_quiet (fail); try go_wp2)
    go_ret
    exact ⟨by first | rfl | (simp; done) | (simp [*]; done), by repeat (first | exact Drawn0.refl _ | apply Drawn0.step)⟩

end Go.Proofs.Ytjjnfobeeflnhaa.J

/- What Go functions of the program compute, as plain Lean functions, and that the machine comes to just these answers (written by a program for this seat). -/
namespace Go.Proofs.Ytjjnfobeeflnhaa.J
open Go.RowKit Go.Proofs.YtjjnfobeeflnhaaW.PrintWords Go.Proofs.YtjjnfobeeflnhaaW.PrintLast Go.Proofs.YtjjnfobeeflnhaaW.PrintMore
attribute [local go_sem] max2_int min2_int max_two min_two max_three min_three max_four min_four   -- for this text's walks alone
set_option linter.unusedVariables false
set_option linter.unusedSimpArgs false

/-! ### juntoref02_Points: function 93 -/
def juntoref02_Points.l0 : Nat → Int → List Int → List (S86) → Int → Int → Option (Int)
 | 0, _, _, _, _, _ => none
 | k + 1, x0, x7, x14, x15, x16 => if x16 < x15 then (if 0 ≤ x16 then (if x16 < (x14.length : Int) then (if ((rd_T86 x14 x16).f0) ≥ x0 then (some 2) else (if ((rd_T86 x14 x16).f1) ≥ x0 then (some 2) else (if x7.length < 17592186044416 then (juntoref02_Points.l0 k x0 (x7 ++ [(rd_T86 x14 x16).f0]) x14 x15 (wrap64 (x16 + 1))) else (none)))) else (none)) else (none)) else ((juntoref02_Twice.f k x7).bind fun t1320 => (if t1320 = true then (some 6) else (some 0)))
def juntoref02_Points.f (k : Nat) (a0 : Int) (l1 : List (S86)) (a2 : Int) : Option (Int) := if (l1.length : Int) > a2 then (some 3) else (juntoref02_Points.l0 k a0 ([] : List Int) l1 (l1.length : Int) 0)
theorem juntoref02_Points.mono_l : ∀ k, (∀ y0 y1 y2 y3 y4, LeO (juntoref02_Points.l0 k y0 y1 y2 y3 y4) (juntoref02_Points.l0 (k + 1) y0 y1 y2 y3 y4))
 | 0 => fun _ _ _ _ _ r h => by simp [juntoref02_Points.l0] at h
 | k + 1 => by
  have ih0 := juntoref02_Points.mono_l k
  ·intro y0 y1 y2 y3 y4
   unfold juntoref02_Points.l0
   repeat' first
   | (with_reducible exact ih0 _ _ _ _ _)
   | (with_reducible exact juntoref02_Twice.mono _ _)
   | (with_reducible exact LeO.refl _)
   | (with_reducible exact LeO.none _)
   | (with_reducible refine LeO.ite ?_ ?_)
   | (with_reducible refine LeO.bind ?_ (fun _ => ?_))
   | exact ih0 _ _ _ _ _
   | exact juntoref02_Twice.mono _ _
   | exact LeO.none _
   | refine LeO.ite ?_ ?_
   | refine LeO.bind ?_ (fun _ => ?_)
theorem juntoref02_Points.mono : ∀ a0 a1 a2 k, LeO (juntoref02_Points.f k a0 a1 a2) (juntoref02_Points.f (k + 1) a0 a1 a2) := by
 intro a0 a1 a2 k
 have ih0 := juntoref02_Points.mono_l k
 unfold juntoref02_Points.f
 repeat' first
   | (with_reducible exact ih0 _ _ _ _ _)
   | (with_reducible exact juntoref02_Twice.mono _ _)
   | (with_reducible exact LeO.refl _)
   | (with_reducible exact LeO.none _)
   | (with_reducible refine LeO.ite ?_ ?_)
   | (with_reducible refine LeO.bind ?_ (fun _ => ?_))
   | exact ih0 _ _ _ _ _
   | exact juntoref02_Twice.mono _ _
   | exact LeO.none _
   | refine LeO.ite ?_ ?_
   | refine LeO.bind ?_ (fun _ => ?_)
set_option maxHeartbeats 8000000 in
set_option maxRecDepth 100000 in
theorem juntoref02_Points.calls (k : Nat) (a0 : Int) (A1 : Option Addr) (c1 : Nat) (l1 : List (S86)) (a2 : Int) (r : Int) (w : World) (hr1 : Kd.C k86 w A1 l1.length l1) (hc1 : l1.length ≤ c1) (h : juntoref02_Points.f k a0 l1 a2 = some r) :
  Calls Try.prog 93 #[.int .u64 a0, .slice A1 l1.length c1, .int .i64 a2] w fun e w' => e = .returned (.int .i64 r) ∧ Below w.heap.size w w' := by
 have hu86 := Try.underlying86
 have HR1 := Aside0.mk hr1
 have HC1 := Aside0.mk hc1
 clear hr1 hc1
 have HB := Aside0.mk (Below.refl w.heap.size w)
 have H : (if (l1.length : Int) > a2 then (some 3) else (juntoref02_Points.l0 k a0 ([] : List Int) l1 (l1.length : Int) 0)) = some r := h
 clear h
 by_cases c4 : (l1.length : Int) > a2
 ·rw [if_pos c4] at H
  have c4b0 : decide (a2 < (l1.length : Int)) = true := decide_eq_true c4
  clear c4
  obtain rfl := Option.some.inj H
  go_enter Try.func93, Try.ntmps93
  go_wp2
  go_ret
  exact ⟨by first | rfl | (simp [errW_none, errW_some] <;> rfl) | (simp [*, errW_none, errW_some] <;> rfl), by repeat (first | (with_reducible first | exact HB.out | apply below_alloc | apply pw_below_drewN | apply below_drew1) | exact HB.out)⟩
 ·rw [if_neg c4] at H
  have c4b0 : decide (a2 < (l1.length : Int)) = false := decide_eq_false c4
  clear c4
  have H' := Aside0.mk H
  clear H
  go_enter Try.func93, Try.ntmps93
  go_wp2
  go_loopg [7, 16] k (fun kq v7 v16 w' => ∃ (x7_1 : List Int) (x16_1 : Int), v16 = .int .i64 x16_1 ∧ Aside0 (juntoref02_Points.l0 kq a0 x7_1 l1 (l1.length : Int) x16_1 = some r) ∧ Aside0 (kq ≤ k) ∧ Aside0 (Kd.R (Kd.int .u64) 22 w' w.heap.size (fun _ => True) v7 x7_1) ∧ Aside0 (Below w.heap.size w w'))
  case atStart => exact ⟨(([] : List Int)), (0), (by first | rfl | (simp; done) | (simp [*]; done)), H', ⟨Nat.le_refl _⟩, ⟨by first | exact Kd.R_nil _ _ _ _ _ | exact Kd.N_nil _ _ _ _ _ | exact Kd.V_nil _ _ _ _ _ | exact Kd.Q_nil _ _ _ _ _ | exact Kd.S_nil _ _ _ _ _⟩, ⟨by repeat (first | (with_reducible first | exact HB.out | apply below_alloc | apply pw_below_drewN | apply below_drew1) | exact HB.out)⟩⟩
  case round =>
   clear H'
   try clear c1
   try clear p2
   try clear c4
   try clear c4b0
   obtain ⟨x7_1, x16_1, rfl, HA, HK1, HO_7, HB⟩ := hrel
   cases gk with
   | zero => exact absurd HA.out (by simp [juntoref02_Points.l0])
   | succ k1 =>
    have H := HA.out
    clear HA
    simp only [juntoref02_Points.l0] at H
    by_cases c5 : x16_1 < (l1.length : Int)
    ·rw [if_pos c5] at H
     have c5b0 : decide (x16_1 < (l1.length : Int)) = true := decide_eq_true c5
     clear c5
     by_cases c6 : 0 ≤ x16_1
     ·rw [if_pos c6] at H
      have c6b0 : decide (0 ≤ x16_1) = true := decide_eq_true c6
      clear c6
      by_cases c7 : x16_1 < (l1.length : Int)
      ·rw [if_pos c7] at H
       have c7b0 : decide (x16_1 < (l1.length : Int)) = true := decide_eq_true c7
       clear c7
       by_cases c8 : ((rd_T86 l1 x16_1).f0) ≥ a0
       ·rw [if_pos c8] at H
        have c8b0 : decide (a0 ≤ ((rd_T86 l1 x16_1).f0)) = true := decide_eq_true c8
        clear c8
        obtain rfl := Option.some.inj H
        have p1315 : 0 ≤ (x16_1 : Int) := of_decide_eq_true (by first | (with_reducible assumption) | assumption)
        have q1315 : x16_1 < (l1.length : Int) := of_decide_eq_true (by first | (with_reducible assumption) | assumption)
        obtain ⟨ad1315, e1315, hx1315_0, hx1315_1⟩ := at_T86 HR1.out x16_1 p1315 q1315
        cases e1315
        replace hx1315_0 := (HB.out.cell (World.block_lt_of_cell? w _ hx1315_0)).trans hx1315_0
        replace hx1315_1 := (HB.out.cell (World.block_lt_of_cell? w _ hx1315_1)).trans hx1315_1
        replace p1315 := eq_true p1315
        replace q1315 := eq_true q1315
        go_wp2_with (first | ((with_reducible refine gate_dst (N := 9) rfl ?_); refine box_event ?hg (N := 9) ?hd (cs := #[.int .u64 0, .int .u64 0]) (t := 86) ?hr ?_; (case hd => rfl); (case hg => rfl); (case hr => first | (go_simp; done) | (go_simp; rfl)); intro gb1316 hg w9 hbox hb; have n0_ := Aside0.mk (Kd.R_below (by (with_reducible repeat (first | apply Kd.R_alloc | apply Kd.R_drewN | apply Kd.R_drew)); exact HO_7.out) hb); have n1_ := Aside0.mk (below_step (by repeat (first | (with_reducible first | exact HB.out | apply below_alloc | apply pw_below_drewN | apply below_drew1) | exact HB.out)) hb); have n2_ := Aside0.mk (hbox); have n3_ := Aside0.mk ((by rw [hg]; exact (below_size (by repeat (first | (with_reducible first | exact HB.out | apply below_alloc | apply pw_below_drewN | apply below_drew1) | exact HB.out))) : w.heap.size ≤ gb1316)); have n4_ := Aside0.mk ((by rw [hg]; exact (below_size (by repeat (first | (with_reducible first | exact HB.out | apply below_alloc | apply pw_below_drewN | apply below_drew1) | exact HB.out))) : w.heap.size ≤ gb1316)); clear HO_7; clear HB; have HO_7 := n0_; have HB := n1_; have BK1316 := n2_; have GW1316 := n3_; have GE1316 := n4_; clear n0_ n1_ n2_ n3_ n4_; clear hb hbox hg; have hcz10_0 : w9.cell? ⟨gb1316, 0, none⟩ = some (.int .u64 0) := (blk_cell BK1316.out 0).trans rfl; have hcz10_1 : w9.cell? ⟨gb1316, 1, none⟩ = some (.int .u64 0) := (blk_cell BK1316.out 1).trans rfl; have hfz10_0 := blk_frozen BK1316.out 0; have hfz10_1 := blk_frozen BK1316.out 1))
        go_ret
        exact ⟨by first | rfl | (simp [errW_none, errW_some] <;> rfl) | (simp [*, errW_none, errW_some] <;> rfl), by repeat (first | (with_reducible first | exact HB.out | apply below_alloc | apply pw_below_drewN | apply below_drew1 | refine below_set ?_ GE1316.out) | exact HB.out)⟩
       ·rw [if_neg c8] at H
        have c8b0 : decide (a0 ≤ ((rd_T86 l1 x16_1).f0)) = false := decide_eq_false c8
        clear c8
        by_cases c11 : ((rd_T86 l1 x16_1).f1) ≥ a0
        ·rw [if_pos c11] at H
         have c11b0 : decide (a0 ≤ ((rd_T86 l1 x16_1).f1)) = true := decide_eq_true c11
         clear c11
         obtain rfl := Option.some.inj H
         have p1315 : 0 ≤ (x16_1 : Int) := of_decide_eq_true (by first | (with_reducible assumption) | assumption)
         have q1315 : x16_1 < (l1.length : Int) := of_decide_eq_true (by first | (with_reducible assumption) | assumption)
         obtain ⟨ad1315, e1315, hx1315_0, hx1315_1⟩ := at_T86 HR1.out x16_1 p1315 q1315
         cases e1315
         replace hx1315_0 := (HB.out.cell (World.block_lt_of_cell? w _ hx1315_0)).trans hx1315_0
         replace hx1315_1 := (HB.out.cell (World.block_lt_of_cell? w _ hx1315_1)).trans hx1315_1
         replace p1315 := eq_true p1315
         replace q1315 := eq_true q1315
         go_wp2_with (first | ((with_reducible refine gate_dst (N := 9) rfl ?_); refine box_event ?hg (N := 9) ?hd (cs := #[.int .u64 0, .int .u64 0]) (t := 86) ?hr ?_; (case hd => rfl); (case hg => rfl); (case hr => first | (go_simp; done) | (go_simp; rfl)); intro gb1316 hg w12 hbox hb; have n0_ := Aside0.mk (Kd.R_below (by (with_reducible repeat (first | apply Kd.R_alloc | apply Kd.R_drewN | apply Kd.R_drew)); exact HO_7.out) hb); have n1_ := Aside0.mk (below_step (by repeat (first | (with_reducible first | exact HB.out | apply below_alloc | apply pw_below_drewN | apply below_drew1) | exact HB.out)) hb); have n2_ := Aside0.mk (hbox); have n3_ := Aside0.mk ((by rw [hg]; exact (below_size (by repeat (first | (with_reducible first | exact HB.out | apply below_alloc | apply pw_below_drewN | apply below_drew1) | exact HB.out))) : w.heap.size ≤ gb1316)); have n4_ := Aside0.mk ((by rw [hg]; exact (below_size (by repeat (first | (with_reducible first | exact HB.out | apply below_alloc | apply pw_below_drewN | apply below_drew1) | exact HB.out))) : w.heap.size ≤ gb1316)); clear HO_7; clear HB; have HO_7 := n0_; have HB := n1_; have BK1316 := n2_; have GW1316 := n3_; have GE1316 := n4_; clear n0_ n1_ n2_ n3_ n4_; clear hb hbox hg; have hcz13_0 : w12.cell? ⟨gb1316, 0, none⟩ = some (.int .u64 0) := (blk_cell BK1316.out 0).trans rfl; have hcz13_1 : w12.cell? ⟨gb1316, 1, none⟩ = some (.int .u64 0) := (blk_cell BK1316.out 1).trans rfl; have hfz13_0 := blk_frozen BK1316.out 0; have hfz13_1 := blk_frozen BK1316.out 1))
         go_ret
         exact ⟨by first | rfl | (simp [errW_none, errW_some] <;> rfl) | (simp [*, errW_none, errW_some] <;> rfl), by repeat (first | (with_reducible first | exact HB.out | apply below_alloc | apply pw_below_drewN | apply below_drew1 | refine below_set ?_ GE1316.out) | exact HB.out)⟩
        ·rw [if_neg c11] at H
         have c11b0 : decide (a0 ≤ ((rd_T86 l1 x16_1).f1)) = false := decide_eq_false c11
         clear c11
         by_cases c14 : x7_1.length < 17592186044416
         ·rw [if_pos c14] at H
          have LMc14 := Aside0.mk c14
          clear c14
          obtain ⟨y1317, hy1317⟩ : ∃ y_ : List Int, y_ = (x7_1 ++ [(rd_T86 l1 x16_1).f0]) := ⟨_, rfl⟩
          replace H : (juntoref02_Points.l0 k1 a0 y1317 l1 (l1.length : Int) (wrap64 (x16_1 + 1))) = some r := by first | (rw [hy1317]; with_reducible exact H) | (have H2_ := (Option.bind_some _ _).symm.trans H; rw [hy1317]; with_reducible exact H2_) | (have H2_ := (Option.bind_some _ _).symm.trans H; with_reducible exact H2_) | with_reducible exact H | (rw [hy1317]; exact H) | exact H
          have Ny1317 := Aside0.mk hy1317
          clear hy1317
          have H' := Aside0.mk H
          clear H
          have p1315 : 0 ≤ (x16_1 : Int) := of_decide_eq_true (by first | (with_reducible assumption) | assumption)
          have q1315 : x16_1 < (l1.length : Int) := of_decide_eq_true (by first | (with_reducible assumption) | assumption)
          obtain ⟨ad1315, e1315, hx1315_0, hx1315_1⟩ := at_T86 HR1.out x16_1 p1315 q1315
          cases e1315
          replace hx1315_0 := (HB.out.cell (World.block_lt_of_cell? w _ hx1315_0)).trans hx1315_0
          replace hx1315_1 := (HB.out.cell (World.block_lt_of_cell? w _ hx1315_1)).trans hx1315_1
          replace p1315 := eq_true p1315
          replace q1315 := eq_true q1315
          go_wp2_with (first | ((with_reducible refine gate_dst (N := 9) rfl ?_); refine box_event ?hg (N := 9) ?hd (cs := #[.int .u64 0, .int .u64 0]) (t := 86) ?hr ?_; (case hd => rfl); (case hg => rfl); (case hr => first | (go_simp; done) | (go_simp; rfl)); intro gb1316 hg w15 hbox hb; have n0_ := Aside0.mk (Kd.R_below (by (with_reducible repeat (first | apply Kd.R_alloc | apply Kd.R_drewN | apply Kd.R_drew)); exact HO_7.out) hb); have n1_ := Aside0.mk (below_step (by repeat (first | (with_reducible first | exact HB.out | apply below_alloc | apply pw_below_drewN | apply below_drew1) | exact HB.out)) hb); have n2_ := Aside0.mk (hbox); have n3_ := Aside0.mk ((by rw [hg]; exact (below_size (by repeat (first | (with_reducible first | exact HB.out | apply below_alloc | apply pw_below_drewN | apply below_drew1) | exact HB.out))) : w.heap.size ≤ gb1316)); have n4_ := Aside0.mk ((by rw [hg]; exact (below_size (by repeat (first | (with_reducible first | exact HB.out | apply below_alloc | apply pw_below_drewN | apply below_drew1) | exact HB.out))) : w.heap.size ≤ gb1316)); clear HO_7; clear HB; have HO_7 := n0_; have HB := n1_; have BK1316 := n2_; have GW1316 := n3_; have GE1316 := n4_; clear n0_ n1_ n2_ n3_ n4_; clear hb hbox hg; have hcz16_0 : w15.cell? ⟨gb1316, 0, none⟩ = some (.int .u64 0) := (blk_cell BK1316.out 0).trans rfl; have hcz16_1 : w15.cell? ⟨gb1316, 1, none⟩ = some (.int .u64 0) := (blk_cell BK1316.out 1).trans rfl; have hfz16_0 := blk_frozen BK1316.out 0; have hfz16_1 := blk_frozen BK1316.out 1) | ((with_reducible refine gate_builtin (b := .append) (xs := #[.tmp 30, .tmp 33]) rfl ?_); at_builtin; refine Kd.R_append (Kd.int .u64) (w0 := w) w.heap.size rfl (.tmp 30) (.tmp 33) 31 22 (.int .u64 0) 8 rfl Try.underlying31 info22 rfl (by decide) (by omega) u7 x7_1 ((rd_T86 l1 x16_1).f0) [.int .u64 ((rd_T86 l1 x16_1).f0)] (fun _ => True) (fun _ => False) rfl (by first | (go_simp; done) | (go_simp; rfl)) ?aP (fun _ hk => hk.elim) ?aF ?aO ?aB ?aS ?aL ?_; (case aP => exact rfl); (case aB => exact (by repeat (first | (with_reducible first | exact HB.out | apply below_alloc | apply pw_below_drewN | apply below_drew1 | refine below_set ?_ GE1316.out) | exact HB.out))); (case aF => exact (fun _ _ => trivial)); (case aO => exact (by (with_reducible repeat (first | apply Kd.R_alloc | apply Kd.R_drewN | apply Kd.R_drew)); exact Kd.R_mono (Kd.R_far (p := ⟨gb1316, 1, none⟩) (Kd.R_far (p := ⟨gb1316, 0, none⟩) (Kd.R_types HO_7.out BK1316.out (by decide)) (fun _ hk => hk.2) (.int .u64 ((rd_T86 l1 x16_1).f0))) (fun _ hk => hk.2) (.int .u64 ((rd_T86 l1 x16_1).f1))) (fun _ hk => trivial))); (case aS => exact (below_size (by repeat (first | (with_reducible first | exact HB.out | apply below_alloc | apply pw_below_drewN | apply below_drew1 | refine below_set ?_ GE1316.out) | exact HB.out)))); (case aL => have := LMc14.out; omega); intro v1318 w17 ho hb hg hat; rw [← Ny1317.out] at ho; have n0_ := Aside0.mk (blk_grown (g := gb1316) (o := .cells #[.int .u64 ((rd_T86 l1 x16_1).f0), .int .u64 ((rd_T86 l1 x16_1).f1)] 86 (0, 0)) (by (with_reducible repeat (first | refine blk_drewN ?_ _ | refine blk_drew ?_ | refine blk_alloc ?_ _)); refine blk_put (cs := #[.int .u64 ((rd_T86 l1 x16_1).f0), .int .u64 0]) ?_ 1 _ rfl; (with_reducible repeat (first | refine blk_drewN ?_ _ | refine blk_drew ?_ | refine blk_alloc ?_ _)); refine blk_put (cs := #[.int .u64 0, .int .u64 0]) ?_ 0 _ rfl; (with_reducible repeat (first | refine blk_drewN ?_ _ | refine blk_drew ?_ | refine blk_alloc ?_ _)); exact BK1316.out) hg (Kd.R_ne HO_7.out BK1316.out (by decide))); have n1_ := Aside0.mk (hb); have n2_ := Aside0.mk (ho); clear BK1316; clear HB; clear HO_7; have BK1316 := n0_; have HB := n1_; have HO1319 := n2_; clear n0_ n1_ n2_; clear ho hb hg hat))
          go_roundg k1
          case measure => have := HK1.out; omega
          case rel => exact ⟨(y1317), (wrap64 (x16_1 + 1)), (by first | rfl | (simp; done) | (simp [*]; done)), H', ⟨by have := HK1.out; omega⟩, ⟨by (with_reducible repeat (first | apply Kd.R_alloc | apply Kd.R_drewN | apply Kd.R_drew)); exact HO1319.out⟩, ⟨by repeat (first | (with_reducible first | exact HB.out | apply below_alloc | apply pw_below_drewN | apply below_drew1 | refine below_set ?_ GE1316.out) | exact HB.out)⟩⟩
         ·rw [if_neg c14] at H
          exact absurd H (by simp)
      ·rw [if_neg c7] at H
       exact absurd H (by simp)
     ·rw [if_neg c6] at H
      exact absurd H (by simp)
    ·rw [if_neg c5] at H
     have c5b0 : decide (x16_1 < (l1.length : Int)) = false := decide_eq_false c5
     clear c5
     replace H := Option.bind_eq_some_iff.mp H
     obtain ⟨t1320, A180, H⟩ := H
     replace H : (if t1320 = true then (some 6) else (some 0)) = some r := H
     have A18 := Aside0.mk A180
     clear A180
     by_cases c19 : t1320 = true
     ·subst c19
      have H1 : (some 6) = some r := by rw [if_pos rfl] at H; exact H
      clear H
      have H := H1
      clear H1
      obtain rfl := Option.some.inj H
      obtain ⟨Ao20, co20, eo20⟩ := Kd.R_slice HO_7.out
      subst eo20
      go_wp2_with (first | ((with_reducible refine gate_callee (f := 98) rfl ?_); refine goesL_ (some 37) rfl rfl Try.func98 (by kernel_rfl) rfl #[.slice Ao20 x7_1.length co20] rfl (by (try simp only [List.map_toArray, List.map_cons, List.map_nil]); first | done | rfl | (simp only [List.length_drop, List.length_take]; rfl)) ?_; (with_reducible refine (juntoref02_Twice.calls k1 _ _ x7_1 true _ ?side1 ?side2 A18.out).mono ?_); (case side1 => repeat (first | exact (Kd.R_reads' HO_7.out).2.2 | (with_reducible refine Kd.C_alloc ?_ _) | (with_reducible refine Kd.C_drewN ?_ _) | (with_reducible refine Kd.C_drew ?_))); (case side2 => exact (Kd.R_reads' HO_7.out).2.1); rintro e w' ⟨rfl, ⟨nd, rfl⟩⟩; refine ⟨_, rfl, ?_⟩))
      go_ret
      exact ⟨by first | rfl | (simp [errW_none, errW_some] <;> rfl) | (simp [*, errW_none, errW_some] <;> rfl), by repeat (first | (with_reducible first | exact HB.out | apply below_alloc | apply pw_below_drewN | apply below_drew1) | exact HB.out)⟩
     ·replace c19 := Bool.eq_false_iff.mpr c19
      subst c19
      have H1 : (some 0) = some r := by rw [if_neg (show ¬ (false = true) by decide)] at H; exact H
      clear H
      have H := H1
      clear H1
      obtain rfl := Option.some.inj H
      obtain ⟨Ao21, co21, eo21⟩ := Kd.R_slice HO_7.out
      subst eo21
      go_wp2_with (first | ((with_reducible refine gate_callee (f := 98) rfl ?_); refine goesL_ (some 37) rfl rfl Try.func98 (by kernel_rfl) rfl #[.slice Ao21 x7_1.length co21] rfl (by (try simp only [List.map_toArray, List.map_cons, List.map_nil]); first | done | rfl | (simp only [List.length_drop, List.length_take]; rfl)) ?_; (with_reducible refine (juntoref02_Twice.calls k1 _ _ x7_1 false _ ?side1 ?side2 A18.out).mono ?_); (case side1 => repeat (first | exact (Kd.R_reads' HO_7.out).2.2 | (with_reducible refine Kd.C_alloc ?_ _) | (with_reducible refine Kd.C_drewN ?_ _) | (with_reducible refine Kd.C_drew ?_))); (case side2 => exact (Kd.R_reads' HO_7.out).2.1); rintro e w' ⟨rfl, ⟨nd, rfl⟩⟩; refine ⟨_, rfl, ?_⟩))
      go_ret
      exact ⟨by first | rfl | (simp [errW_none, errW_some] <;> rfl) | (simp [*, errW_none, errW_some] <;> rfl), by repeat (first | (with_reducible first | exact HB.out | apply below_alloc | apply pw_below_drewN | apply below_drew1) | exact HB.out)⟩

end Go.Proofs.Ytjjnfobeeflnhaa.J

/- What Go functions of the program compute, as plain Lean functions, and that the machine comes to just these answers (written by a program for this seat). -/
namespace Go.Proofs.Ytjjnfobeeflnhaa.J
open Go.RowKit Go.Proofs.YtjjnfobeeflnhaaW.PrintWords Go.Proofs.YtjjnfobeeflnhaaW.PrintLast Go.Proofs.YtjjnfobeeflnhaaW.PrintMore
attribute [local go_sem] max2_int min2_int max_two min_two max_three min_three max_four min_four   -- for this text's walks alone
set_option linter.unusedVariables false
set_option linter.unusedSimpArgs false

/-! ### share_Secret: function 119 -/
def share_Secret.j0 : Nat → Int → Int → List (S86) → Bool → Option (Int × Int)
 | 0, _, _, _, _ => none
 | k + 1, x0, x1, x2, x20 => if x20 = true then (some (0, 2)) else ((poly_Through.f k x0 x2).bind fun bt1836 => (if bt1836.2 = 0 then (if (x2.length : Int) < (wrap64 (x1 + 1)) then (some (0, 11)) else (if (bt1836.1.length : Int) > (wrap64 (x1 + 1)) then (some (0, 12)) else ((poly_At.f x0 bt1836.1 0).bind fun t1840 => (some (t1840, 0))))) else (some (0, bt1836.2))))
def share_Secret.f (k : Nat) (a0 : Int) (a1 : Int) (l2 : List (S86)) : Option (Int × Int) := (field_Is.f k a0).bind fun t1835 => (if t1835 = true then (if a1 < 0 then (share_Secret.j0 k a0 a1 l2 true) else (share_Secret.j0 k a0 a1 l2 (decide (a1 > 200)))) else (share_Secret.j0 k a0 a1 l2 true))
theorem share_Secret.mono_l : ∀ k, (∀ y0 y1 y2 y3, LeO (share_Secret.j0 k y0 y1 y2 y3) (share_Secret.j0 (k + 1) y0 y1 y2 y3))
 | 0 => fun _ _ _ _ r h => by simp [share_Secret.j0] at h
 | k + 1 => by
  have ih0 := share_Secret.mono_l k
  ·intro y0 y1 y2 y3
   unfold share_Secret.j0
   repeat' first
   | (with_reducible exact ih0 _ _ _ _)
   | (with_reducible exact field_Is.mono _ _)
   | (with_reducible exact poly_Through.mono _ _ _)
   | (with_reducible exact LeO.refl _)
   | (with_reducible exact LeO.none _)
   | (with_reducible refine LeO.ite ?_ ?_)
   | (with_reducible refine LeO.bind ?_ (fun _ => ?_))
   | exact ih0 _ _ _ _
   | exact field_Is.mono _ _
   | exact poly_Through.mono _ _ _
   | exact LeO.none _
   | refine LeO.ite ?_ ?_
   | refine LeO.bind ?_ (fun _ => ?_)
theorem share_Secret.mono : ∀ a0 a1 a2 k, LeO (share_Secret.f k a0 a1 a2) (share_Secret.f (k + 1) a0 a1 a2) := by
 intro a0 a1 a2 k
 have ih0 := share_Secret.mono_l k
 unfold share_Secret.f
 repeat' first
   | (with_reducible exact ih0 _ _ _ _)
   | (with_reducible exact field_Is.mono _ _)
   | (with_reducible exact poly_Through.mono _ _ _)
   | (with_reducible exact LeO.refl _)
   | (with_reducible exact LeO.none _)
   | (with_reducible refine LeO.ite ?_ ?_)
   | (with_reducible refine LeO.bind ?_ (fun _ => ?_))
   | exact ih0 _ _ _ _
   | exact field_Is.mono _ _
   | exact poly_Through.mono _ _ _
   | exact LeO.none _
   | refine LeO.ite ?_ ?_
   | refine LeO.bind ?_ (fun _ => ?_)
set_option maxHeartbeats 8000000 in
set_option maxRecDepth 100000 in
theorem share_Secret.calls (k : Nat) (a0 : Int) (a1 : Int) (A2 : Option Addr) (c2 : Nat) (l2 : List (S86)) (r1 : Int) (r2 : Int) (w : World) (hr2 : Kd.C k86 w A2 l2.length l2) (hc2 : l2.length ≤ c2) (h : share_Secret.f k a0 a1 l2 = some (r1, r2)) :
  Calls Try.prog 119 #[.int .u64 a0, .int .i64 a1, .slice A2 l2.length c2] w fun e w' => e = .returned (.tuple #[.int .u64 r1, .int .i64 r2]) ∧ Below w.heap.size w w' := by
 have HR2 := Aside0.mk hr2
 have HC2 := Aside0.mk hc2
 clear hr2 hc2
 have HB := Aside0.mk (Below.refl w.heap.size w)
 have H : ((field_Is.f k a0).bind fun t1835 => (if t1835 = true then (if a1 < 0 then (share_Secret.j0 k a0 a1 l2 true) else (share_Secret.j0 k a0 a1 l2 (decide (a1 > 200)))) else (share_Secret.j0 k a0 a1 l2 true))) = some (r1, r2) := h
 clear h
 have HC4 := Aside0.mk H
 clear H
 go_enter Try.func119, Try.ntmps119
 go_upto_region 1 with (fail)
 go_cut [20] (fun v20 wc => ∃ (kq : Nat) (x20_3 : Bool), v20 = .bool x20_3 ∧ Aside0 (share_Secret.j0 kq a0 a1 l2 x20_3 = some (r1, r2)) ∧ Aside0 (kq ≤ k) ∧ Aside0 (Below w.heap.size w wc))
 case first =>
  have H := HC4.out
  clear HC4
  replace H := Option.bind_eq_some_iff.mp H
  obtain ⟨t1835, A50, H⟩ := H
  replace H : (if t1835 = true then (if a1 < 0 then (share_Secret.j0 k a0 a1 l2 true) else (share_Secret.j0 k a0 a1 l2 (decide (a1 > 200)))) else (share_Secret.j0 k a0 a1 l2 true)) = some (r1, r2) := H
  have A5 := Aside0.mk A50
  clear A50
  by_cases c6 : t1835 = true
  ·subst c6
   have H1 : (if a1 < 0 then (share_Secret.j0 k a0 a1 l2 true) else (share_Secret.j0 k a0 a1 l2 (decide (a1 > 200)))) = some (r1, r2) := by rw [if_pos rfl] at H; exact H
   clear H
   have H := H1
   clear H1
   by_cases c7 : a1 < 0
   ·rw [if_pos c7] at H
    have c7b0 : decide (a1 < 0) = true := decide_eq_true c7
    clear c7
    (first | rw [c7b0] | (simp only [i64_w, i32_w]; rw [c7b0]) | skip)
    have H' := Aside0.mk H
    clear H
    go_wp2_with (first | ((with_reducible refine gate_callee (f := 137) rfl ?_); refine goesL_ (some 11) rfl rfl Try.func137 (by kernel_rfl) rfl #[.int .u64 a0] rfl (by (try simp only [List.map_toArray, List.map_cons, List.map_nil]); first | done | rfl | (simp only [List.length_drop, List.length_take]; rfl)) ?_; (with_reducible refine (field_Is.calls k a0 true _ A5.out).mono ?_); rintro e w' ⟨rfl, ⟨nd, rfl⟩⟩; refine ⟨_, rfl, ?_⟩))
    go_meet
    case rel => exact ⟨_, (true), (by first | rfl | (simp; done) | (simp [*]; done)), H', ⟨by first | omega | exact Nat.le_refl _⟩, ⟨by repeat (first | (with_reducible first | exact HB.out | apply below_alloc | apply pw_below_drewN | apply below_drew1) | exact HB.out)⟩⟩
   ·rw [if_neg c7] at H
    have c7b0 : decide (a1 < 0) = false := decide_eq_false c7
    clear c7
    (first | rw [c7b0] | (simp only [i64_w, i32_w]; rw [c7b0]) | skip)
    have H' := Aside0.mk H
    clear H
    go_wp2_with (first | ((with_reducible refine gate_callee (f := 137) rfl ?_); refine goesL_ (some 11) rfl rfl Try.func137 (by kernel_rfl) rfl #[.int .u64 a0] rfl (by (try simp only [List.map_toArray, List.map_cons, List.map_nil]); first | done | rfl | (simp only [List.length_drop, List.length_take]; rfl)) ?_; (with_reducible refine (field_Is.calls k a0 true _ A5.out).mono ?_); rintro e w' ⟨rfl, ⟨nd, rfl⟩⟩; refine ⟨_, rfl, ?_⟩))
    go_meet
    case rel => exact ⟨_, (decide (a1 > 200)), (by first | rfl | (simp; done) | (simp [*]; done)), H', ⟨by first | omega | exact Nat.le_refl _⟩, ⟨by repeat (first | (with_reducible first | exact HB.out | apply below_alloc | apply pw_below_drewN | apply below_drew1) | exact HB.out)⟩⟩
  ·replace c6 := Bool.eq_false_iff.mpr c6
   subst c6
   have H1 : (share_Secret.j0 k a0 a1 l2 true) = some (r1, r2) := by rw [if_neg (show ¬ (false = true) by decide)] at H; exact H
   clear H
   have H := H1
   clear H1
   have H' := Aside0.mk H
   clear H
   go_wp2_with (first | ((with_reducible refine gate_callee (f := 137) rfl ?_); refine goesL_ (some 11) rfl rfl Try.func137 (by kernel_rfl) rfl #[.int .u64 a0] rfl (by (try simp only [List.map_toArray, List.map_cons, List.map_nil]); first | done | rfl | (simp only [List.length_drop, List.length_take]; rfl)) ?_; (with_reducible refine (field_Is.calls k a0 false _ A5.out).mono ?_); rintro e w' ⟨rfl, ⟨nd, rfl⟩⟩; refine ⟨_, rfl, ?_⟩))
   go_meet
   case rel => exact ⟨_, (true), (by first | rfl | (simp; done) | (simp [*]; done)), H', ⟨by first | omega | exact Nat.le_refl _⟩, ⟨by repeat (first | (with_reducible first | exact HB.out | apply below_alloc | apply pw_below_drewN | apply below_drew1) | exact HB.out)⟩⟩
 case rest =>
  clear HC4
  try clear c1
  try clear c2
  try clear p2
  try clear c6
  try clear c7
  try clear c7b0
  obtain ⟨kq, x20_3, rfl, HA, HJ3, HB⟩ := hcut
  cases kq with
  | zero => exact absurd HA.out (by simp [share_Secret.j0])
  | succ kj3 =>
   have H := HA.out
   clear HA
   simp only [share_Secret.j0] at H
   by_cases c8 : x20_3 = true
   ·subst c8
    have H1 : (some (0, 2)) = some (r1, r2) := by rw [if_pos rfl] at H; exact H
    clear H
    have H := H1
    clear H1
    simp only [Option.some.injEq, Prod.mk.injEq] at H
    obtain ⟨rfl, rfl⟩ := H
    go_wp2
    go_ret2
    exact ⟨by first | rfl | (simp [errW_none, errW_some] <;> rfl) | (simp [*, errW_none, errW_some] <;> rfl), by repeat (first | (with_reducible first | exact HB.out | apply below_alloc | apply pw_below_drewN | apply below_drew1) | exact HB.out)⟩
   ·replace c8 := Bool.eq_false_iff.mpr c8
    subst c8
    have H1 : ((poly_Through.f kj3 a0 l2).bind fun bt1836 => (if bt1836.2 = 0 then (if (l2.length : Int) < (wrap64 (a1 + 1)) then (some (0, 11)) else (if (bt1836.1.length : Int) > (wrap64 (a1 + 1)) then (some (0, 12)) else ((poly_At.f a0 bt1836.1 0).bind fun t1840 => (some (t1840, 0))))) else (some (0, bt1836.2)))) = some (r1, r2) := by rw [if_neg (show ¬ (false = true) by decide)] at H; exact H
    clear H
    have H := H1
    clear H1
    replace H := Option.bind_eq_some_iff.mp H
    obtain ⟨⟨t1836, t1837⟩, A90, H⟩ := H
    replace H : (if t1837 = 0 then (if (l2.length : Int) < (wrap64 (a1 + 1)) then (some (0, 11)) else (if (t1836.length : Int) > (wrap64 (a1 + 1)) then (some (0, 12)) else ((poly_At.f a0 t1836 0).bind fun t1840 => (some (t1840, 0))))) else (some (0, t1837))) = some (r1, r2) := H
    have A9 := Aside0.mk A90
    clear A90
    by_cases c10 : t1837 = 0
    ·rw [if_pos c10] at H
     have c10b0 : (t1837 == 0) = true := beq_iff_eq.mpr c10
     have c10b1 : (t1837 != 0) = false := bne_eq_false_iff_eq.mpr c10
     clear c10
     by_cases c11 : (l2.length : Int) < (wrap64 (a1 + 1))
     ·rw [if_pos c11] at H
      have c11b0 : decide ((l2.length : Int) < (wrap64 (a1 + 1))) = true := decide_eq_true c11
      clear c11
      simp only [Option.some.injEq, Prod.mk.injEq] at H
      obtain ⟨rfl, rfl⟩ := H
      go_wp2_with (first | ((with_reducible refine gate_callee (f := 91) rfl ?_); refine goesL_ (some 24) rfl rfl Try.func91 (by kernel_rfl) rfl #[.int .u64 a0, .slice A2 l2.length c2] rfl (by (try simp only [List.map_toArray, List.map_cons, List.map_nil]); first | done | rfl | (simp only [List.length_drop, List.length_take]; rfl)) ?_; (with_reducible refine (poly_Through.calls kj3 a0 _ _ l2 t1836 t1837 _ ?side1 ?side2 A9.out).mono ?_); (case side1 => repeat (first | exact (Kd.C_below HR2.out HB.out) | (with_reducible refine Kd.C_alloc ?_ _) | (with_reducible refine Kd.C_drewN ?_ _) | (with_reducible refine Kd.C_drew ?_))); (case side2 => exact HC2.out); rintro e w12 ⟨v1838, rfl, ho0, hb⟩; refine ⟨_, rfl, ?_⟩; have n0_ := Aside0.mk (Kd.R_lower ho0 (below_size (by repeat (first | (with_reducible first | exact HB.out | apply below_alloc | apply pw_below_drewN | apply below_drew1) | exact HB.out)))); have n1_ := Aside0.mk (below_step (by repeat (first | (with_reducible first | exact HB.out | apply below_alloc | apply pw_below_drewN | apply below_drew1) | exact HB.out)) hb); clear HB; have HO1839 := n0_; have HB := n1_; clear n0_ n1_; (try clear hb); (try clear hb2); (try clear hk); (try clear hi); (try clear ho0)))
      go_ret2
      exact ⟨by first | rfl | (simp [errW_none, errW_some] <;> rfl) | (simp [*, errW_none, errW_some] <;> rfl), by repeat (first | (with_reducible first | exact HB.out | apply below_alloc | apply pw_below_drewN | apply below_drew1) | exact HB.out)⟩
     ·rw [if_neg c11] at H
      have c11b0 : decide ((l2.length : Int) < (wrap64 (a1 + 1))) = false := decide_eq_false c11
      clear c11
      by_cases c13 : (t1836.length : Int) > (wrap64 (a1 + 1))
      ·rw [if_pos c13] at H
       have c13b0 : decide ((wrap64 (a1 + 1)) < (t1836.length : Int)) = true := decide_eq_true c13
       clear c13
       simp only [Option.some.injEq, Prod.mk.injEq] at H
       obtain ⟨rfl, rfl⟩ := H
       go_wp2_with (first | ((with_reducible refine gate_callee (f := 91) rfl ?_); refine goesL_ (some 24) rfl rfl Try.func91 (by kernel_rfl) rfl #[.int .u64 a0, .slice A2 l2.length c2] rfl (by (try simp only [List.map_toArray, List.map_cons, List.map_nil]); first | done | rfl | (simp only [List.length_drop, List.length_take]; rfl)) ?_; (with_reducible refine (poly_Through.calls kj3 a0 _ _ l2 t1836 t1837 _ ?side1 ?side2 A9.out).mono ?_); (case side1 => repeat (first | exact (Kd.C_below HR2.out HB.out) | (with_reducible refine Kd.C_alloc ?_ _) | (with_reducible refine Kd.C_drewN ?_ _) | (with_reducible refine Kd.C_drew ?_))); (case side2 => exact HC2.out); rintro e w14 ⟨v1838, rfl, ho0, hb⟩; refine ⟨_, rfl, ?_⟩; have n0_ := Aside0.mk (Kd.R_lower ho0 (below_size (by repeat (first | (with_reducible first | exact HB.out | apply below_alloc | apply pw_below_drewN | apply below_drew1) | exact HB.out)))); have n1_ := Aside0.mk (below_step (by repeat (first | (with_reducible first | exact HB.out | apply below_alloc | apply pw_below_drewN | apply below_drew1) | exact HB.out)) hb); clear HB; have HO1839 := n0_; have HB := n1_; clear n0_ n1_; (try clear hb); (try clear hb2); (try clear hk); (try clear hi); (try clear ho0); obtain ⟨Ao15, co15, eo15⟩ := Kd.R_slice HO1839.out; subst eo15))
       go_ret2
       exact ⟨by first | rfl | (simp [errW_none, errW_some] <;> rfl) | (simp [*, errW_none, errW_some] <;> rfl), by repeat (first | (with_reducible first | exact HB.out | apply below_alloc | apply pw_below_drewN | apply below_drew1) | exact HB.out)⟩
      ·rw [if_neg c13] at H
       have c13b0 : decide ((wrap64 (a1 + 1)) < (t1836.length : Int)) = false := decide_eq_false c13
       clear c13
       replace H := Option.bind_eq_some_iff.mp H
       obtain ⟨t1840, A160, H⟩ := H
       replace H : (some (t1840, 0)) = some (r1, r2) := H
       have A16 := Aside0.mk A160
       clear A160
       simp only [Option.some.injEq, Prod.mk.injEq] at H
       obtain ⟨rfl, rfl⟩ := H
       go_wp2_with (first | ((with_reducible refine gate_callee (f := 91) rfl ?_); refine goesL_ (some 24) rfl rfl Try.func91 (by kernel_rfl) rfl #[.int .u64 a0, .slice A2 l2.length c2] rfl (by (try simp only [List.map_toArray, List.map_cons, List.map_nil]); first | done | rfl | (simp only [List.length_drop, List.length_take]; rfl)) ?_; (with_reducible refine (poly_Through.calls kj3 a0 _ _ l2 t1836 t1837 _ ?side1 ?side2 A9.out).mono ?_); (case side1 => repeat (first | exact (Kd.C_below HR2.out HB.out) | (with_reducible refine Kd.C_alloc ?_ _) | (with_reducible refine Kd.C_drewN ?_ _) | (with_reducible refine Kd.C_drew ?_))); (case side2 => exact HC2.out); rintro e w17 ⟨v1838, rfl, ho0, hb⟩; refine ⟨_, rfl, ?_⟩; have n0_ := Aside0.mk (Kd.R_lower ho0 (below_size (by repeat (first | (with_reducible first | exact HB.out | apply below_alloc | apply pw_below_drewN | apply below_drew1) | exact HB.out)))); have n1_ := Aside0.mk (below_step (by repeat (first | (with_reducible first | exact HB.out | apply below_alloc | apply pw_below_drewN | apply below_drew1) | exact HB.out)) hb); clear HB; have HO1839 := n0_; have HB := n1_; clear n0_ n1_; (try clear hb); (try clear hb2); (try clear hk); (try clear hi); (try clear ho0); obtain ⟨Ao18, co18, eo18⟩ := Kd.R_slice HO1839.out; subst eo18) | ((with_reducible refine gate_callee (f := 134) rfl ?_); refine goesL_ (some 45) rfl rfl Try.func134 (by kernel_rfl) rfl #[.int .u64 a0, .slice Ao18 t1836.length co18, .int .u64 0] rfl (by (try simp only [List.map_toArray, List.map_cons, List.map_nil]); first | done | rfl | (simp only [List.length_drop, List.length_take]; rfl)) ?_; (with_reducible refine (poly_At.calls a0 _ _ t1836 0 t1840 _ ?side1 ?side2 A16.out).mono ?_); (case side1 => repeat (first | exact (Kd.R_reads' HO1839.out).2.2 | (with_reducible refine Kd.C_alloc ?_ _) | (with_reducible refine Kd.C_drewN ?_ _) | (with_reducible refine Kd.C_drew ?_))); (case side2 => exact (Kd.R_reads' HO1839.out).2.1); rintro e w19 ⟨rfl, hb⟩; refine ⟨_, rfl, ?_⟩; have n0_ := Aside0.mk (Kd.R_below (by (with_reducible repeat (first | apply Kd.R_alloc | apply Kd.R_drewN | apply Kd.R_drew)); exact HO1839.out) hb); have n1_ := Aside0.mk (below_step (by repeat (first | (with_reducible first | exact HB.out | apply below_alloc | apply pw_below_drewN | apply below_drew1) | exact HB.out)) hb); clear HO1839; clear HB; have HO1839 := n0_; have HB := n1_; clear n0_ n1_; (try clear hb); (try clear hb2); (try clear hk); (try clear hi)))
       go_ret2
       exact ⟨by first | rfl | (simp [errW_none, errW_some] <;> rfl) | (simp [*, errW_none, errW_some] <;> rfl), by repeat (first | (with_reducible first | exact HB.out | apply below_alloc | apply pw_below_drewN | apply below_drew1) | exact HB.out)⟩
    ·rw [if_neg c10] at H
     have c10b0 : (t1837 == 0) = false := beq_eq_false_iff_ne.mpr c10
     have c10b1 : (t1837 != 0) = true := bne_iff_ne.mpr c10
     simp only [Option.some.injEq, Prod.mk.injEq] at H
     obtain ⟨rfl, rfl⟩ := H
     go_wp2_with (first | ((with_reducible refine gate_callee (f := 91) rfl ?_); refine goesL_ (some 24) rfl rfl Try.func91 (by kernel_rfl) rfl #[.int .u64 a0, .slice A2 l2.length c2] rfl (by (try simp only [List.map_toArray, List.map_cons, List.map_nil]); first | done | rfl | (simp only [List.length_drop, List.length_take]; rfl)) ?_; (with_reducible refine (poly_Through.calls kj3 a0 _ _ l2 t1836 t1837 _ ?side1 ?side2 A9.out).mono ?_); (case side1 => repeat (first | exact (Kd.C_below HR2.out HB.out) | (with_reducible refine Kd.C_alloc ?_ _) | (with_reducible refine Kd.C_drewN ?_ _) | (with_reducible refine Kd.C_drew ?_))); (case side2 => exact HC2.out); rintro e w20 ⟨v1838, rfl, ho0, hb⟩; refine ⟨_, rfl, ?_⟩; have n0_ := Aside0.mk (Kd.R_lower ho0 (below_size (by repeat (first | (with_reducible first | exact HB.out | apply below_alloc | apply pw_below_drewN | apply below_drew1) | exact HB.out)))); have n1_ := Aside0.mk (below_step (by repeat (first | (with_reducible first | exact HB.out | apply below_alloc | apply pw_below_drewN | apply below_drew1) | exact HB.out)) hb); clear HB; have HO1839 := n0_; have HB := n1_; clear n0_ n1_; (try clear hb); (try clear hb2); (try clear hk); (try clear hi); (try clear ho0)))
     go_ret2
     exact ⟨by first | rfl | (simp [errW_none, errW_some] <;> rfl) | (simp [*, errW_none, errW_some] <;> rfl), by repeat (first | (with_reducible first | exact HB.out | apply below_alloc | apply pw_below_drewN | apply below_drew1) | exact HB.out)⟩

/-! ### juntolaw04_ShareSecrets: function 34 -/
mutual
def juntolaw04_ShareSecrets.j0 : Nat → Int → Int → List (S86) → Int → Int → Bool → Option (Bool)
 | 0, _, _, _, _, _, _ => none
 | k + 1, x0, x1, x2, x7, x8, x29 => if x29 = true then (juntolaw04_ShareSecrets.j1 k x0 x1 x2 x7 x8 2) else ((juntoref02_Points.f k x0 x2 201).bind fun t1844 => (juntolaw04_ShareSecrets.j1 k x0 x1 x2 x7 x8 t1844))
def juntolaw04_ShareSecrets.j1 : Nat → Int → Int → List (S86) → Int → Int → Int → Option (Bool)
 | 0, _, _, _, _, _, _ => none
 | k + 1, x0, x1, x2, x7, x8, x9 => if x9 = 0 then (juntolaw04_ShareSecrets.j2 k x0 x1 x2 x7 x8 x9 (decide ((x2.length : Int) < (wrap64 (x1 + 1))))) else (juntolaw04_ShareSecrets.j2 k x0 x1 x2 x7 x8 x9 false)
def juntolaw04_ShareSecrets.j2 : Nat → Int → Int → List (S86) → Int → Int → Int → Bool → Option (Bool)
 | 0, _, _, _, _, _, _, _ => none
 | k + 1, x0, x1, x2, x7, x8, x9, x41 => if x41 = true then (juntolaw04_ShareSecrets.j3 k x0 x1 x2 x7 x8 11) else (juntolaw04_ShareSecrets.j3 k x0 x1 x2 x7 x8 x9)
def juntolaw04_ShareSecrets.j3 : Nat → Int → Int → List (S86) → Int → Int → Int → Option (Bool)
 | 0, _, _, _, _, _, _ => none
 | k + 1, x0, x1, x2, x7, x8, x9 => if x9 = 0 then ((juntoref04_Line.f k x0 x1 x2).bind fun bt1846 => (if bt1846.2 = true then (if x8 = 0 then ((juntoref02_Eval.f k x0 bt1846.1 0).bind fun t1850 => (some (x7 == t1850))) else (some false)) else (if x7 = 0 then (if x8 = 12 then ((juntolaw04_alive.f k).bind fun t1851 => (some t1851)) else (some false)) else (some false)))) else (if x7 = 0 then (if x8 = x9 then ((juntolaw04_alive.f k).bind fun t1845 => (some t1845)) else (some false)) else (some false))
end
def juntolaw04_ShareSecrets.f (k : Nat) (a0 : Int) (a1 : Int) (l2 : List (S86)) : Option (Bool) := (share_Secret.f k a0 a1 l2).bind fun bt1841 => ((juntoref01_Is.f k a0).bind fun t1843 => (if t1843 = true then (if a1 < 0 then (juntolaw04_ShareSecrets.j0 k a0 a1 l2 bt1841.1 bt1841.2 true) else (juntolaw04_ShareSecrets.j0 k a0 a1 l2 bt1841.1 bt1841.2 (decide (a1 > 200)))) else (juntolaw04_ShareSecrets.j0 k a0 a1 l2 bt1841.1 bt1841.2 true)))
theorem juntolaw04_ShareSecrets.mono_l : ∀ k, (∀ y0 y1 y2 y3 y4 y5, LeO (juntolaw04_ShareSecrets.j0 k y0 y1 y2 y3 y4 y5) (juntolaw04_ShareSecrets.j0 (k + 1) y0 y1 y2 y3 y4 y5)) ∧ (∀ y0 y1 y2 y3 y4 y5, LeO (juntolaw04_ShareSecrets.j1 k y0 y1 y2 y3 y4 y5) (juntolaw04_ShareSecrets.j1 (k + 1) y0 y1 y2 y3 y4 y5)) ∧ (∀ y0 y1 y2 y3 y4 y5 y6, LeO (juntolaw04_ShareSecrets.j2 k y0 y1 y2 y3 y4 y5 y6) (juntolaw04_ShareSecrets.j2 (k + 1) y0 y1 y2 y3 y4 y5 y6)) ∧ (∀ y0 y1 y2 y3 y4 y5, LeO (juntolaw04_ShareSecrets.j3 k y0 y1 y2 y3 y4 y5) (juntolaw04_ShareSecrets.j3 (k + 1) y0 y1 y2 y3 y4 y5))
 | 0 => ⟨fun _ _ _ _ _ _ r h => by simp [juntolaw04_ShareSecrets.j0] at h, fun _ _ _ _ _ _ r h => by simp [juntolaw04_ShareSecrets.j1] at h, fun _ _ _ _ _ _ _ r h => by simp [juntolaw04_ShareSecrets.j2] at h, fun _ _ _ _ _ _ r h => by simp [juntolaw04_ShareSecrets.j3] at h⟩
 | k + 1 => by
  obtain ⟨ih0, ih1, ih2, ih3⟩ := juntolaw04_ShareSecrets.mono_l k
  refine ⟨?_, ?_, ?_, ?_⟩
  ·intro y0 y1 y2 y3 y4 y5
   unfold juntolaw04_ShareSecrets.j0
   repeat' first
   | (with_reducible exact ih0 _ _ _ _ _ _)
   | (with_reducible exact ih1 _ _ _ _ _ _)
   | (with_reducible exact ih2 _ _ _ _ _ _ _)
   | (with_reducible exact ih3 _ _ _ _ _ _)
   | (with_reducible exact juntolaw04_alive.mono _)
   | (with_reducible exact juntoref01_Is.mono _ _)
   | (with_reducible exact juntoref02_Eval.mono _ _ _ _)
   | (with_reducible exact juntoref02_Points.mono _ _ _ _)
   | (with_reducible exact juntoref04_Line.mono _ _ _ _)
   | (with_reducible exact share_Secret.mono _ _ _ _)
   | (with_reducible exact LeO.refl _)
   | (with_reducible exact LeO.none _)
   | (with_reducible refine LeO.ite ?_ ?_)
   | (with_reducible refine LeO.bind ?_ (fun _ => ?_))
   | exact ih0 _ _ _ _ _ _
   | exact ih1 _ _ _ _ _ _
   | exact ih2 _ _ _ _ _ _ _
   | exact ih3 _ _ _ _ _ _
   | exact juntolaw04_alive.mono _
   | exact juntoref01_Is.mono _ _
   | exact juntoref02_Eval.mono _ _ _ _
   | exact juntoref02_Points.mono _ _ _ _
   | exact juntoref04_Line.mono _ _ _ _
   | exact share_Secret.mono _ _ _ _
   | exact LeO.none _
   | refine LeO.ite ?_ ?_
   | refine LeO.bind ?_ (fun _ => ?_)
  ·intro y0 y1 y2 y3 y4 y5
   unfold juntolaw04_ShareSecrets.j1
   repeat' first
   | (with_reducible exact ih0 _ _ _ _ _ _)
   | (with_reducible exact ih1 _ _ _ _ _ _)
   | (with_reducible exact ih2 _ _ _ _ _ _ _)
   | (with_reducible exact ih3 _ _ _ _ _ _)
   | (with_reducible exact juntolaw04_alive.mono _)
   | (with_reducible exact juntoref01_Is.mono _ _)
   | (with_reducible exact juntoref02_Eval.mono _ _ _ _)
   | (with_reducible exact juntoref02_Points.mono _ _ _ _)
   | (with_reducible exact juntoref04_Line.mono _ _ _ _)
   | (with_reducible exact share_Secret.mono _ _ _ _)
   | (with_reducible exact LeO.refl _)
   | (with_reducible exact LeO.none _)
   | (with_reducible refine LeO.ite ?_ ?_)
   | (with_reducible refine LeO.bind ?_ (fun _ => ?_))
   | exact ih0 _ _ _ _ _ _
   | exact ih1 _ _ _ _ _ _
   | exact ih2 _ _ _ _ _ _ _
   | exact ih3 _ _ _ _ _ _
   | exact juntolaw04_alive.mono _
   | exact juntoref01_Is.mono _ _
   | exact juntoref02_Eval.mono _ _ _ _
   | exact juntoref02_Points.mono _ _ _ _
   | exact juntoref04_Line.mono _ _ _ _
   | exact share_Secret.mono _ _ _ _
   | exact LeO.none _
   | refine LeO.ite ?_ ?_
   | refine LeO.bind ?_ (fun _ => ?_)
  ·intro y0 y1 y2 y3 y4 y5 y6
   unfold juntolaw04_ShareSecrets.j2
   repeat' first
   | (with_reducible exact ih0 _ _ _ _ _ _)
   | (with_reducible exact ih1 _ _ _ _ _ _)
   | (with_reducible exact ih2 _ _ _ _ _ _ _)
   | (with_reducible exact ih3 _ _ _ _ _ _)
   | (with_reducible exact juntolaw04_alive.mono _)
   | (with_reducible exact juntoref01_Is.mono _ _)
   | (with_reducible exact juntoref02_Eval.mono _ _ _ _)
   | (with_reducible exact juntoref02_Points.mono _ _ _ _)
   | (with_reducible exact juntoref04_Line.mono _ _ _ _)
   | (with_reducible exact share_Secret.mono _ _ _ _)
   | (with_reducible exact LeO.refl _)
   | (with_reducible exact LeO.none _)
   | (with_reducible refine LeO.ite ?_ ?_)
   | (with_reducible refine LeO.bind ?_ (fun _ => ?_))
   | exact ih0 _ _ _ _ _ _
   | exact ih1 _ _ _ _ _ _
   | exact ih2 _ _ _ _ _ _ _
   | exact ih3 _ _ _ _ _ _
   | exact juntolaw04_alive.mono _
   | exact juntoref01_Is.mono _ _
   | exact juntoref02_Eval.mono _ _ _ _
   | exact juntoref02_Points.mono _ _ _ _
   | exact juntoref04_Line.mono _ _ _ _
   | exact share_Secret.mono _ _ _ _
   | exact LeO.none _
   | refine LeO.ite ?_ ?_
   | refine LeO.bind ?_ (fun _ => ?_)
  ·intro y0 y1 y2 y3 y4 y5
   unfold juntolaw04_ShareSecrets.j3
   repeat' first
   | (with_reducible exact ih0 _ _ _ _ _ _)
   | (with_reducible exact ih1 _ _ _ _ _ _)
   | (with_reducible exact ih2 _ _ _ _ _ _ _)
   | (with_reducible exact ih3 _ _ _ _ _ _)
   | (with_reducible exact juntolaw04_alive.mono _)
   | (with_reducible exact juntoref01_Is.mono _ _)
   | (with_reducible exact juntoref02_Eval.mono _ _ _ _)
   | (with_reducible exact juntoref02_Points.mono _ _ _ _)
   | (with_reducible exact juntoref04_Line.mono _ _ _ _)
   | (with_reducible exact share_Secret.mono _ _ _ _)
   | (with_reducible exact LeO.refl _)
   | (with_reducible exact LeO.none _)
   | (with_reducible refine LeO.ite ?_ ?_)
   | (with_reducible refine LeO.bind ?_ (fun _ => ?_))
   | exact ih0 _ _ _ _ _ _
   | exact ih1 _ _ _ _ _ _
   | exact ih2 _ _ _ _ _ _ _
   | exact ih3 _ _ _ _ _ _
   | exact juntolaw04_alive.mono _
   | exact juntoref01_Is.mono _ _
   | exact juntoref02_Eval.mono _ _ _ _
   | exact juntoref02_Points.mono _ _ _ _
   | exact juntoref04_Line.mono _ _ _ _
   | exact share_Secret.mono _ _ _ _
   | exact LeO.none _
   | refine LeO.ite ?_ ?_
   | refine LeO.bind ?_ (fun _ => ?_)
theorem juntolaw04_ShareSecrets.mono : ∀ a0 a1 a2 k, LeO (juntolaw04_ShareSecrets.f k a0 a1 a2) (juntolaw04_ShareSecrets.f (k + 1) a0 a1 a2) := by
 intro a0 a1 a2 k
 obtain ⟨ih0, ih1, ih2, ih3⟩ := juntolaw04_ShareSecrets.mono_l k
 unfold juntolaw04_ShareSecrets.f
 repeat' first
   | (with_reducible exact ih0 _ _ _ _ _ _)
   | (with_reducible exact ih1 _ _ _ _ _ _)
   | (with_reducible exact ih2 _ _ _ _ _ _ _)
   | (with_reducible exact ih3 _ _ _ _ _ _)
   | (with_reducible exact juntolaw04_alive.mono _)
   | (with_reducible exact juntoref01_Is.mono _ _)
   | (with_reducible exact juntoref02_Eval.mono _ _ _ _)
   | (with_reducible exact juntoref02_Points.mono _ _ _ _)
   | (with_reducible exact juntoref04_Line.mono _ _ _ _)
   | (with_reducible exact share_Secret.mono _ _ _ _)
   | (with_reducible exact LeO.refl _)
   | (with_reducible exact LeO.none _)
   | (with_reducible refine LeO.ite ?_ ?_)
   | (with_reducible refine LeO.bind ?_ (fun _ => ?_))
   | exact ih0 _ _ _ _ _ _
   | exact ih1 _ _ _ _ _ _
   | exact ih2 _ _ _ _ _ _ _
   | exact ih3 _ _ _ _ _ _
   | exact juntolaw04_alive.mono _
   | exact juntoref01_Is.mono _ _
   | exact juntoref02_Eval.mono _ _ _ _
   | exact juntoref02_Points.mono _ _ _ _
   | exact juntoref04_Line.mono _ _ _ _
   | exact share_Secret.mono _ _ _ _
   | exact LeO.none _
   | refine LeO.ite ?_ ?_
   | refine LeO.bind ?_ (fun _ => ?_)
set_option maxHeartbeats 8000000 in
set_option maxRecDepth 100000 in
theorem juntolaw04_ShareSecrets.calls (k : Nat) (a0 : Int) (a1 : Int) (A2 : Option Addr) (c2 : Nat) (l2 : List (S86)) (r : Bool) (w : World) (hr2 : Kd.C k86 w A2 l2.length l2) (hc2 : l2.length ≤ c2) (h : juntolaw04_ShareSecrets.f k a0 a1 l2 = some r) (hrt : r = true := by rfl) :
  Calls Try.prog 34 #[.int .u64 a0, .int .i64 a1, .slice A2 l2.length c2] w fun e w' => e = .returned (.bool r) ∧ Below w.heap.size w w' := by
 have HRT := Aside0.mk hrt
 clear hrt
 have HR2 := Aside0.mk hr2
 have HC2 := Aside0.mk hc2
 clear hr2 hc2
 have HB := Aside0.mk (Below.refl w.heap.size w)
 have H : ((share_Secret.f k a0 a1 l2).bind fun bt1841 => ((juntoref01_Is.f k a0).bind fun t1843 => (if t1843 = true then (if a1 < 0 then (juntolaw04_ShareSecrets.j0 k a0 a1 l2 bt1841.1 bt1841.2 true) else (juntolaw04_ShareSecrets.j0 k a0 a1 l2 bt1841.1 bt1841.2 (decide (a1 > 200)))) else (juntolaw04_ShareSecrets.j0 k a0 a1 l2 bt1841.1 bt1841.2 true)))) = some r := h
 clear h
 replace H := Option.bind_eq_some_iff.mp H
 obtain ⟨⟨t1841, t1842⟩, A40, H⟩ := H
 replace H : ((juntoref01_Is.f k a0).bind fun t1843 => (if t1843 = true then (if a1 < 0 then (juntolaw04_ShareSecrets.j0 k a0 a1 l2 t1841 t1842 true) else (juntolaw04_ShareSecrets.j0 k a0 a1 l2 t1841 t1842 (decide (a1 > 200)))) else (juntolaw04_ShareSecrets.j0 k a0 a1 l2 t1841 t1842 true))) = some r := H
 have A4 := Aside0.mk A40
 clear A40
 have HC5 := Aside0.mk H
 clear H
 go_enter Try.func34, Try.ntmps34
 go_upto_region 3 with (first | ((with_reducible refine gate_callee (f := 119) rfl ?_); refine goesL_ (some 16) rfl rfl Try.func119 (by kernel_rfl) rfl #[.int .u64 a0, .int .i64 a1, .slice A2 l2.length c2] rfl (by (try simp only [List.map_toArray, List.map_cons, List.map_nil]); first | done | rfl | (simp only [List.length_drop, List.length_take]; rfl)) ?_; (with_reducible refine (share_Secret.calls k a0 a1 _ _ l2 t1841 t1842 _ ?side1 ?side2 A4.out).mono ?_); (case side1 => repeat (first | exact HR2.out | (with_reducible refine Kd.C_alloc ?_ _) | (with_reducible refine Kd.C_drewN ?_ _) | (with_reducible refine Kd.C_drew ?_))); (case side2 => exact HC2.out); rintro e w6 ⟨rfl, hb⟩; refine ⟨_, rfl, ?_⟩; have n0_ := Aside0.mk (below_step (by repeat (first | (with_reducible first | exact HB.out | apply below_alloc | apply pw_below_drewN | apply below_drew1) | exact HB.out)) hb); clear HB; have HB := n0_; clear n0_; (try clear hb); (try clear hb2); (try clear hk); (try clear hi)))
 (try simp only [Act.put, List.setIfInBounds_toArray, List.set_cons_zero, List.set_cons_succ])
 go_cut [29] (fun v29 wc => ∃ (kq : Nat) (x29_4 : Bool), v29 = .bool x29_4 ∧ Aside0 (juntolaw04_ShareSecrets.j0 kq a0 a1 l2 t1841 t1842 x29_4 = some r) ∧ Aside0 (kq ≤ k) ∧ Aside0 (Below w.heap.size w wc))
 case first =>
  have H := HC5.out
  clear HC5
  replace H := Option.bind_eq_some_iff.mp H
  obtain ⟨t1843, A70, H⟩ := H
  replace H : (if t1843 = true then (if a1 < 0 then (juntolaw04_ShareSecrets.j0 k a0 a1 l2 t1841 t1842 true) else (juntolaw04_ShareSecrets.j0 k a0 a1 l2 t1841 t1842 (decide (a1 > 200)))) else (juntolaw04_ShareSecrets.j0 k a0 a1 l2 t1841 t1842 true)) = some r := H
  have A7 := Aside0.mk A70
  clear A70
  by_cases c8 : t1843 = true
  ·subst c8
   have H1 : (if a1 < 0 then (juntolaw04_ShareSecrets.j0 k a0 a1 l2 t1841 t1842 true) else (juntolaw04_ShareSecrets.j0 k a0 a1 l2 t1841 t1842 (decide (a1 > 200)))) = some r := by rw [if_pos rfl] at H; exact H
   clear H
   have H := H1
   clear H1
   by_cases c9 : a1 < 0
   ·rw [if_pos c9] at H
    have c9b0 : decide (a1 < 0) = true := decide_eq_true c9
    clear c9
    (first | rw [c9b0] | (simp only [i64_w, i32_w]; rw [c9b0]) | skip)
    have H' := Aside0.mk H
    clear H
    go_wp2_with (first | ((with_reducible refine gate_callee (f := 120) rfl ?_); refine goesL_ (some 20) rfl rfl Try.func120 (by kernel_rfl) rfl #[.int .u64 a0] rfl (by (try simp only [List.map_toArray, List.map_cons, List.map_nil]); first | done | rfl | (simp only [List.length_drop, List.length_take]; rfl)) ?_; (with_reducible refine (juntoref01_Is.calls k a0 true _ A7.out).mono ?_); rintro e w' ⟨rfl, ⟨nd, rfl⟩⟩; refine ⟨_, rfl, ?_⟩))
    go_meet
    case rel => exact ⟨_, (true), (by first | rfl | (simp; done) | (simp [*]; done)), H', ⟨by first | omega | exact Nat.le_refl _⟩, ⟨by repeat (first | (with_reducible first | exact HB.out | apply below_alloc | apply pw_below_drewN | apply below_drew1) | exact HB.out)⟩⟩
   ·rw [if_neg c9] at H
    have c9b0 : decide (a1 < 0) = false := decide_eq_false c9
    clear c9
    (first | rw [c9b0] | (simp only [i64_w, i32_w]; rw [c9b0]) | skip)
    have H' := Aside0.mk H
    clear H
    go_wp2_with (first | ((with_reducible refine gate_callee (f := 120) rfl ?_); refine goesL_ (some 20) rfl rfl Try.func120 (by kernel_rfl) rfl #[.int .u64 a0] rfl (by (try simp only [List.map_toArray, List.map_cons, List.map_nil]); first | done | rfl | (simp only [List.length_drop, List.length_take]; rfl)) ?_; (with_reducible refine (juntoref01_Is.calls k a0 true _ A7.out).mono ?_); rintro e w' ⟨rfl, ⟨nd, rfl⟩⟩; refine ⟨_, rfl, ?_⟩))
    go_meet
    case rel => exact ⟨_, (decide (a1 > 200)), (by first | rfl | (simp; done) | (simp [*]; done)), H', ⟨by first | omega | exact Nat.le_refl _⟩, ⟨by repeat (first | (with_reducible first | exact HB.out | apply below_alloc | apply pw_below_drewN | apply below_drew1) | exact HB.out)⟩⟩
  ·replace c8 := Bool.eq_false_iff.mpr c8
   subst c8
   have H1 : (juntolaw04_ShareSecrets.j0 k a0 a1 l2 t1841 t1842 true) = some r := by rw [if_neg (show ¬ (false = true) by decide)] at H; exact H
   clear H
   have H := H1
   clear H1
   have H' := Aside0.mk H
   clear H
   go_wp2_with (first | ((with_reducible refine gate_callee (f := 120) rfl ?_); refine goesL_ (some 20) rfl rfl Try.func120 (by kernel_rfl) rfl #[.int .u64 a0] rfl (by (try simp only [List.map_toArray, List.map_cons, List.map_nil]); first | done | rfl | (simp only [List.length_drop, List.length_take]; rfl)) ?_; (with_reducible refine (juntoref01_Is.calls k a0 false _ A7.out).mono ?_); rintro e w' ⟨rfl, ⟨nd, rfl⟩⟩; refine ⟨_, rfl, ?_⟩))
   go_meet
   case rel => exact ⟨_, (true), (by first | rfl | (simp; done) | (simp [*]; done)), H', ⟨by first | omega | exact Nat.le_refl _⟩, ⟨by repeat (first | (with_reducible first | exact HB.out | apply below_alloc | apply pw_below_drewN | apply below_drew1) | exact HB.out)⟩⟩
 case rest =>
  clear HC5
  try clear c1
  try clear c2
  try clear p2
  try clear c3
  try clear c8
  try clear c9
  try clear c9b0
  obtain ⟨kq, x29_4, rfl, HA, HJ4, HB⟩ := hcut
  cases kq with
  | zero => exact absurd HA.out (by simp [juntolaw04_ShareSecrets.j0])
  | succ kj4 =>
   have H := HA.out
   clear HA
   simp only [juntolaw04_ShareSecrets.j0] at H
   have HC10 := Aside0.mk H
   clear H
   go_upto_if 29 with (fail)
   go_cut [9] (fun v9 wc => ∃ (kq : Nat) (x9_9 : Int), v9 = .int .i64 x9_9 ∧ Aside0 (juntolaw04_ShareSecrets.j1 kq a0 a1 l2 t1841 t1842 x9_9 = some r) ∧ Aside0 (kq ≤ kj4) ∧ Aside0 (Below w.heap.size w wc))
   case first =>
    have H := HC10.out
    clear HC10
    by_cases c11 : x29_4 = true
    ·subst c11
     have H1 : (juntolaw04_ShareSecrets.j1 kj4 a0 a1 l2 t1841 t1842 2) = some r := by rw [if_pos rfl] at H; exact H
     clear H
     have H := H1
     clear H1
     have H' := Aside0.mk H
     clear H
     go_wp2
     go_meet
     case rel => exact ⟨_, (2), (by first | rfl | (simp; done) | (simp [*]; done)), H', ⟨by have := HJ4.out; first | omega | exact Nat.le_refl _⟩, ⟨by repeat (first | (with_reducible first | exact HB.out | apply below_alloc | apply pw_below_drewN | apply below_drew1) | exact HB.out)⟩⟩
    ·replace c11 := Bool.eq_false_iff.mpr c11
     subst c11
     have H1 : ((juntoref02_Points.f kj4 a0 l2 201).bind fun t1844 => (juntolaw04_ShareSecrets.j1 kj4 a0 a1 l2 t1841 t1842 t1844)) = some r := by rw [if_neg (show ¬ (false = true) by decide)] at H; exact H
     clear H
     have H := H1
     clear H1
     replace H := Option.bind_eq_some_iff.mp H
     obtain ⟨t1844, A120, H⟩ := H
     replace H : (juntolaw04_ShareSecrets.j1 kj4 a0 a1 l2 t1841 t1842 t1844) = some r := H
     have A12 := Aside0.mk A120
     clear A120
     have H' := Aside0.mk H
     clear H
     go_wp2_with (first | ((with_reducible refine gate_callee (f := 93) rfl ?_); refine goesL_ (some 32) rfl rfl Try.func93 (by kernel_rfl) rfl #[.int .u64 a0, .slice A2 l2.length c2, .int .i64 201] rfl (by (try simp only [List.map_toArray, List.map_cons, List.map_nil]); first | done | rfl | (simp only [List.length_drop, List.length_take]; rfl)) ?_; (with_reducible refine (juntoref02_Points.calls kj4 a0 _ _ l2 201 t1844 _ ?side1 ?side2 A12.out).mono ?_); (case side1 => repeat (first | exact (Kd.C_below HR2.out HB.out) | (with_reducible refine Kd.C_alloc ?_ _) | (with_reducible refine Kd.C_drewN ?_ _) | (with_reducible refine Kd.C_drew ?_))); (case side2 => exact HC2.out); rintro e w13 ⟨rfl, hb⟩; refine ⟨_, rfl, ?_⟩; have n0_ := Aside0.mk (below_step (by repeat (first | (with_reducible first | exact HB.out | apply below_alloc | apply pw_below_drewN | apply below_drew1) | exact HB.out)) hb); clear HB; have HB := n0_; clear n0_; (try clear hb); (try clear hb2); (try clear hk); (try clear hi)))
     go_meet
     case rel => exact ⟨_, (t1844), (by first | rfl | (simp; done) | (simp [*]; done)), H', ⟨by have := HJ4.out; first | omega | exact Nat.le_refl _⟩, ⟨by repeat (first | (with_reducible first | exact HB.out | apply below_alloc | apply pw_below_drewN | apply below_drew1) | exact HB.out)⟩⟩
   case rest =>
    clear HC10
    try clear c1
    try clear c2
    try clear p2
    try clear c3
    try clear c8
    try clear c9
    try clear c9b0
    try clear c11
    try clear c12
    try clear p2
    obtain ⟨kq, x9_9, rfl, HA, HJ9, HB⟩ := hcut
    cases kq with
    | zero => exact absurd HA.out (by simp [juntolaw04_ShareSecrets.j1])
    | succ kj9 =>
     have H := HA.out
     clear HA
     simp only [juntolaw04_ShareSecrets.j1] at H
     have HC14 := Aside0.mk H
     clear H
     go_upto_region 6 with (fail)
     go_cut [41] (fun v41 wc => ∃ (kq : Nat) (x41_13 : Bool), v41 = .bool x41_13 ∧ Aside0 (juntolaw04_ShareSecrets.j2 kq a0 a1 l2 t1841 t1842 x9_9 x41_13 = some r) ∧ Aside0 (kq ≤ kj9) ∧ Aside0 (Below w.heap.size w wc))
     case first =>
      have H := HC14.out
      clear HC14
      by_cases c15 : x9_9 = 0
      ·rw [if_pos c15] at H
       have c15b0 : (x9_9 == 0) = true := beq_iff_eq.mpr c15
       have c15b1 : (x9_9 != 0) = false := bne_eq_false_iff_eq.mpr c15
       clear c15
       (first | rw [c15b0] | (simp only [i64_w, i32_w]; rw [c15b0]) | skip)
       have H' := Aside0.mk H
       clear H
       go_wp2
       go_meet
       case rel => exact ⟨_, (decide ((l2.length : Int) < (wrap64 (a1 + 1)))), (by first | rfl | (simp; done) | (simp [*]; done)), H', ⟨by have := HJ4.out; have := HJ9.out; first | omega | exact Nat.le_refl _⟩, ⟨by repeat (first | (with_reducible first | exact HB.out | apply below_alloc | apply pw_below_drewN | apply below_drew1) | exact HB.out)⟩⟩
      ·rw [if_neg c15] at H
       have c15b0 : (x9_9 == 0) = false := beq_eq_false_iff_ne.mpr c15
       have c15b1 : (x9_9 != 0) = true := bne_iff_ne.mpr c15
       (first | rw [c15b0] | (simp only [i64_w, i32_w]; rw [c15b0]) | skip)
       have H' := Aside0.mk H
       clear H
       go_wp2
       go_meet
       case rel => exact ⟨_, (false), (by first | rfl | (simp; done) | (simp [*]; done)), H', ⟨by have := HJ4.out; have := HJ9.out; first | omega | exact Nat.le_refl _⟩, ⟨by repeat (first | (with_reducible first | exact HB.out | apply below_alloc | apply pw_below_drewN | apply below_drew1) | exact HB.out)⟩⟩
     case rest =>
      clear HC14
      try clear c1
      try clear c2
      try clear p2
      try clear c3
      try clear p6
      try clear c8
      try clear c9
      try clear c9b0
      try clear c11
      try clear c12
      try clear c15
      try clear c15b0
      try clear c15b1
      try clear p2
      obtain ⟨kq, x41_13, rfl, HA, HJ13, HB⟩ := hcut
      cases kq with
      | zero => exact absurd HA.out (by simp [juntolaw04_ShareSecrets.j2])
      | succ kj13 =>
       have H := HA.out
       clear HA
       simp only [juntolaw04_ShareSecrets.j2] at H
       have HC16 := Aside0.mk H
       clear H
       go_upto_if 41 with (fail)
       go_cut [9] (fun v9 wc => ∃ (kq : Nat) (x9_15 : Int), v9 = .int .i64 x9_15 ∧ Aside0 (juntolaw04_ShareSecrets.j3 kq a0 a1 l2 t1841 t1842 x9_15 = some r) ∧ Aside0 (kq ≤ kj13) ∧ Aside0 (Below w.heap.size w wc))
       case first =>
        have H := HC16.out
        clear HC16
        by_cases c17 : x41_13 = true
        ·subst c17
         have H1 : (juntolaw04_ShareSecrets.j3 kj13 a0 a1 l2 t1841 t1842 11) = some r := by rw [if_pos rfl] at H; exact H
         clear H
         have H := H1
         clear H1
         have H' := Aside0.mk H
         clear H
         go_wp2
         go_meet
         case rel => exact ⟨_, (11), (by first | rfl | (simp; done) | (simp [*]; done)), H', ⟨by have := HJ4.out; have := HJ9.out; have := HJ13.out; first | omega | exact Nat.le_refl _⟩, ⟨by repeat (first | (with_reducible first | exact HB.out | apply below_alloc | apply pw_below_drewN | apply below_drew1) | exact HB.out)⟩⟩
        ·replace c17 := Bool.eq_false_iff.mpr c17
         subst c17
         have H1 : (juntolaw04_ShareSecrets.j3 kj13 a0 a1 l2 t1841 t1842 x9_9) = some r := by rw [if_neg (show ¬ (false = true) by decide)] at H; exact H
         clear H
         have H := H1
         clear H1
         have H' := Aside0.mk H
         clear H
         go_wp2
         go_meet
         case rel => exact ⟨_, (x9_9), (by first | rfl | (simp; done) | (simp [*]; done)), H', ⟨by have := HJ4.out; have := HJ9.out; have := HJ13.out; first | omega | exact Nat.le_refl _⟩, ⟨by repeat (first | (with_reducible first | exact HB.out | apply below_alloc | apply pw_below_drewN | apply below_drew1) | exact HB.out)⟩⟩
       case rest =>
        clear HC16
        try clear c1
        try clear c2
        try clear p2
        try clear c3
        try clear p6
        try clear c8
        try clear c9
        try clear c9b0
        try clear c11
        try clear c12
        try clear c15
        try clear c15b0
        try clear c15b1
        try clear c17
        try clear p2
        try clear p6
        obtain ⟨kq, x9_15, rfl, HA, HJ15, HB⟩ := hcut
        cases kq with
        | zero => exact absurd HA.out (by simp [juntolaw04_ShareSecrets.j3])
        | succ kj15 =>
         have H := HA.out
         clear HA
         simp only [juntolaw04_ShareSecrets.j3] at H
         by_cases c18 : x9_15 = 0
         ·rw [if_pos c18] at H
          have c18b0 : (x9_15 == 0) = true := beq_iff_eq.mpr c18
          have c18b1 : (x9_15 != 0) = false := bne_eq_false_iff_eq.mpr c18
          clear c18
          replace H := Option.bind_eq_some_iff.mp H
          obtain ⟨⟨t1846, t1847⟩, A190, H⟩ := H
          replace H : (if t1847 = true then (if t1842 = 0 then ((juntoref02_Eval.f kj15 a0 t1846 0).bind fun t1850 => (some (t1841 == t1850))) else (some false)) else (if t1841 = 0 then (if t1842 = 12 then ((juntolaw04_alive.f kj15).bind fun t1851 => (some t1851)) else (some false)) else (some false))) = some r := H
          have A19 := Aside0.mk A190
          clear A190
          by_cases c20 : t1847 = true
          ·subst c20
           have H1 : (if t1842 = 0 then ((juntoref02_Eval.f kj15 a0 t1846 0).bind fun t1850 => (some (t1841 == t1850))) else (some false)) = some r := by rw [if_pos rfl] at H; exact H
           clear H
           have H := H1
           clear H1
           by_cases c21 : t1842 = 0
           ·rw [if_pos c21] at H
            have c21b0 : (t1842 == 0) = true := beq_iff_eq.mpr c21
            have c21b1 : (t1842 != 0) = false := bne_eq_false_iff_eq.mpr c21
            clear c21
            replace H := Option.bind_eq_some_iff.mp H
            obtain ⟨t1850, A220, H⟩ := H
            replace H : (some (t1841 == t1850)) = some r := H
            have A22 := Aside0.mk A220
            clear A220
            obtain rfl := Option.some.inj H
            go_wp2_with (first | ((with_reducible refine gate_callee (f := 84) rfl ?_); refine goesL_ (some 58) rfl rfl Try.func84 (by kernel_rfl) rfl #[.int .u64 a0, .int .i64 a1, .slice A2 l2.length c2] rfl (by (try simp only [List.map_toArray, List.map_cons, List.map_nil]); first | done | rfl | (simp only [List.length_drop, List.length_take]; rfl)) ?_; (with_reducible refine (juntoref04_Line.calls kj15 a0 a1 _ _ l2 t1846 true _ ?side1 ?side2 A19.out).mono ?_); (case side1 => repeat (first | exact (Kd.C_below HR2.out HB.out) | (with_reducible refine Kd.C_alloc ?_ _) | (with_reducible refine Kd.C_drewN ?_ _) | (with_reducible refine Kd.C_drew ?_))); (case side2 => exact HC2.out); rintro e w23 ⟨v1848, rfl, ho0, hb⟩; refine ⟨_, rfl, ?_⟩; have n0_ := Aside0.mk (Kd.R_lower ho0 (below_size (by repeat (first | (with_reducible first | exact HB.out | apply below_alloc | apply pw_below_drewN | apply below_drew1) | exact HB.out)))); have n1_ := Aside0.mk (below_step (by repeat (first | (with_reducible first | exact HB.out | apply below_alloc | apply pw_below_drewN | apply below_drew1) | exact HB.out)) hb); clear HB; have HO1849 := n0_; have HB := n1_; clear n0_ n1_; (try clear hb); (try clear hb2); (try clear hk); (try clear hi); (try clear ho0); obtain ⟨Ao24, co24, eo24⟩ := Kd.R_slice HO1849.out; subst eo24) | (go_at_call 58; (with_reducible refine (juntoref02_Eval.calls kj15 a0 _ _ t1846 0 t1850 _ ?side1 ?side2 A22.out).mono ?_); (case side1 => repeat (first | exact (Kd.R_reads' HO1849.out).2.2 | (with_reducible refine Kd.C_alloc ?_ _) | (with_reducible refine Kd.C_drewN ?_ _) | (with_reducible refine Kd.C_drew ?_))); (case side2 => exact (Kd.R_reads' HO1849.out).2.1); rintro e w' ⟨rfl, ⟨nd, rfl⟩⟩))
            go_ret
            exact ⟨by first | rfl | (simp [errW_none, errW_some] <;> rfl) | (simp [*, errW_none, errW_some] <;> rfl), by repeat (first | (with_reducible first | exact HB.out | apply below_alloc | apply pw_below_drewN | apply below_drew1) | exact HB.out)⟩
           ·rw [if_neg c21] at H
            have c21b0 : (t1842 == 0) = false := beq_eq_false_iff_ne.mpr c21
            have c21b1 : (t1842 != 0) = true := bne_iff_ne.mpr c21
            exact absurd ((Option.some.inj H).trans HRT.out) (by decide)
          ·replace c20 := Bool.eq_false_iff.mpr c20
           subst c20
           have H1 : (if t1841 = 0 then (if t1842 = 12 then ((juntolaw04_alive.f kj15).bind fun t1851 => (some t1851)) else (some false)) else (some false)) = some r := by rw [if_neg (show ¬ (false = true) by decide)] at H; exact H
           clear H
           have H := H1
           clear H1
           by_cases c25 : t1841 = 0
           ·rw [if_pos c25] at H
            have c25b0 : (t1841 == 0) = true := beq_iff_eq.mpr c25
            have c25b1 : (t1841 != 0) = false := bne_eq_false_iff_eq.mpr c25
            clear c25
            by_cases c26 : t1842 = 12
            ·rw [if_pos c26] at H
             have c26b0 : (t1842 == 12) = true := beq_iff_eq.mpr c26
             have c26b1 : (t1842 != 12) = false := bne_eq_false_iff_eq.mpr c26
             clear c26
             replace H := Option.bind_eq_some_iff.mp H
             obtain ⟨t1851, A270, H⟩ := H
             replace H : (some t1851) = some r := H
             have A27 := Aside0.mk A270
             clear A270
             obtain rfl := Option.some.inj H
             go_wp2_with (first | ((with_reducible refine gate_callee (f := 84) rfl ?_); refine goesL_ (some 58) rfl rfl Try.func84 (by kernel_rfl) rfl #[.int .u64 a0, .int .i64 a1, .slice A2 l2.length c2] rfl (by (try simp only [List.map_toArray, List.map_cons, List.map_nil]); first | done | rfl | (simp only [List.length_drop, List.length_take]; rfl)) ?_; (with_reducible refine (juntoref04_Line.calls kj15 a0 a1 _ _ l2 t1846 false _ ?side1 ?side2 A19.out).mono ?_); (case side1 => repeat (first | exact (Kd.C_below HR2.out HB.out) | (with_reducible refine Kd.C_alloc ?_ _) | (with_reducible refine Kd.C_drewN ?_ _) | (with_reducible refine Kd.C_drew ?_))); (case side2 => exact HC2.out); rintro e w28 ⟨v1848, rfl, ho0, hb⟩; refine ⟨_, rfl, ?_⟩; have n0_ := Aside0.mk (Kd.R_lower ho0 (below_size (by repeat (first | (with_reducible first | exact HB.out | apply below_alloc | apply pw_below_drewN | apply below_drew1) | exact HB.out)))); have n1_ := Aside0.mk (below_step (by repeat (first | (with_reducible first | exact HB.out | apply below_alloc | apply pw_below_drewN | apply below_drew1) | exact HB.out)) hb); clear HB; have HO1849 := n0_; have HB := n1_; clear n0_ n1_; (try clear hb); (try clear hb2); (try clear hk); (try clear hi); (try clear ho0)) | (go_at_call 67; (with_reducible refine (juntolaw04_alive.calls kj15  t1851 _ A27.out (by first | rfl | exact HRT.out)).mono ?_); rintro e w29 ⟨rfl, hb⟩; have n0_ := Aside0.mk (Kd.R_below (by (with_reducible repeat (first | apply Kd.R_alloc | apply Kd.R_drewN | apply Kd.R_drew)); exact HO1849.out) hb); have n1_ := Aside0.mk (below_step (by repeat (first | (with_reducible first | exact HB.out | apply below_alloc | apply pw_below_drewN | apply below_drew1) | exact HB.out)) hb); clear HO1849; clear HB; have HO1849 := n0_; have HB := n1_; clear n0_ n1_; (try clear hb); (try clear hb2); (try clear hk); (try clear hi)))
             go_ret
             exact ⟨by first | rfl | (simp [errW_none, errW_some] <;> rfl) | (simp [*, errW_none, errW_some] <;> rfl), by repeat (first | (with_reducible first | exact HB.out | apply below_alloc | apply pw_below_drewN | apply below_drew1) | exact HB.out)⟩
            ·rw [if_neg c26] at H
             have c26b0 : (t1842 == 12) = false := beq_eq_false_iff_ne.mpr c26
             have c26b1 : (t1842 != 12) = true := bne_iff_ne.mpr c26
             exact absurd ((Option.some.inj H).trans HRT.out) (by decide)
           ·rw [if_neg c25] at H
            have c25b0 : (t1841 == 0) = false := beq_eq_false_iff_ne.mpr c25
            have c25b1 : (t1841 != 0) = true := bne_iff_ne.mpr c25
            exact absurd ((Option.some.inj H).trans HRT.out) (by decide)
         ·rw [if_neg c18] at H
          have c18b0 : (x9_15 == 0) = false := beq_eq_false_iff_ne.mpr c18
          have c18b1 : (x9_15 != 0) = true := bne_iff_ne.mpr c18
          by_cases c30 : t1841 = 0
          ·rw [if_pos c30] at H
           have c30b0 : (t1841 == 0) = true := beq_iff_eq.mpr c30
           have c30b1 : (t1841 != 0) = false := bne_eq_false_iff_eq.mpr c30
           clear c30
           by_cases c31 : t1842 = x9_15
           ·rw [if_pos c31] at H
            have c31b0 : (t1842 == x9_15) = true := beq_iff_eq.mpr c31
            have c31b1 : (t1842 != x9_15) = false := bne_eq_false_iff_eq.mpr c31
            clear c31
            replace H := Option.bind_eq_some_iff.mp H
            obtain ⟨t1845, A320, H⟩ := H
            replace H : (some t1845) = some r := H
            have A32 := Aside0.mk A320
            clear A320
            obtain rfl := Option.some.inj H
            go_wp2_with (first | (go_at_call 67; (with_reducible refine (juntolaw04_alive.calls kj15  t1845 _ A32.out (by first | rfl | exact HRT.out)).mono ?_); rintro e w33 ⟨rfl, hb⟩; have n0_ := Aside0.mk (below_step (by repeat (first | (with_reducible first | exact HB.out | apply below_alloc | apply pw_below_drewN | apply below_drew1) | exact HB.out)) hb); clear HB; have HB := n0_; clear n0_; (try clear hb); (try clear hb2); (try clear hk); (try clear hi)))
            go_ret
            exact ⟨by first | rfl | (simp [errW_none, errW_some] <;> rfl) | (simp [*, errW_none, errW_some] <;> rfl), by repeat (first | (with_reducible first | exact HB.out | apply below_alloc | apply pw_below_drewN | apply below_drew1) | exact HB.out)⟩
           ·rw [if_neg c31] at H
            have c31b0 : (t1842 == x9_15) = false := beq_eq_false_iff_ne.mpr c31
            have c31b1 : (t1842 != x9_15) = true := bne_iff_ne.mpr c31
            exact absurd ((Option.some.inj H).trans HRT.out) (by decide)
          ·rw [if_neg c30] at H
           have c30b0 : (t1841 == 0) = false := beq_eq_false_iff_ne.mpr c30
           have c30b1 : (t1841 != 0) = true := bne_iff_ne.mpr c30
           exact absurd ((Option.some.inj H).trans HRT.out) (by decide)

-- NOT PRINTED: function 35 (juntolaw04_ShareBack)

end Go.Proofs.Ytjjnfobeeflnhaa.J

/- Whether no two numbers of a row are alike: the program's sort and compaction, and the reference's search, tell the same. -/
namespace Go.Proofs.Ytjjnfobeeflnhaa.L
open Go.RowKit Go.Proofs.YtjjnfobeeflnhaaW.PrintWords Go.Proofs.Ytjjnfobeeflnhaa.J
set_option linter.unusedVariables false
set_option linter.unusedSimpArgs false

theorem unlike_at (l : List Int) (hl : l.length < 17592186044416) : Ev (fun k => poly_unlike.f k l) (decide l.Nodup) := by
  refine Ev.congr (fun k => ?_) (Ev.now _)
  unfold poly_unlike.f
  rw [if_pos hl]

/-- An elder place, from j on, holds what place i holds. -/
def tIn (l : List Int) (i j : Nat) : Bool := (List.range i).any fun b => decide (j ≤ b) && decide (l.getD i 0 = l.getD b 0)
/-- From place i on some place has an elder one alike. -/
def tAll (l : List Int) (i : Nat) : Bool := (List.range l.length).any fun a => decide (i ≤ a) && tIn l a 0
theorem tIn_iff (l : List Int) (i j : Nat) : tIn l i j = true ↔ ∃ b, b < i ∧ j ≤ b ∧ l.getD i 0 = l.getD b 0 := by
  unfold tIn
  simp only [List.any_eq_true, List.mem_range, Bool.and_eq_true, decide_eq_true_eq]
theorem tAll_iff (l : List Int) (i : Nat) : tAll l i = true ↔ ∃ a, a < l.length ∧ i ≤ a ∧ tIn l a 0 = true := by
  unfold tAll
  simp only [List.any_eq_true, List.mem_range, Bool.and_eq_true, decide_eq_true_eq]
theorem tIn_step (l : List Int) (i j : Nat) (h : j < i) : tIn l i j = (decide (l.getD i 0 = l.getD j 0) || tIn l i (j + 1)) := by
  rw [Bool.eq_iff_iff, Bool.or_eq_true, tIn_iff, tIn_iff, decide_eq_true_eq]
  constructor
  · rintro ⟨b, h1, h2, h3⟩
    by_cases e : b = j
    · subst e; exact .inl h3
    · exact .inr ⟨b, h1, by omega, h3⟩
  · rintro (h3 | ⟨b, h1, h2, h3⟩)
    · exact ⟨j, h, Nat.le_refl _, h3⟩
    · exact ⟨b, h1, by omega, h3⟩
theorem tIn_end (l : List Int) (i j : Nat) (h : i ≤ j) : tIn l i j = false := by
  rw [Bool.eq_false_iff]
  intro e
  obtain ⟨b, h1, h2, _⟩ := (tIn_iff l i j).1 e
  omega
theorem tAll_step (l : List Int) (i : Nat) (h : i < l.length) : tAll l i = (tIn l i 0 || tAll l (i + 1)) := by
  rw [Bool.eq_iff_iff, Bool.or_eq_true, tAll_iff, tAll_iff]
  constructor
  · rintro ⟨a, h1, h2, h3⟩
    by_cases e : a = i
    · subst e; exact .inl h3
    · exact .inr ⟨a, h1, by omega, h3⟩
  · rintro (h3 | ⟨a, h1, h2, h3⟩)
    · exact ⟨i, h, Nat.le_refl _, h3⟩
    · exact ⟨a, h1, by omega, h3⟩
theorem tAll_end (l : List Int) (i : Nat) (h : l.length ≤ i) : tAll l i = false := by
  rw [Bool.eq_false_iff]
  intro e
  obtain ⟨a, h1, h2, _⟩ := (tAll_iff l i).1 e
  omega
theorem tAll_zero (l : List Int) : tAll l 0 = !decide l.Nodup := by
  rw [Bool.eq_iff_iff, tAll_iff, Bool.not_eq_true', decide_eq_false_iff_not]
  constructor
  · rintro ⟨a, h1, _, h3⟩ hn
    obtain ⟨b, h4, _, h5⟩ := (tIn_iff l a 0).1 h3
    have := List.pairwise_iff_getElem.1 hn b a (by omega) h1 h4
    simp only [List.getD_eq_getElem?_getD, List.getElem?_eq_getElem h1, List.getElem?_eq_getElem (show b < l.length by omega), Option.getD_some] at h5
    exact this h5.symm
  · intro hn
    apply Classical.byContradiction
    intro hc
    refine hn (List.pairwise_iff_getElem.2 fun i j hi hj hij e => hc ⟨j, hj, Nat.zero_le _, (tIn_iff l j 0).2 ⟨i, hij, Nat.zero_le _, ?_⟩⟩)
    simp only [List.getD_eq_getElem?_getD, List.getElem?_eq_getElem hj, List.getElem?_eq_getElem hi, Option.getD_some]
    exact e.symm
theorem twice_inner (l : List Int) (hl : l.length ≤ 17592186044416) (i : Nat) (hi : i < l.length) (next : Ev (fun k => juntoref02_Twice.l0 k l (l.length : Int) ((i + 1 : Nat) : Int)) (tAll l (i + 1))) (m : Nat) : ∀ j : Nat, j + m = i →
    Ev (fun k => juntoref02_Twice.l1 k l (i : Int) (j : Int) (l.length : Int) (i : Int)) (tIn l i j || tAll l (i + 1)) := by
  induction m with
  | zero =>
    intro j hj
    have hw : wrap64 ((i : Int) + 1) = ((i + 1 : Nat) : Int) := by rw [w64_small (by omega) (by omega)]; omega
    rw [tIn_end l i j (by omega), Bool.false_or]
    refine Ev.step (f := fun k => juntoref02_Twice.l0 k l (l.length : Int) ((i + 1 : Nat) : Int)) (fun k => ?_) next
    simp only [juntoref02_Twice.l1]
    rw [if_neg (by omega), hw]
  | succ m ih =>
    intro j hj
    have hw : wrap64 ((j : Int) + 1) = ((j + 1 : Nat) : Int) := by rw [w64_small (by omega) (by omega)]; omega
    rw [tIn_step l i j (by omega)]
    by_cases e : l.getD i 0 = l.getD j 0
    · rw [decide_eq_true e, Bool.true_or, Bool.true_or]
      refine Ev.step (f := fun k => some true) (fun k => ?_) (Ev.now _)
      conv => lhs; simp only [juntoref02_Twice.l1]
      rw [if_pos (by omega), if_pos (by omega), if_pos (by omega), if_pos (by omega), if_pos (by omega), rd_getD, rd_getD, if_pos e]
    · rw [decide_eq_false e, Bool.false_or]
      refine Ev.step (f := fun k => juntoref02_Twice.l1 k l (i : Int) ((j + 1 : Nat) : Int) (l.length : Int) (i : Int)) (fun k => ?_) (ih (j + 1) (by omega))
      conv => lhs; simp only [juntoref02_Twice.l1]
      rw [if_pos (by omega), if_pos (by omega), if_pos (by omega), if_pos (by omega), if_pos (by omega), rd_getD, rd_getD, if_neg e, hw]
theorem twice_outer (l : List Int) (hl : l.length ≤ 17592186044416) (m : Nat) : ∀ i : Nat, i + m = l.length → Ev (fun k => juntoref02_Twice.l0 k l (l.length : Int) (i : Int)) (tAll l i) := by
  induction m with
  | zero =>
    intro i hi
    rw [tAll_end l i (by omega)]
    refine Ev.step (f := fun k => some false) (fun k => ?_) (Ev.now _)
    simp only [juntoref02_Twice.l0]
    rw [if_neg (by omega)]
  | succ m ih =>
    intro i hi
    rw [tAll_step l i (by omega)]
    refine Ev.step (f := fun k => juntoref02_Twice.l1 k l (i : Int) ((0 : Nat) : Int) (l.length : Int) (i : Int)) (fun k => ?_) (twice_inner l hl i (by omega) (ih (i + 1) (by omega)) i 0 (by omega))
    conv => lhs; simp only [juntoref02_Twice.l0]
    rw [if_pos (by omega)]
    rfl
theorem twice_at (l : List Int) (hl : l.length ≤ 17592186044416) : Ev (fun k => juntoref02_Twice.f k l) (!decide l.Nodup) := by
  have h := twice_outer l hl l.length 0 (by omega)
  rw [tAll_zero] at h
  exact h

end Go.Proofs.Ytjjnfobeeflnhaa.L

/- The polynomial through points: what the program's call answers, and the reference's test of points. -/
namespace Go.Proofs.Ytjjnfobeeflnhaa.L
open Go.RowKit Go.Proofs.YtjjnfobeeflnhaaW.PrintWords Go.Proofs.Ytjjnfobeeflnhaa.J
set_option linter.unusedVariables false
set_option linter.unusedSimpArgs false

/-- What is wrong with points. -/
def pointsV (p : Int) (l : List S86) : Int := if ∀ x ∈ l, x.f0 < p ∧ x.f1 < p then (if (l.map (·.f0)).Nodup then 0 else 6) else 2
theorem rd_T86_at (l : List S86) (i : Nat) (h : i < l.length) : rd_T86 l (i : Int) = l[i] := by
  simp [rd_T86, List.getD_eq_getElem?_getD, h]
theorem belowV_pair (p a b : Int) : belowV p [a, b] = if a < p ∧ b < p then 0 else 2 := by
  unfold belowV
  simp
theorem pts_bad {p : Int} {l : List S86} {i : Nat} (hi : i < l.length) (h : ¬ (l[i].f0 < p ∧ l[i].f1 < p)) : pointsV p l = 2 := by
  unfold pointsV
  rw [if_neg fun hc => h (hc _ (List.getElem_mem hi))]
theorem thr_loop (p : Int) (l : List S86) (hl : l.length ≤ 1000) (G : List Int) (hG : pointsV p l = 0 → Ev (fun k => poly_Fit.f k p l) G) (m : Nat) : ∀ i : Nat, i + m = l.length → (∀ x ∈ l.take i, x.f0 < p ∧ x.f1 < p) →
    Ev (fun k => poly_Through.l0 k p l ((l.take i).map (·.f0)) l (l.length : Int) (i : Int)) (if pointsV p l = 0 then G else [], pointsV p l) := by
  induction m with
  | zero =>
    intro i hi h
    rw [List.take_of_length_le (by omega)] at h ⊢
    refine Ev.step (f := fun k => (poly_unlike.f k (l.map (·.f0))).bind fun t => if t = true then (poly_Fit.f k p l).bind fun u => some (u, 0) else some ([], 6)) (fun k => ?_) (Ev.bind (unlike_at _ (by rw [List.length_map]; omega)) ?_)
    · simp only [poly_Through.l0]
      rw [if_neg (by omega)]
    unfold pointsV at hG ⊢
    rw [if_pos h] at hG ⊢
    by_cases hn : (l.map (·.f0)).Nodup
    · rw [if_pos hn] at hG ⊢
      simp only [hn, decide_true, if_true]
      exact Ev.bind (hG rfl) (Ev.now _)
    · rw [if_neg hn]
      simp only [hn, decide_false, Bool.false_eq_true, if_false, show ¬ ((6 : Int) = 0) by decide]
      exact Ev.now _
  | succ m ih =>
    intro i hi h
    have hw : wrap64 ((i : Int) + 1) = ((i + 1 : Nat) : Int) := by rw [w64_small (by omega) (by omega)]; omega
    have hlt : i < l.length := by omega
    have hlen : ((l.take i).map (·.f0)).length = i := by rw [List.length_map, List.length_take]; omega
    have hb := field_below p [l[i].f0, l[i].f1] (by simp [maxLen])
    rw [belowV_pair] at hb
    refine Ev.step (f := fun k => (field_Below.f k p [l[i].f0, l[i].f1]).bind fun t => if t = 0 then poly_Through.l0 k p l ((l.take i).map (·.f0) ++ [l[i].f0]) l (l.length : Int) ((i + 1 : Nat) : Int) else some ([], t)) (fun k => ?_) (Ev.bind hb ?_)
    · conv => lhs; simp only [poly_Through.l0]
      rw [if_pos (by omega), if_pos (by omega), if_pos (by omega), rd_T86_at l i hlt, hw]
      simp only [show ((l.take i).map (·.f0)).length < 17592186044416 by omega, if_true]
    · by_cases hok : l[i].f0 < p ∧ l[i].f1 < p
      · simp only [hok, and_self, if_true]
        have e : (l.take i).map (·.f0) ++ [l[i].f0] = (l.take (i + 1)).map (·.f0) := by
          rw [List.take_succ_eq_append_getElem hlt, List.map_append]; rfl
        rw [e]
        refine ih (i + 1) (by omega) fun x hx => ?_
        rw [List.take_succ_eq_append_getElem hlt] at hx
        rcases List.mem_append.1 hx with hx | hx
        · exact h x hx
        · rw [List.mem_singleton.1 hx]; exact hok
      · rw [pts_bad hlt hok]
        simp only [hok, if_false, show ¬ ((2 : Int) = 0) by decide]
        exact Ev.now _
/-- What the program's call says is wrong. -/
def throughV (p : Int) (l : List S86) : Int := if isP p = true then (if (l.length : Int) > 201 then 3 else pointsV p l) else 2
theorem thr_prog (p : Int) (l : List S86) (G : List Int) (hG : throughV p l = 0 → Ev (fun k => poly_Fit.f k p l) G) : Ev (fun k => poly_Through.f k p l) (if throughV p l = 0 then G else [], throughV p l) := by
  unfold throughV at hG ⊢
  unfold poly_Through.f
  refine Ev.bind (field_is p) ?_
  by_cases hp : isP p = true
  · simp only [hp, if_true] at hG ⊢
    by_cases hb : (l.length : Int) > 201
    · simp only [hb, if_true, show ¬ ((3 : Int) = 0) by decide, if_false]
      exact Ev.now _
    · simp only [hb, if_false] at hG ⊢
      exact thr_loop p l (by omega) G hG l.length 0 (by omega) (fun x hx => by simp at hx)
  · simp only [hp, if_false, Bool.false_eq_true, show ¬ ((2 : Int) = 0) by decide]
    exact Ev.now _
theorem pts_loop (p : Int) (l : List S86) (hl : l.length ≤ 1000) (m : Nat) : ∀ i : Nat, i + m = l.length → (∀ x ∈ l.take i, x.f0 < p ∧ x.f1 < p) →
    Ev (fun k => juntoref02_Points.l0 k p ((l.take i).map (·.f0)) l (l.length : Int) (i : Int)) (pointsV p l) := by
  induction m with
  | zero =>
    intro i hi h
    rw [List.take_of_length_le (by omega)] at h ⊢
    refine Ev.step (f := fun k => (juntoref02_Twice.f k (l.map (·.f0))).bind fun t => if t = true then some 6 else some 0) (fun k => ?_) (Ev.bind (twice_at _ (by rw [List.length_map]; omega)) ?_)
    · simp only [juntoref02_Points.l0]
      rw [if_neg (by omega)]
    unfold pointsV
    rw [if_pos h]
    by_cases hn : (l.map (·.f0)).Nodup
    · rw [if_pos hn]
      simp only [hn, decide_true, Bool.not_true, Bool.false_eq_true, if_false]
      exact Ev.now _
    · rw [if_neg hn]
      simp only [hn, decide_false, Bool.not_false, if_true]
      exact Ev.now _
  | succ m ih =>
    intro i hi h
    have hw : wrap64 ((i : Int) + 1) = ((i + 1 : Nat) : Int) := by rw [w64_small (by omega) (by omega)]; omega
    have hlt : i < l.length := by omega
    have hlen : ((l.take i).map (·.f0)).length = i := by rw [List.length_map, List.length_take]; omega
    by_cases hok : l[i].f0 < p ∧ l[i].f1 < p
    · have e : (l.take i).map (·.f0) ++ [l[i].f0] = (l.take (i + 1)).map (·.f0) := by
        rw [List.take_succ_eq_append_getElem hlt, List.map_append]; rfl
      refine Ev.step (f := fun k => juntoref02_Points.l0 k p ((l.take (i + 1)).map (·.f0)) l (l.length : Int) ((i + 1 : Nat) : Int)) (fun k => ?_) (ih (i + 1) (by omega) fun x hx => ?_)
      · conv => lhs; simp only [juntoref02_Points.l0]
        rw [if_pos (by omega), if_pos (by omega), if_pos (by omega), rd_T86_at l i hlt, if_neg (by omega), if_neg (by omega), if_pos (by omega), hw, e]
      · rw [List.take_succ_eq_append_getElem hlt] at hx
        rcases List.mem_append.1 hx with hx | hx
        · exact h x hx
        · rw [List.mem_singleton.1 hx]; exact hok
    · rw [pts_bad hlt hok]
      refine Ev.step (f := fun k => some 2) (fun k => ?_) (Ev.now _)
      conv => lhs; simp only [juntoref02_Points.l0]
      rw [if_pos (by omega), if_pos (by omega), if_pos (by omega), rd_T86_at l i hlt]
      by_cases h0 : l[i].f0 ≥ p
      · rw [if_pos h0]
      · rw [if_neg h0, if_pos (by omega)]
theorem ref_ptsV (p : Int) (l : List S86) (most : Int) (hm : most ≤ 1000) : Ev (fun k => juntoref02_Points.f k p l most) (if (l.length : Int) > most then 3 else pointsV p l) := by
  unfold juntoref02_Points.f
  by_cases hb : (l.length : Int) > most
  · simp only [hb, if_true]
    exact Ev.now _
  · simp only [hb, if_false]
    exact pts_loop p l (by omega) l.length 0 (by omega) (fun x hx => by simp at hx)
section
variable {q : Nat} [NeZero q]
/-- Points that are right are points of residues. -/
theorem ptsF_of {l : List S86} (hu : ∀ x ∈ l, 0 ≤ x.f0 ∧ 0 ≤ x.f1) (h : pointsV (q : Int) l = 0) : ∃ X Y : Nat → Fin q, l = ptsF l.length X Y ∧ ∀ i j, i < l.length → j < l.length → X i = X j → i = j := by
  unfold pointsV at h
  have hall : ∀ x ∈ l, x.f0 < (q : Int) ∧ x.f1 < (q : Int) := by
    apply Classical.byContradiction
    intro hc
    rw [if_neg hc] at h
    cases h
  rw [if_pos hall] at h
  have hn : (l.map (·.f0)).Nodup := by
    apply Classical.byContradiction
    intro hc
    rw [if_neg hc] at h
    cases h
  have hX : ∀ i, i < l.length → ∃ a : Fin q × Fin q, l[i]? = some ⟨nI a.1, nI a.2⟩ := fun i hi => by
    have hm := List.getElem_mem hi
    obtain ⟨a, ha⟩ := nI_of (q := q) (hu _ hm).1 (hall _ hm).1
    obtain ⟨b, hb⟩ := nI_of (q := q) (hu _ hm).2 (hall _ hm).2
    refine ⟨(a, b), ?_⟩
    rw [List.getElem?_eq_getElem hi, ha, hb]
  have hF : ∀ i, ∃ a : Fin q × Fin q, i < l.length → l[i]? = some ⟨nI a.1, nI a.2⟩ := fun i => by
    by_cases hi : i < l.length
    · obtain ⟨a, ha⟩ := hX i hi
      exact ⟨a, fun _ => ha⟩
    · exact ⟨(0, 0), fun h => absurd h hi⟩
  obtain ⟨F, hF⟩ := Classical.axiomOfChoice hF
  refine ⟨fun i => (F i).1, fun i => (F i).2, ?_, ?_⟩
  · apply List.ext_getElem?
    intro i
    by_cases hi : i < l.length
    · rw [hF i hi]
      simp [ptsF, hi]
    · rw [List.getElem?_eq_none (by omega), List.getElem?_eq_none (by rw [ptsF_length]; omega)]
  · intro i j hi hj e
    apply Classical.byContradiction
    intro hne
    have key : ∀ a b, a < l.length → b < l.length → a < b → (F a).1 = (F b).1 → False := fun a b ha hb hab e => by
      have := List.pairwise_iff_getElem.1 hn a b (by rw [List.length_map]; exact ha) (by rw [List.length_map]; exact hb) hab
      rw [List.getElem_map, List.getElem_map] at this
      have ea := hF a ha
      have eb := hF b hb
      rw [List.getElem?_eq_getElem ha] at ea
      rw [List.getElem?_eq_getElem hb] at eb
      rw [Option.some.inj ea, Option.some.inj eb, e] at this
      exact this rfl
    rcases Nat.lt_or_gt_of_ne hne with h | h
    · exact key i j hi hj h e
    · exact key j i hj hi h e.symm
end

end Go.Proofs.Ytjjnfobeeflnhaa.L

/- The statement PolyThrough as plain Lean. -/
namespace Go.Proofs.Ytjjnfobeeflnhaa.L
open Go.RowKit Go.Proofs.YtjjnfobeeflnhaaW.PrintWords Go.Proofs.Ytjjnfobeeflnhaa.J
set_option linter.unusedVariables false
set_option linter.unusedSimpArgs false

theorem thr_ok {p : Int} {l : List S86} (h : throughV p l = 0) : isP p = true ∧ l.length ≤ 201 ∧ pointsV p l = 0 := by
  unfold throughV at h
  by_cases hp : isP p = true
  · rw [if_pos hp] at h
    by_cases hb : (l.length : Int) > 201
    · rw [if_pos hb] at h; cases h
    · rw [if_neg hb] at h
      exact ⟨hp, by omega, h⟩
  · rw [if_neg hp] at h; cases h
/-- What is right, and the polynomial that both tell. -/
theorem thr_rows {p : Int} {l : List S86} (hu : ∀ x ∈ l, 0 ≤ x.f0 ∧ 0 ≤ x.f1) (h : throughV p l = 0) : ∃ (q : Nat) (_ : NeZero q) (X Y : Nat → Fin q), p = (q : Int) ∧ l = ptsF l.length X Y ∧ 2 < q ∧ q ≤ 65537 ∧ Fld.Pr q ∧ l.length ≤ 201 ∧ (∀ i j, i < l.length → j < l.length → X i = X j → i = j) ∧
    Ev (fun k => poly_Through.f k p l) (oI (Fld.lg X Y l.length l.length), 0) ∧ Ev (fun k => juntoref02_Through.f k p l) (oI (Fld.lg X Y l.length l.length)) := by
  obtain ⟨hp, hl, hv⟩ := thr_ok h
  have h2 := (isP_iff p).1 hp
  obtain ⟨q, rfl⟩ : ∃ q : Nat, p = (q : Int) := ⟨p.toNat, by omega⟩
  have hz : NeZero q := ⟨by omega⟩
  obtain ⟨X, Y, e, hx⟩ := ptsF_of hu hv
  have hpr := pr_of_isP hp
  have g2 : 2 < q := by omega
  have g3 : q ≤ 65537 := by omega
  have gl : l.length ≤ 1000 := by omega
  have fit := fit_rows g2 g3 l.length gl X Y
  rw [Fld.hn_lg hpr X Y l.length hx, ← e] at fit
  have ref := through_rows g2 g3 l.length gl X Y
  rw [← e] at ref
  have prog := thr_prog (q : Int) l _ (fun _ => fit)
  rw [if_pos h, h] at prog
  exact ⟨q, hz, X, Y, rfl, e, g2, g3, hpr, hl, hx, prog, ref⟩
theorem thr_bad {p : Int} {l : List S86} (h : throughV p l ≠ 0) : Ev (fun k => poly_Through.f k p l) ([], throughV p l) := by
  have prog := thr_prog p l [] (fun e => absurd e h)
  rwa [if_neg h] at prog

end Go.Proofs.Ytjjnfobeeflnhaa.L

/- The statement ShareSecrets as plain Lean. -/
namespace Go.Proofs.Ytjjnfobeeflnhaa.L
open Go.RowKit Go.Proofs.YtjjnfobeeflnhaaW.PrintWords Go.Proofs.Ytjjnfobeeflnhaa.J
set_option linter.unusedVariables false
set_option linter.unusedSimpArgs false

theorem secrets_j3 (p d : Int) (l : List S86) (e : Int) (he : e ≠ 0) : Ev (fun k => juntolaw04_ShareSecrets.j3 k p d l 0 e e) true := by
  refine Ev.step (f := fun k => (juntolaw04_alive.f k).bind fun t => some t) (fun k => ?_) (Ev.bind alive04 (Ev.now _))
  simp only [juntolaw04_ShareSecrets.j3, he, if_false, if_true]
theorem secrets_j1 (p d : Int) (l : List S86) (e : Int) (he : e ≠ 0) : Ev (fun k => juntolaw04_ShareSecrets.j1 k p d l 0 e e) true := by
  refine Ev.step (f := fun k => juntolaw04_ShareSecrets.j2 k p d l 0 e e false) (fun k => ?_) (Ev.step (f := fun k => juntolaw04_ShareSecrets.j3 k p d l 0 e e) (fun k => ?_) (secrets_j3 p d l e he))
  · simp only [juntolaw04_ShareSecrets.j1, he, if_false]
  · simp only [juntolaw04_ShareSecrets.j2, Bool.false_eq_true, if_false]
theorem secrets_arg (p d : Int) (l : List S86) : Ev (fun k => juntolaw04_ShareSecrets.j0 k p d l 0 2 true) true := by
  refine Ev.step (f := fun k => juntolaw04_ShareSecrets.j1 k p d l 0 2 2) (fun k => ?_) (secrets_j1 p d l 2 (by decide))
  simp only [juntolaw04_ShareSecrets.j0, if_true]
theorem secret_arg (p d : Int) (l : List S86) : Ev (fun k => share_Secret.j0 k p d l true) (0, 2) := by
  refine Ev.step (f := fun k => some (0, 2)) (fun k => ?_) (Ev.now _)
  simp only [share_Secret.j0, if_true]
/-- Behind the first test. -/
theorem secrets_in (p d : Int) (l : List S86) (hu : ∀ x ∈ l, 0 ≤ x.f0 ∧ 0 ≤ x.f1) (hp : isP p = true) (h0 : 0 ≤ d) (h1 : d ≤ 200) :
    ∃ v e, Ev (fun k => share_Secret.j0 k p d l false) (v, e) ∧ Ev (fun k => juntolaw04_ShareSecrets.j0 k p d l v e false) true := by
  have hw : wrap64 (d + 1) = d + 1 := w64_small (by omega) (by omega)
  have pts : ∀ (v e E : Int), (E = if (l.length : Int) > 201 then 3 else pointsV p l) → Ev (fun k => juntolaw04_ShareSecrets.j1 k p d l v e E) true → Ev (fun k => juntolaw04_ShareSecrets.j0 k p d l v e false) true := fun v e E hE h => by
    subst hE
    refine Ev.step (f := fun k => (juntoref02_Points.f k p l 201).bind fun t => juntolaw04_ShareSecrets.j1 k p d l v e t) (fun k => ?_) (Ev.bind (ref_ptsV p l 201 (by decide)) h)
    simp only [juntolaw04_ShareSecrets.j0, Bool.false_eq_true, if_false]
  have hV : throughV p l = if (l.length : Int) > 201 then 3 else pointsV p l := by unfold throughV; rw [if_pos hp]
  by_cases ht : throughV p l = 0
  · obtain ⟨q, hz, X, Y, rfl, e, h2, hq, hpr, hl, hx, prog, ref⟩ := thr_rows hu ht
    have hlen := Fld.lg_length X Y l.length l.length (Nat.le_refl _)
    generalize Fld.lg X Y l.length l.length = L at *
    by_cases hf : (l.length : Int) < d + 1
    · refine ⟨0, 11, ?_, pts 0 11 0 (by rw [← hV, ht]) ?_⟩
      · refine Ev.step (f := fun k => (poly_Through.f k (q : Int) l).bind fun bt1797 => (if bt1797.2 = 0 then (if (l.length : Int) < (wrap64 (d + 1)) then (some (0, 11)) else (if (bt1797.1.length : Int) > (wrap64 (d + 1)) then (some (0, 12)) else ((poly_At.f (q : Int) bt1797.1 0).bind fun t1801 => (some (t1801, 0))))) else (some (0, bt1797.2)))) (fun k => by simp only [share_Secret.j0, Bool.false_eq_true, if_false]) (Ev.bind prog ?_)
        simp only [hw, hf, if_true]
        exact Ev.now _
      · refine Ev.step (f := fun k => juntolaw04_ShareSecrets.j2 k (q : Int) d l 0 11 0 true) (fun k => ?_) (Ev.step (f := fun k => juntolaw04_ShareSecrets.j3 k (q : Int) d l 0 11 11) (fun k => ?_) (secrets_j3 _ d l 11 (by decide)))
        · simp only [juntolaw04_ShareSecrets.j1, if_true, hw, hf, decide_true]
        · simp only [juntolaw04_ShareSecrets.j2, if_true]
    · have line : Ev (fun k => juntoref04_Line.f k (q : Int) d l) (oI L, decide (((oI L).length : Int) ≤ d + 1)) := by
        unfold juntoref04_Line.f
        rw [hw]
        exact Ev.bind ref (Ev.now _)
      have tail : ∀ v e : Int, Ev (fun k => juntolaw04_ShareSecrets.j3 k (q : Int) d l v e 0) true → Ev (fun k => juntolaw04_ShareSecrets.j1 k (q : Int) d l v e 0) true := fun v e h => by
        refine Ev.step (f := fun k => juntolaw04_ShareSecrets.j2 k (q : Int) d l v e 0 false) (fun k => ?_) (Ev.step (f := fun k => juntolaw04_ShareSecrets.j3 k (q : Int) d l v e 0) (fun k => ?_) h)
        · simp only [juntolaw04_ShareSecrets.j1, if_true, hw, hf, decide_false]
        · simp only [juntolaw04_ShareSecrets.j2, Bool.false_eq_true, if_false]
      have j3 : ∀ (v e : Int) (k : Nat), juntolaw04_ShareSecrets.j3 (k + 1) (q : Int) d l v e 0 = (juntoref04_Line.f k (q : Int) d l).bind fun bt1807 => (if bt1807.2 = true then (if e = 0 then ((juntoref02_Eval.f k (q : Int) bt1807.1 0).bind fun t1811 => (some (v == t1811))) else (some false)) else (if v = 0 then (if e = 12 then ((juntolaw04_alive.f k).bind fun t1812 => (some t1812)) else (some false)) else (some false))) := fun v e k => by
        simp only [juntolaw04_ShareSecrets.j3, if_true]
      by_cases hb : (L.length : Int) > d + 1
      · refine ⟨0, 12, ?_, pts 0 12 0 (by rw [← hV, ht]) (tail 0 12 ?_)⟩
        · refine Ev.step (f := fun k => (poly_Through.f k (q : Int) l).bind fun bt1797 => (if bt1797.2 = 0 then (if (l.length : Int) < (wrap64 (d + 1)) then (some (0, 11)) else (if (bt1797.1.length : Int) > (wrap64 (d + 1)) then (some (0, 12)) else ((poly_At.f (q : Int) bt1797.1 0).bind fun t1801 => (some (t1801, 0))))) else (some (0, bt1797.2)))) (fun k => by simp only [share_Secret.j0, Bool.false_eq_true, if_false]) (Ev.bind prog ?_)
          simp only [hw, hf, if_true, if_false, oI_length, hb]
          exact Ev.now _
        · refine Ev.step (j3 0 12) (Ev.bind line ?_)
          rw [oI_length, decide_eq_false (by omega)]
          simp only [Bool.false_eq_true, if_false, if_true]
          exact Ev.bind alive04 (Ev.now _)
      · have e0 : (0 : Int) = nI (0 : Fin q) := nI_zero.symm
        refine ⟨nI (Fld.ev L 0), 0, ?_, pts _ 0 0 (by rw [← hV, ht]) (tail _ 0 ?_)⟩
        · refine Ev.step (f := fun k => (poly_Through.f k (q : Int) l).bind fun bt1797 => (if bt1797.2 = 0 then (if (l.length : Int) < (wrap64 (d + 1)) then (some (0, 11)) else (if (bt1797.1.length : Int) > (wrap64 (d + 1)) then (some (0, 12)) else ((poly_At.f (q : Int) bt1797.1 0).bind fun t1801 => (some (t1801, 0))))) else (some (0, bt1797.2)))) (fun k => by simp only [share_Secret.j0, Bool.false_eq_true, if_false]) (Ev.bind prog ?_)
          simp only [hw, hf, if_true, if_false, oI_length, hb]
          have ha := at_rows hq L 0
          rw [nI_zero] at ha
          rw [ha]
          exact Ev.bind (Ev.now _) (Ev.now _)
        · have he := eval_rows (by omega) hq L 0 (by omega)
          rw [nI_zero] at he
          refine Ev.step (j3 _ 0) (Ev.bind line ?_)
          rw [oI_length, decide_eq_true (by omega)]
          simp only [if_true]
          refine Ev.bind he ?_
          rw [beq_self_eq_true]
          exact Ev.now _
  · refine ⟨0, throughV p l, ?_, pts 0 _ _ hV (secrets_j1 p d l _ ht)⟩
    refine Ev.step (f := fun k => (poly_Through.f k p l).bind fun bt1797 => (if bt1797.2 = 0 then (if (l.length : Int) < (wrap64 (d + 1)) then (some (0, 11)) else (if (bt1797.1.length : Int) > (wrap64 (d + 1)) then (some (0, 12)) else ((poly_At.f p bt1797.1 0).bind fun t1801 => (some (t1801, 0))))) else (some (0, bt1797.2)))) (fun k => by simp only [share_Secret.j0, Bool.false_eq_true, if_false]) (Ev.bind (thr_bad ht) ?_)
    simp only [ht, if_false]
    exact Ev.now _

theorem shareSecrets (x0 : Int) (x1 : Int) (x2 : List S86) (w0 : (Lit.int .u64 x0).wf = true) (w1 : (Lit.int .i64 x1).wf = true) (w2 : x2.length ≤ maxLen ∧ x2.length * 16 ≤ 140737488351232 ∧ ∀ x2' ∈ x2, (Lit.int .u64 x2'.f0).wf = true ∧ (Lit.int .u64 x2'.f1).wf = true) : ∃ k, juntolaw04_ShareSecrets.f k x0 x1 x2 = some true := by
  suffices h : Ev (fun k => juntolaw04_ShareSecrets.f k x0 x1 x2) true from h.rounds
  have hu : ∀ x ∈ x2, 0 ≤ x.f0 ∧ 0 ≤ x.f1 := fun x hx => ⟨(u64_wf (w2.2.2 x hx).1).1, (u64_wf (w2.2.2 x hx).2).1⟩
  unfold juntolaw04_ShareSecrets.f
  have prog : ∀ r, Ev (fun k => if isP x0 = true then (if x1 < 0 then share_Secret.j0 k x0 x1 x2 true else share_Secret.j0 k x0 x1 x2 (decide (x1 > 200))) else share_Secret.j0 k x0 x1 x2 true) r → Ev (fun k => share_Secret.f k x0 x1 x2) r := fun r h => by
    unfold share_Secret.f
    exact Ev.bind (field_is x0) h
  by_cases hp : isP x0 = true
  · by_cases hn : x1 < 0
    · refine Ev.bind (prog (0, 2) (by simp only [hp, hn, if_true]; exact secret_arg _ _ _)) (Ev.bind (ref_is x0) ?_)
      simp only [hp, hn, if_true]
      exact secrets_arg _ _ _
    · by_cases hb : x1 > 200
      · refine Ev.bind (prog (0, 2) (by simp only [hp, hn, hb, if_true, if_false, decide_true]; exact secret_arg _ _ _)) (Ev.bind (ref_is x0) ?_)
        simp only [hp, hn, hb, if_true, if_false, decide_true]
        exact secrets_arg _ _ _
      · obtain ⟨v, e, h1, h2⟩ := secrets_in x0 x1 x2 hu hp (by omega) (by omega)
        refine Ev.bind (prog (v, e) (by simp only [hp, hn, hb, if_true, if_false, decide_false]; exact h1)) (Ev.bind (ref_is x0) ?_)
        simp only [hp, hn, hb, if_true, if_false, decide_false]
        exact h2
  · refine Ev.bind (prog (0, 2) (by simp only [hp, if_false, Bool.false_eq_true]; exact secret_arg _ _ _)) (Ev.bind (ref_is x0) ?_)
    simp only [hp, if_false, Bool.false_eq_true]
    exact secrets_arg _ _ _

end Go.Proofs.Ytjjnfobeeflnhaa.L

/- The row of ShareSecrets: for every input the call returns true and changes nothing; no conditions. Out of the contract of the function and the plain law. -/
namespace Go.Proofs.Ytjjnfobeeflnhaa.shareSecrets
open Go.ChangeShapes Go.WideShapes Go.ChangeAt Go.RowKit Go.Proofs.YtjjnfobeeflnhaaW.PrintWords Go.Proofs.Ytjjnfobeeflnhaa.J Go.Proofs.Ytjjnfobeeflnhaa.Op
set_option linter.unusedVariables false
theorem own : ownKnob Try.prog.godebug = none := by kernel_rfl
theorem laidOut : laidOutB Try.prog = true := by kernel_rfl
set_option maxRecDepth 100000 in
theorem op0 : Opens Try.prog (Kd.int .u64) 22 (fun n => (Lit.int .u64 n).wf = true) := (op_int Try.underlying22)
set_option maxRecDepth 100000 in
theorem op1 : Opens Try.prog (Kd.int .i64) 3 (fun n => (Lit.int .i64 n).wf = true) := (op_int Try.underlying3)
set_option maxRecDepth 100000 in
theorem op2 : Opens Try.prog (Kd.slice 86 (k86)) 87 (fun l => l.length ≤ maxLen ∧ l.length * 16 ≤ 140737488351232 ∧ ∀ a ∈ l, (fun b : S86 => (fun x => (fun n => (Lit.int .u64 n).wf = true) x.1 ∧ (fun n => (Lit.int .u64 n).wf = true) x.2) (b.f0, b.f1)) a) := (op_slice Try.underlying87 (by kernel_rfl) (by kernel_rfl) (op_struct (fun x => (⟨x.1, x.2⟩ : S86)) (fun _ => rfl) Try.underlying86 (opL_cons (by kernel_rfl) (by kernel_rfl) (op_int Try.underlying22) (by kernel_rfl) (opL_one (by kernel_rfl) (by kernel_rfl) (op_int Try.underlying22)))))
set_option maxRecDepth 100000 in
theorem lifted (os : Os) (started : os.Started) (H : Type) (enc : TypeId × Value → H) :
    ReturnsInHanded {} Try.checked os 34 .any (Rows.shareSecretsSpec.pre6 enc Try.prog Try.f34 Rows.shareSecretsRow.domain false) (Rows.shareSecretsSpec.post enc Try.prog Try.f34 false true false false) := by
  refine returnsInHanded_of_change_sized (C := Try.checked) own started (by kernel_rfl) Try.func34
    (ChangeSpec.witness6 (enc := enc) (C := Try.checked) false ⟨#[], #[.int .u64 0, .int .i64 0, .slice none 0 0], []⟩ 8 (by kernel_rfl) (by kernel_rfl) (by kernel_rfl) (by kernel_rfl)) ?_
  intro W base args ds gs before hval0 hW hcnd hsz0 _
  have hsz : (DataW.weightsEach Try.prog (Try.f34.params.toList ++ Rows.shareSecretsSpec.plain.varTypes Try.prog) (ds ++ gs)).all (· ≤ reachBytes) = true := hsz0
  have hval : ∀ (j : Nat) t v, Try.f34.params[j]? = some t → args[j]? = some v → Value.okWide Try.prog W .any base t v := hval0
  have hW' := hW
  obtain ⟨p, q, hA0, hV, rfl, hfz, hnd⟩ := hW
  have hA : DataW.TrodAll enc Try.prog W 0 (fun _ => true) true Try.f34.params.toList args.toList ds p := hA0
  rw [Try.params34] at hA hval hsz
  obtain ⟨v0, vs0, d0, ds0, p0, q0, hargs, rfl, rfl, h0, r0⟩ := trodAll_cons hA
  obtain ⟨v1, vs1, d1, ds1, p1, q1, rfl, rfl, rfl, h1, r1⟩ := trodAll_cons r0
  obtain ⟨v2, vs2, d2, ds2, p2, q2, rfl, rfl, rfl, h2, r2⟩ := trodAll_cons r1
  obtain ⟨rfl, rfl, rfl⟩ := trodAll_nil r2
  obtain rfl : args = #[v0, v1, v2] := by cases args; simp_all
  obtain ⟨rfl, rfl⟩ := trodVars_none hV
  have k0 := h0
  have lt0 : ∀ x ∈ p0, x.block < W.heap.size := by obtain ⟨m, hm⟩ := k0; exact DataW.trod_lt m _ _ _ hm
  obtain ⟨x0, rfl⟩ := okWide_int Try.underlying22 (hval 0 22 v0 rfl rfl)
  obtain ⟨y0, e0, w0⟩ := arg op0 rfl h0 hsz (j := 0) rfl rfl
  have e0' : [Value.int .u64 x0] = [Value.int .u64 y0] := e0
  obtain rfl : x0 = y0 := by simpa using e0'
  have k1 := h1
  have lt1 : ∀ x ∈ p1, x.block < W.heap.size := by obtain ⟨m, hm⟩ := k1; exact DataW.trod_lt m _ _ _ hm
  obtain ⟨x1, rfl⟩ := okWide_int Try.underlying3 (hval 1 3 v1 rfl rfl)
  obtain ⟨y1, e1, w1⟩ := arg op1 rfl h1 hsz (j := 1) rfl rfl
  have e1' : [Value.int .i64 x1] = [Value.int .i64 y1] := e1
  obtain rfl : x1 = y1 := by simpa using e1'
  have k2 := h2
  have lt2 : ∀ x ∈ p2, x.block < W.heap.size := by obtain ⟨m, hm⟩ := k2; exact DataW.trod_lt m _ _ _ hm
  obtain ⟨a2, len2, cap2, rfl⟩ := okWide_slice Try.underlying87 (hval 2 87 v2 rfl rfl)
  obtain ⟨x2, ⟨A2, c2, e2, hc2, hr2⟩, w2⟩ := arg op2 rfl h2 hsz (j := 2) rfl rfl
  have e2' : [Value.slice a2 len2 cap2] = [Value.slice A2 x2.length c2] := e2
  obtain ⟨rfl, rfl, rfl⟩ : a2 = A2 ∧ len2 = x2.length ∧ cap2 = c2 := by simpa using e2'
  clear hA0 hval0 hsz0 hsz
  obtain ⟨k, h⟩ := L.shareSecrets x0 x1 x2 w0 w1 w2
  refine (juntolaw04_ShareSecrets.calls k x0 x1 _ _ x2 true W hr2 hc2 h).mono fun e W' ⟨he, bel⟩ => ?_
  subst he
  exact ⟨_, rfl, _, _, _, [], _, [], hW', trodAll_mk1 (shut_bool Try.underlying4 _), (trodAll_cons_mk (Below.trod laidOut (by kernel_rfl) (of_decide_eq_true (by kernel_rfl)) k0 bel lt0) (trodAll_cons_mk (Below.trod laidOut (by kernel_rfl) (of_decide_eq_true (by kernel_rfl)) k1 bel lt1) (trodAll_cons_mk (Below.trod laidOut (by kernel_rfl) (of_decide_eq_true (by kernel_rfl)) k2 bel lt2) trodAll_mk0))), rfl, bel.frame _, fun h => by cases h⟩
set_option maxRecDepth 100000 in
theorem closed : joinedFacts Try.pinned.checked.prog 34 Try.f34 Rows.shareSecretsSpec Rows.shareSecretsRow = true := by
  unfold joinedFacts
  repeat' with_reducible refine Bool.and_eq_true_iff.2 ⟨?_, ?_⟩
  all_goals first
    | with_reducible exact Facts.enters
    | (rw [Facts.final]; kernel_rfl)
    | (rw [Facts.made]; kernel_rfl)
    | kernel_rfl
theorem over : Rows.shareSecretsRow.holds Try.pinned (OpenSpec.ofChange Rows.shareSecretsSpec) :=
  OpenClaim.holds_of_wide 34 Try.f34 rfl rfl rfl rfl rfl rfl rfl ⟨rfl, rfl, rfl, rfl, rfl⟩ rfl rfl rfl rfl rfl (by kernel_rfl) Try.func34 closed
    (of_decide_eq_true (by kernel_rfl)) (by unfold Func.isWrapper; first | (rw [if_pos (by decide +kernel)]; kernel_rfl) | (rw [if_neg (by decide +kernel)]; exact ⟨rfl, rfl⟩))
    (fun os started H enc _ => lifted os started H enc)
theorem proved : Rows.ShareSecretsSaid := over
#print axioms proved
end Go.Proofs.Ytjjnfobeeflnhaa.shareSecrets
namespace Go.Proofs.Ytjjnfobeeflnhaa
/-- The row, under a short name, for the claim. -/
theorem shareSecrets_holds : Rows.ShareSecretsSaid := shareSecrets.proved
end Go.Proofs.Ytjjnfobeeflnhaa
