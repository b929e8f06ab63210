/- Part 1 of the proof of TuneDone: what the functions compute as plain Lean functions, that the machine comes to just these answers, and that the answer is true; no conditions. -/
import Derived.Test.YtmlbliggbkfjnaaTuneDoneZ0
import Derived.Test.YtmlbliggbkfjnaaProg
import Derived.Below
import Derived.Deep.Draws
import Derived.Deep.AppendLies
import Derived.Maps.AppendAt
import Derived.OwnWalk
import Derived.Laws.BytesArg
import Derived.Laws.MakeOwn
import Derived.Laws.OwnMore
import Derived.Deep.OwnRows
import Derived.Tactics
import Derived.Lib.ConvBytes
import Derived.Laws.Slices
import Derived.WalkKit
import Derived.KernelRfl
import Derived.RowKit3
import Derived.Deep.LoopGhost
import Derived.Deep.QuietTactic
import Derived.BigQuiet
import Derived.WideLaws
import Derived.Deep.DeepCutAuto
import Derived.Deep.CutBlock
import Derived.Deep.RegionHeld3
import Derived.Laws.Rows
import Derived.Lib.AppendStr
import Derived.ArgAppend
import Derived.Laws.IdiomCopy
import Derived.OrdersHeld
import Derived.Laws.BitsLemmas
import Derived.RowKit
import Derived.Lib.SliceRun
set_option linter.unusedSimpArgs false
set_option linter.unusedVariables false
set_option maxHeartbeats 8000000
set_option maxRecDepth 100000
namespace Go.Proofs.Ytmlbliggbkfjnaa.J
open Go.RowKit Go.Proofs.YtmlbliggbkfjnaaW.PrintWords Go.Proofs.YtmlbliggbkfjnaaW.PrintLast Go.Proofs.YtmlbliggbkfjnaaW.PrintMore
attribute [local go_sem] max2_int min2_int max_two min_two max_three min_three max_four min_four
def errW : Option Int → Value
  | none => .nilIface
  | some c => .iface 0 (.int .i64 c)
theorem errW_none : errW none = .nilIface := rfl
theorem errW_some (c : Int) : errW (some c) = .iface 0 (.int .i64 c) := rfl
theorem info3 : (Try.prog.info? 3).map (fun i => (i.zero, i.size, i.bytes)) = some (some (.int .i64 0), 1, 8) := by kernel_rfl
theorem info4 : (Try.prog.info? 4).map (fun i => (i.zero, i.size, i.bytes)) = some (some (.bool false), 1, 1) := by kernel_rfl
theorem info27 : (Try.prog.info? 27).map (fun i => (i.zero, i.size, i.bytes)) = some (some (.slice none 0 0), 1, 24) := by kernel_rfl
theorem info34 : (Try.prog.info? 34).map (fun i => (i.zero, i.size, i.bytes)) = some (some (.int .u64 0), 1, 8) := by kernel_rfl
theorem info61 : (Try.prog.info? 61).map (fun i => (i.zero, i.size, i.bytes)) = some (some (.agg #[(.int .i64 0), (.int .i64 0), (.int .i64 0), (.int .u64 0)]), 4, 32) := by kernel_rfl
theorem info64 : (Try.prog.info? 64).map (fun i => (i.zero, i.size, i.bytes)) = some (some (.agg #[(.int .i64 0), (.bool false)]), 2, 16) := by kernel_rfl
theorem info66 : (Try.prog.info? 66).map (fun i => (i.zero, i.size, i.bytes)) = some (some (.agg #[(.slice none 0 0), (.slice none 0 0)]), 2, 48) := by kernel_rfl
theorem info89 : (Try.prog.info? 89).map (fun i => (i.zero, i.size, i.bytes)) = some (some (.agg #[(.slice none 0 0), (.slice none 0 0)]), 2, 48) := by kernel_rfl
structure S61 where
  f0 : Int
  f1 : Int
  f2 : Int
  f3 : Int
def z61 : S61 := ⟨(0 : Int), (0 : Int), (0 : Int), (0 : Int)⟩
def k61 : Kd S61 := Kd.iso (Kd.pair (Kd.int .i64) (Kd.pair (Kd.int .i64) (Kd.pair (Kd.int .i64) (Kd.int .u64)))) (fun x : S61 => (x.f0, x.f1, x.f2, x.f3))
theorem k61_open {w : World} {x : S61} {cs : List Value} (h : k61.K w x cs) : cs = [.int .i64 x.f0, .int .i64 x.f1, .int .i64 x.f2, .int .u64 x.f3] := by
  obtain ⟨_, _, rfl, rfl, ⟨_, _, rfl, rfl, ⟨_, _, rfl, rfl, rfl⟩⟩⟩ := h;exact rfl
theorem k61_openM {w : World} {base : Nat} {ok : Nat → Prop} {x : S61} {cs : List Value} (h : k61.M w base ok x cs) : cs = [.int .i64 x.f0, .int .i64 x.f1, .int .i64 x.f2, .int .u64 x.f3] := by
  obtain ⟨_, _, rfl, rfl, ⟨_, _, rfl, rfl, ⟨_, _, rfl, rfl, rfl⟩⟩⟩ := h;exact rfl
theorem k61_mk (w : World) (x : S61)  : k61.K w x [.int .i64 x.f0, .int .i64 x.f1, .int .i64 x.f2, .int .u64 x.f3] := ⟨[.int .i64 x.f0], [.int .i64 x.f1, .int .i64 x.f2, .int .u64 x.f3], rfl, rfl, ⟨[.int .i64 x.f1], [.int .i64 x.f2, .int .u64 x.f3], rfl, rfl, ⟨[.int .i64 x.f2], [.int .u64 x.f3], rfl, rfl, rfl⟩⟩⟩
theorem k61_mkM (w : World) (base : Nat) (ok : Nat → Prop) (x : S61)  : k61.M w base ok x [.int .i64 x.f0, .int .i64 x.f1, .int .i64 x.f2, .int .u64 x.f3] := ⟨[.int .i64 x.f0], [.int .i64 x.f1, .int .i64 x.f2, .int .u64 x.f3], rfl, rfl, ⟨[.int .i64 x.f1], [.int .i64 x.f2, .int .u64 x.f3], rfl, rfl, ⟨[.int .i64 x.f2], [.int .u64 x.f3], rfl, rfl, rfl⟩⟩⟩
theorem k61_mkF (W : World) (ok : Nat → Prop) (x : S61) : Kd.FK k61 W ok x [.int .i64 x.f0, .int .i64 x.f1, .int .i64 x.f2, .int .u64 x.f3] := fun W2 _ => k61_mk W2 x
def rd_T61 (xs : List S61) (i : Int) : S61 := xs.getD i.toNat z61
theorem at_T61 {w : World} {A : Option Addr} {n : Nat} {xs : List S61} (h : Kd.C k61 w A n xs) (i : Int) (h0 : 0 ≤ i) (h1 : i < n) : ∃ ad , A = some ad ∧ w.cell? (ad.add (i.toNat * 4)) = some (.int .i64 (rd_T61 xs i).f0) ∧ w.cell? ⟨(ad.add (i.toNat * 4)).block, (ad.add (i.toNat * 4)).off + 1, none⟩ = some (.int .i64 (rd_T61 xs i).f1) ∧ w.cell? ⟨(ad.add (i.toNat * 4)).block, (ad.add (i.toNat * 4)).off + 2, none⟩ = some (.int .i64 (rd_T61 xs i).f2) ∧ w.cell? ⟨(ad.add (i.toNat * 4)).block, (ad.add (i.toNat * 4)).off + 3, none⟩ = some (.int .u64 (rd_T61 xs i).f3) := by
  obtain ⟨ad, c, e, _, hK, hc0⟩ := Kd.C_get h z61 i h0 h1;have hc : ∀ j u, c[j]? = some u → w.cell? (ad.add (i.toNat * 4 + j)) = some u := hc0;obtain rfl := k61_open hK;exact ⟨ad, e, hc 0 _ rfl, by rw [← add_field _ _ 1 (by omega)]; exact hc 1 _ rfl, by rw [← add_field _ _ 2 (by omega)]; exact hc 2 _ rfl, by rw [← add_field _ _ 3 (by omega)]; exact hc 3 _ rfl⟩
structure S64 where
  f0 : Int
  f1 : Bool
def z64 : S64 := ⟨(0 : Int), false⟩
def k64 : Kd S64 := Kd.iso (Kd.pair (Kd.int .i64) Kd.bool) (fun x : S64 => (x.f0, x.f1))
theorem k64_open {w : World} {x : S64} {cs : List Value} (h : k64.K w x cs) : cs = [.int .i64 x.f0, .bool x.f1] := by
  obtain ⟨_, _, rfl, rfl, rfl⟩ := h;exact rfl
theorem k64_openM {w : World} {base : Nat} {ok : Nat → Prop} {x : S64} {cs : List Value} (h : k64.M w base ok x cs) : cs = [.int .i64 x.f0, .bool x.f1] := by
  obtain ⟨_, _, rfl, rfl, rfl⟩ := h;exact rfl
theorem k64_mk (w : World) (x : S64)  : k64.K w x [.int .i64 x.f0, .bool x.f1] := ⟨[.int .i64 x.f0], [.bool x.f1], rfl, rfl, rfl⟩
theorem k64_mkM (w : World) (base : Nat) (ok : Nat → Prop) (x : S64)  : k64.M w base ok x [.int .i64 x.f0, .bool x.f1] := ⟨[.int .i64 x.f0], [.bool x.f1], rfl, rfl, rfl⟩
theorem k64_mkF (W : World) (ok : Nat → Prop) (x : S64) : Kd.FK k64 W ok x [.int .i64 x.f0, .bool x.f1] := fun W2 _ => k64_mk W2 x
def rd_T64 (xs : List S64) (i : Int) : S64 := xs.getD i.toNat z64
theorem at_T64 {w : World} {A : Option Addr} {n : Nat} {xs : List S64} (h : Kd.C k64 w A n xs) (i : Int) (h0 : 0 ≤ i) (h1 : i < n) : ∃ ad , A = some ad ∧ w.cell? (ad.add (i.toNat * 2)) = some (.int .i64 (rd_T64 xs i).f0) ∧ w.cell? ⟨(ad.add (i.toNat * 2)).block, (ad.add (i.toNat * 2)).off + 1, none⟩ = some (.bool (rd_T64 xs i).f1) := by
  obtain ⟨ad, c, e, _, hK, hc0⟩ := Kd.C_get h z64 i h0 h1;have hc : ∀ j u, c[j]? = some u → w.cell? (ad.add (i.toNat * 2 + j)) = some u := hc0;obtain rfl := k64_open hK;exact ⟨ad, e, hc 0 _ rfl, by rw [← add_field _ _ 1 (by omega)]; exact hc 1 _ rfl⟩
def rd_L5 (xs : List (List Int)) (i : Int) : (List Int) := xs.getD i.toNat ([] : List Int)
theorem at_L5 {w : World} {A : Option Addr} {n : Nat} {xs : List (List Int)} (h : Kd.C (Kd.slice 3 (Kd.int .i64)) w A n xs) (i : Int) (h0 : 0 ≤ i) (h1 : i < n) : ∃ ad A0 c0, A = some ad ∧ w.cell? (ad.add i.toNat) = some (.slice A0 (rd_L5 xs i).length c0) ∧ (rd_L5 xs i).length ≤ c0 ∧ (Kd.int .i64).C w A0 (rd_L5 xs i).length (rd_L5 xs i) := by
  obtain ⟨ad, c, e, _, hK, hc0⟩ := Kd.C_get h ([] : List Int) i h0 h1;have hc : ∀ j u, c[j]? = some u → w.cell? (ad.add (i.toNat * 1 + j)) = some u := hc0;obtain ⟨A0, c0, rfl, l0, g0⟩ := hK;exact ⟨ad, A0, c0, e, by have hq := hc 0 _ rfl; rwa [Nat.mul_one, Nat.add_zero] at hq, l0, g0⟩
structure S66 where
  f0 : (List Int)
  f1 : (List Int)
def z66 : S66 := ⟨([] : List Int), ([] : List Int)⟩
def k66 : Kd S66 := Kd.iso (Kd.pair (Kd.slice 3 (Kd.int .i64)) (Kd.slice 3 (Kd.int .i64))) (fun x : S66 => (x.f0, x.f1))
theorem k66_open {w : World} {x : S66} {cs : List Value} (h : k66.K w x cs) : ∃ A0 c0 A1 c1, cs = [.slice A0 x.f0.length c0, .slice A1 x.f1.length c1] ∧ x.f0.length ≤ c0 ∧ (Kd.int .i64).C w A0 x.f0.length x.f0 ∧ x.f1.length ≤ c1 ∧ (Kd.int .i64).C w A1 x.f1.length x.f1 := by
  obtain ⟨_, _, rfl, ⟨A0, c0, rfl, l0, g0⟩, ⟨A1, c1, rfl, l1, g1⟩⟩ := h;exact ⟨A0, c0, A1, c1, rfl, l0, g0, l1, g1⟩
theorem k66_openM {w : World} {base : Nat} {ok : Nat → Prop} {x : S66} {cs : List Value} (h : k66.M w base ok x cs) : ∃ v0 v1, cs = [v0, v1] ∧ (Kd.int .i64).R 3 w base ok v0 x.f0 ∧ (Kd.int .i64).R 3 w base ok v1 x.f1 := by
  obtain ⟨_, _, rfl, ⟨v0, rfl, g0⟩, ⟨v1, rfl, g1⟩⟩ := h;exact ⟨v0, v1, rfl, g0, g1⟩
theorem k66_mk (w : World) (x : S66) {A0 : Option Addr} {c0 : Nat} (l0 : x.f0.length ≤ c0) (g0 : (Kd.int .i64).C w A0 x.f0.length x.f0) {A1 : Option Addr} {c1 : Nat} (l1 : x.f1.length ≤ c1) (g1 : (Kd.int .i64).C w A1 x.f1.length x.f1) : k66.K w x [.slice A0 x.f0.length c0, .slice A1 x.f1.length c1] := ⟨[.slice A0 x.f0.length c0], [.slice A1 x.f1.length c1], rfl, ⟨A0, c0, rfl, l0, g0⟩, ⟨A1, c1, rfl, l1, g1⟩⟩
theorem k66_mkM (w : World) (base : Nat) (ok : Nat → Prop) (x : S66) {v0 : Value} (g0 : (Kd.int .i64).R 3 w base ok v0 x.f0) {v1 : Value} (g1 : (Kd.int .i64).R 3 w base ok v1 x.f1) : k66.M w base ok x [v0, v1] := ⟨[v0], [v1], rfl, ⟨v0, rfl, g0⟩, ⟨v1, rfl, g1⟩⟩
theorem k66_openF {W : World} {ok : Nat → Prop} {x : S66} {cs : List Value} (h : Kd.FK k66 W ok x cs) : ∃ A0 c0 A1 c1, cs = [.slice A0 x.f0.length c0, .slice A1 x.f1.length c1] ∧ x.f0.length ≤ c0 ∧ Kd.F (Kd.int .i64) W ok A0 x.f0.length x.f0 ∧ x.f1.length ≤ c1 ∧ Kd.F (Kd.int .i64) W ok A1 x.f1.length x.f1 := by
  obtain ⟨A0, c0, A1, c1, rfl, l0, _, l1, _⟩ := k66_open (Kd.FK_now h);exact ⟨A0, c0, A1, c1, rfl, l0, (fun W' hW => by obtain ⟨A0_, c0_, A1_, c1_, he, l0_, g0_, l1_, g1_⟩ := k66_open (h W' hW); injection (qqI (show some (Value.slice A0 x.f0.length c0) = some (Value.slice A0_ x.f0.length c0_) from congrArg (fun l => l[0]?) he)) with ha_ _ _; rw [ha_]; exact g0_), l1, (fun W' hW => by obtain ⟨A0_, c0_, A1_, c1_, he, l0_, g0_, l1_, g1_⟩ := k66_open (h W' hW); injection (qqI (show some (Value.slice A1 x.f1.length c1) = some (Value.slice A1_ x.f1.length c1_) from congrArg (fun l => l[1]?) he)) with ha_ _ _; rw [ha_]; exact g1_)⟩
theorem k66_mkF (W : World) (ok : Nat → Prop) (x : S66) {A0 : Option Addr} {c0 : Nat} (l0 : x.f0.length ≤ c0) (g0 : Kd.F (Kd.int .i64) W ok A0 x.f0.length x.f0) {A1 : Option Addr} {c1 : Nat} (l1 : x.f1.length ≤ c1) (g1 : Kd.F (Kd.int .i64) W ok A1 x.f1.length x.f1) : Kd.FK k66 W ok x [.slice A0 x.f0.length c0, .slice A1 x.f1.length c1] := fun W2 hW => k66_mk W2 x l0 (g0 W2 hW) l1 (g1 W2 hW)
def rd_T66 (xs : List S66) (i : Int) : S66 := xs.getD i.toNat z66
theorem at_T66 {w : World} {A : Option Addr} {n : Nat} {xs : List S66} (h : Kd.C k66 w A n xs) (i : Int) (h0 : 0 ≤ i) (h1 : i < n) : ∃ ad A0 c0 A1 c1, A = some ad ∧ w.cell? (ad.add (i.toNat * 2)) = some (.slice A0 (rd_T66 xs i).f0.length c0) ∧ w.cell? ⟨(ad.add (i.toNat * 2)).block, (ad.add (i.toNat * 2)).off + 1, none⟩ = some (.slice A1 (rd_T66 xs i).f1.length c1) ∧ (rd_T66 xs i).f0.length ≤ c0 ∧ (Kd.int .i64).C w A0 (rd_T66 xs i).f0.length (rd_T66 xs i).f0 ∧ (rd_T66 xs i).f1.length ≤ c1 ∧ (Kd.int .i64).C w A1 (rd_T66 xs i).f1.length (rd_T66 xs i).f1 := by
  obtain ⟨ad, c, e, _, hK, hc0⟩ := Kd.C_get h z66 i h0 h1;have hc : ∀ j u, c[j]? = some u → w.cell? (ad.add (i.toNat * 2 + j)) = some u := hc0;obtain ⟨A0, c0, A1, c1, rfl, l0, g0, l1, g1⟩ := k66_open hK;exact ⟨ad, A0, c0, A1, c1, e, hc 0 _ rfl, by rw [← add_field _ _ 1 (by omega)]; exact hc 1 _ rfl, l0, g0, l1, g1⟩
def rd_L7 (xs : List (List S64)) (i : Int) : (List S64) := xs.getD i.toNat ([] : List S64)
theorem at_L7 {w : World} {A : Option Addr} {n : Nat} {xs : List (List S64)} (h : Kd.C (Kd.slice 64 k64) w A n xs) (i : Int) (h0 : 0 ≤ i) (h1 : i < n) : ∃ ad A0 c0, A = some ad ∧ w.cell? (ad.add i.toNat) = some (.slice A0 (rd_L7 xs i).length c0) ∧ (rd_L7 xs i).length ≤ c0 ∧ k64.C w A0 (rd_L7 xs i).length (rd_L7 xs i) := by
  obtain ⟨ad, c, e, _, hK, hc0⟩ := Kd.C_get h ([] : List S64) i h0 h1;have hc : ∀ j u, c[j]? = some u → w.cell? (ad.add (i.toNat * 1 + j)) = some u := hc0;obtain ⟨A0, c0, rfl, l0, g0⟩ := hK;exact ⟨ad, A0, c0, e, by have hq := hc 0 _ rfl; rwa [Nat.mul_one, Nat.add_zero] at hq, l0, g0⟩
def rd_L8 (xs : List (List S61)) (i : Int) : (List S61) := xs.getD i.toNat ([] : List S61)
theorem at_L8 {w : World} {A : Option Addr} {n : Nat} {xs : List (List S61)} (h : Kd.C (Kd.slice 61 k61) w A n xs) (i : Int) (h0 : 0 ≤ i) (h1 : i < n) : ∃ ad A0 c0, A = some ad ∧ w.cell? (ad.add i.toNat) = some (.slice A0 (rd_L8 xs i).length c0) ∧ (rd_L8 xs i).length ≤ c0 ∧ k61.C w A0 (rd_L8 xs i).length (rd_L8 xs i) := by
  obtain ⟨ad, c, e, _, hK, hc0⟩ := Kd.C_get h ([] : List S61) i h0 h1;have hc : ∀ j u, c[j]? = some u → w.cell? (ad.add (i.toNat * 1 + j)) = some u := hc0;obtain ⟨A0, c0, rfl, l0, g0⟩ := hK;exact ⟨ad, A0, c0, e, by have hq := hc 0 _ rfl; rwa [Nat.mul_one, Nat.add_zero] at hq, l0, g0⟩
def rd_L9 (xs : List (List S66)) (i : Int) : (List S66) := xs.getD i.toNat ([] : List S66)
theorem at_L9 {w : World} {A : Option Addr} {n : Nat} {xs : List (List S66)} (h : Kd.C (Kd.slice 66 k66) w A n xs) (i : Int) (h0 : 0 ≤ i) (h1 : i < n) : ∃ ad A0 c0, A = some ad ∧ w.cell? (ad.add i.toNat) = some (.slice A0 (rd_L9 xs i).length c0) ∧ (rd_L9 xs i).length ≤ c0 ∧ k66.C w A0 (rd_L9 xs i).length (rd_L9 xs i) := by
  obtain ⟨ad, c, e, _, hK, hc0⟩ := Kd.C_get h ([] : List S66) i h0 h1;have hc : ∀ j u, c[j]? = some u → w.cell? (ad.add (i.toNat * 1 + j)) = some u := hc0;obtain ⟨A0, c0, rfl, l0, g0⟩ := hK;exact ⟨ad, A0, c0, e, by have hq := hc 0 _ rfl; rwa [Nat.mul_one, Nat.add_zero] at hq, l0, g0⟩
structure S26 where
  f0 : (List S64)
  f1 : (List S61)
  f2 : (List S66)
def z26 : S26 := ⟨([] : List S64), ([] : List S61), ([] : List S66)⟩
def k26 : Kd S26 := Kd.iso (Kd.pair (Kd.slice 64 k64) (Kd.pair (Kd.slice 61 k61) (Kd.slice 66 k66))) (fun x : S26 => (x.f0, x.f1, x.f2))
theorem k26_open {w : World} {x : S26} {cs : List Value} (h : k26.K w x cs) : ∃ A0 c0 A1 c1 A2 c2, cs = [.slice A0 x.f0.length c0, .slice A1 x.f1.length c1, .slice A2 x.f2.length c2] ∧ x.f0.length ≤ c0 ∧ k64.C w A0 x.f0.length x.f0 ∧ x.f1.length ≤ c1 ∧ k61.C w A1 x.f1.length x.f1 ∧ x.f2.length ≤ c2 ∧ k66.C w A2 x.f2.length x.f2 := by
  obtain ⟨_, _, rfl, ⟨A0, c0, rfl, l0, g0⟩, ⟨_, _, rfl, ⟨A1, c1, rfl, l1, g1⟩, ⟨A2, c2, rfl, l2, g2⟩⟩⟩ := h;exact ⟨A0, c0, A1, c1, A2, c2, rfl, l0, g0, l1, g1, l2, g2⟩
theorem k26_openM {w : World} {base : Nat} {ok : Nat → Prop} {x : S26} {cs : List Value} (h : k26.M w base ok x cs) : ∃ v0 v1 v2, cs = [v0, v1, v2] ∧ k64.R 64 w base ok v0 x.f0 ∧ k61.R 61 w base ok v1 x.f1 ∧ k66.R 66 w base ok v2 x.f2 := by
  obtain ⟨_, _, rfl, ⟨v0, rfl, g0⟩, ⟨_, _, rfl, ⟨v1, rfl, g1⟩, ⟨v2, rfl, g2⟩⟩⟩ := h;exact ⟨v0, v1, v2, rfl, g0, g1, g2⟩
theorem k26_mk (w : World) (x : S26) {A0 : Option Addr} {c0 : Nat} (l0 : x.f0.length ≤ c0) (g0 : k64.C w A0 x.f0.length x.f0) {A1 : Option Addr} {c1 : Nat} (l1 : x.f1.length ≤ c1) (g1 : k61.C w A1 x.f1.length x.f1) {A2 : Option Addr} {c2 : Nat} (l2 : x.f2.length ≤ c2) (g2 : k66.C w A2 x.f2.length x.f2) : k26.K w x [.slice A0 x.f0.length c0, .slice A1 x.f1.length c1, .slice A2 x.f2.length c2] := ⟨[.slice A0 x.f0.length c0], [.slice A1 x.f1.length c1, .slice A2 x.f2.length c2], rfl, ⟨A0, c0, rfl, l0, g0⟩, ⟨[.slice A1 x.f1.length c1], [.slice A2 x.f2.length c2], rfl, ⟨A1, c1, rfl, l1, g1⟩, ⟨A2, c2, rfl, l2, g2⟩⟩⟩
theorem k26_mkM (w : World) (base : Nat) (ok : Nat → Prop) (x : S26) {v0 : Value} (g0 : k64.R 64 w base ok v0 x.f0) {v1 : Value} (g1 : k61.R 61 w base ok v1 x.f1) {v2 : Value} (g2 : k66.R 66 w base ok v2 x.f2) : k26.M w base ok x [v0, v1, v2] := ⟨[v0], [v1, v2], rfl, ⟨v0, rfl, g0⟩, ⟨[v1], [v2], rfl, ⟨v1, rfl, g1⟩, ⟨v2, rfl, g2⟩⟩⟩
theorem k26_openF {W : World} {ok : Nat → Prop} {x : S26} {cs : List Value} (h : Kd.FK k26 W ok x cs) : ∃ A0 c0 A1 c1 A2 c2, cs = [.slice A0 x.f0.length c0, .slice A1 x.f1.length c1, .slice A2 x.f2.length c2] ∧ x.f0.length ≤ c0 ∧ Kd.F k64 W ok A0 x.f0.length x.f0 ∧ x.f1.length ≤ c1 ∧ Kd.F k61 W ok A1 x.f1.length x.f1 ∧ x.f2.length ≤ c2 ∧ Kd.F k66 W ok A2 x.f2.length x.f2 := by
  obtain ⟨A0, c0, A1, c1, A2, c2, rfl, l0, _, l1, _, l2, _⟩ := k26_open (Kd.FK_now h);exact ⟨A0, c0, A1, c1, A2, c2, rfl, l0, (fun W' hW => by obtain ⟨A0_, c0_, A1_, c1_, A2_, c2_, he, l0_, g0_, l1_, g1_, l2_, g2_⟩ := k26_open (h W' hW); injection (qqI (show some (Value.slice A0 x.f0.length c0) = some (Value.slice A0_ x.f0.length c0_) from congrArg (fun l => l[0]?) he)) with ha_ _ _; rw [ha_]; exact g0_), l1, (fun W' hW => by obtain ⟨A0_, c0_, A1_, c1_, A2_, c2_, he, l0_, g0_, l1_, g1_, l2_, g2_⟩ := k26_open (h W' hW); injection (qqI (show some (Value.slice A1 x.f1.length c1) = some (Value.slice A1_ x.f1.length c1_) from congrArg (fun l => l[1]?) he)) with ha_ _ _; rw [ha_]; exact g1_), l2, (fun W' hW => by obtain ⟨A0_, c0_, A1_, c1_, A2_, c2_, he, l0_, g0_, l1_, g1_, l2_, g2_⟩ := k26_open (h W' hW); injection (qqI (show some (Value.slice A2 x.f2.length c2) = some (Value.slice A2_ x.f2.length c2_) from congrArg (fun l => l[2]?) he)) with ha_ _ _; rw [ha_]; exact g2_)⟩
theorem k26_mkF (W : World) (ok : Nat → Prop) (x : S26) {A0 : Option Addr} {c0 : Nat} (l0 : x.f0.length ≤ c0) (g0 : Kd.F k64 W ok A0 x.f0.length x.f0) {A1 : Option Addr} {c1 : Nat} (l1 : x.f1.length ≤ c1) (g1 : Kd.F k61 W ok A1 x.f1.length x.f1) {A2 : Option Addr} {c2 : Nat} (l2 : x.f2.length ≤ c2) (g2 : Kd.F k66 W ok A2 x.f2.length x.f2) : Kd.FK k26 W ok x [.slice A0 x.f0.length c0, .slice A1 x.f1.length c1, .slice A2 x.f2.length c2] := fun W2 hW => k26_mk W2 x l0 (g0 W2 hW) l1 (g1 W2 hW) l2 (g2 W2 hW)
def rd_T26 (xs : List S26) (i : Int) : S26 := xs.getD i.toNat z26
theorem at_T26 {w : World} {A : Option Addr} {n : Nat} {xs : List S26} (h : Kd.C k26 w A n xs) (i : Int) (h0 : 0 ≤ i) (h1 : i < n) : ∃ ad A0 c0 A1 c1 A2 c2, A = some ad ∧ w.cell? (ad.add (i.toNat * 3)) = some (.slice A0 (rd_T26 xs i).f0.length c0) ∧ w.cell? ⟨(ad.add (i.toNat * 3)).block, (ad.add (i.toNat * 3)).off + 1, none⟩ = some (.slice A1 (rd_T26 xs i).f1.length c1) ∧ w.cell? ⟨(ad.add (i.toNat * 3)).block, (ad.add (i.toNat * 3)).off + 2, none⟩ = some (.slice A2 (rd_T26 xs i).f2.length c2) ∧ (rd_T26 xs i).f0.length ≤ c0 ∧ k64.C w A0 (rd_T26 xs i).f0.length (rd_T26 xs i).f0 ∧ (rd_T26 xs i).f1.length ≤ c1 ∧ k61.C w A1 (rd_T26 xs i).f1.length (rd_T26 xs i).f1 ∧ (rd_T26 xs i).f2.length ≤ c2 ∧ k66.C w A2 (rd_T26 xs i).f2.length (rd_T26 xs i).f2 := by
  obtain ⟨ad, c, e, _, hK, hc0⟩ := Kd.C_get h z26 i h0 h1;have hc : ∀ j u, c[j]? = some u → w.cell? (ad.add (i.toNat * 3 + j)) = some u := hc0;obtain ⟨A0, c0, A1, c1, A2, c2, rfl, l0, g0, l1, g1, l2, g2⟩ := k26_open hK;exact ⟨ad, A0, c0, A1, c1, A2, c2, e, hc 0 _ rfl, by rw [← add_field _ _ 1 (by omega)]; exact hc 1 _ rfl, by rw [← add_field _ _ 2 (by omega)]; exact hc 2 _ rfl, l0, g0, l1, g1, l2, g2⟩
def rd_L11 (xs : List (List S26)) (i : Int) : (List S26) := xs.getD i.toNat ([] : List S26)
theorem at_L11 {w : World} {A : Option Addr} {n : Nat} {xs : List (List S26)} (h : Kd.C (Kd.slice 26 k26) w A n xs) (i : Int) (h0 : 0 ≤ i) (h1 : i < n) : ∃ ad A0 c0, A = some ad ∧ w.cell? (ad.add i.toNat) = some (.slice A0 (rd_L11 xs i).length c0) ∧ (rd_L11 xs i).length ≤ c0 ∧ k26.C w A0 (rd_L11 xs i).length (rd_L11 xs i) := by
  obtain ⟨ad, c, e, _, hK, hc0⟩ := Kd.C_get h ([] : List S26) i h0 h1;have hc : ∀ j u, c[j]? = some u → w.cell? (ad.add (i.toNat * 1 + j)) = some u := hc0;obtain ⟨A0, c0, rfl, l0, g0⟩ := hK;exact ⟨ad, A0, c0, e, by have hq := hc 0 _ rfl; rwa [Nat.mul_one, Nat.add_zero] at hq, l0, g0⟩
def rd_L12 (xs : List (List Int)) (i : Int) : (List Int) := xs.getD i.toNat ([] : List Int)
theorem at_L12 {w : World} {A : Option Addr} {n : Nat} {xs : List (List Int)} (h : Kd.C (Kd.slice 34 (Kd.int .u64)) w A n xs) (i : Int) (h0 : 0 ≤ i) (h1 : i < n) : ∃ ad A0 c0, A = some ad ∧ w.cell? (ad.add i.toNat) = some (.slice A0 (rd_L12 xs i).length c0) ∧ (rd_L12 xs i).length ≤ c0 ∧ (Kd.int .u64).C w A0 (rd_L12 xs i).length (rd_L12 xs i) := by
  obtain ⟨ad, c, e, _, hK, hc0⟩ := Kd.C_get h ([] : List Int) i h0 h1;have hc : ∀ j u, c[j]? = some u → w.cell? (ad.add (i.toNat * 1 + j)) = some u := hc0;obtain ⟨A0, c0, rfl, l0, g0⟩ := hK;exact ⟨ad, A0, c0, e, by have hq := hc 0 _ rfl; rwa [Nat.mul_one, Nat.add_zero] at hq, l0, g0⟩
structure S89 where
  f0 : (List Int)
  f1 : (List Int)
def z89 : S89 := ⟨([] : List Int), ([] : List Int)⟩
def k89 : Kd S89 := Kd.iso (Kd.pair (Kd.slice 3 (Kd.int .i64)) (Kd.slice 34 (Kd.int .u64))) (fun x : S89 => (x.f0, x.f1))
theorem k89_open {w : World} {x : S89} {cs : List Value} (h : k89.K w x cs) : ∃ A0 c0 A1 c1, cs = [.slice A0 x.f0.length c0, .slice A1 x.f1.length c1] ∧ x.f0.length ≤ c0 ∧ (Kd.int .i64).C w A0 x.f0.length x.f0 ∧ x.f1.length ≤ c1 ∧ (Kd.int .u64).C w A1 x.f1.length x.f1 := by
  obtain ⟨_, _, rfl, ⟨A0, c0, rfl, l0, g0⟩, ⟨A1, c1, rfl, l1, g1⟩⟩ := h;exact ⟨A0, c0, A1, c1, rfl, l0, g0, l1, g1⟩
theorem k89_openM {w : World} {base : Nat} {ok : Nat → Prop} {x : S89} {cs : List Value} (h : k89.M w base ok x cs) : ∃ v0 v1, cs = [v0, v1] ∧ (Kd.int .i64).R 3 w base ok v0 x.f0 ∧ (Kd.int .u64).R 34 w base ok v1 x.f1 := by
  obtain ⟨_, _, rfl, ⟨v0, rfl, g0⟩, ⟨v1, rfl, g1⟩⟩ := h;exact ⟨v0, v1, rfl, g0, g1⟩
theorem k89_mk (w : World) (x : S89) {A0 : Option Addr} {c0 : Nat} (l0 : x.f0.length ≤ c0) (g0 : (Kd.int .i64).C w A0 x.f0.length x.f0) {A1 : Option Addr} {c1 : Nat} (l1 : x.f1.length ≤ c1) (g1 : (Kd.int .u64).C w A1 x.f1.length x.f1) : k89.K w x [.slice A0 x.f0.length c0, .slice A1 x.f1.length c1] := ⟨[.slice A0 x.f0.length c0], [.slice A1 x.f1.length c1], rfl, ⟨A0, c0, rfl, l0, g0⟩, ⟨A1, c1, rfl, l1, g1⟩⟩
theorem k89_mkM (w : World) (base : Nat) (ok : Nat → Prop) (x : S89) {v0 : Value} (g0 : (Kd.int .i64).R 3 w base ok v0 x.f0) {v1 : Value} (g1 : (Kd.int .u64).R 34 w base ok v1 x.f1) : k89.M w base ok x [v0, v1] := ⟨[v0], [v1], rfl, ⟨v0, rfl, g0⟩, ⟨v1, rfl, g1⟩⟩
theorem k89_openF {W : World} {ok : Nat → Prop} {x : S89} {cs : List Value} (h : Kd.FK k89 W ok x cs) : ∃ A0 c0 A1 c1, cs = [.slice A0 x.f0.length c0, .slice A1 x.f1.length c1] ∧ x.f0.length ≤ c0 ∧ Kd.F (Kd.int .i64) W ok A0 x.f0.length x.f0 ∧ x.f1.length ≤ c1 ∧ Kd.F (Kd.int .u64) W ok A1 x.f1.length x.f1 := by
  obtain ⟨A0, c0, A1, c1, rfl, l0, _, l1, _⟩ := k89_open (Kd.FK_now h);exact ⟨A0, c0, A1, c1, rfl, l0, (fun W' hW => by obtain ⟨A0_, c0_, A1_, c1_, he, l0_, g0_, l1_, g1_⟩ := k89_open (h W' hW); injection (qqI (show some (Value.slice A0 x.f0.length c0) = some (Value.slice A0_ x.f0.length c0_) from congrArg (fun l => l[0]?) he)) with ha_ _ _; rw [ha_]; exact g0_), l1, (fun W' hW => by obtain ⟨A0_, c0_, A1_, c1_, he, l0_, g0_, l1_, g1_⟩ := k89_open (h W' hW); injection (qqI (show some (Value.slice A1 x.f1.length c1) = some (Value.slice A1_ x.f1.length c1_) from congrArg (fun l => l[1]?) he)) with ha_ _ _; rw [ha_]; exact g1_)⟩
theorem k89_mkF (W : World) (ok : Nat → Prop) (x : S89) {A0 : Option Addr} {c0 : Nat} (l0 : x.f0.length ≤ c0) (g0 : Kd.F (Kd.int .i64) W ok A0 x.f0.length x.f0) {A1 : Option Addr} {c1 : Nat} (l1 : x.f1.length ≤ c1) (g1 : Kd.F (Kd.int .u64) W ok A1 x.f1.length x.f1) : Kd.FK k89 W ok x [.slice A0 x.f0.length c0, .slice A1 x.f1.length c1] := fun W2 hW => k89_mk W2 x l0 (g0 W2 hW) l1 (g1 W2 hW)
def rd_T89 (xs : List S89) (i : Int) : S89 := xs.getD i.toNat z89
theorem at_T89 {w : World} {A : Option Addr} {n : Nat} {xs : List S89} (h : Kd.C k89 w A n xs) (i : Int) (h0 : 0 ≤ i) (h1 : i < n) : ∃ ad A0 c0 A1 c1, A = some ad ∧ w.cell? (ad.add (i.toNat * 2)) = some (.slice A0 (rd_T89 xs i).f0.length c0) ∧ w.cell? ⟨(ad.add (i.toNat * 2)).block, (ad.add (i.toNat * 2)).off + 1, none⟩ = some (.slice A1 (rd_T89 xs i).f1.length c1) ∧ (rd_T89 xs i).f0.length ≤ c0 ∧ (Kd.int .i64).C w A0 (rd_T89 xs i).f0.length (rd_T89 xs i).f0 ∧ (rd_T89 xs i).f1.length ≤ c1 ∧ (Kd.int .u64).C w A1 (rd_T89 xs i).f1.length (rd_T89 xs i).f1 := by
  obtain ⟨ad, c, e, _, hK, hc0⟩ := Kd.C_get h z89 i h0 h1;have hc : ∀ j u, c[j]? = some u → w.cell? (ad.add (i.toNat * 2 + j)) = some u := hc0;obtain ⟨A0, c0, A1, c1, rfl, l0, g0, l1, g1⟩ := k89_open hK;exact ⟨ad, A0, c0, A1, c1, e, hc 0 _ rfl, by rw [← add_field _ _ 1 (by omega)]; exact hc 1 _ rfl, l0, g0, l1, g1⟩
def rd_L14 (xs : List (List (List Int))) (i : Int) : (List (List Int)) := xs.getD i.toNat ([] : List (List Int))
theorem at_L14 {w : World} {A : Option Addr} {n : Nat} {xs : List (List (List Int))} (h : Kd.C (Kd.slice 27 (Kd.slice 3 (Kd.int .i64))) w A n xs) (i : Int) (h0 : 0 ≤ i) (h1 : i < n) : ∃ ad A0 c0, A = some ad ∧ w.cell? (ad.add i.toNat) = some (.slice A0 (rd_L14 xs i).length c0) ∧ (rd_L14 xs i).length ≤ c0 ∧ (Kd.slice 3 (Kd.int .i64)).C w A0 (rd_L14 xs i).length (rd_L14 xs i) := by
  obtain ⟨ad, c, e, _, hK, hc0⟩ := Kd.C_get h ([] : List (List Int)) i h0 h1;have hc : ∀ j u, c[j]? = some u → w.cell? (ad.add (i.toNat * 1 + j)) = some u := hc0;obtain ⟨A0, c0, rfl, l0, g0⟩ := hK;exact ⟨ad, A0, c0, e, by have hq := hc 0 _ rfl; rwa [Nat.mul_one, Nat.add_zero] at hq, l0, g0⟩
end Go.Proofs.Ytmlbliggbkfjnaa.J
/- Facts about memory carried on over a step, with the small proofs that are always alike as default arguments: so that the contracts' texts stay short. -/
namespace Go.Proofs.Ytmlbliggbkfjnaa.J
open Go.RowKit Go.Proofs.YtmlbliggbkfjnaaW.PrintWords Go.Proofs.YtmlbliggbkfjnaaW.PrintLast Go.Proofs.YtmlbliggbkfjnaaW.PrintMore
theorem od {p : Prop} [Decidable p] (h : decide p = true := by first | (with_reducible assumption) | assumption) : p := of_decide_eq_true h
theorem ifF {α : Type} {a b c : α} (h : (if false = true then a else b) = c) : b = c := h
theorem ifT {α : Type} {a b c : α} (h : (if true = true then a else b) = c) : a = c := h
theorem er {p : Prop} (h : p := by first | rfl | (simp [errW_none, errW_some] <;> rfl) | (simp [*, errW_none, errW_some] <;> rfl)) : p := h
theorem et {p : Prop} (h : p := by first | rfl | (simp; done) | (simp [*]; done)) : p := h
theorem am {p : Prop} (h : p) : Aside0 p := ⟨h⟩
section
variable {w w0 w1 W W0 W1 : World} {g g' : Nat} {o o' : Obj}
theorem blk_farO {x : Option Obj} (h : w.heap[g]? = x) {p : Addr} (hp : g ≠ p.block) (u : Value) : (w.setCell p u).heap[g]? = x := (Below.heap_setCell w p u g hp).trans h
theorem kU (h : Aside0 (w.heap[g]? = some o)) (hb : Below w0.heap.size w0 w1) (r : w.heap[g]? = some o → w0.heap[g]? = some o := by
    intro h; (with_reducible repeat (first | exact h | refine blk_drewN ?_ _ | refine blk_drew ?_ | refine blk_alloc ?_ _ | refine blk_farO ?_ (Aside0.out (by assumption)) _)); (try exact h)) : Aside0 (w1.heap[g]? = some o) := ⟨blk_below (r h.out) hb⟩
theorem blk_setT {t : TypeId} {cs : Array Value} {x : Option Obj} (h : w.heap[g]? = some (.cells cs t (0, 0))) (i : Nat) (u : Value) (e : some (.cells (cs.setIfInBounds i u) t (0, 0)) = x) : (w.setCell ⟨g, i, none⟩ u).heap[g]? = x := (blk_set h i u).trans e
theorem kO (h : Aside0 (w.heap[g]? = some o)) (hb : Below w0.heap.size w0 w1) (r : w.heap[g]? = some o → w0.heap[g]? = some o' := by
    intro h; (with_reducible repeat (first | exact h | refine blk_drewN ?_ _ | refine blk_drew ?_ | refine blk_alloc ?_ _ | refine blk_farO ?_ (Aside0.out (by assumption)) _ | apply blk_setT)); (try exact h); all_goals rfl) : Aside0 (w1.heap[g]? = some o') := ⟨blk_below (r h.out) hb⟩
theorem kb (h : Aside0 (w.heap[g]? = some o)) (r : w.heap[g]? = some o → w0.heap[g]? = some o := by
    intro h; (with_reducible repeat first | exact h | refine blk_drewN ?_ _ | refine blk_drew ?_ | refine blk_alloc ?_ _); (try exact h)) : w0.heap[g]? = some o := r h.out
theorem kg (h : Aside0 (w.heap[g]? = some o)) (r : w.heap[g]? = some o → w0.heap[g]? = some o' := by
    intro h; (with_reducible repeat (first | exact h | refine blk_drewN ?_ _ | refine blk_drew ?_ | refine blk_alloc ?_ _ | refine blk_farO ?_ (Aside0.out (by assumption)) _ | apply blk_setT)); (try exact h); all_goals rfl) : w0.heap[g]? = some o' := r h.out
theorem kP (h : Aside0 (w.heap[g]? = some o)) (hg : g' = w0.heap.size) (r : w.heap[g]? = some o → w0.heap[g]? = some o := by
    intro h; (with_reducible repeat (first | exact h | refine blk_drewN ?_ _ | refine blk_drew ?_ | refine blk_alloc ?_ _ | refine blk_farO ?_ (Aside0.out (by assumption)) _)); (try exact h)) : Aside0 (g ≠ g') := ⟨by rw [hg]; exact Nat.ne_of_lt (blk_lt (r h.out))⟩
theorem kQ (h : Aside0 (w.heap[g]? = some o)) (hg : g' = w0.heap.size) (r : w.heap[g]? = some o → w0.heap[g]? = some o := by
    intro h; (with_reducible repeat (first | exact h | refine blk_drewN ?_ _ | refine blk_drew ?_ | refine blk_alloc ?_ _ | refine blk_farO ?_ (Aside0.out (by assumption)) _)); (try exact h)) : Aside0 (g' ≠ g) := ⟨by rw [hg]; exact Nat.ne_of_gt (blk_lt (r h.out))⟩
theorem kD (h : Aside0 (w.heap[g]? = some o)) : Aside0 (w.drew.heap[g]? = some o) := ⟨blk_drew h.out⟩
theorem kh (h : Aside0 (Below w.heap.size w W)) (r : Below w.heap.size w W → Below w.heap.size w W0 := by
    intro h; repeat (first | (with_reducible first | exact h | apply below_alloc | apply pw_below_drewN | apply below_drew1 | refine below_set ?_ (Aside0.out (by assumption))) | exact h)) : Below w.heap.size w W0 := r h.out
theorem kH (h : Aside0 (Below w.heap.size w W)) (hb : Below W0.heap.size W0 W1) (r : Below w.heap.size w W → Below w.heap.size w W0 := by
    intro h; repeat (first | (with_reducible first | exact h | apply below_alloc | apply pw_below_drewN | apply below_drew1 | refine below_set ?_ (Aside0.out (by assumption))) | exact h)) : Aside0 (Below w.heap.size w W1) := ⟨below_step (r h.out) hb⟩
theorem kG (h : Aside0 (Below w.heap.size w W)) (hg : g = W0.heap.size) (r : Below w.heap.size w W → Below w.heap.size w W0 := by
    intro h; repeat (first | (with_reducible first | exact h | apply below_alloc | apply pw_below_drewN | apply below_drew1 | refine below_set ?_ (Aside0.out (by assumption))) | exact h)) : Aside0 (w.heap.size ≤ g) := ⟨by rw [hg]; exact below_size (r h.out)⟩
theorem kE {n : Nat} (h : Aside0 (Below n w W)) : Aside0 (Below n w W.drew) := ⟨below_drew1 h.out⟩
variable {α : Type} {d : Kd α} {e base : Nat} {ok : Nat → Prop} {v : Value} {xs : List α} {A : Option Addr} {n b' : Nat}
theorem kR (h : Aside0 (d.R e w base ok v xs)) (hb : Below w0.heap.size w0 w1) (r : d.R e w base ok v xs → d.R e w0 base ok v xs := by
    intro h; (with_reducible repeat first | exact h | apply Kd.R_alloc | apply Kd.R_drewN | apply Kd.R_drew); (try exact h)) : Aside0 (d.R e w1 base ok v xs) := ⟨Kd.R_below (r h.out) hb⟩
theorem kN (h : Aside0 (d.N e w base ok v xs)) (hb : Below w0.heap.size w0 w1) (r : d.N e w base ok v xs → d.N e w0 base ok v xs := by
    intro h; (with_reducible repeat first | exact h | apply Kd.N_alloc | apply Kd.N_drewN | apply Kd.N_drew); (try exact h)) : Aside0 (d.N e w1 base ok v xs) := ⟨Kd.N_below (r h.out) hb⟩
theorem kS (h : Aside0 (d.S e w base ok v xs)) (hb : Below w0.heap.size w0 w1) (r : d.S e w base ok v xs → d.S e w0 base ok v xs := by
    intro h; (with_reducible repeat first | exact h | apply Kd.S_alloc | apply Kd.S_drewN | apply Kd.S_drew); (try exact h)) : Aside0 (d.S e w1 base ok v xs) := ⟨Kd.S_below (r h.out) hb⟩
theorem krR (h : Aside0 (d.R e w base ok v xs)) (r : d.R e w base ok v xs → d.R e w0 base ok v xs := by
    intro h; (with_reducible repeat first | exact h | apply Kd.R_alloc | apply Kd.R_drewN | apply Kd.R_drew); (try exact h)) : d.R e w0 base ok v xs := r h.out
theorem kV (h : Aside0 (d.V e w base ok v xs)) (hb : Below w0.heap.size w0 w1) (r : d.V e w base ok v xs → d.V e w0 base ok v xs := by
    intro h; (with_reducible repeat first | exact h | apply Kd.V_alloc | apply Kd.V_drewN | apply Kd.V_drew); (try exact h)) : Aside0 (d.V e w1 base ok v xs) := ⟨Kd.V_below (r h.out) hb⟩
theorem krV (h : Aside0 (d.V e w base ok v xs)) (r : d.V e w base ok v xs → d.V e w0 base ok v xs := by
    intro h; (with_reducible repeat first | exact h | apply Kd.V_alloc | apply Kd.V_drewN | apply Kd.V_drew); (try exact h)) : d.V e w0 base ok v xs := r h.out
theorem krN (h : Aside0 (d.N e w base ok v xs)) (r : d.N e w base ok v xs → d.N e w0 base ok v xs := by
    intro h; (with_reducible repeat first | exact h | apply Kd.N_alloc | apply Kd.N_drewN | apply Kd.N_drew); (try exact h)) : d.N e w0 base ok v xs := r h.out
theorem krS (h : Aside0 (d.S e w base ok v xs)) (r : d.S e w base ok v xs → d.S e w0 base ok v xs := by
    intro h; (with_reducible repeat first | exact h | apply Kd.S_alloc | apply Kd.S_drewN | apply Kd.S_drew); (try exact h)) : d.S e w0 base ok v xs := r h.out
theorem kLR (h : d.R e W1 b' ok v xs) (hb : Aside0 (Below w.heap.size w W)) (eb : b' = W0.heap.size := by rfl) (r : Below w.heap.size w W → Below w.heap.size w W0 := by
    intro h; repeat (first | (with_reducible first | exact h | apply below_alloc | apply pw_below_drewN | apply below_drew1 | refine below_set ?_ (Aside0.out (by assumption))) | exact h)) : Aside0 (d.R e W1 w.heap.size ok v xs) := ⟨Kd.R_lower h (eb ▸ below_size (r hb.out))⟩
theorem kLN (h : d.N e W1 b' ok v xs) (hb : Aside0 (Below w.heap.size w W)) (eb : b' = W0.heap.size := by rfl) (r : Below w.heap.size w W → Below w.heap.size w W0 := by
    intro h; repeat (first | (with_reducible first | exact h | apply below_alloc | apply pw_below_drewN | apply below_drew1 | refine below_set ?_ (Aside0.out (by assumption))) | exact h)) : Aside0 (d.N e W1 w.heap.size ok v xs) := ⟨Kd.N_lower h (eb ▸ below_size (r hb.out))⟩
theorem kLS (h : d.S e W1 b' ok v xs) (hb : Aside0 (Below w.heap.size w W)) (eb : b' = W0.heap.size := by rfl) (r : Below w.heap.size w W → Below w.heap.size w W0 := by
    intro h; repeat (first | (with_reducible first | exact h | apply below_alloc | apply pw_below_drewN | apply below_drew1 | refine below_set ?_ (Aside0.out (by assumption))) | exact h)) : Aside0 (d.S e W1 w.heap.size ok v xs) := ⟨Kd.S_lower h (eb ▸ below_size (r hb.out))⟩
theorem kFR (h : Aside0 (d.R e w base ok v xs)) : Aside0 (d.R e w.drew base ok v xs) := ⟨Kd.R_drew h.out⟩
theorem kFV (h : Aside0 (d.V e w base ok v xs)) : Aside0 (d.V e w.drew base ok v xs) := ⟨Kd.V_drew h.out⟩
theorem kFN (h : Aside0 (d.N e w base ok v xs)) : Aside0 (d.N e w.drew base ok v xs) := ⟨Kd.N_drew h.out⟩
theorem kFS (h : Aside0 (d.S e w base ok v xs)) : Aside0 (d.S e w.drew base ok v xs) := ⟨Kd.S_drew h.out⟩
theorem kFC (h : Aside0 (d.C w A n xs)) : Aside0 (d.C w.drew A n xs) := ⟨Kd.C_drew h.out⟩
theorem kc (h : Aside0 (d.C w A n xs)) (r : d.C w A n xs → d.C w0 A n xs := by
    intro h; repeat (first | (with_reducible exact h) | (with_reducible first | refine Kd.C_alloc ?_ _ | refine Kd.C_drewN ?_ _ | refine Kd.C_drew ?_) | exact h)) : d.C w0 A n xs := r h.out
theorem kC (h : Aside0 (d.C w A n xs)) (hb : Below w0.heap.size w0 w1) (r : d.C w A n xs → d.C w0 A n xs := by
    intro h; repeat (first | (with_reducible exact h) | (with_reducible first | refine Kd.C_alloc ?_ _ | refine Kd.C_drewN ?_ _ | refine Kd.C_drew ?_) | exact h)) : Aside0 (d.C w1 A n xs) := ⟨Kd.C_below (r h.out) hb⟩
theorem kt {t : TypeId} {cs : Array Value} (h : Aside0 (d.R e w base ok v xs)) (hb : Aside0 (w.heap[g]? = some (.cells cs t (0, 0)))) (ht : ∀ q, q ∈ e :: d.E → q ≠ t := by decide) (r : d.R e w base (fun k => ok k ∧ k ≠ g) v xs → d.R e w0 base (fun k => ok k ∧ k ≠ g) v xs := by
    intro h; (with_reducible repeat (first | exact h | apply Kd.R_alloc | apply Kd.R_drewN | apply Kd.R_drew | refine Kd.R_far ?_ (fun _ hk => hk.2) _)); (try exact h)) : d.R e w0 base ok v xs := Kd.R_mono (r (Kd.R_types h.out hb.out ht)) (fun _ h_ => h_.1)
theorem ks {t : TypeId} {cs : Array Value} (h : Aside0 (d.S e w base ok v xs)) (hb : Aside0 (w.heap[g]? = some (.cells cs t (0, 0)))) (ht : ∀ q, q ∈ e :: d.E → q ≠ t := by decide) (r : d.S e w base (fun k => ok k ∧ k ≠ g) v xs → d.S e w0 base (fun k => ok k ∧ k ≠ g) v xs := by
    intro h; (with_reducible repeat (first | exact h | apply Kd.S_alloc | apply Kd.S_drewN | apply Kd.S_drew | refine Kd.S_far ?_ (fun _ hk => hk.2) _)); (try exact h)) : d.S e w0 base ok v xs := Kd.S_mono (r (Kd.S_types h.out hb.out ht)) (fun _ h_ => h_.1)
theorem kXR {t : TypeId} {cs : Array Value} {row : Option Nat} (h : Aside0 (w.heap[g]? = some (.cells cs t (0, 0)))) (hR : Aside0 (d.R e w base ok v xs)) (hg : w0.grownBy w1 row) (er : row = v.ownBlock := by rfl) (ht : e ≠ t := by decide) (r : w.heap[g]? = some (.cells cs t (0, 0)) → w0.heap[g]? = some (.cells cs t (0, 0)) := by
    intro h; (with_reducible repeat (first | exact h | refine blk_drewN ?_ _ | refine blk_drew ?_ | refine blk_alloc ?_ _ | refine blk_farO ?_ (Aside0.out (by assumption)) _)); (try exact h)) : Aside0 (w1.heap[g]? = some (.cells cs t (0, 0))) := ⟨blk_grown (r h.out) hg (er ▸ Kd.R_ne hR.out h.out ht)⟩
theorem kXS {t : TypeId} {cs : Array Value} {row : Option Nat} (h : Aside0 (w.heap[g]? = some (.cells cs t (0, 0)))) (hR : Aside0 (d.S e w base ok v xs)) (hg : w0.grownBy w1 row) (er : row = v.ownBlock := by rfl) (ht : e ≠ t := by decide) (r : w.heap[g]? = some (.cells cs t (0, 0)) → w0.heap[g]? = some (.cells cs t (0, 0)) := by
    intro h; (with_reducible repeat (first | exact h | refine blk_drewN ?_ _ | refine blk_drew ?_ | refine blk_alloc ?_ _ | refine blk_farO ?_ (Aside0.out (by assumption)) _)); (try exact h)) : Aside0 (w1.heap[g]? = some (.cells cs t (0, 0))) := ⟨blk_grown (r h.out) hg (er ▸ Kd.S_ne hR.out h.out ht)⟩
end
section
variable {w : World} {g : Nat} {t : TypeId} {a b c d e f : Value}
theorem kz1 (h : Aside0 (w.heap[g]? = some (.cells #[a] t (0, 0)))) : w.cell? ⟨g, 0, none⟩ = some a ∧ w.frozen? ⟨g, 0, none⟩ = false := ⟨blk_cell h.out 0, blk_frozen h.out 0⟩
theorem kz2 (h : Aside0 (w.heap[g]? = some (.cells #[a, b] t (0, 0)))) : w.cell? ⟨g, 0, none⟩ = some a ∧ w.cell? ⟨g, 1, none⟩ = some b ∧ w.frozen? ⟨g, 0, none⟩ = false ∧ w.frozen? ⟨g, 1, none⟩ = false := ⟨blk_cell h.out 0, blk_cell h.out 1, blk_frozen h.out 0, blk_frozen h.out 1⟩
theorem kz3 (h : Aside0 (w.heap[g]? = some (.cells #[a, b, c] t (0, 0)))) : w.cell? ⟨g, 0, none⟩ = some a ∧ w.cell? ⟨g, 1, none⟩ = some b ∧ w.cell? ⟨g, 2, none⟩ = some c ∧ w.frozen? ⟨g, 0, none⟩ = false ∧ w.frozen? ⟨g, 1, none⟩ = false ∧ w.frozen? ⟨g, 2, none⟩ = false := ⟨blk_cell h.out 0, blk_cell h.out 1, blk_cell h.out 2, blk_frozen h.out 0, blk_frozen h.out 1, blk_frozen h.out 2⟩
theorem kz4 (h : Aside0 (w.heap[g]? = some (.cells #[a, b, c, d] t (0, 0)))) : w.cell? ⟨g, 0, none⟩ = some a ∧ w.cell? ⟨g, 1, none⟩ = some b ∧ w.cell? ⟨g, 2, none⟩ = some c ∧ w.cell? ⟨g, 3, none⟩ = some d ∧ w.frozen? ⟨g, 0, none⟩ = false ∧ w.frozen? ⟨g, 1, none⟩ = false ∧ w.frozen? ⟨g, 2, none⟩ = false ∧ w.frozen? ⟨g, 3, none⟩ = false := ⟨blk_cell h.out 0, blk_cell h.out 1, blk_cell h.out 2, blk_cell h.out 3, blk_frozen h.out 0, blk_frozen h.out 1, blk_frozen h.out 2, blk_frozen h.out 3⟩
theorem ky1 (h : Aside0 (w.heap[g]? = some (.cells #[a] t (0, 0)))) : w.cell? ⟨g, 0, none⟩ = some a := blk_cell h.out 0
theorem ky2 (h : Aside0 (w.heap[g]? = some (.cells #[a, b] t (0, 0)))) : w.cell? ⟨g, 0, none⟩ = some a ∧ w.cell? ⟨g, 1, none⟩ = some b := ⟨blk_cell h.out 0, blk_cell h.out 1⟩
theorem ky3 (h : Aside0 (w.heap[g]? = some (.cells #[a, b, c] t (0, 0)))) : w.cell? ⟨g, 0, none⟩ = some a ∧ w.cell? ⟨g, 1, none⟩ = some b ∧ w.cell? ⟨g, 2, none⟩ = some c := ⟨blk_cell h.out 0, blk_cell h.out 1, blk_cell h.out 2⟩
theorem ky4 (h : Aside0 (w.heap[g]? = some (.cells #[a, b, c, d] t (0, 0)))) : w.cell? ⟨g, 0, none⟩ = some a ∧ w.cell? ⟨g, 1, none⟩ = some b ∧ w.cell? ⟨g, 2, none⟩ = some c ∧ w.cell? ⟨g, 3, none⟩ = some d := ⟨blk_cell h.out 0, blk_cell h.out 1, blk_cell h.out 2, blk_cell h.out 3⟩
theorem kk {cs : Array Value} {x : Option Value} (h : Aside0 (w.heap[g]? = some (.cells cs t (0, 0)))) (i : Nat) (e : cs[i]? = x := by rfl) : w.cell? ⟨g, i, none⟩ = x := (blk_cell h.out i).trans e
theorem kq {W W0 : World} {x : Value} {p : Addr} (h : Aside0 (Below w.heap.size w W)) (hc : w.cell? p = some x) (r : Below w.heap.size w W → Below w.heap.size w W0 := by
    intro h; repeat (first | (with_reducible first | exact h | apply below_alloc | apply pw_below_drewN | apply below_drew1 | refine below_set ?_ (Aside0.out (by assumption))) | exact h)) : W0.cell? p = some x := ((r h.out).cell (qqW w _ hc)).trans hc
theorem kw {x : Value} {p : Addr} (h : w.cell? p = some x) (hg : Aside0 (w.heap.size ≤ g)) : p.block ≠ g := Nat.ne_of_lt (Nat.lt_of_lt_of_le (qqW _ _ h) hg.out)
theorem kv {x : Value} {p : Addr} {n : Nat} (h : w.cell? (p.add n) = some x) (hg : Aside0 (w.heap.size ≤ g)) : p.block ≠ g := by
  have := kw h hg
  rwa [add_block] at this
theorem kx {x : Value} {p : Addr} (hg : Aside0 (w.heap.size ≤ g)) (h : w.cell? p = some x) : p.block ≠ g := kw h hg
theorem kf {w0 : World} {p : Addr} {x : Option Value} (h : w0.cell? p = x) (r : w0.cell? p = x → w.cell? p = x := by
    intro h; repeat (first | with_reducible exact h | refine (cell_far (by first | (with_reducible exact Aside0.out (by assumption)) | exact kx (by assumption) (by assumption) | (rw [add_block]; exact kw (by assumption) (by assumption)) | (rw [add_block]; exact kv (by assumption) (by assumption)) | (show (Addr.add _ _).block ≠ _; rw [add_block]; exact kv (by assumption) (by assumption)) | exact kv (by assumption) (by assumption)) _).trans ?_ | exact h)) : w.cell? p = x := r h
end
section
variable {P : Program} {ops : Array Oper} {Q : Exit → Act → World → Prop} {md : Region.Mode} {S : World → Prop} {ds : List Nat} {i : Nat} {N : Option Tmp} {oi : Oper} {v : Value} {fuel : Nat} {l : Array Bool} {a a' : Act} {w : World} {T : Bool × List (List Nat × List Nat)} {B : List Nat}
def bsL : Nat → Nat → List Bool
  | 0, _ => []
  | n + 1, m => (m % 2 == 1) :: bsL n (m / 2)
def bs (n m : Nat) : Array Bool := (bsL n m).toArray
theorem pu (i : Nat) (N : Option Tmp) (l' : Array Bool) (hT : Aside0 (rtab md ops = T)) (h : wpAnyLast P md ops Q S ds fuel l' a' w) (hi : ops[i]? = some oi := by rfl) (hN : oi.dst = N := by rfl) (hc : anyT T l.toList l'.toList i = true := by kernel_rfl)
    (hQ : ∀ c a w, Q (.panic c) (a.put oi.dst v) w → Q (.panic c) a w := by exact fun _ _ _ h => h) (hw : Region.wanted oi (yielded ops a.tmps) = true := by rfl) (hr : ∀ w, (execOp a.eval oi).run P w = .ok (.value v) w := by (intro w'; go_simp; with_reducible rfl)) (ha : a.put N v = a' := by (simp only [Act.put, qS1, qS2, qS3, i64_w, i32_w]; rfl)) :
    wpAnyLast P md ops Q S ds (fuel + 1) l a w := pure_ l' hi hN (any_of hT.out hc) hQ (Or.inl ⟨hw, hr⟩) ha h
theorem no (N : Option Tmp) (h : wpAnyLast P md ops Q S ds fuel l a' w) (ha : a.put N v = a' := by (simp only [Act.put, qS1, qS2, qS3, i64_w, i32_w]; rfl)) : wpAnyLast P md ops Q S ds fuel l (a.put N v) w := norm_ ha h
theorem ta (i : Nat) (N : Option Tmp) (l' : Array Bool) (hT : Aside0 (rtab md ops = T)) (hB : Aside0 (waitsOk T.2 B = true)) (hS : S w) (h : wpAnyLast P md ops Q S ds fuel l' a' w) (hi : ops[i]? = some oi := by rfl) (hN : oi.dst = N := by rfl) (hc : takeW T B ds l.toList l'.toList i = true := by kernel_rfl)
    (hQ : ∀ c a w, Q (.panic c) (a.put oi.dst v) w → Q (.panic c) a w := by exact fun _ _ _ h => h) (hw : Region.wanted oi (yielded ops a.tmps) = true := by rfl) (hr : ∀ w, S w → (execOp a.eval oi).run P w = .ok (.value v) w := by (intro w' hs; (try dsimp only at hs); go_simp; with_reducible rfl)) (ha : a.put N v = a' := by (simp only [Act.put, qS1, qS2, qS3, i64_w, i32_w]; rfl)) :
    wpAnyLast P md ops Q S ds (fuel + 1) l a w := take_ l' hi hN (take_ofW hT.out hB.out hc) hQ (Or.inl ⟨hw, hr⟩) hS ha h
end
end Go.Proofs.Ytmlbliggbkfjnaa.J
namespace Go.Proofs.Ytmlbliggbkfjnaa.J
open Go.RowKit Go.Proofs.YtmlbliggbkfjnaaW.PrintWords Go.Proofs.YtmlbliggbkfjnaaW.PrintLast Go.Proofs.YtmlbliggbkfjnaaW.PrintMore
attribute [local go_sem] max2_int min2_int max_two min_two max_three min_three max_four min_four
mutual
def qma.j0 : Nat → Int → Bool → Option (Bool)
 | 0, _, _ => none
 | k + 1, x0, x14 => if x14 = true then (some false) else (qma.l0 k x0 3)
def qma.l0 : Nat → Int → Int → Option (Bool)
 | 0, _, _ => none
 | k + 1, x0, x3 => if (IntKind.u64.wrap (x3 * x3)) ≤ x0 then (if x3 = 0 then (none) else (if (Int.tmod x0 x3) = 0 then (some false) else (qma.l0 k x0 (IntKind.u64.wrap (x3 + 2))))) else (some true)
end
def qma.f (k : Nat) (a0 : Int) : Option (Bool) := if a0 < 3 then (qma.j0 k a0 true) else (if a0 > 65537 then (qma.j0 k a0 true) else (qma.j0 k a0 ((Int.tmod a0 2) == 0)))
theorem qma.calls (k : Nat) (a0 : Int) (r : Bool) (w : World) (h : qma.f k a0 = some r) :
  Calls Try.prog 59 #[.int .u64 a0] w fun e w' => e = .returned (.bool r) ∧ Drawn0 w w' := by
 have H : (if a0 < 3 then (qma.j0 k a0 true) else (if a0 > 65537 then (qma.j0 k a0 true) else (qma.j0 k a0 ((Int.tmod a0 2) == 0)))) = some r := h;clear h;have HC2 := Aside0.mk H;clear H;go_enter Try.func59, Try.ntmps59;go_upto_region 1 with (fail);go_cut [14] (fun v14 wc => ∃ (kq : Nat) (ab : Bool), v14 = .bool ab ∧ Aside0 (qma.j0 kq a0 ab = some r) ∧ Aside0 (kq ≤ k) ∧ Drawn0 w wc)
 case first =>
  have H := HC2.out;clear HC2
  by_cases c3 : a0 < 3
  ·rw [if_pos c3] at H
   have ae := qqT c3;clear c3;(first | rw [ae] | (simp only [i64_w, i32_w]; rw [ae]) | skip);have H' := Aside0.mk H;clear H;go_wp2;go_meet
   case rel => exact ⟨_, (true), et, H', ⟨by first | omega | exact Nat.le_refl _⟩, by repeat (first | exact Drawn0.refl _ | apply Drawn0.step)⟩
  rw [if_neg c3] at H;have ae := qqF c3;clear c3;(first | rw [ae] | (simp only [i64_w, i32_w]; rw [ae]) | skip)
  by_cases c4 : a0 > 65537
  ·rw [if_pos c4] at H
   have af := qqT c4;clear c4;have H' := Aside0.mk H;clear H;go_wp2;go_meet
   case rel => exact ⟨_, (true), et, H', ⟨by first | omega | exact Nat.le_refl _⟩, by repeat (first | exact Drawn0.refl _ | apply Drawn0.step)⟩
  rw [if_neg c4] at H;have af := qqF c4;clear c4;have H' := Aside0.mk H;clear H;go_wp2;go_meet
  case rel => exact ⟨_, (((Int.tmod a0 2) == 0)), et, H', ⟨by first | omega | exact Nat.le_refl _⟩, by repeat (first | exact Drawn0.refl _ | apply Drawn0.step)⟩
 clear HC2;obtain ⟨kq, ab, rfl, HA, HJ1, ⟨mc1, rfl⟩⟩ := hcut
 cases kq with
 | zero => exact absurd HA.out (by simp [qma.j0])
 | succ kj1 =>
  have H := HA.out;clear HA;simp only [qma.j0] at H
  by_cases c5 : ab = true
  ·subst c5
   replace H := ifT H;obtain rfl := qqI H;go_wp2;go_ret;exact ⟨et, by repeat (first | exact Drawn0.refl _ | apply Drawn0.step)⟩
  replace c5 := Bool.eq_false_iff.mpr c5;subst c5;replace H := ifF H;have H' := Aside0.mk H;clear H;go_wp2;go_loopg [3] kj1 (fun kq v3 w' => ∃ (aa : Int), v3 = .int .u64 aa ∧ Aside0 (qma.l0 kq a0 aa = some r) ∧ Aside0 (kq ≤ kj1) ∧ Drawn0 w w')
  case atStart => exact ⟨(3), et, H', ⟨Nat.le_refl _⟩, by repeat (first | exact Drawn0.refl _ | apply Drawn0.step)⟩
  case round =>
   clear H'; (try clear c5);obtain ⟨aa, rfl, HA, HK2, ⟨m2, rfl⟩⟩ := hrel
   cases gk with
   | zero => exact absurd HA.out (by simp [qma.l0])
   | succ k2 =>
    have H := HA.out;clear HA;simp only [qma.l0] at H
    by_cases c6 : (IntKind.u64.wrap (aa * aa)) ≤ a0
    rotate_left
    ·rw [if_neg c6] at H
     have ag := qqF c6;clear c6;obtain rfl := qqI H;go_wp2;go_ret;exact ⟨et, by repeat (first | exact Drawn0.refl _ | apply Drawn0.step)⟩
    rw [if_pos c6] at H;have ag := qqT c6;clear c6
    by_cases c7 : aa = 0
    ·rw [if_pos c7] at H
     exact absurd H (by simp)
    rw [if_neg c7] at H;have aj := beq_eq_false_iff_ne.mpr c7;have ak := bne_iff_ne.mpr c7
    by_cases c8 : (Int.tmod a0 aa) = 0
    ·rw [if_pos c8] at H
     have ah := beq_iff_eq.mpr c8;have ai := bne_eq_false_iff_eq.mpr c8;clear c8;obtain rfl := qqI H;go_wp2;go_ret;exact ⟨et, by repeat (first | exact Drawn0.refl _ | apply Drawn0.step)⟩
    rw [if_neg c8] at H;have ah := beq_eq_false_iff_ne.mpr c8;have ai := bne_iff_ne.mpr c8;have H' := Aside0.mk H;clear H;go_wp2;go_roundg k2
    case measure => have := HJ1.out; have := HK2.out; omega
    case rel => exact ⟨(IntKind.u64.wrap (aa + 2)), et, H', ⟨by have := HJ1.out; have := HK2.out; omega⟩, by repeat (first | exact Drawn0.refl _ | apply Drawn0.step)⟩
theorem api_Slot_78.goesT {P : Program} {ops : Array Oper} {Q : Exit → Act → World → Prop} {rest : List Oper} {oi : Oper} {a : Act} {w : World} (N : Option Tmp) (hd : oi.dst = N) (hg : oi.guard = none) {f : FuncId} {L : Array Value} {c : Operand} {ops_ : Array Operand} {ts : Array TypeId}
  (he : ∀ args w, (callFunc f args).run P w = .ok (.enter f args) w) (args : Array Value) (hop : oi.op = .call { callee := .value c, args := ops_, argTypes := ts }) (hc : a.eval c = .func (.func f) #[] L) (hargs : ops_.map a.eval = args)
  (h : Calls P f (args ++ L) w fun e w' => ∃ v, e = .returned v ∧ wpList P ops Q rest (a.put N v) w') : wpList P ops Q (oi :: rest) a w := by
 refine wpList_plain hg fun K hK => ?_
 have he := he (args ++ L) w
 have hrun : (execOp a.eval oi).run P w = .ok (.enter f (args ++ L)) w := by
  unfold execOp;have hargs' : Array.map (fun x => a.eval x) ops_ = args := hargs;simp [hop, resolve, Deferred.ofValue, invoke, hc, hargs', he]
 unfold Oper.wp;rw [hrun, Oper.upon_enter]
 refine h.mono fun e w'' hh => ?_
 obtain ⟨v, rfl, hk⟩ := hh;subst hd;exact hK _ _ hk
theorem api_Slot_78.goesT_ {P : Program} {ops : Array Oper} {Q : Exit → Act → World → Prop} {oi : Oper} {N : Option Tmp} {a : Act} {w : World} {K : Act → World → Prop} {f : FuncId} {L : Array Value} {c : Operand} {ops_ : Array Operand} {ts : Array TypeId}
  (he : ∀ args w, (callFunc f args).run P w = .ok (.enter f args) w) (args : Array Value) (hw : Region.wanted oi (yielded ops a.tmps) = true) (hN : oi.dst = N) (hop : oi.op = .call { callee := .value c, args := ops_, argTypes := ts }) (hc : a.eval c = .func (.func f) #[] L) (hargs : ops_.map a.eval = args)
  (h : Calls P f (args ++ L) w fun e w' => ∃ v, e = .returned v ∧ K (a.put N v) w') : if Region.wanted oi (yielded ops a.tmps) = true then Oper.wp P oi a w K Q else K (a.put N undef) w := by
 refine call_ f (args ++ L) hw hN ?_ h;have he := he (args ++ L) w;have hargs' : Array.map (fun x => a.eval x) ops_ = args := hargs;unfold execOp;simp [hop, resolve, Deferred.ofValue, invoke, hc, hargs', he]
theorem api_Slot_78.goesT0 {P : Program} {ops : Array Oper} {Q : Exit → Act → World → Prop} {rest : List Oper} {oi : Oper} {a : Act} {w : World} (N : Option Tmp) (hd : oi.dst = N) (hg : oi.guard = none) {f : FuncId} {fn : Func} (hf : P.funcs[f]? = some fn) (hname : (fn.name == "runtime.NumGoroutine") = false) (hb : fn.body.isSome = true) {c : Operand} {ops_ : Array Operand} {ts : Array TypeId}
  (args : Array Value) (hop : oi.op = .call { callee := .value c, args := ops_, argTypes := ts }) (hc : a.eval c = .func (.func f) #[] #[]) (hargs : ops_.map a.eval = args)
  (h : Calls P f args w fun e w' => ∃ v, e = .returned v ∧ wpList P ops Q rest (a.put N v) w') : wpList P ops Q (oi :: rest) a w :=
 api_Slot_78.goesT N hd hg (fun args w => enters_ hf hname hb args w) args hop hc hargs (by rw [Array.append_empty]; exact h)
theorem api_Slot_78.goesT0_ {P : Program} {ops : Array Oper} {Q : Exit → Act → World → Prop} {oi : Oper} {N : Option Tmp} {a : Act} {w : World} {K : Act → World → Prop} {f : FuncId} {fn : Func} (hf : P.funcs[f]? = some fn) (hname : (fn.name == "runtime.NumGoroutine") = false) (hb : fn.body.isSome = true) {c : Operand} {ops_ : Array Operand} {ts : Array TypeId}
  (args : Array Value) (hw : Region.wanted oi (yielded ops a.tmps) = true) (hN : oi.dst = N) (hop : oi.op = .call { callee := .value c, args := ops_, argTypes := ts }) (hc : a.eval c = .func (.func f) #[] #[]) (hargs : ops_.map a.eval = args)
  (h : Calls P f args w fun e w' => ∃ v, e = .returned v ∧ K (a.put N v) w') : if Region.wanted oi (yielded ops a.tmps) = true then Oper.wp P oi a w K Q else K (a.put N undef) w :=
 api_Slot_78.goesT_ (fun args w => enters_ hf hname hb args w) args hw hN hop hc hargs (by rw [Array.append_empty]; exact h)
theorem api_Slot_78.any_step {α : Type} (d : α → Bool) (z : α) (l : List α) (k : Nat) (hk : k < l.length) (h : (l.take k).any d = false) : (l.take (k + 1)).any d = d (l.getD k z) := by
 rw [List.take_succ_eq_append_getElem hk, List.any_append, h];simp [List.getD_eq_getElem?_getD, hk]
theorem api_Slot_78.any_true {α : Type} (d : α → Bool) (z : α) (l : List α) (k : Nat) (hk : k < l.length) (h : d (l.getD k z) = true) : l.any d = true := by
 rw [List.any_eq_true];exact ⟨l[k], List.getElem_mem hk, by simpa [List.getD_eq_getElem?_getD, hk] using h⟩
theorem api_Slot_78.below2 {n : Nat} {w w1 w2 : World} (h : Below n w w1) (hn : n ≤ w.heap.size) (h2 : Below w1.heap.size w1 w2) : Below n w w2 := h.trans (h2.mono (Nat.le_trans hn h.size))
def api_Slot_78.Post (b : Bool) (w : World) (e : Ending) (w' : World) : Prop := ∃ i : Int, e = .returned (.int .i64 i) ∧ decide (0 ≤ i) = b ∧ Below w.heap.size w w'
theorem api_Slot_78.any_calls (d : S64 → Bool) (fid : FuncId) (L : Array Value) (hE : ∀ args w, (callFunc fid args).run Try.prog w = .ok (.enter fid args) w) (A0 : Option Addr) (c0 : Nat) (l0 : List S64) (w : World)
  (hD : ∀ (x : S64) (W : World), Below w.heap.size w W → Calls Try.prog fid (#[.agg #[.int .i64 x.f0, .bool x.f1]] ++ L) W fun e w' => e = .returned (.bool (d x)) ∧ Below W.heap.size W w')
  (hr0 : Kd.C k64 w A0 l0.length l0) (hc0 : l0.length ≤ c0) :
  Calls Try.prog 78 #[.slice A0 l0.length c0, .func (.func fid) #[] L] w (api_Slot_78.Post (l0.any d) w) := by
 have HE := Aside0.mk hE;have HD := Aside0.mk hD;have HR := Aside0.mk hr0;have hlen : l0.length ≤ 9223372036854775807 := hr0.2.1;clear hE hD hr0 hc0;obtain ⟨n, hn⟩ : ∃ n, n = l0.length := ⟨_, rfl⟩;rw [← hn] at hlen ⊢;have HN := Aside0.mk hn;clear hn;go_enter Try.func78, Try.ntmps78;go_wp2;go_loopw [8] (fun v8 w' => ∃ k : Nat, v8 = .int .i64 k ∧ k ≤ n ∧ Aside0 ((l0.take k).any d = false) ∧ Aside0 (Below w.heap.size w w')) (fun v8 _ => n - (intOf v8).toNat)
 case atStart => exact ⟨0, rfl, Nat.zero_le _, ⟨by simp⟩, ⟨Below.refl _ _⟩⟩
 case round =>
  obtain ⟨k, rfl, hk, HA, HW⟩ := hrel
  by_cases hlt : k < n
  rotate_left
  ·obtain rfl : k = n := by omega
   go_wp2;go_ret;exact ⟨_, rfl, by have := HA.out; rw [HN.out, List.take_length] at this; rw [this]; rfl, HW.out⟩
  have hltl : k < l0.length := by have := HN.out; omega
  obtain ⟨ad, e1, hc1, hc2⟩ := at_T64 HR.out (k : Int) (by omega) (by have := HN.out; omega);subst e1;simp only [Int.toNat_natCast] at hc1 hc2;replace hc1 := (HW.out.cell (qqW w _ hc1)).trans hc1;replace hc2 := (HW.out.cell (qqW w _ hc2)).trans hc2;have HLT := Aside0.mk hltl;clear hltl;obtain ⟨b, hb⟩ : ∃ b, b = d (rd_T64 l0 k) := ⟨_, rfl⟩;obtain ⟨x, hx⟩ : ∃ x, x = rd_T64 l0 k := ⟨_, rfl⟩;rw [← hx] at hc1 hc2 hb;have HX := Aside0.mk hx;have HBB := Aside0.mk hb;clear hx hb
  cases b with
  | true =>
   go_wp2_with ((with_reducible refine gate_dst (N := 16) rfl ?_); refine api_Slot_78.goesT (some 16) rfl rfl HE.out #[.agg #[.int .i64 x.f0, .bool x.f1]] rfl rfl (by (try simp only [qM1, qM2, qM3]); first | done | rfl) ?_; (with_reducible refine (HD.out x _ HW.out).mono ?_); rintro e w' ⟨rfl, hb_⟩; have HB2 := Aside0.mk hb_; clear hb_; rw [← HBB.out]; refine ⟨_, rfl, ?_⟩);go_ret;exact ⟨_, rfl, by rw [api_Slot_78.any_true d _ l0 k HLT.out (by have := HX.out; unfold rd_T64 at this; rw [Int.toNat_natCast] at this; rw [← this]; exact HBB.out.symm)]; simp, api_Slot_78.below2 HW.out (Nat.le_refl _) HB2.out⟩
  | false =>
   go_wp2_with ((with_reducible refine gate_dst (N := 16) rfl ?_); refine api_Slot_78.goesT (some 16) rfl rfl HE.out #[.agg #[.int .i64 x.f0, .bool x.f1]] rfl rfl (by (try simp only [qM1, qM2, qM3]); first | done | rfl) ?_; (with_reducible refine (HD.out x _ HW.out).mono ?_); rintro e w' ⟨rfl, hb_⟩; have HB2 := Aside0.mk hb_; clear hb_; rw [← HBB.out]; refine ⟨_, rfl, ?_⟩);go_roundw
   case rel => exact ⟨k + 1, by first | rfl | go_num, by omega, ⟨by rw [api_Slot_78.any_step d _ l0 k HLT.out HA.out]; have := HX.out; unfold rd_T64 at this; rw [Int.toNat_natCast] at this; rw [← this]; exact HBB.out.symm⟩, ⟨api_Slot_78.below2 HW.out (Nat.le_refl _) HB2.out⟩⟩
   case measure => simp [intOf]; omega
def circ_Check_1.f (aa : Int) (ab : Bool) : Option (Bool) := if aa < 1 then (some true) else (some (decide (aa > 13)))
theorem circ_Check_1.calls (aa : Int) (ae : Bool) (r : Bool) (w : World) (h : circ_Check_1.f aa ae = some r) :
  Calls Try.prog 61 #[.agg #[.int .i64 aa, .bool ae]] w fun e w' => e = .returned (.bool r) ∧ Below w.heap.size w w' := by
 have hu64 := Try.underlying64;have HB := Aside0.mk (Below.refl w.heap.size w);have H : (if aa < 1 then (some true) else (some (decide (aa > 13)))) = some r := h;clear h
 by_cases c2 : aa < 1
 ·rw [if_pos c2] at H
  have ai := qqT c2;clear c2;obtain rfl := qqI H;go_enter Try.func61, Try.ntmps61;go_wp2_with (first | ((with_reducible refine gate_dst (N := 1) rfl ?_); refine box_event ?hg (N := 1) ?hd (cs := #[.int .i64 aa, .bool ae]) (t := 64) ?hr ?_; (case hd | hg => rfl); (case hr => go_simp; try rfl); intro af hg w3 hbox hb; have ab := am hbox; have ag := kG HB hg; have ah := kG HB hg; replace HB := kH HB hb; clear hb hbox hg; have Z4 := kz2 ab));go_ret;exact ⟨er, kh HB⟩
 rw [if_neg c2] at H;have ai := qqF c2;clear c2;obtain rfl := qqI H;go_enter Try.func61, Try.ntmps61;go_wp2_with (first | ((with_reducible refine gate_dst (N := 1) rfl ?_); refine box_event ?hg (N := 1) ?hd (cs := #[.int .i64 aa, .bool ae]) (t := 64) ?hr ?_; (case hd | hg => rfl); (case hr => go_simp; try rfl); intro af hg w5 hbox hb; have ab := am hbox; have ag := kG HB hg; have ah := kG HB hg; replace HB := kH HB hb; clear hb hbox hg; have Z6 := kz2 ab));go_ret;exact ⟨er, kh HB⟩
def circ_named.j0 : Nat → Int → Bool → Option (Bool × Bool × Bool × Bool × Bool)
 | 0, _, _ => none
 | k + 1, x4, x11 => if x11 = true then (some (false, true, true, false, true)) else (if x4 = 6 then (some (false, true, false, true, true)) else (some (false, false, false, false, false)))
def circ_named.f (k : Nat) (a0 : Int) : Option (Bool × Bool × Bool × Bool × Bool) := if a0 = 1 then (some (true, false, false, false, true)) else (if a0 = 2 then (some (false, false, false, true, true)) else (if a0 = 3 then (circ_named.j0 k a0 (a0 == 3)) else (if a0 = 4 then (circ_named.j0 k a0 (a0 == 4)) else (circ_named.j0 k a0 (a0 == 5)))))
theorem circ_named.calls (k : Nat) (a0 : Int) (r1 : Bool) (r2 : Bool) (r3 : Bool) (r4 : Bool) (r5 : Bool) (w : World) (h : circ_named.f k a0 = some (r1, r2, r3, r4, r5)) :
  Calls Try.prog 79 #[.int .i64 a0] w fun e w' => e = .returned (.tuple #[.agg #[.bool r1, .bool r2, .bool r3, .bool r4], .bool r5]) ∧ Below w.heap.size w w' := by
 have hu104 := Try.underlying104;have HB := Aside0.mk (Below.refl w.heap.size w);have H : (if a0 = 1 then (some (true, false, false, false, true)) else (if a0 = 2 then (some (false, false, false, true, true)) else (if a0 = 3 then (circ_named.j0 k a0 (a0 == 3)) else (if a0 = 4 then (circ_named.j0 k a0 (a0 == 4)) else (circ_named.j0 k a0 (a0 == 5)))))) = some (r1, r2, r3, r4, r5) := h;clear h
 by_cases c2 : a0 = 1
 ·rw [if_pos c2] at H
  have ai := beq_iff_eq.mpr c2;have aj := bne_eq_false_iff_eq.mpr c2;clear c2;simp only [Option.some.injEq, Prod.mk.injEq] at H;obtain ⟨rfl, rfl, rfl, rfl, rfl⟩ := H;go_enter Try.func79, Try.ntmps79;go_wp2_with (first | ((with_reducible refine gate_dst (N := 2) rfl ?_); refine box_event ?hg (N := 2) ?hd (cs := #[.bool false, .bool false, .bool false, .bool false]) (t := 104) ?hr ?_; (case hd | hg => rfl); (case hr => go_simp; try rfl); intro ab hg w3 hbox hb; have aa := am hbox; have ag := kG HB hg; have ah := kG HB hg; replace HB := kH HB hb; clear hb hbox hg; have Z4 := kz4 aa));refine bodyPost_ret (results_ct rfl _ _ ab 104 #[.bool true, .bool false, .bool false, .bool false] (0, 0) _ rfl (kg aa) Try.underlying104 rfl (by kernel_rfl)) rfl ?_;exact ⟨er, kh HB⟩
 rw [if_neg c2] at H;have ai := beq_eq_false_iff_ne.mpr c2;have aj := bne_iff_ne.mpr c2
 by_cases c5 : a0 = 2
 ·rw [if_pos c5] at H
  have ak := beq_iff_eq.mpr c5;have al := bne_eq_false_iff_eq.mpr c5;clear c5;simp only [Option.some.injEq, Prod.mk.injEq] at H;obtain ⟨rfl, rfl, rfl, rfl, rfl⟩ := H;go_enter Try.func79, Try.ntmps79;go_wp2_with (first | ((with_reducible refine gate_dst (N := 2) rfl ?_); refine box_event ?hg (N := 2) ?hd (cs := #[.bool false, .bool false, .bool false, .bool false]) (t := 104) ?hr ?_; (case hd | hg => rfl); (case hr => go_simp; try rfl); intro ab hg w6 hbox hb; have aa := am hbox; have ag := kG HB hg; have ah := kG HB hg; replace HB := kH HB hb; clear hb hbox hg; have Z7 := kz4 aa));refine bodyPost_ret (results_ct rfl _ _ ab 104 #[.bool false, .bool false, .bool false, .bool true] (0, 0) _ rfl (kg aa) Try.underlying104 rfl (by kernel_rfl)) rfl ?_;exact ⟨er, kh HB⟩
 rw [if_neg c5] at H;have ak := beq_eq_false_iff_ne.mpr c5;have al := bne_iff_ne.mpr c5;have HC8 := Aside0.mk H;clear H;go_enter Try.func79, Try.ntmps79;go_upto_if 11 with (first | ((with_reducible refine gate_dst (N := 2) rfl ?_); refine box_event ?hg (N := 2) ?hd (cs := #[.bool false, .bool false, .bool false, .bool false]) (t := 104) ?hr ?_; (case hd | hg => rfl); (case hr => go_simp; try rfl); intro ab hg w9 hbox hb; have aa := am hbox; have ag := kG HB hg; have ah := kG HB hg; replace HB := kH HB hb; clear hb hbox hg));(try simp only [Act.put, qS1, qS2, qS3]);go_cut [11] (fun v11 wc => ∃ (kq : Nat) (af : Bool), v11 = .bool af ∧ Aside0 (circ_named.j0 kq a0 af = some (r1, r2, r3, r4, r5)) ∧ Aside0 (kq ≤ k) ∧ Aside0 (wc.heap[ab]? = some (.cells #[.bool false, .bool false, .bool false, .bool false] 104 (0, 0))) ∧ Aside0 (Below w.heap.size w wc))
 case first =>
  have H := HC8.out;clear HC8
  by_cases c10 : a0 = 3
  ·rw [if_pos c10] at H
   have ae := beq_iff_eq.mpr c10;have an := bne_eq_false_iff_eq.mpr c10;clear c10;(first | rw [ae] | (simp only [i64_w, i32_w]; rw [ae]) | skip);have H' := Aside0.mk H;clear H;go_wp2;go_meet
   case rel => exact ⟨_, ((a0 == 3)), et, H', ⟨by first | omega | exact Nat.le_refl _⟩, ⟨kg aa⟩, ⟨kh HB⟩⟩
  rw [if_neg c10] at H;have ae := beq_eq_false_iff_ne.mpr c10;have an := bne_iff_ne.mpr c10;(first | rw [ae] | (simp only [i64_w, i32_w]; rw [ae]) | skip)
  by_cases c11 : a0 = 4
  rotate_left
  ·rw [if_neg c11] at H
   have ao := beq_eq_false_iff_ne.mpr c11;have ap := bne_iff_ne.mpr c11;have H' := Aside0.mk H;clear H;go_wp2;go_meet
   case rel => exact ⟨_, ((a0 == 5)), et, H', ⟨by first | omega | exact Nat.le_refl _⟩, ⟨kg aa⟩, ⟨kh HB⟩⟩
  rw [if_pos c11] at H;have ao := beq_iff_eq.mpr c11;have ap := bne_eq_false_iff_eq.mpr c11;clear c11;have H' := Aside0.mk H;clear H;go_wp2;go_meet
  case rel => exact ⟨_, ((a0 == 4)), et, H', ⟨by first | omega | exact Nat.le_refl _⟩, ⟨kg aa⟩, ⟨kh HB⟩⟩
 clear HC8;(try clear ai aj ak al Z4 Z7);obtain ⟨kq, af, rfl, HA, HJ7, aa, HB⟩ := hcut
 cases kq with
 | zero => exact absurd HA.out (by simp [circ_named.j0])
 | succ kj7 =>
  have H := HA.out;clear HA;simp only [circ_named.j0] at H
  by_cases c12 : af = true
  ·subst c12
   replace H := ifT H;simp only [Option.some.injEq, Prod.mk.injEq] at H;obtain ⟨rfl, rfl, rfl, rfl, rfl⟩ := H;have Z13 := kz4 aa;go_wp2;refine bodyPost_ret (results_ct rfl _ _ ab 104 #[.bool false, .bool true, .bool true, .bool false] (0, 0) _ rfl (kg aa) Try.underlying104 rfl (by kernel_rfl)) rfl ?_;exact ⟨er, kh HB⟩
  replace c12 := Bool.eq_false_iff.mpr c12;subst c12;replace H := ifF H
  by_cases c14 : a0 = 6
  ·rw [if_pos c14] at H
   have aq := beq_iff_eq.mpr c14;have ar := bne_eq_false_iff_eq.mpr c14;clear c14;simp only [Option.some.injEq, Prod.mk.injEq] at H;obtain ⟨rfl, rfl, rfl, rfl, rfl⟩ := H;have Z15 := kz4 aa;go_wp2;refine bodyPost_ret (results_ct rfl _ _ ab 104 #[.bool false, .bool true, .bool false, .bool true] (0, 0) _ rfl (kg aa) Try.underlying104 rfl (by kernel_rfl)) rfl ?_;exact ⟨er, kh HB⟩
  rw [if_neg c14] at H;have aq := beq_eq_false_iff_ne.mpr c14;have ar := bne_iff_ne.mpr c14;simp only [Option.some.injEq, Prod.mk.injEq] at H;obtain ⟨rfl, rfl, rfl, rfl, rfl⟩ := H;have Z16 := kz4 aa;go_wp2;refine bodyPost_ret (results_ct rfl _ _ ab 104 #[.bool false, .bool false, .bool false, .bool false] (0, 0) _ rfl (kg aa) Try.underlying104 rfl (by kernel_rfl)) rfl ?_;exact ⟨er, kh HB⟩
def circ_Gate_1.f (a0 : Int) (a1 : Int) : Option (Bool) := if a0 ≥ 0 then (some (decide (a0 < a1))) else (some false)
theorem circ_Gate_1.calls (a0 : Int) (a1 : Int) (r : Bool) (w : World) (h : circ_Gate_1.f a0 a1 = some r) :
  Calls Try.prog 80 #[.int .i64 a0, .int .i64 a1] w fun e w' => e = .returned (.bool r) ∧ Drawn0 w w' := by
 have H : (if a0 ≥ 0 then (some (decide (a0 < a1))) else (some false)) = some r := h;clear h
 by_cases c3 : a0 ≥ 0
 ·rw [if_pos c3] at H
  have aa := qqT c3;clear c3;obtain rfl := qqI H;go_enter Try.func80, Try.ntmps80;go_wp2;go_ret;exact ⟨et, by repeat (first | exact Drawn0.refl _ | apply Drawn0.step)⟩
 rw [if_neg c3] at H;have aa := qqF c3;clear c3;obtain rfl := qqI H;go_enter Try.func80, Try.ntmps80;go_wp2;go_ret;exact ⟨et, by repeat (first | exact Drawn0.refl _ | apply Drawn0.step)⟩
def api_Slot_60.f (l0 : List S64) : Option Bool := some (l0.any fun x => (circ_Check_1.f x.f0 x.f1).getD false)
theorem api_Slot_60.lit (x : S64) (W : World) : Calls Try.prog 61 (#[.agg #[.int .i64 x.f0, .bool x.f1]] ++ #[]) W fun e w' => e = .returned (.bool ((circ_Check_1.f x.f0 x.f1).getD false)) ∧ Below W.heap.size W w' := by
 have h : ∃ r, circ_Check_1.f x.f0 x.f1 = some r := by unfold circ_Check_1.f; split <;> exact ⟨_, rfl⟩
 obtain ⟨r, h⟩ := h;rw [h];exact circ_Check_1.calls x.f0 x.f1 r W h
theorem api_Slot_60.calls (A0 : Option Addr) (c0 : Nat) (l0 : List S64) (r : Bool) (w : World) (hr0 : Kd.C k64 w A0 l0.length l0) (hc0 : l0.length ≤ c0) (h : api_Slot_60.f l0 = some r) :
  Calls Try.prog 60 #[.slice A0 l0.length c0, .func (.func 61) #[] #[]] w fun e w' => e = .returned (.bool r) ∧ Below w.heap.size w w' := by
 have K := Aside0.mk (api_Slot_78.any_calls (fun x => (circ_Check_1.f x.f0 x.f1).getD false) 61 #[] (fun args w => enters_ Try.func61 (by kernel_rfl) rfl args w) A0 c0 l0 w (fun x W _ => api_Slot_60.lit x W) hr0 hc0);obtain rfl := qqI h;clear hr0 hc0 h;go_enter Try.func60, Try.ntmps60;go_wp2_with (go_at_call 78; refine K.out.mono ?_; rintro e w' ⟨i, rfl, hi, hb_⟩; have HI := Aside0.mk hi; have HB := Aside0.mk hb_; clear hi hb_);rw [HI.out];go_ret;exact ⟨rfl, HB.out⟩
mutual
def circ_Gate.j0 : Nat → Int → Int → Int → Bool → Int → Int → Int → Int → Bool → Bool → Bool → Bool → Option (Int)
 | 0, _, _, _, _, _, _, _, _, _, _, _, _ => none
 | k + 1, x0, x1, x2, x18, af, ab, aa, ae, ai, ah, ag, aj => if x18 = true then (some 4) else (if ai = true then ((circ_Gate_1.f ab x1).bind fun ak => (if ak = true then (if ah = true then ((circ_Gate_1.f ab x2).bind fun al => (if al = true then (if ag = true then ((circ_Gate_1.f aa x2).bind fun an => (circ_Gate.j1 k x0 (!an) af ab aa ae)) else (circ_Gate.j1 k x0 false af ab aa ae)) else (circ_Gate.j1 k x0 true af ab aa ae))) else (if ag = true then ((circ_Gate_1.f aa x2).bind fun ao => (circ_Gate.j1 k x0 (!ao) af ab aa ae)) else (circ_Gate.j1 k x0 false af ab aa ae))) else (circ_Gate.j1 k x0 true af ab aa ae))) else (if ah = true then ((circ_Gate_1.f ab x2).bind fun ap => (if ap = true then (if ag = true then ((circ_Gate_1.f aa x2).bind fun aq => (circ_Gate.j1 k x0 (!aq) af ab aa ae)) else (circ_Gate.j1 k x0 false af ab aa ae)) else (circ_Gate.j1 k x0 true af ab aa ae))) else (if ag = true then ((circ_Gate_1.f aa x2).bind fun ar => (circ_Gate.j1 k x0 (!ar) af ab aa ae)) else (circ_Gate.j1 k x0 false af ab aa ae))))
def circ_Gate.j1 : Nat → Int → Bool → Int → Int → Int → Int → Option (Int)
 | 0, _, _, _, _, _, _ => none
 | k + 1, x0, x56, af, ab, aa, ae => if x56 = true then (some 13) else (if ae ≥ x0 then (some 2) else (some 0))
end
def circ_Gate.f (k : Nat) (a0 : Int) (a1 : Int) (a2 : Int) (af : Int) (ag : Int) (ae : Int) (ab : Int) : Option (Int) := (circ_named.f k af).bind fun aa => (if aa.2.2.2.2 = true then (if aa.1 = true then (if aa.2.2.1 = true then (if aa.2.2.2.1 = true then (circ_Gate.j0 k a0 a1 a2 false af ag ae ab aa.1 aa.2.1 aa.2.2.1 aa.2.2.2.1) else (circ_Gate.j0 k a0 a1 a2 (ab != 0) af ag ae ab aa.1 aa.2.1 aa.2.2.1 aa.2.2.2.1)) else (if ae = 0 then (if aa.2.2.2.1 = true then (circ_Gate.j0 k a0 a1 a2 false af ag ae ab aa.1 aa.2.1 aa.2.2.1 aa.2.2.2.1) else (circ_Gate.j0 k a0 a1 a2 (ab != 0) af ag ae ab aa.1 aa.2.1 aa.2.2.1 aa.2.2.2.1)) else (circ_Gate.j0 k a0 a1 a2 true af ag ae ab aa.1 aa.2.1 aa.2.2.1 aa.2.2.2.1))) else (if aa.2.1 = true then (if aa.2.2.1 = true then (if aa.2.2.2.1 = true then (circ_Gate.j0 k a0 a1 a2 false af ag ae ab aa.1 aa.2.1 aa.2.2.1 aa.2.2.2.1) else (circ_Gate.j0 k a0 a1 a2 (ab != 0) af ag ae ab aa.1 aa.2.1 aa.2.2.1 aa.2.2.2.1)) else (if ae = 0 then (if aa.2.2.2.1 = true then (circ_Gate.j0 k a0 a1 a2 false af ag ae ab aa.1 aa.2.1 aa.2.2.1 aa.2.2.2.1) else (circ_Gate.j0 k a0 a1 a2 (ab != 0) af ag ae ab aa.1 aa.2.1 aa.2.2.1 aa.2.2.2.1)) else (circ_Gate.j0 k a0 a1 a2 true af ag ae ab aa.1 aa.2.1 aa.2.2.1 aa.2.2.2.1))) else (if ag = 0 then (if aa.2.2.1 = true then (if aa.2.2.2.1 = true then (circ_Gate.j0 k a0 a1 a2 false af ag ae ab aa.1 aa.2.1 aa.2.2.1 aa.2.2.2.1) else (circ_Gate.j0 k a0 a1 a2 (ab != 0) af ag ae ab aa.1 aa.2.1 aa.2.2.1 aa.2.2.2.1)) else (if ae = 0 then (if aa.2.2.2.1 = true then (circ_Gate.j0 k a0 a1 a2 false af ag ae ab aa.1 aa.2.1 aa.2.2.1 aa.2.2.2.1) else (circ_Gate.j0 k a0 a1 a2 (ab != 0) af ag ae ab aa.1 aa.2.1 aa.2.2.1 aa.2.2.2.1)) else (circ_Gate.j0 k a0 a1 a2 true af ag ae ab aa.1 aa.2.1 aa.2.2.1 aa.2.2.2.1))) else (circ_Gate.j0 k a0 a1 a2 true af ag ae ab aa.1 aa.2.1 aa.2.2.1 aa.2.2.2.1)))) else (circ_Gate.j0 k a0 a1 a2 true af ag ae ab aa.1 aa.2.1 aa.2.2.1 aa.2.2.2.1))
theorem circ_Gate.calls (k : Nat) (a0 : Int) (a1 : Int) (a2 : Int) (ak : Int) (ah : Int) (aj : Int) (ai : Int) (r : Int) (w : World) (h : circ_Gate.f k a0 a1 a2 ak ah aj ai = some r) :
  Calls Try.prog 62 #[.int .u64 a0, .int .i64 a1, .int .i64 a2, .agg #[.int .i64 ak, .int .i64 ah, .int .i64 aj, .int .u64 ai]] w fun e w' => e = .returned (.int .i64 r) ∧ Below w.heap.size w w' := by
 have hu61 := Try.underlying61;have hu104 := Try.underlying104;have HB := Aside0.mk (Below.refl w.heap.size w);have H : ((circ_named.f k ak).bind fun aa => (if aa.2.2.2.2 = true then (if aa.1 = true then (if aa.2.2.1 = true then (if aa.2.2.2.1 = true then (circ_Gate.j0 k a0 a1 a2 false ak ah aj ai aa.1 aa.2.1 aa.2.2.1 aa.2.2.2.1) else (circ_Gate.j0 k a0 a1 a2 (ai != 0) ak ah aj ai aa.1 aa.2.1 aa.2.2.1 aa.2.2.2.1)) else (if aj = 0 then (if aa.2.2.2.1 = true then (circ_Gate.j0 k a0 a1 a2 false ak ah aj ai aa.1 aa.2.1 aa.2.2.1 aa.2.2.2.1) else (circ_Gate.j0 k a0 a1 a2 (ai != 0) ak ah aj ai aa.1 aa.2.1 aa.2.2.1 aa.2.2.2.1)) else (circ_Gate.j0 k a0 a1 a2 true ak ah aj ai aa.1 aa.2.1 aa.2.2.1 aa.2.2.2.1))) else (if aa.2.1 = true then (if aa.2.2.1 = true then (if aa.2.2.2.1 = true then (circ_Gate.j0 k a0 a1 a2 false ak ah aj ai aa.1 aa.2.1 aa.2.2.1 aa.2.2.2.1) else (circ_Gate.j0 k a0 a1 a2 (ai != 0) ak ah aj ai aa.1 aa.2.1 aa.2.2.1 aa.2.2.2.1)) else (if aj = 0 then (if aa.2.2.2.1 = true then (circ_Gate.j0 k a0 a1 a2 false ak ah aj ai aa.1 aa.2.1 aa.2.2.1 aa.2.2.2.1) else (circ_Gate.j0 k a0 a1 a2 (ai != 0) ak ah aj ai aa.1 aa.2.1 aa.2.2.1 aa.2.2.2.1)) else (circ_Gate.j0 k a0 a1 a2 true ak ah aj ai aa.1 aa.2.1 aa.2.2.1 aa.2.2.2.1))) else (if ah = 0 then (if aa.2.2.1 = true then (if aa.2.2.2.1 = true then (circ_Gate.j0 k a0 a1 a2 false ak ah aj ai aa.1 aa.2.1 aa.2.2.1 aa.2.2.2.1) else (circ_Gate.j0 k a0 a1 a2 (ai != 0) ak ah aj ai aa.1 aa.2.1 aa.2.2.1 aa.2.2.2.1)) else (if aj = 0 then (if aa.2.2.2.1 = true then (circ_Gate.j0 k a0 a1 a2 false ak ah aj ai aa.1 aa.2.1 aa.2.2.1 aa.2.2.2.1) else (circ_Gate.j0 k a0 a1 a2 (ai != 0) ak ah aj ai aa.1 aa.2.1 aa.2.2.1 aa.2.2.2.1)) else (circ_Gate.j0 k a0 a1 a2 true ak ah aj ai aa.1 aa.2.1 aa.2.2.1 aa.2.2.2.1))) else (circ_Gate.j0 k a0 a1 a2 true ak ah aj ai aa.1 aa.2.1 aa.2.2.1 aa.2.2.2.1)))) else (circ_Gate.j0 k a0 a1 a2 true ak ah aj ai aa.1 aa.2.1 aa.2.2.1 aa.2.2.2.1))) = some r := h;clear h;replace H := qqB H;obtain ⟨⟨au, aq, al, an, aM⟩, A50, H⟩ := H;(try dsimp only at H);have A5 := Aside0.mk A50;clear A50;have HC6 := Aside0.mk H;clear H;go_enter Try.func62, Try.ntmps62;go_upto_region 3 with (first | ((with_reducible refine gate_dst (N := 7) rfl ?_); refine box_event ?hg (N := 7) ?hd (cs := #[.int .i64 ak, .int .i64 ah, .int .i64 aj, .int .u64 ai]) (t := 61) ?hr ?_; (case hd | hg => rfl); (case hr => go_simp; try rfl); intro aC hg w7 hbox hb; have af := am hbox; have bD := kG HB hg; have bE := kG HB hg; replace HB := kH HB hb; clear hb hbox hg; have Z8 := kz4 af) | ((with_reducible refine gate_callee (f := 79) rfl ?_); refine goesL_ (some 15) rfl rfl Try.func79 (by kernel_rfl) rfl #[.int .i64 ak] rfl (by (try simp only [qM1, qM2, qM3]); first | done | rfl) ?_; (with_reducible refine (circ_named.calls k ak au aq al an aM _ A5.out).mono ?_); rintro e w9 ⟨rfl, hb⟩; refine ⟨_, rfl, ?_⟩; replace af := kU af hb; replace HB := kH HB hb; (try clear hb); (try clear hb2); (try clear hk); (try clear hi)) | ((with_reducible refine gate_dst (N := 9) rfl ?_); refine box_event ?hg (N := 9) ?hd (cs := #[.bool false, .bool false, .bool false, .bool false]) (t := 104) ?hr ?_; (case hd | hg => rfl); (case hr => go_simp; try rfl); intro aD hg w10 hbox hb; have ag := am hbox; have bF := kG HB hg; have bG := kG HB hg; replace HB := kH HB hb; have ab := kP af hg; have ae := kQ af hg; replace af := kU af hb; clear hb hbox hg; have bH := ae.out; have bI := ab.out; have Z12 := kz4 ag));(try simp only [Act.put, qS1, qS2, qS3]);go_cut [18] (fun v18 wc => ∃ (kq : Nat) (ar : Bool), v18 = .bool ar ∧ Aside0 (circ_Gate.j0 kq a0 a1 a2 ar ak ah aj ai au aq al an = some r) ∧ Aside0 (kq ≤ k) ∧ Aside0 (wc.heap[aC]? = some (.cells #[.int .i64 ak, .int .i64 ah, .int .i64 aj, .int .u64 ai] 61 (0, 0))) ∧ Aside0 (wc.heap[aD]? = some (.cells #[.bool au, .bool aq, .bool al, .bool an] 104 (0, 0))) ∧ Aside0 (Below w.heap.size w wc))
 case first =>
  have H := HC6.out;clear HC6
  by_cases c13 : aM = true
  rotate_left
  ·replace c13 := Bool.eq_false_iff.mpr c13
   subst c13;replace H := ifF H;have H' := Aside0.mk H;clear H;go_wp2;go_meet
   case rel => exact ⟨_, (true), et, H', ⟨by first | omega | exact Nat.le_refl _⟩, ⟨kg af⟩, ⟨kg ag⟩, ⟨kh HB⟩⟩
  subst c13;replace H := ifT H
  by_cases c14 : au = true
  ·subst c14
   replace H := ifT H
   by_cases c15 : al = true
   ·subst c15
    replace H := ifT H
    by_cases c16 : an = true
    ·subst c16
     replace H := ifT H;have H' := Aside0.mk H;clear H;have bJ := ae.out;have bK := ab.out;have Z18 := kz4 ag;go_wp2;go_meet
     case rel => exact ⟨_, (false), et, H', ⟨by first | omega | exact Nat.le_refl _⟩, ⟨kg af⟩, ⟨kg ag⟩, ⟨kh HB⟩⟩
    replace c16 := Bool.eq_false_iff.mpr c16;subst c16;replace H := ifF H;have H' := Aside0.mk H;clear H;have bL := ae.out;have bM := ab.out;have Z20 := kz4 ag;have Z21 := kz4 af;go_wp2;go_meet
    case rel => exact ⟨_, ((ai != 0)), et, H', ⟨by first | omega | exact Nat.le_refl _⟩, ⟨kg af⟩, ⟨kg ag⟩, ⟨kh HB⟩⟩
   replace c15 := Bool.eq_false_iff.mpr c15;subst c15;replace H := ifF H
   by_cases c22 : aj = 0
   rotate_left
   ·rw [if_neg c22] at H
    have ap := beq_eq_false_iff_ne.mpr c22;have aN := bne_iff_ne.mpr c22;(first | rw [ap] | (simp only [i64_w, i32_w]; rw [ap]) | skip);have H' := Aside0.mk H;clear H;have bN := ae.out;have bO := ab.out;have Z31 := kz4 ag;have Z32 := kz4 af;go_wp2;go_meet
    case rel => exact ⟨_, (true), et, H', ⟨by first | omega | exact Nat.le_refl _⟩, ⟨kg af⟩, ⟨kg ag⟩, ⟨kh HB⟩⟩
   rw [if_pos c22] at H;have ap := beq_iff_eq.mpr c22;have aN := bne_eq_false_iff_eq.mpr c22;clear c22;(first | rw [ap] | (simp only [i64_w, i32_w]; rw [ap]) | skip)
   by_cases c23 : an = true
   ·subst c23
    replace H := ifT H;have H' := Aside0.mk H;clear H;have bP := ae.out;have bQ := ab.out;have Z25 := kz4 ag;have Z26 := kz4 af;go_wp2;go_meet
    case rel => exact ⟨_, (false), et, H', ⟨by first | omega | exact Nat.le_refl _⟩, ⟨kg af⟩, ⟨kg ag⟩, ⟨kh HB⟩⟩
   replace c23 := Bool.eq_false_iff.mpr c23;subst c23;replace H := ifF H;have H' := Aside0.mk H;clear H;have bR := ae.out;have bS := ab.out;have Z28 := kz4 ag;have Z29 := kz4 af;go_wp2;go_meet
   case rel => exact ⟨_, ((ai != 0)), et, H', ⟨by first | omega | exact Nat.le_refl _⟩, ⟨kg af⟩, ⟨kg ag⟩, ⟨kh HB⟩⟩
  replace c14 := Bool.eq_false_iff.mpr c14;subst c14;replace H := ifF H
  by_cases c33 : aq = true
  ·subst c33
   replace H := ifT H
   by_cases c34 : al = true
   ·subst c34
    replace H := ifT H
    by_cases c35 : an = true
    ·subst c35
     replace H := ifT H;have H' := Aside0.mk H;clear H;have bT := ae.out;have bU := ab.out;have Z37 := kz4 ag;go_wp2;go_meet
     case rel => exact ⟨_, (false), et, H', ⟨by first | omega | exact Nat.le_refl _⟩, ⟨kg af⟩, ⟨kg ag⟩, ⟨kh HB⟩⟩
    replace c35 := Bool.eq_false_iff.mpr c35;subst c35;replace H := ifF H;have H' := Aside0.mk H;clear H;have bV := ae.out;have bW := ab.out;have Z39 := kz4 ag;have Z40 := kz4 af;go_wp2;go_meet
    case rel => exact ⟨_, ((ai != 0)), et, H', ⟨by first | omega | exact Nat.le_refl _⟩, ⟨kg af⟩, ⟨kg ag⟩, ⟨kh HB⟩⟩
   replace c34 := Bool.eq_false_iff.mpr c34;subst c34;replace H := ifF H
   by_cases c41 : aj = 0
   rotate_left
   ·rw [if_neg c41] at H
    have aQ := beq_eq_false_iff_ne.mpr c41;have aT := bne_iff_ne.mpr c41;have H' := Aside0.mk H;clear H;have bX := ae.out;have bY := ab.out;have Z50 := kz4 ag;have Z51 := kz4 af;go_wp2;go_meet
    case rel => exact ⟨_, (true), et, H', ⟨by first | omega | exact Nat.le_refl _⟩, ⟨kg af⟩, ⟨kg ag⟩, ⟨kh HB⟩⟩
   rw [if_pos c41] at H;have aQ := beq_iff_eq.mpr c41;have aT := bne_eq_false_iff_eq.mpr c41;clear c41
   by_cases c42 : an = true
   ·subst c42
    replace H := ifT H;have H' := Aside0.mk H;clear H;have bZ := ae.out;have ca := ab.out;have Z44 := kz4 ag;have Z45 := kz4 af;go_wp2;go_meet
    case rel => exact ⟨_, (false), et, H', ⟨by first | omega | exact Nat.le_refl _⟩, ⟨kg af⟩, ⟨kg ag⟩, ⟨kh HB⟩⟩
   replace c42 := Bool.eq_false_iff.mpr c42;subst c42;replace H := ifF H;have H' := Aside0.mk H;clear H;have cb := ae.out;have cc := ab.out;have Z47 := kz4 ag;have Z48 := kz4 af;go_wp2;go_meet
   case rel => exact ⟨_, ((ai != 0)), et, H', ⟨by first | omega | exact Nat.le_refl _⟩, ⟨kg af⟩, ⟨kg ag⟩, ⟨kh HB⟩⟩
  replace c33 := Bool.eq_false_iff.mpr c33;subst c33;replace H := ifF H
  by_cases c52 : ah = 0
  rotate_left
  ·rw [if_neg c52] at H
   have aU := beq_eq_false_iff_ne.mpr c52;have aV := bne_iff_ne.mpr c52;have H' := Aside0.mk H;clear H;have cd := ae.out;have ce := ab.out;have Z73 := kz4 ag;have Z74 := kz4 af;go_wp2;go_meet
   case rel => exact ⟨_, (true), et, H', ⟨by first | omega | exact Nat.le_refl _⟩, ⟨kg af⟩, ⟨kg ag⟩, ⟨kh HB⟩⟩
  rw [if_pos c52] at H;have aU := beq_iff_eq.mpr c52;have aV := bne_eq_false_iff_eq.mpr c52;clear c52
  by_cases c53 : al = true
  ·subst c53
   replace H := ifT H
   by_cases c54 : an = true
   ·subst c54
    replace H := ifT H;have H' := Aside0.mk H;clear H;have cf := ae.out;have cg := ab.out;have Z56 := kz4 ag;have Z57 := kz4 af;go_wp2;go_meet
    case rel => exact ⟨_, (false), et, H', ⟨by first | omega | exact Nat.le_refl _⟩, ⟨kg af⟩, ⟨kg ag⟩, ⟨kh HB⟩⟩
   replace c54 := Bool.eq_false_iff.mpr c54;subst c54;replace H := ifF H;have H' := Aside0.mk H;clear H;have ch := ae.out;have ci := ab.out;have Z59 := kz4 ag;have Z60 := kz4 af;go_wp2;go_meet
   case rel => exact ⟨_, ((ai != 0)), et, H', ⟨by first | omega | exact Nat.le_refl _⟩, ⟨kg af⟩, ⟨kg ag⟩, ⟨kh HB⟩⟩
  replace c53 := Bool.eq_false_iff.mpr c53;subst c53;replace H := ifF H
  by_cases c61 : aj = 0
  rotate_left
  ·rw [if_neg c61] at H
   have aW := beq_eq_false_iff_ne.mpr c61;have aX := bne_iff_ne.mpr c61;have H' := Aside0.mk H;clear H;have cj := ae.out;have ck := ab.out;have Z70 := kz4 ag;have Z71 := kz4 af;go_wp2;go_meet
   case rel => exact ⟨_, (true), et, H', ⟨by first | omega | exact Nat.le_refl _⟩, ⟨kg af⟩, ⟨kg ag⟩, ⟨kh HB⟩⟩
  rw [if_pos c61] at H;have aW := beq_iff_eq.mpr c61;have aX := bne_eq_false_iff_eq.mpr c61;clear c61
  by_cases c62 : an = true
  ·subst c62
   replace H := ifT H;have H' := Aside0.mk H;clear H;have cl := ae.out;have cm := ab.out;have Z64 := kz4 ag;have Z65 := kz4 af;go_wp2;go_meet
   case rel => exact ⟨_, (false), et, H', ⟨by first | omega | exact Nat.le_refl _⟩, ⟨kg af⟩, ⟨kg ag⟩, ⟨kh HB⟩⟩
  replace c62 := Bool.eq_false_iff.mpr c62;subst c62;replace H := ifF H;have H' := Aside0.mk H;clear H;have cn := ae.out;have co := ab.out;have Z67 := kz4 ag;have Z68 := kz4 af;go_wp2;go_meet
  case rel => exact ⟨_, ((ai != 0)), et, H', ⟨by first | omega | exact Nat.le_refl _⟩, ⟨kg af⟩, ⟨kg ag⟩, ⟨kh HB⟩⟩
 clear HC6;(try clear Z12 Z8);obtain ⟨kq, ar, rfl, HA, HJ5, af, ag, HB⟩ := hcut
 cases kq with
 | zero => exact absurd HA.out (by simp [circ_Gate.j0])
 | succ kj5 =>
  have H := HA.out;clear HA;simp only [circ_Gate.j0] at H
  by_cases c75 : ar = true
  ·subst c75
   replace H := ifT H;obtain rfl := qqI H;go_wp2;go_ret;exact ⟨er, kh HB⟩
  replace c75 := Bool.eq_false_iff.mpr c75;subst c75;replace H := ifF H;have aI := Aside0.mk H;clear H;go_upto_region 5 with (fail);go_cut [56] (fun v56 wc => ∃ (kq : Nat) (ao : Bool), v56 = .bool ao ∧ Aside0 (circ_Gate.j1 kq a0 ao ak ah aj ai = some r) ∧ Aside0 (kq ≤ kj5) ∧ Aside0 (wc.heap[aC]? = some (.cells #[.int .i64 ak, .int .i64 ah, .int .i64 aj, .int .u64 ai] 61 (0, 0))) ∧ Aside0 (wc.heap[aD]? = some (.cells #[.bool au, .bool aq, .bool al, .bool an] 104 (0, 0))) ∧ Aside0 (Below w.heap.size w wc))
  case first =>
   have H := aI.out;clear aI
   by_cases c77 : au = true
   rotate_left
   ·replace c77 := Bool.eq_false_iff.mpr c77
    subst c77;replace H := ifF H
    by_cases aw : aq = true
    rotate_left
    ·replace aw := Bool.eq_false_iff.mpr aw
     subst aw;replace H := ifF H
     by_cases ax : al = true
     rotate_left
     ·replace ax := Bool.eq_false_iff.mpr ax
      subst ax;replace H := ifF H;have H' := Aside0.mk H;clear H;have bg := ae.out;have bh := ab.out;have cA := kz4 ag;go_wp2;go_meet
      case rel => exact ⟨_, (false), et, H', ⟨by have := HJ5.out; first | omega | exact Nat.le_refl _⟩, ⟨kg af⟩, ⟨kg ag⟩, ⟨kh HB⟩⟩
     subst ax;replace H := ifT H;replace H := qqB H;obtain ⟨aY, aE, H⟩ := H;(try dsimp only at H);have bi := Aside0.mk aE;clear aE;have H' := Aside0.mk H;clear H;have bj := ae.out;have bk := ab.out;have cB := kz4 ag;have cC := kz4 af;go_wp2_with (first | (go_at_call 80; (with_reducible refine (circ_Gate_1.calls aj a2 aY _ bi.out).mono ?_); rintro e w' ⟨rfl, ⟨nd, rfl⟩⟩));go_meet
     case rel => exact ⟨_, (!aY), et, H', ⟨by have := HJ5.out; first | omega | exact Nat.le_refl _⟩, ⟨kg af⟩, ⟨kg ag⟩, ⟨kh HB⟩⟩
    subst aw;replace H := ifT H;replace H := qqB H;obtain ⟨bl, aG, H⟩ := H;(try dsimp only at H);have aJ := Aside0.mk aG;clear aG
    by_cases ay : bl = true
    rotate_left
    ·replace ay := Bool.eq_false_iff.mpr ay
     subst ay;replace H := ifF H;have H' := Aside0.mk H;clear H;have bm := ae.out;have bn := ab.out;have cD := kz4 ag;have cE := kz4 af;go_wp2_with (first | (go_at_call 80; (with_reducible refine (circ_Gate_1.calls ah a2 false _ aJ.out).mono ?_); rintro e w' ⟨rfl, ⟨nd, rfl⟩⟩));go_meet
     case rel => exact ⟨_, (true), et, H', ⟨by have := HJ5.out; first | omega | exact Nat.le_refl _⟩, ⟨kg af⟩, ⟨kg ag⟩, ⟨kh HB⟩⟩
    subst ay;replace H := ifT H
    by_cases az : al = true
    rotate_left
    ·replace az := Bool.eq_false_iff.mpr az
     subst az;replace H := ifF H;have H' := Aside0.mk H;clear H;have bo := ae.out;have bp := ab.out;have cF := kz4 ag;have cG := kz4 af;go_wp2_with (first | (go_at_call 80; (with_reducible refine (circ_Gate_1.calls ah a2 true _ aJ.out).mono ?_); rintro e w' ⟨rfl, ⟨nd, rfl⟩⟩));go_meet
     case rel => exact ⟨_, (false), et, H', ⟨by have := HJ5.out; first | omega | exact Nat.le_refl _⟩, ⟨kg af⟩, ⟨kg ag⟩, ⟨kh HB⟩⟩
    subst az;replace H := ifT H;replace H := qqB H;obtain ⟨aZ, aH, H⟩ := H;(try dsimp only at H);have bq := Aside0.mk aH;clear aH;have H' := Aside0.mk H;clear H;have br := ae.out;have bt := ab.out;have cH := kz4 ag;have cI := kz4 af;go_wp2_with (first | (go_at_call 80; (with_reducible refine (circ_Gate_1.calls ah a2 true _ aJ.out).mono ?_); rintro e w' ⟨rfl, ⟨nd, rfl⟩⟩) | (go_at_call 80; (with_reducible refine (circ_Gate_1.calls aj a2 aZ _ bq.out).mono ?_); rintro e w' ⟨rfl, ⟨nd, rfl⟩⟩));go_meet
    case rel => exact ⟨_, (!aZ), et, H', ⟨by have := HJ5.out; first | omega | exact Nat.le_refl _⟩, ⟨kg af⟩, ⟨kg ag⟩, ⟨kh HB⟩⟩
   subst c77;replace H := ifT H;replace H := qqB H;obtain ⟨bu, ba, H⟩ := H;(try dsimp only at H);have A78 := Aside0.mk ba;clear ba
   by_cases c79 : bu = true
   rotate_left
   ·replace c79 := Bool.eq_false_iff.mpr c79
    subst c79;replace H := ifF H;have H' := Aside0.mk H;clear H;have bv := ae.out;have bw := ab.out;have cJ := kz4 ag;have cK := kz4 af;go_wp2_with (first | (go_at_call 80; (with_reducible refine (circ_Gate_1.calls ah a1 false _ A78.out).mono ?_); rintro e w' ⟨rfl, ⟨nd, rfl⟩⟩));go_meet
    case rel => exact ⟨_, (true), et, H', ⟨by have := HJ5.out; first | omega | exact Nat.le_refl _⟩, ⟨kg af⟩, ⟨kg ag⟩, ⟨kh HB⟩⟩
   subst c79;replace H := ifT H
   by_cases c80 : aq = true
   rotate_left
   ·replace c80 := Bool.eq_false_iff.mpr c80
    subst c80;replace H := ifF H
    by_cases c94 : al = true
    rotate_left
    ·replace c94 := Bool.eq_false_iff.mpr c94
     subst c94;replace H := ifF H;have H' := Aside0.mk H;clear H;have cp := ae.out;have cq := ab.out;have cL := kz4 ag;have cM := kz4 af;go_wp2_with (first | (go_at_call 80; (with_reducible refine (circ_Gate_1.calls ah a1 true _ A78.out).mono ?_); rintro e w' ⟨rfl, ⟨nd, rfl⟩⟩));go_meet
     case rel => exact ⟨_, (false), et, H', ⟨by have := HJ5.out; first | omega | exact Nat.le_refl _⟩, ⟨kg af⟩, ⟨kg ag⟩, ⟨kh HB⟩⟩
    subst c94;replace H := ifT H;replace H := qqB H;obtain ⟨bb, bc, H⟩ := H;(try dsimp only at H);have A95 := Aside0.mk bc;clear bc;have H' := Aside0.mk H;clear H;have cr := ae.out;have ct := ab.out;have Z97 := kz4 ag;have Z98 := kz4 af;go_wp2_with (first | (go_at_call 80; (with_reducible refine (circ_Gate_1.calls ah a1 true _ A78.out).mono ?_); rintro e w' ⟨rfl, ⟨nd, rfl⟩⟩) | (go_at_call 80; (with_reducible refine (circ_Gate_1.calls aj a2 bb _ A95.out).mono ?_); rintro e w' ⟨rfl, ⟨nd, rfl⟩⟩));go_meet
    case rel => exact ⟨_, (!bb), et, H', ⟨by have := HJ5.out; first | omega | exact Nat.le_refl _⟩, ⟨kg af⟩, ⟨kg ag⟩, ⟨kh HB⟩⟩
   subst c80;replace H := ifT H;replace H := qqB H;obtain ⟨bx, bd, H⟩ := H;(try dsimp only at H);have A81 := Aside0.mk bd;clear bd
   by_cases c82 : bx = true
   rotate_left
   ·replace c82 := Bool.eq_false_iff.mpr c82
    subst c82;replace H := ifF H;have H' := Aside0.mk H;clear H;have cu := ae.out;have cv := ab.out;have Z92 := kz4 ag;have Z93 := kz4 af;go_wp2_with (first | (go_at_call 80; (with_reducible refine (circ_Gate_1.calls ah a1 true _ A78.out).mono ?_); rintro e w' ⟨rfl, ⟨nd, rfl⟩⟩) | (go_at_call 80; (with_reducible refine (circ_Gate_1.calls ah a2 false _ A81.out).mono ?_); rintro e w' ⟨rfl, ⟨nd, rfl⟩⟩));go_meet
    case rel => exact ⟨_, (true), et, H', ⟨by have := HJ5.out; first | omega | exact Nat.le_refl _⟩, ⟨kg af⟩, ⟨kg ag⟩, ⟨kh HB⟩⟩
   subst c82;replace H := ifT H
   by_cases c83 : al = true
   rotate_left
   ·replace c83 := Bool.eq_false_iff.mpr c83
    subst c83;replace H := ifF H;have H' := Aside0.mk H;clear H;have cw := ae.out;have cx := ab.out;have Z89 := kz4 ag;have Z90 := kz4 af;go_wp2_with (first | (go_at_call 80; (with_reducible refine (circ_Gate_1.calls ah a1 true _ A78.out).mono ?_); rintro e w' ⟨rfl, ⟨nd, rfl⟩⟩) | (go_at_call 80; (with_reducible refine (circ_Gate_1.calls ah a2 true _ A81.out).mono ?_); rintro e w' ⟨rfl, ⟨nd, rfl⟩⟩));go_meet
    case rel => exact ⟨_, (false), et, H', ⟨by have := HJ5.out; first | omega | exact Nat.le_refl _⟩, ⟨kg af⟩, ⟨kg ag⟩, ⟨kh HB⟩⟩
   subst c83;replace H := ifT H;replace H := qqB H;obtain ⟨be, bf, H⟩ := H;(try dsimp only at H);have A84 := Aside0.mk bf;clear bf;have H' := Aside0.mk H;clear H;have cy := ae.out;have cz := ab.out;have Z86 := kz4 ag;have Z87 := kz4 af;go_wp2_with (first | (go_at_call 80; (with_reducible refine (circ_Gate_1.calls ah a1 true _ A78.out).mono ?_); rintro e w' ⟨rfl, ⟨nd, rfl⟩⟩) | (go_at_call 80; (with_reducible refine (circ_Gate_1.calls ah a2 true _ A81.out).mono ?_); rintro e w' ⟨rfl, ⟨nd, rfl⟩⟩) | (go_at_call 80; (with_reducible refine (circ_Gate_1.calls aj a2 be _ A84.out).mono ?_); rintro e w' ⟨rfl, ⟨nd, rfl⟩⟩));go_meet
   case rel => exact ⟨_, (!be), et, H', ⟨by have := HJ5.out; first | omega | exact Nat.le_refl _⟩, ⟨kg af⟩, ⟨kg ag⟩, ⟨kh HB⟩⟩
  clear aI; (try clear c75);obtain ⟨kq, ao, rfl, HA, cN, af, ag, HB⟩ := hcut
  cases kq with
  | zero => exact absurd HA.out (by simp [circ_Gate.j1])
  | succ cO =>
   have H := HA.out;clear HA;simp only [circ_Gate.j1] at H
   by_cases aA : ao = true
   ·subst aA
    replace H := ifT H;obtain rfl := qqI H;go_wp2;go_ret;exact ⟨er, kh HB⟩
   replace aA := Bool.eq_false_iff.mpr aA;subst aA;replace H := ifF H
   by_cases av : ai ≥ a0
   ·rw [if_pos av] at H
    have aK := qqT av;clear av;obtain rfl := qqI H;have bz := ab.out;have bA := ae.out;have cP := kz4 af;go_wp2;go_ret;exact ⟨er, kh HB⟩
   rw [if_neg av] at H;have aK := qqF av;clear av;obtain rfl := qqI H;have bB := ab.out;have bC := ae.out;have cQ := kz4 af;go_wp2;go_ret;exact ⟨er, kh HB⟩
def qra.Post (b : Bool) (w : World) (e : Ending) (w' : World) : Prop := ∃ i : Int, e = .returned (.int .i64 i) ∧ decide (0 ≤ i) = b ∧ Below w.heap.size w w'
theorem qra.any_calls (d : Int → Bool) (fid : FuncId) (L : Array Value) (hE : ∀ args w, (callFunc fid args).run Try.prog w = .ok (.enter fid args) w) (A0 : Option Addr) (c0 : Nat) (l0 : List Int) (w : World)
  (hD : ∀ (x : Int) (W : World), Below w.heap.size w W → Calls Try.prog fid (#[.int .i64 x] ++ L) W fun e w' => e = .returned (.bool (d x)) ∧ Below W.heap.size W w')
  (hr0 : Kd.C (Kd.int .i64) w A0 l0.length l0) (hc0 : l0.length ≤ c0) :
  Calls Try.prog 86 #[.slice A0 l0.length c0, .func (.func fid) #[] L] w (qra.Post (l0.any d) w) := by
 have HE := Aside0.mk hE;have HD := Aside0.mk hD;have HR := Aside0.mk hr0;have hlen : l0.length ≤ 9223372036854775807 := hr0.2.1;clear hE hD hr0 hc0;obtain ⟨n, hn⟩ : ∃ n, n = l0.length := ⟨_, rfl⟩;rw [← hn] at hlen ⊢;have HN := Aside0.mk hn;clear hn;go_enter Try.func86, Try.ntmps86;go_wp2;go_loopw [8] (fun v8 w' => ∃ k : Nat, v8 = .int .i64 k ∧ k ≤ n ∧ Aside0 ((l0.take k).any d = false) ∧ Aside0 (Below w.heap.size w w')) (fun v8 _ => n - (intOf v8).toNat)
 case atStart => exact ⟨0, rfl, Nat.zero_le _, ⟨by simp⟩, ⟨Below.refl _ _⟩⟩
 case round =>
  obtain ⟨k, rfl, hk, HA, HW⟩ := hrel
  by_cases hlt : k < n
  rotate_left
  ·obtain rfl : k = n := by omega
   go_wp2;go_ret;exact ⟨_, rfl, by have := HA.out; rw [HN.out, List.take_length] at this; rw [this]; rfl, HW.out⟩
  have hltl : k < l0.length := by have := HN.out; omega
  obtain ⟨ad, e1, hc1⟩ := Kd.at_int HR.out (k : Int) (by omega) (by have := HN.out; omega);subst e1;simp only [Int.toNat_natCast] at hc1;replace hc1 := (HW.out.cell (qqW w _ hc1)).trans hc1;have HLT := Aside0.mk hltl;clear hltl;obtain ⟨b, hb⟩ : ∃ b, b = d (rd l0 k) := ⟨_, rfl⟩;obtain ⟨x, hx⟩ : ∃ x, x = rd l0 k := ⟨_, rfl⟩;rw [← hx] at hc1 hb;have HX := Aside0.mk hx;have HBB := Aside0.mk hb;clear hx hb
  cases b with
  | true =>
   go_wp2_with ((with_reducible refine gate_dst (N := 16) rfl ?_); refine api_Slot_78.goesT (some 16) rfl rfl HE.out #[.int .i64 x] rfl rfl (by (try simp only [qM1, qM2, qM3]); first | done | rfl) ?_; (with_reducible refine (HD.out x _ HW.out).mono ?_); rintro e w' ⟨rfl, hb_⟩; have HB2 := Aside0.mk hb_; clear hb_; rw [← HBB.out]; refine ⟨_, rfl, ?_⟩);go_ret;exact ⟨_, rfl, by rw [api_Slot_78.any_true d _ l0 k HLT.out (by have := HX.out; unfold rd at this; rw [Int.toNat_natCast] at this; rw [← this]; exact HBB.out.symm)]; simp, api_Slot_78.below2 HW.out (Nat.le_refl _) HB2.out⟩
  | false =>
   go_wp2_with ((with_reducible refine gate_dst (N := 16) rfl ?_); refine api_Slot_78.goesT (some 16) rfl rfl HE.out #[.int .i64 x] rfl rfl (by (try simp only [qM1, qM2, qM3]); first | done | rfl) ?_; (with_reducible refine (HD.out x _ HW.out).mono ?_); rintro e w' ⟨rfl, hb_⟩; have HB2 := Aside0.mk hb_; clear hb_; rw [← HBB.out]; refine ⟨_, rfl, ?_⟩);go_roundw
   case rel => exact ⟨k + 1, by first | rfl | go_num, by omega, ⟨by rw [api_Slot_78.any_step d _ l0 k HLT.out HA.out]; have := HX.out; unfold rd at this; rw [Int.toNat_natCast] at this; rw [← this]; exact HBB.out.symm⟩, ⟨api_Slot_78.below2 HW.out (Nat.le_refl _) HB2.out⟩⟩
   case measure => simp [intOf]; omega
def qka.f (l0 : List Int) (n : Int) : Option Bool := some (l0.any fun x => decide (x < 0) || decide (x ≥ n))
theorem qka.lit (x n : Int) (b : Addr) (W : World) (hc : W.cell? b = some (.int .i64 n)) : Calls Try.prog 82 (#[.int .i64 x] ++ #[.pointer (some b)]) W fun e w' => e = .returned (.bool (decide (x < 0) || decide (x ≥ n))) ∧ Below W.heap.size W w' := by
 show Calls Try.prog 82 #[.int .i64 x, .pointer (some b)] W _
 by_cases h : x < 0
 ·have h2 : decide (x < 0) = true := qqT h
  go_enter Try.func82, Try.ntmps82;go_wp2;go_ret;exact ⟨by simp [h], Below.refl _ _⟩
 have h2 : decide (x < 0) = false := qqF h;go_enter Try.func82, Try.ntmps82;go_wp2;go_ret;exact ⟨by simp [h], Below.refl _ _⟩
theorem qka.calls (b : Addr) (A0 : Option Addr) (c0 : Nat) (l0 : List Int) (n : Int) (r : Bool) (w : World) (hb : w.cell? b = some (.int .i64 n)) (hr0 : Kd.C (Kd.int .i64) w A0 l0.length l0) (hc0 : l0.length ≤ c0) (h : qka.f l0 n = some r) :
  Calls Try.prog 81 #[.slice A0 l0.length c0, .func (.func 82) #[] #[.pointer (some b)]] w fun e w' => e = .returned (.bool r) ∧ Below w.heap.size w w' := by
 have K := Aside0.mk (qra.any_calls (fun x => decide (x < 0) || decide (x ≥ n)) 82 #[.pointer (some b)] (fun args w => enters_ Try.func82 (by kernel_rfl) rfl args w) A0 c0 l0 w (fun x W hB => qka.lit x n b W ((hB.cell (qqW w _ hb)).trans hb)) hr0 hc0);obtain rfl := qqI h;clear hr0 hc0 h hb;go_enter Try.func81, Try.ntmps81;go_wp2_with (go_at_call 86; refine K.out.mono ?_; rintro e w' ⟨i, rfl, hi, hb_⟩; have HI := Aside0.mk hi; have HB := Aside0.mk hb_; clear hi hb_);rw [HI.out];go_ret;exact ⟨rfl, HB.out⟩
def circ_Exit.l0 : Nat → Int → List Int → Int → Int → Int → List Int → List Int → Option (Int)
 | 0, _, _, _, _, _, _, _ => none
 | k + 1, x5, x9, x10, x11, ab, ae, aa => if x11 < x10 then (if 0 ≤ x11 then (if x11 < (x9.length : Int) then (if (rd x9 x11) ≤ x5 then (some 2) else (if (rd x9 x11) > 13 then (some 2) else (circ_Exit.l0 k (rd x9 x11) x9 x10 (wrap64 (x11 + 1)) ab ae aa))) else (none)) else (none)) else (if (aa.length : Int) > 1024 then (some 3) else ((qka.f aa ab).bind fun af => (if af = true then (some 13) else (some 0))))
def circ_Exit.f (k : Nat) (a0 : Int) (aa : List Int) (ab : List Int) : Option (Int) := circ_Exit.l0 k 0 aa (aa.length : Int) 0 a0 aa ab
theorem circ_Exit.calls (k : Nat) (a0 : Int) (au : Option Addr) (av : Nat) (ae : List Int) (ao : Option Addr) (ap : Nat) (aj : List Int) (r : Int) (w : World) (ax : Kd.C (Kd.int .i64) w au ae.length ae) (ay : ae.length ≤ av) (az : Kd.C (Kd.int .i64) w ao aj.length aj) (aA : aj.length ≤ ap) (h : circ_Exit.f k a0 ae aj = some r) :
  Calls Try.prog 63 #[.int .i64 a0, .agg #[.slice au ae.length av, .slice ao aj.length ap]] w fun e w' => e = .returned (.int .i64 r) ∧ Below w.heap.size w w' := by
 have hu66 := Try.underlying66;have aq := Aside0.mk ax;have aT := Aside0.mk ay;clear ax ay;have aC := Aside0.mk az;have aD := Aside0.mk aA;clear az aA;have HB := Aside0.mk (Below.refl w.heap.size w);have H : (circ_Exit.l0 k 0 ae (ae.length : Int) 0 a0 ae aj) = some r := h;clear h;have H' := Aside0.mk H;clear H;go_enter Try.func63, Try.ntmps63;go_wp2_with (first | ((with_reducible refine gate_dst (N := 2) rfl ?_); refine box_event ?hg (N := 2) ?hd (cs := #[.int .i64 a0]) (t := 3) ?hr ?_; (case hd | hg => rfl); (case hr => go_simp; try rfl); intro an hg w3 hbox hb; have af := am hbox; have aU := kG HB hg; have aV := kG HB hg; replace HB := kH HB hb; clear hb hbox hg) | ((with_reducible refine gate_dst (N := 3) rfl ?_); refine box_event ?hg (N := 3) ?hd (cs := #[.slice au ae.length av, .slice ao aj.length ap]) (t := 66) ?hr ?_; (case hd | hg => rfl); (case hr => go_simp; try rfl); intro aG hg w4 hbox hb; have ag := am hbox; have aW := kG HB hg; have aX := kG HB hg; replace HB := kH HB hb; have ah := kP af hg; have ai := kQ af hg; replace af := kU af hb; clear hb hbox hg; have be := ai.out; have bf := ah.out; have Z6 := kz2 ag));go_loopg [5, 11] k (fun kq v5 v11 w' => ∃ (aw : Int) (aa : Int), v5 = .int .i64 aw ∧ v11 = .int .i64 aa ∧ Aside0 (circ_Exit.l0 kq aw ae (ae.length : Int) aa a0 ae aj = some r) ∧ Aside0 (kq ≤ k) ∧ Aside0 (w'.heap[an]? = some (.cells #[.int .i64 a0] 3 (0, 0))) ∧ Aside0 (w'.heap[aG]? = some (.cells #[(.slice au ae.length av), (.slice ao aj.length ap)] 66 (0, 0))) ∧ Aside0 (Below w.heap.size w w'))
 case atStart => exact ⟨(0), (0), et, et, H', ⟨Nat.le_refl _⟩, ⟨kg af⟩, ⟨kg ag⟩, ⟨kh HB⟩⟩
 case round =>
  clear H'; (try clear Z6);obtain ⟨aw, aa, rfl, rfl, HA, HK1, af, ag, HB⟩ := hrel
  cases gk with
  | zero => exact absurd HA.out (by simp [circ_Exit.l0])
  | succ k1 =>
   have H := HA.out;clear HA;simp only [circ_Exit.l0] at H
   by_cases c7 : aa < (ae.length : Int)
   rotate_left
   ·rw [if_neg c7] at H
    have aN := qqF c7;clear c7
    by_cases c12 : (aj.length : Int) > 1024
    ·rw [if_pos c12] at H
     have aH := qqT c12;have aI : decide (1024 < aj.length) = true := qqT (by omega);clear c12;obtain rfl := qqI H;have aY := ai.out;have aZ := ah.out;have Z14 := kz2 ag;go_wp2;go_ret;exact ⟨er, kh HB⟩
    rw [if_neg c12] at H;have aH := qqF c12;have aI : decide (1024 < aj.length) = false := qqF (by omega);clear c12;replace H := qqB H;obtain ⟨aQ, aJ, H⟩ := H;(try dsimp only at H);have A15 := Aside0.mk aJ;clear aJ
    by_cases c16 : aQ = true
    ·subst c16
     replace H := ifT H;obtain rfl := qqI H;have ba := ai.out;have bb := ah.out;have Z18 := kz2 ag;have Z19 := kz1 af;go_wp2_with (first | ((with_reducible refine gate_callee (f := 81) rfl ?_); refine goesL_ (some 33) rfl rfl Try.func81 (by kernel_rfl) rfl #[.slice ao aj.length ap, .func (.func 82) #[] #[.pointer (some ⟨an, 0, none⟩)]] rfl (by (try simp only [qM1, qM2, qM3]); first | done | rfl) ?_; (with_reducible refine (qka.calls ⟨an, 0, none⟩ _ _ aj a0 true _ Z19.1 ?side1 ?side2 A15.out).mono ?_); (case side1 => repeat (first | exact (Kd.C_below aC.out HB.out) | (with_reducible first | refine Kd.C_alloc ?_ _ | refine Kd.C_drewN ?_ _ | refine Kd.C_drew ?_))); (case side2 => exact aD.out); rintro e w20 ⟨rfl, hb⟩; refine ⟨_, rfl, ?_⟩; replace af := kU af hb; replace ag := kU ag hb; replace HB := kH HB hb; (try clear hb); (try clear hb2); (try clear hk); (try clear hi)));go_ret;exact ⟨er, kh HB⟩
    replace c16 := Bool.eq_false_iff.mpr c16;subst c16;replace H := ifF H;obtain rfl := qqI H;have bc := ai.out;have bd := ah.out;have Z22 := kz2 ag;have Z23 := kz1 af;go_wp2_with (first | ((with_reducible refine gate_callee (f := 81) rfl ?_); refine goesL_ (some 33) rfl rfl Try.func81 (by kernel_rfl) rfl #[.slice ao aj.length ap, .func (.func 82) #[] #[.pointer (some ⟨an, 0, none⟩)]] rfl (by (try simp only [qM1, qM2, qM3]); first | done | rfl) ?_; (with_reducible refine (qka.calls ⟨an, 0, none⟩ _ _ aj a0 false _ Z23.1 ?side1 ?side2 A15.out).mono ?_); (case side1 => repeat (first | exact (Kd.C_below aC.out HB.out) | (with_reducible first | refine Kd.C_alloc ?_ _ | refine Kd.C_drewN ?_ _ | refine Kd.C_drew ?_))); (case side2 => exact aD.out); rintro e w24 ⟨rfl, hb⟩; refine ⟨_, rfl, ?_⟩; replace af := kU af hb; replace ag := kU ag hb; replace HB := kH HB hb; (try clear hb); (try clear hb2); (try clear hk); (try clear hi)));go_ret;exact ⟨er, kh HB⟩
   rw [if_pos c7] at H;have aN := qqT c7;clear c7
   by_cases c8 : 0 ≤ aa
   rotate_left
   ·rw [if_neg c8] at H
    exact absurd H (by simp)
   rw [if_pos c8] at H;have bg := qqT c8;clear c8
   by_cases c9 : aa < (ae.length : Int)
   rotate_left
   ·rw [if_neg c9] at H
    exact absurd H (by simp)
   rw [if_pos c9] at H;have bh := qqT c9;clear c9
   by_cases c10 : (rd ae aa) ≤ aw
   ·rw [if_pos c10] at H
    have aK := qqT c10;clear c10;obtain rfl := qqI H;have ak : 0 ≤ (aa : Int) := od;have al : aa < (ae.length : Int) := od;obtain ⟨aE, ar, ab⟩ := Kd.at_int aq.out aa ak al;cases ar;replace ab := (HB.out.cell (qqW w _ ab)).trans ab;replace ak := eq_true ak; replace al := eq_true al;go_wp2;go_ret;exact ⟨er, kh HB⟩
   rw [if_neg c10] at H;have aK := qqF c10;clear c10
   by_cases c11 : (rd ae aa) > 13
   ·rw [if_pos c11] at H
    have aM := qqT c11;clear c11;obtain rfl := qqI H;have ak : 0 ≤ (aa : Int) := od;have al : aa < (ae.length : Int) := od;obtain ⟨aE, ar, ab⟩ := Kd.at_int aq.out aa ak al;cases ar;replace ab := (HB.out.cell (qqW w _ ab)).trans ab;replace ak := eq_true ak; replace al := eq_true al;go_wp2;go_ret;exact ⟨er, kh HB⟩
   rw [if_neg c11] at H;have aM := qqF c11;clear c11;have H' := Aside0.mk H;clear H;have ak : 0 ≤ (aa : Int) := od;have al : aa < (ae.length : Int) := od;obtain ⟨aE, ar, ab⟩ := Kd.at_int aq.out aa ak al;cases ar;replace ab := (HB.out.cell (qqW w _ ab)).trans ab;replace ak := eq_true ak; replace al := eq_true al;go_wp2;go_roundg k1
   case measure => have := HK1.out; omega
   case rel => exact ⟨(rd ae aa), (wrap64 (aa + 1)), et, et, H', ⟨by have := HK1.out; omega⟩, ⟨kg af⟩, ⟨kg ag⟩, ⟨kh HB⟩⟩
mutual
def circ_Check.j0 : Nat → Int → Bool → List (S64) → List (S61) → List (S66) → Option (Int)
 | 0, _, _, _, _, _ => none
 | k + 1, x0, x15, ab, aa, ae => if x15 = true then (some 3) else ((api_Slot_60.f ab).bind fun ah => (if ah = true then (some 2) else (circ_Check.l0 k x0 aa (aa.length : Int) 0 ab aa ae)))
def circ_Check.l0 : Nat → Int → List (S61) → Int → Int → List (S64) → List (S61) → List (S66) → Option (Int)
 | 0, _, _, _, _, _, _, _ => none
 | k + 1, x0, x37, x38, x39, ab, aa, ae => if x39 < x38 then (if 0 ≤ x39 then (if x39 < (x37.length : Int) then ((circ_Gate.f k x0 (ab.length : Int) x39 ((rd_T61 x37 x39).f0) ((rd_T61 x37 x39).f1) ((rd_T61 x37 x39).f2) ((rd_T61 x37 x39).f3)).bind fun af => (if af = 0 then (circ_Check.l0 k x0 x37 x38 (wrap64 (x39 + 1)) ab aa ae) else (some af))) else (none)) else (none)) else (circ_Check.l1 k ae (ae.length : Int) 0 ab aa ae)
def circ_Check.l1 : Nat → List (S66) → Int → Int → List (S64) → List (S61) → List (S66) → Option (Int)
 | 0, _, _, _, _, _, _ => none
 | k + 1, x56, x57, x58, ab, aa, ae => if x58 < x57 then (if 0 ≤ x58 then (if x58 < (x56.length : Int) then ((circ_Exit.f k (aa.length : Int) ((rd_T66 x56 x58).f0) ((rd_T66 x56 x58).f1)).bind fun ag => (if ag = 0 then (circ_Check.l1 k x56 x57 (wrap64 (x58 + 1)) ab aa ae) else (some ag))) else (none)) else (none)) else (some 0)
end
def circ_Check.f (k : Nat) (a0 : Int) (aa : List (S64)) (ab : List (S61)) (ae : List (S66)) : Option (Int) := (qma.f k a0).bind fun af => (if af = true then (if (aa.length : Int) > 256 then (circ_Check.j0 k a0 true aa ab ae) else (if (ab.length : Int) > 65536 then (circ_Check.j0 k a0 true aa ab ae) else (circ_Check.j0 k a0 (decide ((ae.length : Int) > 4096)) aa ab ae))) else (some 2))
theorem circ_Check.calls (k : Nat) (a0 : Int) (aE : Option Addr) (aG : Nat) (ah : List (S64)) (aM : Option Addr) (aN : Nat) (ae : List (S61)) (aQ : Option Addr) (aT : Nat) (ag : List (S66)) (r : Int) (w : World) (bb : Kd.C k64 w aE ah.length ah) (bc : ah.length ≤ aG) (bd : Kd.C k61 w aM ae.length ae) (be : ae.length ≤ aN) (bf : Kd.C k66 w aQ ag.length ag) (bg : ag.length ≤ aT) (h : circ_Check.f k a0 ah ae ag = some r) :
  Calls Try.prog 37 #[.int .u64 a0, .agg #[.slice aE ah.length aG, .slice aM ae.length aN, .slice aQ ag.length aT]] w fun e w' => e = .returned (.int .i64 r) ∧ Below w.heap.size w w' := by
 have hu26 := Try.underlying26;have hu61 := Try.underlying61;have hu66 := Try.underlying66;have bh := Aside0.mk bb;have bi := Aside0.mk bc;clear bb bc;have bj := Aside0.mk bd;have bP := Aside0.mk be;clear bd be;have bk := Aside0.mk bf;have bQ := Aside0.mk bg;clear bf bg;have HB := Aside0.mk (Below.refl w.heap.size w);have H : ((qma.f k a0).bind fun bm => (if bm = true then (if (ah.length : Int) > 256 then (circ_Check.j0 k a0 true ah ae ag) else (if (ae.length : Int) > 65536 then (circ_Check.j0 k a0 true ah ae ag) else (circ_Check.j0 k a0 (decide ((ag.length : Int) > 4096)) ah ae ag))) else (some 2))) = some r := h;clear h;replace H := qqB H;obtain ⟨bm, A30, H⟩ := H;(try dsimp only at H);have A3 := Aside0.mk A30;clear A30
 by_cases c4 : bm = true
 rotate_left
 ·replace c4 := Bool.eq_false_iff.mpr c4
  subst c4;replace H := ifF H;obtain rfl := qqI H;go_enter Try.func37, Try.ntmps37;go_wp2_with (first | ((with_reducible refine gate_dst (N := 3) rfl ?_); (try (refine gate_guard (by rfl) ?_; dsimp only)); refine box_event ?hg (N := 3) ?hd (cs := #[.slice aE ah.length aG, .slice aM ae.length aN, .slice aQ ag.length aT]) (t := 26) ?hr ?_; (case hd | hg => rfl); (case hr => go_simp; try rfl); intro aY hg w51 hbox hb; have aa := am hbox; have br := kG HB hg; have bt := kG HB hg; replace HB := kH HB hb; clear hb hbox hg) | ((with_reducible refine gate_callee (f := 59) rfl ?_); refine goesL_ (some 13) rfl rfl Try.func59 (by kernel_rfl) rfl #[.int .u64 a0] rfl (by (try simp only [qM1, qM2, qM3]); first | done | rfl) ?_; (with_reducible refine (qma.calls k a0 false _ A3.out).mono ?_); rintro e w' ⟨rfl, ⟨nd, rfl⟩⟩; refine ⟨_, rfl, ?_⟩));go_ret;exact ⟨er, kh HB⟩
 subst c4;replace H := ifT H;have HC5 := Aside0.mk H;clear H;go_enter Try.func37, Try.ntmps37;go_upto_region 3 with (first | ((with_reducible refine gate_dst (N := 3) rfl ?_); (try (refine gate_guard (by rfl) ?_; dsimp only)); refine box_event ?hg (N := 3) ?hd (cs := #[.slice aE ah.length aG, .slice aM ae.length aN, .slice aQ ag.length aT]) (t := 26) ?hr ?_; (case hd | hg => rfl); (case hr => go_simp; try rfl); intro aY hg w6 hbox hb; have aa := am hbox; have br := kG HB hg; have bt := kG HB hg; replace HB := kH HB hb; clear hb hbox hg) | ((with_reducible refine gate_callee (f := 59) rfl ?_); refine goesL_ (some 13) rfl rfl Try.func59 (by kernel_rfl) rfl #[.int .u64 a0] rfl (by (try simp only [qM1, qM2, qM3]); first | done | rfl) ?_; (with_reducible refine (qma.calls k a0 true _ A3.out).mono ?_); rintro e w' ⟨rfl, ⟨nd, rfl⟩⟩; refine ⟨_, rfl, ?_⟩));(try simp only [Act.put, qS1, qS2, qS3]);go_cut [15] (fun v15 wc => ∃ (kq : Nat) (aZ : Bool), v15 = .bool aZ ∧ Aside0 (circ_Check.j0 kq a0 aZ ah ae ag = some r) ∧ Aside0 (kq ≤ k) ∧ Aside0 (wc.heap[aY]? = some (.cells #[(.slice aE ah.length aG), (.slice aM ae.length aN), (.slice aQ ag.length aT)] 26 (0, 0))) ∧ Aside0 (Below w.heap.size w wc))
 case first =>
  have H := HC5.out;clear HC5
  by_cases c7 : (ah.length : Int) > 256
  ·rw [if_pos c7] at H
   have ba := qqT c7;have bL : decide (256 < ah.length) = true := qqT (by omega);clear c7;(first | rw [ba] | (simp only [i64_w, i32_w]; rw [ba]) | skip);have H' := Aside0.mk H;clear H;have Z8 := kz3 aa;go_wp2;go_meet
   case rel => exact ⟨_, (true), et, H', ⟨by first | omega | exact Nat.le_refl _⟩, ⟨kg aa⟩, ⟨kh HB⟩⟩
  rw [if_neg c7] at H;have ba := qqF c7;have bL : decide (256 < ah.length) = false := qqF (by omega);clear c7;(first | rw [ba] | (simp only [i64_w, i32_w]; rw [ba]) | skip)
  by_cases c9 : (ae.length : Int) > 65536
  ·rw [if_pos c9] at H
   have bM := qqT c9;have bN : decide (65536 < ae.length) = true := qqT (by omega);clear c9;have H' := Aside0.mk H;clear H;have Z10 := kz3 aa;go_wp2;go_meet
   case rel => exact ⟨_, (true), et, H', ⟨by first | omega | exact Nat.le_refl _⟩, ⟨kg aa⟩, ⟨kh HB⟩⟩
  rw [if_neg c9] at H;have bM := qqF c9;have bN : decide (65536 < ae.length) = false := qqF (by omega);clear c9;have H' := Aside0.mk H;clear H;have Z11 := kz3 aa;go_wp2;go_meet
  case rel => exact ⟨_, (decide ((ag.length : Int) > 4096)), et, H', ⟨by first | omega | exact Nat.le_refl _⟩, ⟨kg aa⟩, ⟨kh HB⟩⟩
 clear HC5; (try clear c4);obtain ⟨kq, aZ, rfl, HA, HJ4, aa, HB⟩ := hcut
 cases kq with
 | zero => exact absurd HA.out (by simp [circ_Check.j0])
 | succ kj4 =>
  have H := HA.out;clear HA;simp only [circ_Check.j0] at H
  by_cases c12 : aZ = true
  ·subst c12
   replace H := ifT H;obtain rfl := qqI H;go_wp2;go_ret;exact ⟨er, kh HB⟩
  replace c12 := Bool.eq_false_iff.mpr c12;subst c12;replace H := ifF H;replace H := qqB H;obtain ⟨bO, bu, H⟩ := H;(try dsimp only at H);have A13 := Aside0.mk bu;clear bu
  by_cases c14 : bO = true
  ·subst c14
   replace H := ifT H;obtain rfl := qqI H;have Z15 := kz3 aa;go_wp2_with (first | ((with_reducible refine gate_callee (f := 60) rfl ?_); refine goesL_ (some 35) rfl rfl Try.func60 (by kernel_rfl) rfl #[.slice aE ah.length aG, .func (.func 61) #[] #[]] rfl (by (try simp only [qM1, qM2, qM3]); first | done | rfl) ?_; (with_reducible refine (api_Slot_60.calls _ _ ah true _ ?side1 ?side2 A13.out).mono ?_); (case side1 => repeat (first | exact (Kd.C_below bh.out HB.out) | (with_reducible first | refine Kd.C_alloc ?_ _ | refine Kd.C_drewN ?_ _ | refine Kd.C_drew ?_))); (case side2 => exact bi.out); rintro e w16 ⟨rfl, hb⟩; refine ⟨_, rfl, ?_⟩; replace aa := kU aa hb; replace HB := kH HB hb; (try clear hb); (try clear hb2); (try clear hk); (try clear hi)));go_ret;exact ⟨er, kh HB⟩
  replace c14 := Bool.eq_false_iff.mpr c14;subst c14;replace H := ifF H;have H' := Aside0.mk H;clear H;have Z17 := kz3 aa;go_wp2_with (first | ((with_reducible refine gate_callee (f := 60) rfl ?_); refine goesL_ (some 35) rfl rfl Try.func60 (by kernel_rfl) rfl #[.slice aE ah.length aG, .func (.func 61) #[] #[]] rfl (by (try simp only [qM1, qM2, qM3]); first | done | rfl) ?_; (with_reducible refine (api_Slot_60.calls _ _ ah false _ ?side1 ?side2 A13.out).mono ?_); (case side1 => repeat (first | exact (Kd.C_below bh.out HB.out) | (with_reducible first | refine Kd.C_alloc ?_ _ | refine Kd.C_drewN ?_ _ | refine Kd.C_drew ?_))); (case side2 => exact bi.out); rintro e w18 ⟨rfl, hb⟩; refine ⟨_, rfl, ?_⟩; replace aa := kU aa hb; replace HB := kH HB hb; (try clear hb); (try clear hb2); (try clear hk); (try clear hi); have Z19 := kz3 aa));go_loopg [39] kj4 (fun kq v39 w' => ∃ (ab : Int), v39 = .int .i64 ab ∧ Aside0 (circ_Check.l0 kq a0 ae (ae.length : Int) ab ah ae ag = some r) ∧ Aside0 (kq ≤ kj4) ∧ Aside0 (w'.heap[aY]? = some (.cells #[(.slice aE ah.length aG), (.slice aM ae.length aN), (.slice aQ ag.length aT)] 26 (0, 0))) ∧ Aside0 (Below w.heap.size w w'))
  case atStart => exact ⟨(0), et, H', ⟨Nat.le_refl _⟩, ⟨kg aa⟩, ⟨kh HB⟩⟩
  case round =>
   clear H';(try clear c12 c14 Z15 Z17 Z19);obtain ⟨ab, rfl, HA, HK2, aa, HB⟩ := hrel
   cases gk with
   | zero => exact absurd HA.out (by simp [circ_Check.l0])
   | succ k2 =>
    have H := HA.out;clear HA;simp only [circ_Check.l0] at H
    by_cases c20 : ab < (ae.length : Int)
    ·rw [if_pos c20] at H
     have bl := qqT c20;clear c20
     by_cases c21 : 0 ≤ ab
     rotate_left
     ·rw [if_neg c21] at H
      exact absurd H (by simp)
     rw [if_pos c21] at H;have bR := qqT c21;clear c21
     by_cases c22 : ab < (ae.length : Int)
     rotate_left
     ·rw [if_neg c22] at H
      exact absurd H (by simp)
     rw [if_pos c22] at H;have bS := qqT c22;clear c22;replace H := qqB H;obtain ⟨bn, bv, H⟩ := H;(try dsimp only at H);have A23 := Aside0.mk bv;clear bv
     by_cases c24 : bn = 0
     rotate_left
     ·rw [if_neg c24] at H
      have bw := beq_eq_false_iff_ne.mpr c24;have bx := bne_iff_ne.mpr c24;obtain rfl := qqI H;have aU : 0 ≤ (ab : Int) := od;have aV : ab < (ae.length : Int) := od;obtain ⟨bz, bo, ai, aj, ak, al⟩ := at_T61 bj.out ab aU aV;cases bo;replace ai := (HB.out.cell (qqW w _ ai)).trans ai;replace aj := (HB.out.cell (qqW w _ aj)).trans aj;replace ak := (HB.out.cell (qqW w _ ak)).trans ak;replace al := (HB.out.cell (qqW w _ al)).trans al;replace aU := eq_true aU; replace aV := eq_true aV;go_wp2_with (first | ((with_reducible refine gate_dst (N := 6) rfl ?_); (try (refine gate_guard (by rfl) ?_; dsimp only)); refine box_event ?hg (N := 6) ?hd (cs := #[.int .i64 0, .int .i64 0, .int .i64 0, .int .u64 0]) (t := 61) ?hr ?_; (case hd | hg => rfl); (case hr => go_simp; try rfl); intro bA hg w30 hbox hb; have ax := am hbox; have bB := kG HB hg; have bC := kG HB hg; replace HB := kH HB hb; have ar := kP aa hg; have au := kQ aa hg; replace aa := kU aa hb; clear hb hbox hg; have bT := au.out; have bU := ar.out; have Z32 := kz4 ax; have Z33 := kz3 aa) | ((with_reducible refine gate_callee (f := 62) rfl ?_); refine goesL_ (some 50) rfl rfl Try.func62 (by kernel_rfl) rfl #[.int .u64 a0, .int .i64 (ah.length : Int), .int .i64 ab, .agg #[.int .i64 ((rd_T61 ae ab).f0), .int .i64 ((rd_T61 ae ab).f1), .int .i64 ((rd_T61 ae ab).f2), .int .u64 ((rd_T61 ae ab).f3)]] rfl (by (try simp only [qM1, qM2, qM3]); first | done | rfl) ?_; (with_reducible refine (circ_Gate.calls k2 a0 (ah.length : Int) ab ((rd_T61 ae ab).f0) ((rd_T61 ae ab).f1) ((rd_T61 ae ab).f2) ((rd_T61 ae ab).f3) bn _ A23.out).mono ?_); rintro e w34 ⟨rfl, hb⟩; refine ⟨_, rfl, ?_⟩; replace aa := kU aa hb; replace ax := kO (o' := .cells #[.int .i64 ((rd_T61 ae ab).f0), .int .i64 ((rd_T61 ae ab).f1), .int .i64 ((rd_T61 ae ab).f2), .int .u64 ((rd_T61 ae ab).f3)] 61 (0, 0)) ax hb; replace HB := kH HB hb; (try clear hb); (try clear hb2); (try clear hk); (try clear hi)));go_ret;exact ⟨er, kh HB⟩
     rw [if_pos c24] at H;have bw := beq_iff_eq.mpr c24;have bx := bne_eq_false_iff_eq.mpr c24;clear c24;have H' := Aside0.mk H;clear H;have aU : 0 ≤ (ab : Int) := od;have aV : ab < (ae.length : Int) := od;obtain ⟨bz, bo, ai, aj, ak, al⟩ := at_T61 bj.out ab aU aV;cases bo;replace ai := (HB.out.cell (qqW w _ ai)).trans ai;replace aj := (HB.out.cell (qqW w _ aj)).trans aj;replace ak := (HB.out.cell (qqW w _ ak)).trans ak;replace al := (HB.out.cell (qqW w _ al)).trans al;replace aU := eq_true aU; replace aV := eq_true aV;go_wp2_with (first | ((with_reducible refine gate_dst (N := 6) rfl ?_); (try (refine gate_guard (by rfl) ?_; dsimp only)); refine box_event ?hg (N := 6) ?hd (cs := #[.int .i64 0, .int .i64 0, .int .i64 0, .int .u64 0]) (t := 61) ?hr ?_; (case hd | hg => rfl); (case hr => go_simp; try rfl); intro bA hg w25 hbox hb; have ax := am hbox; have bB := kG HB hg; have bC := kG HB hg; replace HB := kH HB hb; have ar := kP aa hg; have au := kQ aa hg; replace aa := kU aa hb; clear hb hbox hg; have bV := au.out; have bW := ar.out; have Z27 := kz4 ax; have Z28 := kz3 aa) | ((with_reducible refine gate_callee (f := 62) rfl ?_); refine goesL_ (some 50) rfl rfl Try.func62 (by kernel_rfl) rfl #[.int .u64 a0, .int .i64 (ah.length : Int), .int .i64 ab, .agg #[.int .i64 ((rd_T61 ae ab).f0), .int .i64 ((rd_T61 ae ab).f1), .int .i64 ((rd_T61 ae ab).f2), .int .u64 ((rd_T61 ae ab).f3)]] rfl (by (try simp only [qM1, qM2, qM3]); first | done | rfl) ?_; (with_reducible refine (circ_Gate.calls k2 a0 (ah.length : Int) ab ((rd_T61 ae ab).f0) ((rd_T61 ae ab).f1) ((rd_T61 ae ab).f2) ((rd_T61 ae ab).f3) bn _ A23.out).mono ?_); rintro e w29 ⟨rfl, hb⟩; refine ⟨_, rfl, ?_⟩; replace aa := kU aa hb; replace ax := kO (o' := .cells #[.int .i64 ((rd_T61 ae ab).f0), .int .i64 ((rd_T61 ae ab).f1), .int .i64 ((rd_T61 ae ab).f2), .int .u64 ((rd_T61 ae ab).f3)] 61 (0, 0)) ax hb; replace HB := kH HB hb; (try clear hb); (try clear hb2); (try clear hk); (try clear hi)));go_roundg k2
     case measure => have := HJ4.out; have := HK2.out; omega
     case rel => exact ⟨(wrap64 (ab + 1)), et, H', ⟨by have := HJ4.out; have := HK2.out; omega⟩, ⟨kg aa⟩, ⟨kh HB⟩⟩
    rw [if_neg c20] at H;have bl := qqF c20;clear c20;have H' := Aside0.mk H;clear H;have Z35 := kz3 aa;go_wp2;go_loopg [58] k2 (fun kq v58 w' => ∃ (af : Int), v58 = .int .i64 af ∧ Aside0 (circ_Check.l1 kq ag (ag.length : Int) af ah ae ag = some r) ∧ Aside0 (kq ≤ k2) ∧ Aside0 (w'.heap[aY]? = some (.cells #[(.slice aE ah.length aG), (.slice aM ae.length aN), (.slice aQ ag.length aT)] 26 (0, 0))) ∧ Aside0 (Below w.heap.size w w'))
    case atStart => exact ⟨(0), et, H', ⟨Nat.le_refl _⟩, ⟨kg aa⟩, ⟨kh HB⟩⟩
    case round =>
     clear H';(try clear bl c21 Z35);obtain ⟨af, rfl, HA, HK3, aa, HB⟩ := hrel
     cases gk with
     | zero => exact absurd HA.out (by simp [circ_Check.l1])
     | succ k3 =>
      have H := HA.out;clear HA;simp only [circ_Check.l1] at H
      by_cases c36 : af < (ag.length : Int)
      rotate_left
      ·rw [if_neg c36] at H
       have bD := qqF c36;clear c36;obtain rfl := qqI H;go_wp2;go_ret;exact ⟨er, kh HB⟩
      rw [if_pos c36] at H;have bD := qqT c36;clear c36
      by_cases c37 : 0 ≤ af
      rotate_left
      ·rw [if_neg c37] at H
       exact absurd H (by simp)
      rw [if_pos c37] at H;have bX := qqT c37;clear c37
      by_cases c38 : af < (ag.length : Int)
      rotate_left
      ·rw [if_neg c38] at H
       exact absurd H (by simp)
      rw [if_pos c38] at H;have bY := qqT c38;clear c38;replace H := qqB H;obtain ⟨bp, bE, H⟩ := H;(try dsimp only at H);have A39 := Aside0.mk bE;clear bE
      by_cases c40 : bp = 0
      rotate_left
      ·rw [if_neg c40] at H
       have bF := beq_eq_false_iff_ne.mpr c40;have bG := bne_iff_ne.mpr c40;obtain rfl := qqI H;have aW : 0 ≤ (af : Int) := od;have aX : af < (ag.length : Int) := od;obtain ⟨bH, ay, az, aA, aC, bq, an, ao, ap, hi171_0, aq, hi171_1⟩ := at_T66 bk.out af aW aX;cases bq;replace an := (HB.out.cell (qqW w _ an)).trans an;replace ao := (HB.out.cell (qqW w _ ao)).trans ao;have aH := Aside0.mk hi171_0;have aI := Aside0.mk ap;clear hi171_0 ap;have aJ := Aside0.mk hi171_1;have aK := Aside0.mk aq;clear hi171_1 aq; replace aW := eq_true aW; replace aX := eq_true aX;go_wp2_with (first | ((with_reducible refine gate_dst (N := 9) rfl ?_); (try (refine gate_guard (by rfl) ?_; dsimp only)); refine box_event ?hg (N := 9) ?hd (cs := #[.slice none 0 0, .slice none 0 0]) (t := 66) ?hr ?_; (case hd | hg => rfl); (case hr => go_simp; try rfl); intro bI hg w46 hbox hb; have aD := am hbox; have bJ := kG HB hg; have bK := kG HB hg; replace HB := kH HB hb; have av := kP aa hg; have aw := kQ aa hg; replace aa := kU aa hb; clear hb hbox hg; have bZ := aw.out; have ca := av.out; have Z48 := kz2 aD; have Z49 := kz3 aa) | ((with_reducible refine gate_callee (f := 63) rfl ?_); refine goesL_ (some 66) rfl rfl Try.func63 (by kernel_rfl) rfl #[.int .i64 (ae.length : Int), .agg #[.slice ay ((rd_T66 ag af).f0).length az, .slice aA ((rd_T66 ag af).f1).length aC]] rfl (by (try simp only [qM1, qM2, qM3]); first | done | rfl) ?_; (with_reducible refine (circ_Exit.calls k3 (ae.length : Int) _ _ ((rd_T66 ag af).f0) _ _ ((rd_T66 ag af).f1) bp _ ?side1 ?side2 ?side3 ?side4 A39.out).mono ?_); (case side1 => exact Kd.C_below aH.out (kh HB)); (case side2 => exact aI.out); (case side3 => exact Kd.C_below aJ.out (kh HB)); (case side4 => exact aK.out); rintro e w50 ⟨rfl, hb⟩; refine ⟨_, rfl, ?_⟩; replace aa := kU aa hb; replace aD := kO (o' := .cells #[.slice ay ((rd_T66 ag af).f0).length az, .slice aA ((rd_T66 ag af).f1).length aC] 66 (0, 0)) aD hb; replace HB := kH HB hb; (try clear hb); (try clear hb2); (try clear hk); (try clear hi)));go_ret;exact ⟨er, kh HB⟩
      rw [if_pos c40] at H;have bF := beq_iff_eq.mpr c40;have bG := bne_eq_false_iff_eq.mpr c40;clear c40;have H' := Aside0.mk H;clear H;have aW : 0 ≤ (af : Int) := od;have aX : af < (ag.length : Int) := od;obtain ⟨bH, ay, az, aA, aC, bq, an, ao, ap, hi171_0, aq, hi171_1⟩ := at_T66 bk.out af aW aX;cases bq;replace an := (HB.out.cell (qqW w _ an)).trans an;replace ao := (HB.out.cell (qqW w _ ao)).trans ao;have aH := Aside0.mk hi171_0;have aI := Aside0.mk ap;clear hi171_0 ap;have aJ := Aside0.mk hi171_1;have aK := Aside0.mk aq;clear hi171_1 aq; replace aW := eq_true aW; replace aX := eq_true aX;go_wp2_with (first | ((with_reducible refine gate_dst (N := 9) rfl ?_); (try (refine gate_guard (by rfl) ?_; dsimp only)); refine box_event ?hg (N := 9) ?hd (cs := #[.slice none 0 0, .slice none 0 0]) (t := 66) ?hr ?_; (case hd | hg => rfl); (case hr => go_simp; try rfl); intro bI hg w41 hbox hb; have aD := am hbox; have bJ := kG HB hg; have bK := kG HB hg; replace HB := kH HB hb; have av := kP aa hg; have aw := kQ aa hg; replace aa := kU aa hb; clear hb hbox hg; have cb := aw.out; have cc := av.out; have Z43 := kz2 aD; have Z44 := kz3 aa) | ((with_reducible refine gate_callee (f := 63) rfl ?_); refine goesL_ (some 66) rfl rfl Try.func63 (by kernel_rfl) rfl #[.int .i64 (ae.length : Int), .agg #[.slice ay ((rd_T66 ag af).f0).length az, .slice aA ((rd_T66 ag af).f1).length aC]] rfl (by (try simp only [qM1, qM2, qM3]); first | done | rfl) ?_; (with_reducible refine (circ_Exit.calls k3 (ae.length : Int) _ _ ((rd_T66 ag af).f0) _ _ ((rd_T66 ag af).f1) bp _ ?side1 ?side2 ?side3 ?side4 A39.out).mono ?_); (case side1 => exact Kd.C_below aH.out (kh HB)); (case side2 => exact aI.out); (case side3 => exact Kd.C_below aJ.out (kh HB)); (case side4 => exact aK.out); rintro e w45 ⟨rfl, hb⟩; refine ⟨_, rfl, ?_⟩; replace aa := kU aa hb; replace aD := kO (o' := .cells #[.slice ay ((rd_T66 ag af).f0).length az, .slice aA ((rd_T66 ag af).f1).length aC] 66 (0, 0)) aD hb; replace HB := kH HB hb; (try clear hb); (try clear hb2); (try clear hk); (try clear hi)));go_roundg k3
      case measure => have := HJ4.out; have := HK2.out; have := HK3.out; omega
      case rel => exact ⟨(wrap64 (af + 1)), et, H', ⟨by have := HJ4.out; have := HK2.out; have := HK3.out; omega⟩, ⟨kg aa⟩, ⟨kh HB⟩⟩
def api_Slot_64.f (l0 : List S64) : Option (List S64) := if l0.length < 8796093022208 then some l0 else none
theorem api_Slot_64.calls (A0 : Option Addr) (c0 : Nat) (l0 r : List S64) (w : World) (hr0 : Kd.C k64 w A0 l0.length l0) (hc0 : l0.length ≤ c0) (h : api_Slot_64.f l0 = some r) :
  Calls Try.prog 64 #[.slice A0 l0.length c0] w fun e w' => ∃ v0_ : Value, e = .returned (v0_) ∧ Kd.R k64 64 w' w.heap.size (fun _ => True) v0_ r ∧ Below w.heap.size w w' := by
 have HR0 := Aside0.mk hr0;have HC0 := Aside0.mk hc0;clear hr0 hc0;have HB := Aside0.mk (Below.refl w.heap.size w);unfold api_Slot_64.f at h
 by_cases hl : l0.length < 8796093022208
 rotate_left
 ·rw [if_neg hl] at h; cases h
 rw [if_pos hl] at h;obtain rfl := qqI h;clear h;have HL := Aside0.mk hl;clear hl
 have he := fun w : World => Lib.run_eql_slice_nil (P := Try.prog) w 22 64 A0 l0.length c0 0 0 Try.underlying22
 cases A0 with
 | none =>
  have hn : l0 = [] := by
   have h2 := HR0.out.2.2
   cases l0 with
   | nil => rfl
   | cons a l => obtain ⟨ad, h, _⟩ := h2 (by simp); cases h
  subst hn
  show Calls Try.prog 64 #[.slice none 0 c0] w _
  have he : ∀ w : World, (binOp .eql 22 (.slice none 0 c0) (.slice none 0 0)).run Try.prog w = .ok (.bool true) w := he;go_enter Try.func64, Try.ntmps64;go_wp2;go_ret;exact ⟨_, rfl, Kd.R_nil _ _ _ _ _, HB.out⟩
 | some ad =>
  go_enter Try.func64, Try.ntmps64;obtain ⟨ae, ab⟩ : ∃ y_ : List S64, y_ = (([] : List S64)) := ⟨_, rfl⟩;have aa := Aside0.mk ab;clear ab
  go_wp2_with (first
   | ((with_reducible refine gate_dst (N := 5) rfl ?_); refine Kd.R_lit k64 _ 64 ?hg (N := 5) ?hd (xs := ([] : List S64)) (inner := []) (ok := fun _ => True) (okp := fun _ => True) ?hr ?hp (fun _ hk => hk) trivial (Below.refl _ _) (Nat.le_refl _) (by simp) ?_; (case hd | hg => rfl); (case hr => go_simp; try rfl); (case hp => exact (Reps.none _ _)); intro af w10 ho11 hb hg_ hnew_; clear hg_ hnew_; rw [← aa.out] at ho11; have HO := Aside0.mk (Kd.R_lower ho11 (below_size HB.out)); replace HB := Aside0.mk (below_step HB.out hb); clear hb ho11)
   | ((with_reducible refine gate_builtin (b := .append) (xs := #[.tmp 5, .tmp 6]) rfl ?_); at_builtin; refine Kd.R_append_rows k64 (w0 := w) w.heap.size rfl (.tmp 5) (.tmp 6) 22 64 (.agg #[.int .i64 0, .bool false]) 16 rfl Try.underlying22 info64 rfl (by decide) (by omega) af ae l0 _ _ _ (fun _ => True) (fun _ => False) rfl rfl ?aO ?aR (fun _ _ h => h) (fun _ h => h.elim) ?aF ?aB ?aS ?aL ?_; (case aR => exact (Kd.C_below HR0.out HB.out)); (case aB => exact HB.out); (case aF => exact (fun _ _ => trivial)); (case aO => exact HO.out); (case aS => exact (below_size HB.out)); (case aL => have := HL.out; have h2 := aa.out; rw [h2]; simp only [List.length_nil]; omega); intro ag w20 ho hb hg hat; rw [aa.out, List.nil_append] at ho; replace HB := Aside0.mk (hb); replace HO := Aside0.mk (ho); clear ho hb hg hat))
  go_ret;exact ⟨_, rfl, HO.out, HB.out⟩
def api_Gate_65.f (l0 : List S61) : Option (List S61) := if l0.length < 4398046511104 then some l0 else none
theorem api_Gate_65.calls (A0 : Option Addr) (c0 : Nat) (l0 r : List S61) (w : World) (hr0 : Kd.C k61 w A0 l0.length l0) (hc0 : l0.length ≤ c0) (h : api_Gate_65.f l0 = some r) :
  Calls Try.prog 65 #[.slice A0 l0.length c0] w fun e w' => ∃ v0_ : Value, e = .returned (v0_) ∧ Kd.R k61 61 w' w.heap.size (fun _ => True) v0_ r ∧ Below w.heap.size w w' := by
 have HR0 := Aside0.mk hr0;have HC0 := Aside0.mk hc0;clear hr0 hc0;have HB := Aside0.mk (Below.refl w.heap.size w);unfold api_Gate_65.f at h
 by_cases hl : l0.length < 4398046511104
 rotate_left
 ·rw [if_neg hl] at h; cases h
 rw [if_pos hl] at h;obtain rfl := qqI h;clear h;have HL := Aside0.mk hl;clear hl
 have he := fun w : World => Lib.run_eql_slice_nil (P := Try.prog) w 23 61 A0 l0.length c0 0 0 Try.underlying23
 cases A0 with
 | none =>
  have hn : l0 = [] := by
   have h2 := HR0.out.2.2
   cases l0 with
   | nil => rfl
   | cons a l => obtain ⟨ad, h, _⟩ := h2 (by simp); cases h
  subst hn
  show Calls Try.prog 65 #[.slice none 0 c0] w _
  have he : ∀ w : World, (binOp .eql 23 (.slice none 0 c0) (.slice none 0 0)).run Try.prog w = .ok (.bool true) w := he;go_enter Try.func65, Try.ntmps65;go_wp2;go_ret;exact ⟨_, rfl, Kd.R_nil _ _ _ _ _, HB.out⟩
 | some ad =>
  go_enter Try.func65, Try.ntmps65;obtain ⟨ae, ab⟩ : ∃ y_ : List S61, y_ = (([] : List S61)) := ⟨_, rfl⟩;have aa := Aside0.mk ab;clear ab
  go_wp2_with (first
   | ((with_reducible refine gate_dst (N := 5) rfl ?_); refine Kd.R_lit k61 _ 61 ?hg (N := 5) ?hd (xs := ([] : List S61)) (inner := []) (ok := fun _ => True) (okp := fun _ => True) ?hr ?hp (fun _ hk => hk) trivial (Below.refl _ _) (Nat.le_refl _) (by simp) ?_; (case hd | hg => rfl); (case hr => go_simp; try rfl); (case hp => exact (Reps.none _ _)); intro af w10 ho11 hb hg_ hnew_; clear hg_ hnew_; rw [← aa.out] at ho11; have HO := Aside0.mk (Kd.R_lower ho11 (below_size HB.out)); replace HB := Aside0.mk (below_step HB.out hb); clear hb ho11)
   | ((with_reducible refine gate_builtin (b := .append) (xs := #[.tmp 5, .tmp 6]) rfl ?_); at_builtin; refine Kd.R_append_rows k61 (w0 := w) w.heap.size rfl (.tmp 5) (.tmp 6) 23 61 (.agg #[.int .i64 0, .int .i64 0, .int .i64 0, .int .u64 0]) 32 rfl Try.underlying23 info61 rfl (by decide) (by omega) af ae l0 _ _ _ (fun _ => True) (fun _ => False) rfl rfl ?aO ?aR (fun _ _ h => h) (fun _ h => h.elim) ?aF ?aB ?aS ?aL ?_; (case aR => exact (Kd.C_below HR0.out HB.out)); (case aB => exact HB.out); (case aF => exact (fun _ _ => trivial)); (case aO => exact HO.out); (case aS => exact (below_size HB.out)); (case aL => have := HL.out; have h2 := aa.out; rw [h2]; simp only [List.length_nil]; omega); intro ag w20 ho hb hg hat; rw [aa.out, List.nil_append] at ho; replace HB := Aside0.mk (hb); replace HO := Aside0.mk (ho); clear ho hb hg hat))
  go_ret;exact ⟨_, rfl, HO.out, HB.out⟩
def qla.f (l0 : List Int) : Option (List Int) := if l0.length < 17592186044416 then some l0 else none
theorem qla.calls (A0 : Option Addr) (c0 : Nat) (l0 r : List Int) (w : World) (hr0 : Kd.C (Kd.int .i64) w A0 l0.length l0) (hc0 : l0.length ≤ c0) (h : qla.f l0 = some r) :
  Calls Try.prog 66 #[.slice A0 l0.length c0] w fun e w' => ∃ v0_ : Value, e = .returned (v0_) ∧ Kd.R (Kd.int .i64) 3 w' w.heap.size (fun _ => True) v0_ r ∧ Below w.heap.size w w' := by
 have HR0 := Aside0.mk hr0;have HC0 := Aside0.mk hc0;clear hr0 hc0;have HB := Aside0.mk (Below.refl w.heap.size w);unfold qla.f at h
 by_cases hl : l0.length < 17592186044416
 rotate_left
 ·rw [if_neg hl] at h; cases h
 rw [if_pos hl] at h;obtain rfl := qqI h;clear h;have HL := Aside0.mk hl;clear hl
 have he := fun w : World => Lib.run_eql_slice_nil (P := Try.prog) w 27 3 A0 l0.length c0 0 0 Try.underlying27
 cases A0 with
 | none =>
  have hn : l0 = [] := by
   have h2 := HR0.out.2.2
   cases l0 with
   | nil => rfl
   | cons a l => obtain ⟨ad, h, _⟩ := h2 (by simp); cases h
  subst hn
  show Calls Try.prog 66 #[.slice none 0 c0] w _
  have he : ∀ w : World, (binOp .eql 27 (.slice none 0 c0) (.slice none 0 0)).run Try.prog w = .ok (.bool true) w := he;go_enter Try.func66, Try.ntmps66;go_wp2;go_ret;exact ⟨_, rfl, Kd.R_nil _ _ _ _ _, HB.out⟩
 | some ad =>
  go_enter Try.func66, Try.ntmps66;obtain ⟨ae, ab⟩ : ∃ y_ : List Int, y_ = (([] : List Int)) := ⟨_, rfl⟩;have aa := Aside0.mk ab;clear ab
  go_wp2_with (first
   | ((with_reducible refine gate_dst (N := 5) rfl ?_); refine Kd.R_lit (Kd.int .i64) _ 3 ?hg (N := 5) ?hd (xs := ([] : List Int)) (inner := []) (ok := fun _ => True) (okp := fun _ => True) ?hr ?hp (fun _ hk => hk) trivial (Below.refl _ _) (Nat.le_refl _) (by simp) ?_; (case hd | hg => rfl); (case hr => go_simp; try rfl); (case hp => exact (Reps.none _ _)); intro af w10 ho11 hb hg_ hnew_; clear hg_ hnew_; rw [← aa.out] at ho11; have HO := Aside0.mk (Kd.R_lower ho11 (below_size HB.out)); replace HB := Aside0.mk (below_step HB.out hb); clear hb ho11)
   | ((with_reducible refine gate_builtin (b := .append) (xs := #[.tmp 5, .tmp 6]) rfl ?_); at_builtin; refine Kd.R_append_rows (Kd.int .i64) (w0 := w) w.heap.size rfl (.tmp 5) (.tmp 6) 27 3 (.int .i64 0) 8 rfl Try.underlying27 info3 rfl (by decide) (by omega) af ae l0 _ _ _ (fun _ => True) (fun _ => False) rfl rfl ?aO ?aR (fun _ _ h => h) (fun _ h => h.elim) ?aF ?aB ?aS ?aL ?_; (case aR => exact (Kd.C_below HR0.out HB.out)); (case aB => exact HB.out); (case aF => exact (fun _ _ => trivial)); (case aO => exact HO.out); (case aS => exact (below_size HB.out)); (case aL => have := HL.out; have h2 := aa.out; rw [h2]; simp only [List.length_nil]; omega); intro ag w20 ho hb hg hat; rw [aa.out, List.nil_append] at ho; replace HB := Aside0.mk (hb); replace HO := Aside0.mk (ho); clear ho hb hg hat))
  go_ret;exact ⟨_, rfl, HO.out, HB.out⟩
end Go.Proofs.Ytmlbliggbkfjnaa.J
/- Exits whose two rows, and all whose rows among each other, lie apart: what is stored into one row says nothing of the others. -/
namespace Go.Proofs.Ytmlbliggbkfjnaa.J
open Go.RowKit Go.Proofs.YtmlbliggbkfjnaaW.PrintWords Go.Proofs.YtmlbliggbkfjnaaW.PrintLast Go.Proofs.YtmlbliggbkfjnaaW.PrintMore
def two {α β : Type} (a : Kd α) (b : Kd β) : Kd (α × β) where
  sz := a.sz + b.sz
  E := a.E ++ b.E
  K := fun w x cs => ∃ c0 c1, cs = c0 ++ c1 ∧ a.K w x.1 c0 ∧ b.K w x.2 c1
  M := fun w base ok x cs => ∃ (g : Nat → Bool) (c0 c1 : List Value), cs = c0 ++ c1 ∧ a.M w base (fun k => ok k ∧ g k = true) x.1 c0 ∧ b.M w base (fun k => ok k ∧ g k = false) x.2 c1
  K_len := (Kd.pair a b).K_len
  K_one := (Kd.pair a b).K_one
  K_below := (Kd.pair a b).K_below
  K_of_M := by
    rintro w base ok x cs ⟨g, c0, c1, rfl, h0, h1⟩;exact ⟨c0, c1, rfl, a.K_of_M h0, b.K_of_M h1⟩
  M_mono := by
    rintro w base ok ok' x cs hok ⟨g, c0, c1, rfl, h0, h1⟩;exact ⟨g, c0, c1, rfl, a.M_mono (fun k hk => ⟨hok k hk.1, hk.2⟩) h0, b.M_mono (fun k hk => ⟨hok k hk.1, hk.2⟩) h1⟩
  M_bound := by
    rintro w base ok x cs ⟨g, c0, c1, rfl, h0, h1⟩;refine ⟨g, c0, c1, rfl, a.M_mono ?_ (a.M_bound h0), b.M_mono ?_ (b.M_bound h1)⟩
    · rintro k ⟨⟨h2, hg⟩, h3, h4, q, hq, hc⟩
      exact ⟨⟨h2, h3, h4, q, List.mem_append_left _ hq, hc⟩, hg⟩
    · rintro k ⟨⟨h2, hg⟩, h3, h4, q, hq, hc⟩
      exact ⟨⟨h2, h3, h4, q, List.mem_append_right _ hq, hc⟩, hg⟩
  M_move := by
    rintro w w1 base ok x cs hm ⟨g, c0, c1, rfl, h0, h1⟩;exact ⟨g, c0, c1, rfl, a.M_move (fun k hk => hm k hk.1) h0, b.M_move (fun k hk => hm k hk.1) h1⟩
  M_lower := by
    rintro w base base' ok x cs hb ⟨g, c0, c1, rfl, h0, h1⟩;exact ⟨g, c0, c1, rfl, a.M_lower hb h0, b.M_lower hb h1⟩
def k66t : Kd S66 := Kd.iso (two (Kd.slice 3 (Kd.int .i64)) (Kd.slice 3 (Kd.int .i64))) (fun x : S66 => (x.f0, x.f1))
theorem k66t_openM {w : World} {base : Nat} {ok : Nat → Prop} {x : S66} {cs : List Value} (h : k66t.M w base ok x cs) :
    ∃ v0 v1, cs = [v0, v1] ∧ (∀ k, v0.ownBlock = some k → v1.ownBlock ≠ some k) ∧ (Kd.int .i64).R 3 w base ok v0 x.f0 ∧ (Kd.int .i64).R 3 w base ok v1 x.f1 := by
  obtain ⟨g, c0, c1, rfl, ⟨v0, rfl, h0⟩, ⟨v1, rfl, h1⟩⟩ := h;refine ⟨v0, v1, rfl, fun k e0 e1 => ?_, Kd.R_mono h0 (fun _ hk => hk.1), Kd.R_mono h1 (fun _ hk => hk.1)⟩;have a0 := (h0.1 k e0).2;have a1 := (h1.1 k e1).2;rw [a0] at a1;cases a1
open Classical in
theorem k66t_mkM (w : World) (base : Nat) (ok : Nat → Prop) (x : S66) {v0 v1 : Value} (hne : ∀ k, v0.ownBlock = some k → v1.ownBlock ≠ some k) (g0 : (Kd.int .i64).R 3 w base ok v0 x.f0) (g1 : (Kd.int .i64).R 3 w base ok v1 x.f1) : k66t.M w base ok x [v0, v1] := by
  refine ⟨fun k => decide (v1.ownBlock ≠ some k), [v0], [v1], rfl, ⟨v0, rfl, ?_⟩, ⟨v1, rfl, ?_⟩⟩
  · exact Kd.R_mono (Kd.R_tight2 rfl g0) (fun k hk => ⟨hk.2, qqT (hne k hk.1.symm)⟩)
  · exact Kd.R_mono (Kd.R_tight2 rfl g1) (fun k hk => ⟨hk.2, qqF (fun h => h hk.1.symm)⟩)
theorem k66t_M {w : World} {base : Nat} {ok : Nat → Prop} {x : S66} {cs : List Value} (h : k66t.M w base ok x cs) : k66.M w base ok x cs := by
  obtain ⟨v0, v1, rfl, _, g0, g1⟩ := k66t_openM h;exact k66_mkM w base ok x g0 g1
theorem k66t_S {e : Nat} {w : World} {base : Nat} {ok : Nat → Prop} {v : Value} {xs : List S66} (h : Kd.S k66t e w base ok v xs) : Kd.S k66 e w base ok v xs := by
  obtain ⟨f, h0, inner, ho, hr⟩ := h;exact ⟨f, h0, inner, ho, hr.1, fun j p hj => k66t_M (hr.2 j p hj)⟩
theorem k66t_C {w : World} {A : Option Addr} {n : Nat} {xs : List S66} (h : Kd.C k66t w A n xs) : Kd.C k66 w A n xs := h
theorem k66t_none (w : World) (base : Nat) (ok : Nat → Prop) : Kd.S k66t 66 w base ok (.slice none 0 0) [] := Kd.S_nil _ _ _ _ _
theorem exits_put {W : World} {base : Nat} {ok : Nat → Prop} {ad : Addr} {n cap : Nat} {xs : List S66} (h : Kd.S k66t 66 W base ok (.slice (some ad) n cap) xs) (i : Int) (hi0 : 0 ≤ i) (hi : i < n) {A1 : Option Addr} {len c1 : Nat}
    (hc : W.cell? ⟨(ad.add (i.toNat * 2)).block, (ad.add (i.toNat * 2)).off + 1, none⟩ = some (.slice A1 len c1)) (j : Int) (hj0 : 0 ≤ j) (hj : j < (rd_T66 xs i).f1.length) :
    ∃ b, A1 = some ⟨b, 0, none⟩ ∧ len = (rd_T66 xs i).f1.length ∧ W.cell? ⟨b, j.toNat, none⟩ = some (.int .i64 (rd (rd_T66 xs i).f1 j)) ∧ W.frozen? ⟨b, j.toNat, none⟩ = false ∧ base ≤ b ∧ b < W.heap.size ∧ ok b ∧ (∃ cells, W.heap[b]? = some (.cells cells 3 (0, 0))) ∧
      ∀ u, Kd.S k66t 66 (W.setCell ⟨b, j.toNat, none⟩ (.int .i64 u)) base ok (.slice (some ad) n cap) (xs.set i.toNat ⟨(rd_T66 xs i).f0, (rd_T66 xs i).f1.set j.toNat u⟩) ∧ (W.setCell ⟨b, j.toNat, none⟩ (.int .i64 u)).cell? ⟨(ad.add (i.toNat * 2)).block, (ad.add (i.toNat * 2)).off + 1, none⟩ = some (.slice A1 len c1) := by
  obtain ⟨f, h0, inner, ho, hr⟩ := h;obtain ⟨gr, rfl⟩ := Kd.R_head (d := Kd.tag f k66t) ⟨h0, inner, ho, hr⟩
  have hlen : n = xs.length := by have := ho.1; have h2 := (Kd.R_reads' (d := Kd.tag f k66t) ⟨h0, inner, ho, hr⟩).1; rw [List.length_zipIdx] at h2; exact h2
  have hil : i.toNat < xs.length := by omega
  have hrd : rd_T66 xs i = xs[i.toNat] := by unfold rd_T66; rw [List.getD_eq_getElem?_getD, List.getElem?_eq_getElem hil]; rfl
  have hM := hr.2 i.toNat (xs[i.toNat], i.toNat) (Kd.zip_at (List.getElem?_eq_getElem hil));obtain ⟨v0, v1, hcs, hne, g0, g1⟩ := k66t_openM (show k66t.M _ _ _ _ _ from hM);obtain ⟨cg0, hg0⟩ := own_typed ho gr rfl
  have hv1 : v1 = .slice A1 len c1 := by
    have hin : inner[i.toNat * 2 + 1]? = some v1 := by
      have e1 : ((inner.drop (i.toNat * (Kd.tag f k66t).sz)).take (Kd.tag f k66t).sz)[1]? = some v1 := by rw [hcs]; rfl
      have e2 : ((inner.drop (i.toNat * 2)).take 2)[1]? = some v1 := e1;rw [List.getElem?_take, List.getElem?_drop] at e2
      simpa using e2
    have hcell := World.ownsRow.cells ho (g := gr) rfl (i.toNat * 2 + 1) v1 hin
    have : W.cell? ⟨gr, i.toNat * 2 + 1, none⟩ = some (.slice A1 len c1) := by
      rw [add_plain] at hc;exact hc
    rw [add_plain, this] at hcell;exact (qqI hcell).symm
  have hl1 : 0 < xs[i.toNat].f1.length := by rw [← hrd]; omega
  obtain ⟨b, cap1, e1, hb1, hb2, cells1, hb3⟩ := Kd.R_form g1 hl1;rw [hv1] at e1
  injection e1 with e1a e1b e1c
  subst e1a;subst e1c;have hokb := g1.1 b (by rw [hv1]; rfl)
  have hbg : b ≠ gr := by
    rintro rfl;rw [hb3] at hg0
    injection hg0 with hg0
    injection hg0 with _ hg0
    cases hg0
  subst hv1;rw [e1b] at g1;obtain ⟨hcell, hfr⟩ := Kd.R_celln 0 g1 j hj0 (by rw [← hrd]; exact hj);refine ⟨b, rfl, by rw [e1b, hrd], ?_, hfr, hb1, hb2, hokb.1.1, ⟨_, hb3⟩, fun u => ?_⟩
  · rw [hrd]
    exact hcell
  · have hmove : ∀ k, k ≠ b → (W.setCell ⟨b, j.toNat, none⟩ (.int .i64 u)).heap[k]? = W.heap[k]? := fun k hk => Below.heap_setCell W ⟨b, j.toNat, none⟩ (.int .i64 u) k hk
    have hz : (xs.set i.toNat ⟨(rd_T66 xs i).f0, (rd_T66 xs i).f1.set j.toNat u⟩).zipIdx = xs.zipIdx.set i.toNat (⟨(rd_T66 xs i).f0, (rd_T66 xs i).f1.set j.toNat u⟩, i.toNat) := by
      apply List.ext_getElem?
      intro m;rw [List.getElem?_zipIdx, List.getElem?_set, List.getElem?_set, List.length_zipIdx, List.getElem?_zipIdx]
      by_cases hm : i.toNat = m
      · subst hm
        rw [if_pos rfl, if_pos rfl, if_pos hil, if_pos hil, Nat.zero_add]
        rfl
      · rw [if_neg hm, if_neg hm]
    refine ⟨⟨f, h0, inner, ?_, ?_⟩, ?_⟩
    · rw [hz, List.length_set]
      exact own_move ho (fun k hk => hmove k (by rintro rfl; exact hbg (by simpa [Value.ownBlock] using hk.symm)))
    · rw [hz]
      refine ⟨by rw [List.length_set]; exact hr.1, fun m p hp => ?_⟩;rw [List.getElem?_set] at hp
      by_cases hm : i.toNat = m
      · subst hm
        rw [if_pos rfl, List.length_zipIdx, if_pos hil] at hp;obtain rfl := qqI hp;rw [hcs];have g1' := (Kd.R_put (W := W) (e := 3) (base := base) (h1 := fun _ => rfl) (enc := Value.int .i64) g1 j u).1;refine k66t_mkM _ _ _ _ (v0 := v0) (v1 := .slice (some ⟨b, 0, none⟩) len c1) hne ?_ ?_
        · rw [hrd]
          exact Kd.R_mono (Kd.R_far (p := ⟨b, j.toNat, none⟩) (Kd.R_far1 g0 rfl (g := b) (fun e => hne b e.symm rfl)) (fun _ hk => hk.2) (.int .i64 u)) (fun _ hk => hk.1)
        · rw [hrd]
          rw [e1b];exact g1'
      · rw [if_neg hm] at hp
        have hMm := hr.2 m p hp
        have hpi : p.2 = m := by
          rw [List.getElem?_zipIdx, Nat.zero_add] at hp;obtain ⟨a, ha, rfl⟩ := Option.map_eq_some_iff.1 hp
          rfl
        refine k66t.M_move (fun k hk => hmove k ?_) hMm;rintro rfl;have := hk.2;rw [hpi] at this;have h3 := hokb.2
        omega
    · rw [← hc]
      unfold World.cell?;rw [hmove _ (by rw [add_plain]; exact fun e => hbg e.symm)]
end Go.Proofs.Ytmlbliggbkfjnaa.J
namespace Go.Proofs.Ytmlbliggbkfjnaa.J
open Go.RowKit Go.Proofs.YtmlbliggbkfjnaaW.PrintWords Go.Proofs.YtmlbliggbkfjnaaW.PrintLast Go.Proofs.YtmlbliggbkfjnaaW.PrintMore
attribute [local go_sem] max2_int min2_int max_two min_two max_three min_three max_four min_four
def tune_Own.l0 : Nat → List (S66) → Int → Int → List (S64) → List (S61) → List (S66) → Option ((List (S64)) × (List (S61)) × (List (S66)))
 | 0, _, _, _, _, _, _ => none
 | k + 1, x14, x15, x16, ab, ae, aa => if x16 < x15 then (if 0 ≤ x16 then (if x16 < (x14.length : Int) then ((qla.f ((rd_T66 x14 x16).f0)).bind fun af => ((qla.f ((rd_T66 x14 x16).f1)).bind fun ag => (if aa.length < 2932031007402 then (tune_Own.l0 k x14 x15 (wrap64 (x16 + 1)) ab ae (aa ++ [(⟨af, ag⟩ : S66)])) else (none)))) else (none)) else (none)) else (some (ab, ae, aa))
def tune_Own.f (k : Nat) (ab : List (S64)) (ae : List (S61)) (aa : List (S66)) : Option ((List (S64)) × (List (S61)) × (List (S66))) := (api_Slot_64.f ab).bind fun af => ((api_Gate_65.f ae).bind fun ag => (tune_Own.l0 k aa (aa.length : Int) 0 af ag ([] : List (S66))))
def tune_Own.T1 : Bool × List (List Nat × List Nat) := (true, [([], []), ([0], [0]), ([1], [1]), ([], []), ([3], [3]), ([4, 2], [4]), ([2, 5], [2, 5]), ([], []), ([7, 6, 5, 0, 1, 2, 3, 4, 5, 6, 7], [6, 7])])
def tune_Own.B1 : List Nat := [0, 1, 3, 0, 8, 31, 63, 0, 255]
theorem tune_Own.tab1 : rtab .any (opsOf Try.f38 1) = tune_Own.T1 := by kernel_rfl
theorem tune_Own.bits1 : waitsOk tune_Own.T1.2 tune_Own.B1 = true := by kernel_rfl
def tune_Own.T5 : Bool × List (List Nat × List Nat) := (true, [([], []), ([0], [0]), ([], []), ([2], [2]), ([3], [3]), ([], []), ([5], [5]), ([6, 4], [6]), ([4, 7], [4, 7]), ([8], [8]), ([1, 9, 7], [1, 9]), ([0, 1, 2, 3, 4, 5, 6, 7, 8, 9, 10], []), ([11, 10, 10, 0, 1, 2, 3, 4, 5, 6, 7, 8, 9, 10], [10, 11])])
def tune_Own.B5 : List Nat := [0, 1, 0, 4, 12, 0, 32, 124, 252, 508, 1023, 2047, 4095]
theorem tune_Own.tab5 : rtab .any (opsOf Try.f38 5) = tune_Own.T5 := by kernel_rfl
theorem tune_Own.bits5 : waitsOk tune_Own.T5.2 tune_Own.B5 = true := by kernel_rfl
theorem tune_Own.callsT (k : Nat) (aQ : Option Addr) (aT : Nat) (aJ : List (S64)) (aK : Option Addr) (aM : Nat) (aH : List (S61)) (bf : Option Addr) (aY : Nat) (aj : List (S66)) (r1 : List (S64)) (r2 : List (S61)) (r3 : List (S66)) (w : World) (bK : Kd.C k64 w aQ aJ.length aJ) (bL : aJ.length ≤ aT) (bM : Kd.C k61 w aK aH.length aH) (bN : aH.length ≤ aM) (bO : Kd.C k66 w bf aj.length aj) (bP : aj.length ≤ aY) (h : tune_Own.f k aJ aH aj = some (r1, r2, r3)) :
  Calls Try.prog 38 #[.agg #[.slice aQ aJ.length aT, .slice aK aH.length aM, .slice bf aj.length aY]] w fun e w' => ∃ v0_ v1_ v2_ : Value, e = .returned (.agg #[v0_, v1_, v2_]) ∧ Kd.R k64 64 w' w.heap.size (fun _ => True) v0_ r1 ∧ Kd.R k61 61 w' w.heap.size (fun _ => True) v1_ r2 ∧ Kd.S k66t 66 w' w.heap.size (fun _ => True) v2_ r3 ∧ Below w.heap.size w w' := by
 have hu26 := Try.underlying26;have hu66 := Try.underlying66;have bQ := Aside0.mk bK;have bR := Aside0.mk bL;clear bK bL;have bv := Aside0.mk bM;have bw := Aside0.mk bN;clear bM bN;have bY := Aside0.mk bO;have cJ := Aside0.mk bP;clear bO bP;have HB := Aside0.mk (Below.refl w.heap.size w);have H : ((api_Slot_64.f aJ).bind fun aG => ((api_Gate_65.f aH).bind fun aE => (tune_Own.l0 k aj (aj.length : Int) 0 aG aE ([] : List (S66))))) = some (r1, r2, r3) := h;clear h;replace H := qqB H;obtain ⟨aG, A20, H⟩ := H;(try dsimp only at H);have A2 := Aside0.mk A20;clear A20;replace H := qqB H;obtain ⟨aE, A30, H⟩ := H;(try dsimp only at H);have A3 := Aside0.mk A30;clear A30;have H' := Aside0.mk H;clear H;go_enter Try.func38, Try.ntmps38;(try go_wp2_with (first | ((with_reducible refine gate_dst (N := 1) rfl ?_); refine box_event ?hg (N := 1) ?hd (cs := #[.slice aQ aJ.length aT, .slice aK aH.length aM, .slice bf aj.length aY]) (t := 26) ?hr ?_; (case hd | hg => rfl); (case hr => go_simp; try rfl); intro aD hg w4 hbox hb; have aa := am hbox; have cK := kG HB hg; have cL := kG HB hg; replace HB := kH HB hb; clear hb hbox hg) | ((with_reducible refine gate_dst (N := 2) rfl ?_); refine box_event ?hg (N := 2) ?hd (cs := #[.slice none 0 0, .slice none 0 0, .slice none 0 0]) (t := 26) ?hr ?_; (case hd | hg => rfl); (case hr => go_simp; try rfl); intro aC hg w5 hbox hb; have af := am hbox; have cM := kG HB hg; have cN := kG HB hg; replace HB := kH HB hb; have aZ := kP aa hg; have ba := kQ aa hg; replace aa := kU aa hb; clear hb hbox hg)));replace aa := kD aa; replace af := kD af; replace HB := kE HB;refine start_ (n := 9) (S := fun w' => w'.cell? ⟨aD, 0, none⟩ = some (.slice aQ aJ.length aT) ∧ w'.cell? ⟨aD, 1, none⟩ = some (.slice aK aH.length aM) ∧ w'.cell? ⟨aD, 2, none⟩ = some (.slice bf aj.length aY)) (ds := []) (bs 9 0) (by kernel_rfl) rfl rfl ⟨kk aa 0, kk aa 1, kk aa 2⟩ (fun hHeld => ?_); refine with_tabW tune_Own.tab1 tune_Own.bits1 (fun HT_ HW_ => ?_);generalize w5.drew = w6 at aa af HB hHeld ⊢;refine pu 0 (some 6) (bs 9 1) HT_ ?_;refine pu 3 (some 9) (bs 9 9) HT_ ?_;refine ta 1 (some 7) (bs 9 11) HT_ HW_ hHeld ?_;refine ta 4 (some 10) (bs 9 27) HT_ HW_ hHeld ?_;refine join_ (σ := Value × Value × Nat) 1 (bs 9 255) (fun s_ => [(8, s_.1), (11, s_.2.1), (3, .pointer (some ⟨s_.2.2, 0, none⟩)), (12, .agg #[s_.1, s_.2.1, .slice none 0 0])]) (fun s_ w' => (w'.cell? ⟨aD, 0, none⟩ = some (.slice aQ aJ.length aT) ∧ w'.cell? ⟨aD, 1, none⟩ = some (.slice aK aH.length aM) ∧ w'.cell? ⟨aD, 2, none⟩ = some (.slice bf aj.length aY)) ∧ (Kd.R k64 64 w' w.heap.size (fun _ => True) s_.1 aG) ∧ (Kd.R k61 61 w' w.heap.size (fun _ => True) s_.2.1 aE) ∧ (w'.heap[aD]? = some (.cells #[.slice aQ aJ.length aT, .slice aK aH.length aM, .slice bf aj.length aY] 26 (0, 0))) ∧ (w'.heap[aC]? = some (.cells #[.slice none 0 0, .slice none 0 0, .slice none 0 0] 26 (0, 0))) ∧ (w'.heap[s_.2.2]? = some (.cells #[.slice none 0 0, .slice none 0 0, .slice none 0 0] 26 (0, 0))) ∧ (w.heap.size ≤ s_.2.2) ∧ (w.heap.size ≤ s_.2.2) ∧ (aD ≠ s_.2.2) ∧ (s_.2.2 ≠ aD) ∧ (aC ≠ s_.2.2) ∧ (s_.2.2 ≠ aC) ∧ (Below w.heap.size w w')) ?_ ?_
 rotate_left
 ·intro hCont
  refine two_ (i := 2) (j := 7) (Ni := some 8) (Nj := some 3) (bs 9 31) (bs 9 155) rfl rfl rfl rfl (two_of HT_.out (by kernel_rfl)) (by decide) (by decide) (fun K hK => ?_) (fun K hK => ?_)
  ·skip
   refine goes_ Try.func64 (by kernel_rfl) rfl #[.slice aQ aJ.length aT] (by rfl) rfl rfl (by (try simp only [qM1, qM2, qM3]); first | done | rfl) ?_;(with_reducible refine (api_Slot_64.calls _ _ aJ aG _ ?side1 ?side2 A2.out).mono ?_);(case side1 => repeat (first | exact (Kd.C_below bQ.out HB.out) | (with_reducible first | refine Kd.C_alloc ?_ _ | refine Kd.C_drewN ?_ _ | refine Kd.C_drew ?_)));(case side2 => exact bR.out);rintro e w7 ⟨bT, rfl, ho0, hb⟩;refine ⟨_, rfl, ?_⟩;have aA := kLR ho0 HB; replace aa := kU aa hb; replace af := kU af hb; replace HB := kH HB hb;(try clear hb ho0);refine hK.out _ _ ⟨kk aa 0, kk aa 1, kk aa 2⟩ (fun hHeld => ?_);clear hK K;refine no (some 8) ?_;refine two_ (i := 5) (j := 7) (Ni := some 11) (Nj := some 3) (bs 9 63) (bs 9 159) rfl rfl rfl rfl (two_of HT_.out (by kernel_rfl)) (by decide) (by decide) (fun K hK => ?_) (fun K hK => ?_)
   ·skip
    refine goes_ Try.func65 (by kernel_rfl) rfl #[.slice aK aH.length aM] (by rfl) rfl rfl (by (try simp only [qM1, qM2, qM3]); first | done | rfl) ?_;(with_reducible refine (api_Gate_65.calls _ _ aH aE _ ?side1 ?side2 A3.out).mono ?_);(case side1 => repeat (first | exact (Kd.C_below bv.out HB.out) | (with_reducible first | refine Kd.C_alloc ?_ _ | refine Kd.C_drewN ?_ _ | refine Kd.C_drew ?_)));(case side2 => exact bw.out);rintro e w8 ⟨bB, rfl, ho0, hb⟩;refine ⟨_, rfl, ?_⟩;replace aA := kR aA hb; have aI := kLR ho0 HB; replace aa := kU aa hb; replace af := kU af hb; replace HB := kH HB hb;(try clear hb ho0);obtain ⟨Ao9, co9, eo9⟩ := Kd.R_slice aI.out;(first | subst eo9 | (injection eo9 with f1_ f2_ f3_; have f4_ := f1_.symm; have f5_ := f3_.symm; clear f1_ f2_ f3_; subst f4_; subst f5_));obtain ⟨bx, bz, bi⟩ := Kd.R_slice aA.out;(first | subst bi | (injection bi with f1_ f2_ f3_; have f4_ := f1_.symm; have f5_ := f3_.symm; clear f1_ f2_ f3_; subst f4_; subst f5_));refine hK.out _ _ ⟨kk aa 0, kk aa 1, kk aa 2⟩ (fun hHeld => ?_);clear hK K;refine no (some 11) ?_;refine pu 6 (some 12) (bs 9 127) HT_ ?_;refine one_ (i := 7) (N := some 3) (bs 9 255) rfl rfl (one_of HT_.out (by kernel_rfl)) (by decide) (fun K hK => ?_);refine box_step ?hg (N := 3) ?hd (cs := #[.slice none 0 0, .slice none 0 0, .slice none 0 0]) (t := 26) ?hr ?_; (case hd | hg => rfl); (case hr => go_simp; try rfl);intro al hg w11 hbox hb;replace aA := kR aA hb; replace aI := kR aI hb; have ae := am hbox; have bb := kG HB hg; have bc := kG HB hg; replace HB := kH HB hb; have ao := kP aa hg; have ap := kQ aa hg; replace aa := kU aa hb; have aq := kP af hg; have ar := kQ af hg; replace af := kU af hb;clear hb hbox hg;refine hK.out _ _ ⟨kk aa 0, kk aa 1, kk aa 2⟩ (fun hHeld => ?_);clear hK K;refine no (some 3) ?_;exact norm_ (by simp only [putAll, Act.put, qS1, qS2, qS3]) (hCont (.slice bx aG.length bz, .slice Ao9 aE.length co9, al) _ ⟨hHeld, (krR aA), (krR aI), (kb aa), (kb af), (kb ae), bb.out, bc.out, ao.out, ap.out, aq.out, ar.out, (kh HB)⟩)
   ·skip
    refine box_step ?hg (N := 3) ?hd (cs := #[.slice none 0 0, .slice none 0 0, .slice none 0 0]) (t := 26) ?hr ?_; (case hd | hg => rfl); (case hr => go_simp; try rfl);intro al hg w8 hbox hb;replace aA := kR aA hb; have ae := am hbox; have bb := kG HB hg; have bc := kG HB hg; replace HB := kH HB hb; have ao := kP aa hg; have ap := kQ aa hg; replace aa := kU aa hb; have aq := kP af hg; have ar := kQ af hg; replace af := kU af hb;clear hb hbox hg;refine hK.out _ _ ⟨kk aa 0, kk aa 1, kk aa 2⟩ (fun hHeld => ?_);clear hK K;refine no (some 3) ?_;refine one_ (i := 5) (N := some 11) (bs 9 191) rfl rfl (one_of HT_.out (by kernel_rfl)) (by decide) (fun K hK => ?_);refine goes_ Try.func65 (by kernel_rfl) rfl #[.slice aK aH.length aM] (by rfl) rfl rfl (by (try simp only [qM1, qM2, qM3]); first | done | rfl) ?_;(with_reducible refine (api_Gate_65.calls _ _ aH aE _ ?side1 ?side2 A3.out).mono ?_);(case side1 => repeat (first | exact (Kd.C_below bv.out HB.out) | (with_reducible first | refine Kd.C_alloc ?_ _ | refine Kd.C_drewN ?_ _ | refine Kd.C_drew ?_)));(case side2 => exact bw.out);rintro e w9 ⟨bB, rfl, ho0, hb⟩;refine ⟨_, rfl, ?_⟩;replace aA := kR aA hb; have aI := kLR ho0 HB; replace aa := kU aa hb; replace af := kU af hb; replace ae := kU ae hb; replace HB := kH HB hb;(try clear hb ho0);obtain ⟨bx, bz, bi⟩ := Kd.R_slice aI.out;(first | subst bi | (injection bi with f1_ f2_ f3_; have f4_ := f1_.symm; have f5_ := f3_.symm; clear f1_ f2_ f3_; subst f4_; subst f5_));obtain ⟨bU, bV, bA⟩ := Kd.R_slice aA.out;(first | subst bA | (injection bA with f1_ f2_ f3_; have f4_ := f1_.symm; have f5_ := f3_.symm; clear f1_ f2_ f3_; subst f4_; subst f5_));refine hK.out _ _ ⟨kk aa 0, kk aa 1, kk aa 2⟩ (fun hHeld => ?_);clear hK K;refine no (some 11) ?_;refine pu 6 (some 12) (bs 9 255) HT_ ?_;exact norm_ (by simp only [putAll, Act.put, qS1, qS2, qS3]) (hCont (.slice bU aG.length bV, .slice bx aE.length bz, al) _ ⟨hHeld, (krR aA), (krR aI), (kb aa), (kb af), (kb ae), bb.out, bc.out, ao.out, ap.out, aq.out, ar.out, (kh HB)⟩)
  ·skip
   refine box_step ?hg (N := 3) ?hd (cs := #[.slice none 0 0, .slice none 0 0, .slice none 0 0]) (t := 26) ?hr ?_; (case hd | hg => rfl); (case hr => go_simp; try rfl);intro al hg w7 hbox hb;have ae := am hbox; have bb := kG HB hg; have bc := kG HB hg; replace HB := kH HB hb; have ao := kP aa hg; have ap := kQ aa hg; replace aa := kU aa hb; have aq := kP af hg; have ar := kQ af hg; replace af := kU af hb;clear hb hbox hg;refine hK.out _ _ ⟨kk aa 0, kk aa 1, kk aa 2⟩ (fun hHeld => ?_);clear hK K;refine no (some 3) ?_;refine one_ (i := 2) (N := some 8) (bs 9 159) rfl rfl (one_of HT_.out (by kernel_rfl)) (by decide) (fun K hK => ?_);refine goes_ Try.func64 (by kernel_rfl) rfl #[.slice aQ aJ.length aT] (by rfl) rfl rfl (by (try simp only [qM1, qM2, qM3]); first | done | rfl) ?_;(with_reducible refine (api_Slot_64.calls _ _ aJ aG _ ?side1 ?side2 A2.out).mono ?_);(case side1 => repeat (first | exact (Kd.C_below bQ.out HB.out) | (with_reducible first | refine Kd.C_alloc ?_ _ | refine Kd.C_drewN ?_ _ | refine Kd.C_drew ?_)));(case side2 => exact bR.out);rintro e w8 ⟨bT, rfl, ho0, hb⟩;refine ⟨_, rfl, ?_⟩;have aA := kLR ho0 HB; replace aa := kU aa hb; replace af := kU af hb; replace ae := kU ae hb; replace HB := kH HB hb;(try clear hb ho0);refine hK.out _ _ ⟨kk aa 0, kk aa 1, kk aa 2⟩ (fun hHeld => ?_);clear hK K;refine no (some 8) ?_;refine one_ (i := 5) (N := some 11) (bs 9 191) rfl rfl (one_of HT_.out (by kernel_rfl)) (by decide) (fun K hK => ?_);refine goes_ Try.func65 (by kernel_rfl) rfl #[.slice aK aH.length aM] (by rfl) rfl rfl (by (try simp only [qM1, qM2, qM3]); first | done | rfl) ?_;(with_reducible refine (api_Gate_65.calls _ _ aH aE _ ?side1 ?side2 A3.out).mono ?_);(case side1 => repeat (first | exact (Kd.C_below bv.out HB.out) | (with_reducible first | refine Kd.C_alloc ?_ _ | refine Kd.C_drewN ?_ _ | refine Kd.C_drew ?_)));(case side2 => exact bw.out);rintro e w9 ⟨bB, rfl, ho0, hb⟩;refine ⟨_, rfl, ?_⟩;replace aA := kR aA hb; have aI := kLR ho0 HB; replace aa := kU aa hb; replace af := kU af hb; replace ae := kU ae hb; replace HB := kH HB hb;(try clear hb ho0);obtain ⟨bx, bz, bi⟩ := Kd.R_slice aI.out;(first | subst bi | (injection bi with f1_ f2_ f3_; have f4_ := f1_.symm; have f5_ := f3_.symm; clear f1_ f2_ f3_; subst f4_; subst f5_));obtain ⟨bU, bV, bA⟩ := Kd.R_slice aA.out;(first | subst bA | (injection bA with f1_ f2_ f3_; have f4_ := f1_.symm; have f5_ := f3_.symm; clear f1_ f2_ f3_; subst f4_; subst f5_));refine hK.out _ _ ⟨kk aa 0, kk aa 1, kk aa 2⟩ (fun hHeld => ?_);clear hK K;refine no (some 11) ?_;refine pu 6 (some 12) (bs 9 255) HT_ ?_;exact norm_ (by simp only [putAll, Act.put, qS1, qS2, qS3]) (hCont (.slice bU aG.length bV, .slice bx aE.length bz, al) _ ⟨hHeld, (krR aA), (krR aI), (kb aa), (kb af), (kb ae), bb.out, bc.out, ao.out, ap.out, aq.out, ar.out, (kh HB)⟩)
 rintro ⟨bT, bB, al⟩ w12 ⟨hS_, h0_, h1_, h2_, h3_, h4_, h5_, h6_, h7_, h8_, h9_, h10_, h11_⟩;have aA : Aside0 (Kd.R k64 64 w12 w.heap.size (fun _ => True) bT aG) := ⟨h0_⟩; have aI : Aside0 (Kd.R k61 61 w12 w.heap.size (fun _ => True) bB aE) := ⟨h1_⟩; replace aa : Aside0 (w12.heap[aD]? = some (.cells #[.slice aQ aJ.length aT, .slice aK aH.length aM, .slice bf aj.length aY] 26 (0, 0))) := ⟨h2_⟩; replace af : Aside0 (w12.heap[aC]? = some (.cells #[.slice none 0 0, .slice none 0 0, .slice none 0 0] 26 (0, 0))) := ⟨h3_⟩; have ae : Aside0 (w12.heap[al]? = some (.cells #[.slice none 0 0, .slice none 0 0, .slice none 0 0] 26 (0, 0))) := ⟨h4_⟩; have bb : Aside0 (w.heap.size ≤ al) := ⟨h5_⟩; have bc : Aside0 (w.heap.size ≤ al) := ⟨h6_⟩; have ao : Aside0 (aD ≠ al) := ⟨h7_⟩; have ap : Aside0 (al ≠ aD) := ⟨h8_⟩; have aq : Aside0 (aC ≠ al) := ⟨h9_⟩; have ar : Aside0 (al ≠ aC) := ⟨h10_⟩; replace HB : Aside0 (Below w.heap.size w w12) := ⟨h11_⟩; clear h0_ h10_ h11_ h1_ h2_ h3_ h4_ h5_ h6_ h7_ h8_ h9_;have hHeld : w12.cell? ⟨aD, 0, none⟩ = some (.slice aQ aJ.length aT) ∧ w12.cell? ⟨aD, 1, none⟩ = some (.slice aK aH.length aM) ∧ w12.cell? ⟨aD, 2, none⟩ = some (.slice bf aj.length aY) := hS_;obtain ⟨aU, aV, bZ⟩ := Kd.R_slice aI.out;(first | subst bZ | (injection bZ with f1_ f2_ f3_; have f4_ := f1_.symm; have f5_ := f3_.symm; clear f1_ f2_ f3_; subst f4_; subst f5_));obtain ⟨aW, aX, ca⟩ := Kd.R_slice aA.out;(first | subst ca | (injection ca with f1_ f2_ f3_; have f4_ := f1_.symm; have f5_ := f3_.symm; clear f1_ f2_ f3_; subst f4_; subst f5_));refine norm_ (a' := ?_) ?_ ?_
 rotate_left
 ·simp only [putAll, Act.put, qS1, qS2, qS3]
  rfl
 refine one_ (i := 8) (N := none) (bs 9 511) rfl rfl (one_of HT_.out (by kernel_rfl)) (by decide) (fun K hK => ?_);have dm : w12.cell? ⟨al, 0, none⟩ = some (.slice none 0 0) := kk ae 0;have cO := blk_frozen ae.out 0;have co := ao.out;have cp := aq.out;have cq := ap.out;have cr := ar.out;have dn : w12.cell? ⟨al, 1, none⟩ = some (.slice none 0 0) := kk ae 1;have cP := blk_frozen ae.out 1;have ct := ao.out;have cu := aq.out;have cv := ap.out;have cw := ar.out;have dp : w12.cell? ⟨al, 2, none⟩ = some (.slice none 0 0) := kk ae 2;have cQ := blk_frozen ae.out 2;have cx := ao.out;have cy := aq.out;have cz := ap.out;have cA := ar.out;refine skip_ (w1 := ?_) (by rfl) rfl ?_ ?_
 rotate_left
 ·go_simp
  rfl
 refine hK.out _ _ ⟨(kf hHeld.1), (kf hHeld.2.1), (kf hHeld.2.2)⟩ (fun hHeld => ?_);clear hK K;refine done_ (done_of HT_.out (by kernel_rfl)) ?_;have cR := aZ.out;have cS := ba.out;have cT := ao.out;have cU := ap.out;have Z20 := kz3 aa;(try go_wp2);go_loopg [16] k (fun kq v16 w' => ∃ (ag : Int) (au : List (S66)) (az : Value), v16 = .int .i64 ag ∧ Aside0 (tune_Own.l0 kq aj (aj.length : Int) ag aG aE au = some (r1, r2, r3)) ∧ Aside0 (kq ≤ k) ∧ Aside0 (Kd.R k64 64 w' w.heap.size (fun _ => True) (.slice aW aG.length aX) aG) ∧ Aside0 (Kd.R k61 61 w' w.heap.size (fun _ => True) (.slice aU aE.length aV) aE) ∧ Aside0 (Kd.S k66t 66 w' w.heap.size (fun _ => True) az au) ∧ Aside0 (w'.heap[aD]? = some (.cells #[(.slice aQ aJ.length aT), (.slice aK aH.length aM), (.slice bf aj.length aY)] 26 (0, 0))) ∧ Aside0 (w'.heap[aC]? = some (.cells #[(.slice none 0 0), (.slice none 0 0), (.slice none 0 0)] 26 (0, 0))) ∧ Aside0 (w'.heap[al]? = some (.cells #[(.slice aW aG.length aX), (.slice aU aE.length aV), az] 26 (0, 0))) ∧ Aside0 (Below w.heap.size w w'))
 case atStart => exact ⟨(0), (([] : List (S66))), (.slice none 0 0), et, H', ⟨Nat.le_refl _⟩, ⟨by (with_reducible repeat first | apply Kd.R_alloc | apply Kd.R_drewN | apply Kd.R_drew); exact Kd.R_mono (Kd.R_far (p := ⟨al, 2, none⟩) (Kd.R_far (p := ⟨al, 1, none⟩) (Kd.R_far (p := ⟨al, 0, none⟩) (Kd.R_types aA.out ae.out (by decide)) (fun _ hk => hk.2) (.slice aW aG.length aX)) (fun _ hk => hk.2) (.slice aU aE.length aV)) (fun _ hk => hk.2) (.slice none 0 0)) (fun _ hk => trivial)⟩, ⟨by (with_reducible repeat first | apply Kd.R_alloc | apply Kd.R_drewN | apply Kd.R_drew); exact Kd.R_mono (Kd.R_far (p := ⟨al, 2, none⟩) (Kd.R_far (p := ⟨al, 1, none⟩) (Kd.R_far (p := ⟨al, 0, none⟩) (Kd.R_types aI.out ae.out (by decide)) (fun _ hk => hk.2) (.slice aW aG.length aX)) (fun _ hk => hk.2) (.slice aU aE.length aV)) (fun _ hk => hk.2) (.slice none 0 0)) (fun _ hk => trivial)⟩, ⟨by first | exact Kd.S_nil _ _ _ _ _ | exact Kd.N_nil _ _ _ _ _ | exact Kd.V_nil _ _ _ _ _ | exact Kd.Q_nil _ _ _ _ _ | exact Kd.R_nil _ _ _ _ _⟩, ⟨kg aa⟩, ⟨kg af⟩, ⟨kg ae⟩, ⟨kh HB⟩⟩
 case round =>
  clear H'; (try clear Z20);obtain ⟨ag, au, az, rfl, HA, HK1, ah, ai, ab, aa, af, ae, HB⟩ := hrel
  cases gk with
  | zero => exact absurd HA.out (by simp [tune_Own.l0])
  | succ k1 =>
   have H := HA.out;clear HA;simp only [tune_Own.l0] at H
   by_cases c21 : ag < (aj.length : Int)
   rotate_left
   ·rw [if_neg c21] at H
    have cb := qqF c21;clear c21;simp only [Option.some.injEq, Prod.mk.injEq] at H;obtain ⟨rfl, rfl, rfl⟩ := H;have cV := ap.out;have cW := ao.out;have cX := ar.out;have cY := aq.out;have Z43 := kz3 ae;have cZ := ba.out;have da := aZ.out;have Z45 := kz3 af;obtain ⟨bC, bD, cH⟩ := Kd.S_slice ab.out;subst cH;go_wp2;refine bodyPost_ret (results_cell_row rfl _ _ aC 26 #[.slice aW aG.length aX, .slice aU aE.length aV, .slice bC au.length bD] (0, 0) _ rfl (kg af) Try.underlying26 rfl (by kernel_rfl)) rfl ?_;exact ⟨_, _, _, er, by (with_reducible repeat first | apply Kd.R_alloc | apply Kd.R_drewN | apply Kd.R_drew); exact Kd.R_mono (Kd.R_far (p := ⟨aC, 2, none⟩) (Kd.R_far (p := ⟨aC, 1, none⟩) (Kd.R_far (p := ⟨aC, 0, none⟩) (Kd.R_types ah.out af.out (by decide)) (fun _ hk => hk.2) (.slice aW aG.length aX)) (fun _ hk => hk.2) (.slice aU aE.length aV)) (fun _ hk => hk.2) (.slice bC au.length bD)) (fun _ hk => trivial), by (with_reducible repeat first | apply Kd.R_alloc | apply Kd.R_drewN | apply Kd.R_drew); exact Kd.R_mono (Kd.R_far (p := ⟨aC, 2, none⟩) (Kd.R_far (p := ⟨aC, 1, none⟩) (Kd.R_far (p := ⟨aC, 0, none⟩) (Kd.R_types ai.out af.out (by decide)) (fun _ hk => hk.2) (.slice aW aG.length aX)) (fun _ hk => hk.2) (.slice aU aE.length aV)) (fun _ hk => hk.2) (.slice bC au.length bD)) (fun _ hk => trivial), by (with_reducible repeat first | apply Kd.S_alloc | apply Kd.S_drewN | apply Kd.S_drew); exact Kd.S_mono (Kd.S_far (p := ⟨aC, 2, none⟩) (Kd.S_far (p := ⟨aC, 1, none⟩) (Kd.S_far (p := ⟨aC, 0, none⟩) (Kd.S_types ab.out af.out (by decide)) (fun _ hk => hk.2) (.slice aW aG.length aX)) (fun _ hk => hk.2) (.slice aU aE.length aV)) (fun _ hk => hk.2) (.slice bC au.length bD)) (fun _ hk => trivial), kh HB⟩
   rw [if_pos c21] at H;have cb := qqT c21;clear c21
   by_cases c22 : 0 ≤ ag
   rotate_left
   ·rw [if_neg c22] at H
    exact absurd H (by simp)
   rw [if_pos c22] at H;have db := qqT c22;clear c22
   by_cases c23 : ag < (aj.length : Int)
   rotate_left
   ·rw [if_neg c23] at H
    exact absurd H (by simp)
   rw [if_pos c23] at H;have dc := qqT c23;clear c23;replace H := qqB H;obtain ⟨bn, cc, H⟩ := H;(try dsimp only at H);have A24 := Aside0.mk cc;clear cc;replace H := qqB H;obtain ⟨bo, cd, H⟩ := H;(try dsimp only at H);have A25 := Aside0.mk cd;clear cd
   by_cases c26 : au.length < 2932031007402
   rotate_left
   ·rw [if_neg c26] at H
    exact absurd H (by simp)
   rw [if_pos c26] at H;have ce := Aside0.mk c26;clear c26;obtain ⟨bp, bj⟩ : ∃ y_ : List (S66), y_ = (au ++ [(⟨bn, bo⟩ : S66)]) := ⟨_, rfl⟩
   replace H : (tune_Own.l0 k1 aj (aj.length : Int) (wrap64 (ag + 1)) aG aE bp) = some (r1, r2, r3) := by first | (rw [bj]; with_reducible exact H) | (have H2_ := (Option.bind_some _ _).symm.trans H; rw [bj]; with_reducible exact H2_) | (have H2_ := (Option.bind_some _ _).symm.trans H; with_reducible exact H2_) | with_reducible exact H | (rw [bj]; exact H) | exact H
   have cf := Aside0.mk bj;clear bj;have H' := Aside0.mk H;clear H;have bW : 0 ≤ (ag : Int) := od;have bX : ag < (aj.length : Int) := od;obtain ⟨cg, av, aw, ax, ay, cI, bg, bh, bk, hi183_0, bl, hi183_1⟩ := at_T66 bY.out ag bW bX;cases cI;replace bg := (HB.out.cell (qqW w _ bg)).trans bg;replace bh := (HB.out.cell (qqW w _ bh)).trans bh;have bE := Aside0.mk hi183_0;have bF := Aside0.mk bk;clear hi183_0 bk;have bG := Aside0.mk hi183_1;have bH := Aside0.mk bl;clear hi183_1 bl; replace bW := eq_true bW; replace bX := eq_true bX;(try go_wp2_with (first | ((with_reducible refine gate_dst (N := 5) rfl ?_); refine box_event ?hg (N := 5) ?hd (cs := #[.slice none 0 0, .slice none 0 0]) (t := 66) ?hr ?_; (case hd | hg => rfl); (case hr => go_simp; try rfl); intro ak hg w27 hbox hb; replace ah := kR ah hb; replace ai := kR ai hb; replace ab := Aside0.mk (Kd.S_below (Kd.S_elderB (krS ab) ak (Nat.le_of_eq hg.symm)) hb); have an := am hbox; have dd := kG HB hg; have de := kG HB hg; replace HB := kH HB hb; have bq := kP aa hg; have br := kQ aa hg; replace aa := kU aa hb; have bt := kP af hg; have bu := kQ af hg; replace af := kU af hb; have bd := kP ae hg; have be := kQ ae hg; replace ae := kU ae hb; clear hb hbox hg; have df := br.out; have dg := bq.out; have dh := bu.out; have di := bt.out; have dj := be.out; have dk := bd.out; have Z31 := kz2 an)));have n0_ : Aside0 (Kd.R k64 64 ((w27.setCell ⟨ak, 0, none⟩ (.slice av ((rd_T66 aj ag).f0).length aw)).setCell ⟨ak, 1, none⟩ (.slice ax ((rd_T66 aj ag).f1).length ay)) w.heap.size (fun _ => True) (.slice aW aG.length aX) aG) := ⟨by (with_reducible repeat first | apply Kd.R_alloc | apply Kd.R_drewN | apply Kd.R_drew); exact Kd.R_mono (Kd.R_far (p := ⟨ak, 1, none⟩) (Kd.R_far (p := ⟨ak, 0, none⟩) (Kd.R_types ah.out an.out (by decide)) (fun _ hk => hk.2) (.slice av ((rd_T66 aj ag).f0).length aw)) (fun _ hk => hk.2) (.slice ax ((rd_T66 aj ag).f1).length ay)) (fun _ hk => trivial)⟩;have n1_ : Aside0 (Kd.R k61 61 ((w27.setCell ⟨ak, 0, none⟩ (.slice av ((rd_T66 aj ag).f0).length aw)).setCell ⟨ak, 1, none⟩ (.slice ax ((rd_T66 aj ag).f1).length ay)) w.heap.size (fun _ => True) (.slice aU aE.length aV) aE) := ⟨by (with_reducible repeat first | apply Kd.R_alloc | apply Kd.R_drewN | apply Kd.R_drew); exact Kd.R_mono (Kd.R_far (p := ⟨ak, 1, none⟩) (Kd.R_far (p := ⟨ak, 0, none⟩) (Kd.R_types ai.out an.out (by decide)) (fun _ hk => hk.2) (.slice av ((rd_T66 aj ag).f0).length aw)) (fun _ hk => hk.2) (.slice ax ((rd_T66 aj ag).f1).length ay)) (fun _ hk => trivial)⟩;have n2_ : Aside0 (Kd.S k66t 66 ((w27.setCell ⟨ak, 0, none⟩ (.slice av ((rd_T66 aj ag).f0).length aw)).setCell ⟨ak, 1, none⟩ (.slice ax ((rd_T66 aj ag).f1).length ay)) w.heap.size (fun k_ => k_ ≠ ak) az au) := ⟨by (with_reducible repeat first | apply Kd.S_alloc | apply Kd.S_drewN | apply Kd.S_drew); exact Kd.S_mono (Kd.S_far (p := ⟨ak, 1, none⟩) (Kd.S_far (p := ⟨ak, 0, none⟩) (Kd.S_mono ab.out (fun k_ hk => (⟨hk, hk.2⟩ : _ ∧ k_ ≠ ak))) (fun _ hk => hk.2) (.slice av ((rd_T66 aj ag).f0).length aw)) (fun _ hk => hk.2) (.slice ax ((rd_T66 aj ag).f1).length ay)) (fun _ hk => hk.1.2)⟩;have n3_ : Aside0 (((w27.setCell ⟨ak, 0, none⟩ (.slice av ((rd_T66 aj ag).f0).length aw)).setCell ⟨ak, 1, none⟩ (.slice ax ((rd_T66 aj ag).f1).length ay)).heap[aD]? = some (.cells #[.slice aQ aJ.length aT, .slice aK aH.length aM, .slice (some cg) aj.length aY] 26 (0, 0))) := ⟨kg aa⟩;have n4_ : Aside0 (((w27.setCell ⟨ak, 0, none⟩ (.slice av ((rd_T66 aj ag).f0).length aw)).setCell ⟨ak, 1, none⟩ (.slice ax ((rd_T66 aj ag).f1).length ay)).heap[aC]? = some (.cells #[.slice none 0 0, .slice none 0 0, .slice none 0 0] 26 (0, 0))) := ⟨kg af⟩;have n5_ : Aside0 (((w27.setCell ⟨ak, 0, none⟩ (.slice av ((rd_T66 aj ag).f0).length aw)).setCell ⟨ak, 1, none⟩ (.slice ax ((rd_T66 aj ag).f1).length ay)).heap[al]? = some (.cells #[.slice aW aG.length aX, .slice aU aE.length aV, az] 26 (0, 0))) := ⟨kg ae⟩;have n6_ : Aside0 (((w27.setCell ⟨ak, 0, none⟩ (.slice av ((rd_T66 aj ag).f0).length aw)).setCell ⟨ak, 1, none⟩ (.slice ax ((rd_T66 aj ag).f1).length ay)).heap[ak]? = some (.cells #[.slice av ((rd_T66 aj ag).f0).length aw, .slice ax ((rd_T66 aj ag).f1).length ay] 66 (0, 0))) := ⟨kg an⟩;have n7_ : Aside0 (Below w.heap.size w ((w27.setCell ⟨ak, 0, none⟩ (.slice av ((rd_T66 aj ag).f0).length aw)).setCell ⟨ak, 1, none⟩ (.slice ax ((rd_T66 aj ag).f1).length ay))) := ⟨kh HB⟩;(try clear ah ai ab aa af ae an HB);generalize ((w27.setCell ⟨ak, 0, none⟩ (.slice av ((rd_T66 aj ag).f0).length aw)).setCell ⟨ak, 1, none⟩ (.slice ax ((rd_T66 aj ag).f1).length ay)) = w32 at n0_ n1_ n2_ n3_ n4_ n5_ n6_ n7_ ⊢;have ah := n0_; have ai := n1_; have ab := n2_; have aa := n3_; have af := n4_; have ae := n5_; have an := n6_; have HB := n7_; clear n0_ n1_ n2_ n3_ n4_ n5_ n6_ n7_;replace ah := kFR ah; replace ai := kFR ai; replace ab := kFS ab; replace aa := kD aa; replace af := kD af; replace ae := kD ae; replace an := kD an; replace HB := kE HB;refine start_ (n := 13) (S := fun w' => w'.cell? ⟨al, 0, none⟩ = some (.slice aW aG.length aX) ∧ w'.cell? ⟨al, 1, none⟩ = some (.slice aU aE.length aV) ∧ w'.cell? ⟨al, 2, none⟩ = some (az) ∧ w'.cell? ⟨ak, 0, none⟩ = some (.slice av ((rd_T66 aj ag).f0).length aw) ∧ w'.cell? ⟨ak, 1, none⟩ = some (.slice ax ((rd_T66 aj ag).f1).length ay)) (ds := [12]) (bs 13 0) (by kernel_rfl) rfl rfl ⟨kk ae 0, kk ae 1, kk ae 2, kk an 0, kk an 1⟩ (fun hHeld => ?_); refine with_tabW tune_Own.tab5 tune_Own.bits5 (fun HT_ HW_ => ?_);generalize w32.drew = w33 at ah ai ab aa af ae an HB hHeld ⊢;refine pu 0 (some 20) (bs 13 1) HT_ ?_;refine pu 2 (some 22) (bs 13 5) HT_ ?_;refine pu 5 (some 25) (bs 13 37) HT_ ?_;refine ta 1 (some 21) (bs 13 39) HT_ HW_ hHeld ?_;refine ta 3 (some 23) (bs 13 47) HT_ HW_ hHeld ?_;refine ta 6 (some 26) (bs 13 111) HT_ HW_ hHeld ?_;refine one_ (i := 4) (N := some 24) (bs 13 127) rfl rfl (one_of HT_.out (by kernel_rfl)) (by decide) (fun K hK => ?_);refine goes_ Try.func66 (by kernel_rfl) rfl #[.slice av ((rd_T66 aj ag).f0).length aw] (by rfl) rfl rfl (by (try simp only [qM1, qM2, qM3]); first | done | rfl) ?_;(with_reducible refine (qla.calls _ _ ((rd_T66 aj ag).f0) bn _ ?side1 ?side2 A24.out).mono ?_);(case side1 => repeat (first | exact (Kd.C_below bE.out HB.out) | (with_reducible first | refine Kd.C_alloc ?_ _ | refine Kd.C_drewN ?_ _ | refine Kd.C_drew ?_)));(case side2 => exact bF.out);rintro e w34 ⟨dq, rfl, ho0, hb⟩;refine ⟨_, rfl, ?_⟩;replace ah := kR ah hb; replace ai := kR ai hb; replace ab := Aside0.mk (Kd.S_elder' (krS ab) (Kd.R_base ho0) hb); have aN := kLR ho0 HB; replace aa := kU aa hb; replace af := kU af hb; replace ae := kU ae hb; replace an := kU an hb; replace HB := kH HB hb;(try clear hb ho0);refine hK.out _ _ ⟨kk ae 0, kk ae 1, kk ae 2, kk an 0, kk an 1⟩ (fun hHeld => ?_);clear hK K;refine no (some 24) ?_;refine one_ (i := 7) (N := some 27) (bs 13 255) rfl rfl (one_of HT_.out (by kernel_rfl)) (by decide) (fun K hK => ?_);refine goes_ Try.func66 (by kernel_rfl) rfl #[.slice ax ((rd_T66 aj ag).f1).length ay] (by rfl) rfl rfl (by (try simp only [qM1, qM2, qM3]); first | done | rfl) ?_;(with_reducible refine (qla.calls _ _ ((rd_T66 aj ag).f1) bo _ ?side1 ?side2 A25.out).mono ?_);(case side1 => repeat (first | exact (Kd.C_below bG.out HB.out) | (with_reducible first | refine Kd.C_alloc ?_ _ | refine Kd.C_drewN ?_ _ | refine Kd.C_drew ?_)));(case side2 => exact bH.out);rintro e w35 ⟨dr, rfl, ho0, hb⟩;refine ⟨_, rfl, ?_⟩;replace ah := kR ah hb; replace ai := kR ai hb; replace ab := Aside0.mk (Kd.S_elder' (krS ab) (Kd.R_base ho0) hb); have bm := Aside0.mk (Kd.R_lower (Kd.R_new' ho0 (Kd.R_lt (krR aN))) (below_size (kh HB))); replace aN := Aside0.mk (Kd.R_elder' (krR aN) (Kd.R_base ho0) hb); replace aa := kU aa hb; replace af := kU af hb; replace ae := kU ae hb; replace an := kU an hb; replace HB := kH HB hb;(try clear hb ho0);obtain ⟨ch, ci, cj⟩ := Kd.R_slice bm.out;(first | subst cj | (injection cj with f1_ f2_ f3_; have f4_ := f1_.symm; have f5_ := f3_.symm; clear f1_ f2_ f3_; subst f4_; subst f5_));obtain ⟨ck, cl, cm⟩ := Kd.R_slice aN.out;(first | subst cm | (injection cm with f1_ f2_ f3_; have f4_ := f1_.symm; have f5_ := f3_.symm; clear f1_ f2_ f3_; subst f4_; subst f5_));refine hK.out _ _ ⟨kk ae 0, kk ae 1, kk ae 2, kk an 0, kk an 1⟩ (fun hHeld => ?_);clear hK K;refine no (some 27) ?_;refine pu 8 (some 28) (bs 13 511) HT_ ?_;refine one_ (i := 9) (N := some 29) (bs 13 1023) rfl rfl (one_of HT_.out (by kernel_rfl)) (by decide) (fun K hK => ?_);refine value_ (w1 := ?_) (v := ?_) (by rfl) rfl ?_ ?_
   rotate_left 2
   ·go_simp
    constructor
    ·rfl
    ·rfl
   refine hK.out _ _ ⟨(blk_cell (blk_alloc ae.out _) 0).trans rfl, (blk_cell (blk_alloc ae.out _) 1).trans rfl, (blk_cell (blk_alloc ae.out _) 2).trans rfl, (blk_cell (blk_alloc an.out _) 0).trans rfl, (blk_cell (blk_alloc an.out _) 1).trans rfl⟩ (fun hHeld => ?_);clear hK K;refine no (some 29) ?_;refine one_ (i := 10) (N := some 30) (bs 13 2047) rfl rfl (one_of HT_.out (by kernel_rfl)) (by decide) (fun K hK => ?_);refine Kd.S_append_step k66t (w0 := w) w.heap.size (by rfl) (.tmp 21) (.tmp 29) 24 66 (.agg #[(.slice none 0 0), (.slice none 0 0)]) 48 rfl Try.underlying24 info66 rfl (by decide) (by omega) az au (⟨bn, bo⟩ : S66) [.slice ck bn.length cl, .slice ch bo.length ci] (fun k_ => k_ ≠ ak) (fun k_ => some k_ = (.slice ck bn.length cl : Value).ownBlock ∨ some k_ = (.slice ch bo.length ci : Value).ownBlock) rfl rfl ?aP (fun k_ hk_ => hk_.elim (fun h_ => ((Kd.R_mono (ok' := fun k_ => ((fun k_ => k_ ≠ ak)) k_ ∧ some k_ ≠ (az : Value).ownBlock) (Kd.R_types (Kd.R_apart' (aN.out) (Kd.S_typed ab.out) (by decide)) an.out (by decide)) (fun k_ hk => ⟨hk.2, hk.1.2⟩))).1 k_ h_.symm) (fun h_ => ((Kd.R_mono (ok' := fun k_ => ((fun k_ => k_ ≠ ak)) k_ ∧ some k_ ≠ (az : Value).ownBlock) (Kd.R_types (Kd.R_apart' (bm.out) (Kd.S_typed ab.out) (by decide)) an.out (by decide)) (fun k_ hk => ⟨hk.2, hk.1.2⟩))).1 k_ h_.symm)) ?aF ?aO ?aB ?aS ?aL ?_;(case aP => exact k66t_mkM _ _ _ (⟨bn, bo⟩ : S66) (fun k_ h_ h2_ => (aN.out.1 k_ h_).2 h2_.symm) (Kd.R_mono (Kd.R_tight rfl (Kd.R_mono (ok' := fun k_ => ((fun k_ => k_ ≠ ak)) k_ ∧ some k_ ≠ (az : Value).ownBlock) (Kd.R_types (Kd.R_apart' (aN.out) (Kd.S_typed ab.out) (by decide)) an.out (by decide)) (fun k_ hk => ⟨hk.2, hk.1.2⟩))) (fun _ h_ => Or.inl h_)) (Kd.R_mono (Kd.R_tight rfl (Kd.R_mono (ok' := fun k_ => ((fun k_ => k_ ≠ ak)) k_ ∧ some k_ ≠ (az : Value).ownBlock) (Kd.R_types (Kd.R_apart' (bm.out) (Kd.S_typed ab.out) (by decide)) an.out (by decide)) (fun k_ hk => ⟨hk.2, hk.1.2⟩))) (fun _ h_ => Or.inr (h_))));(case aB => exact (kh HB));(case aF => exact (fun k_ hk => Kd.freshB (g := ak) (o := .cells #[.slice av ((rd_T66 aj ag).f0).length aw, .slice ax ((rd_T66 aj ag).f1).length ay] 66 (0, 0)) (kb an) k_ hk));(case aO => exact (by (with_reducible repeat first | apply Kd.S_alloc | apply Kd.S_drewN | apply Kd.S_drew); exact Kd.S_mono ab.out (fun k_ hk => ⟨hk.1.1, fun e_ => e_.elim (fun h_ => hk.1.2 h_) (fun h_ => hk.2 h_)⟩)));(case aS => exact (below_size (kh HB)));(case aL => have := ce.out; omega);intro dt w38 ho hb hg hat;rw [← cf.out] at ho;replace ah := Aside0.mk (Kd.R_over' (krR ah) (Kd.S_typed (krS ab)) (by decide) hg); replace ai := Aside0.mk (Kd.R_over' (krR ai) (Kd.S_typed (krS ab)) (by decide) hg); replace aa := kXS aa ab hg; replace af := kXS af ab hg; replace ae := kXS ae ab hg; replace an := Aside0.mk (blk_grown (g := ak) (o := .cells #[.slice av ((rd_T66 aj ag).f0).length aw, .slice ax ((rd_T66 aj ag).f1).length ay] 66 (0, 0)) (kb an) hg (Kd.S_away ab.out (fun _ hk => hk.1.1))); replace HB := Aside0.mk (hb); have bS := Aside0.mk (ho); clear aN bm ab;clear ho hb hg hat;obtain ⟨bI, bJ, cn⟩ := Kd.S_slice bS.out;(first | subst cn | (injection cn with f1_ f2_ f3_; have f4_ := f1_.symm; have f5_ := f3_.symm; clear f1_ f2_ f3_; subst f4_; subst f5_));refine hK.out _ _ ⟨kk ae 0, kk ae 1, kk ae 2, kk an 0, kk an 1⟩ (fun hHeld => ?_);clear hK K;refine no (some 30) ?_;refine pu 11 (some 31) (bs 13 4095) HT_ ?_;refine last_ (i := 12) (N := none) (bs 13 8191) rfl rfl (one_of HT_.out (by kernel_rfl)) (by decide) (fun K hK => ?_);have du : w38.cell? ⟨al, 2, none⟩ = some (az) := kk ae 2;have dl := blk_frozen ae.out 2;have cB := ao.out;have cC := aq.out;have cD := be.out;have cE := ap.out;have cF := ar.out;have cG := bd.out;refine skip_ (w1 := ?_) (by rfl) rfl ?_ ?_
   rotate_left
   ·go_simp
    rfl
   refine hK.out _ _ ?_;clear hK K;refine done_ (done_of HT_.out (by kernel_rfl)) ?_;(try go_wp2);go_roundg k1
   case measure => have := HK1.out; omega
   case rel => exact ⟨(wrap64 (ag + 1)), (bp), (.slice bI bp.length bJ), et, H', ⟨by have := HK1.out; omega⟩, ⟨by (with_reducible repeat first | apply Kd.R_alloc | apply Kd.R_drewN | apply Kd.R_drew); exact Kd.R_mono (Kd.R_far (p := ⟨al, 2, none⟩) (Kd.R_types ah.out ae.out (by decide)) (fun _ hk => hk.2) (.slice bI bp.length bJ)) (fun _ hk => trivial)⟩, ⟨by (with_reducible repeat first | apply Kd.R_alloc | apply Kd.R_drewN | apply Kd.R_drew); exact Kd.R_mono (Kd.R_far (p := ⟨al, 2, none⟩) (Kd.R_types ai.out ae.out (by decide)) (fun _ hk => hk.2) (.slice bI bp.length bJ)) (fun _ hk => trivial)⟩, ⟨by (with_reducible repeat first | apply Kd.S_alloc | apply Kd.S_drewN | apply Kd.S_drew); exact Kd.S_mono (Kd.S_far (p := ⟨al, 2, none⟩) (Kd.S_types bS.out ae.out (by decide)) (fun _ hk => hk.2) (.slice bI bp.length bJ)) (fun _ hk => trivial)⟩, ⟨kg aa⟩, ⟨kg af⟩, ⟨kg ae⟩, ⟨kh HB⟩⟩
theorem tune_Own.calls (k : Nat) (af : Option Addr) (ag : Nat) (aa : List (S64)) (ah : Option Addr) (ai : Nat) (ab : List (S61)) (aj : Option Addr) (ak : Nat) (ae : List (S66)) (r1 : List (S64)) (r2 : List (S61)) (r3 : List (S66)) (w : World) (al : Kd.C k64 w af aa.length aa) (an : aa.length ≤ ag) (ao : Kd.C k61 w ah ab.length ab) (ap : ab.length ≤ ai) (aq : Kd.C k66 w aj ae.length ae) (ar : ae.length ≤ ak) (h : tune_Own.f k aa ab ae = some (r1, r2, r3)) :
  Calls Try.prog 38 #[.agg #[.slice af aa.length ag, .slice ah ab.length ai, .slice aj ae.length ak]] w fun e w' => ∃ v0_ v1_ v2_ : Value, e = .returned (.agg #[v0_, v1_, v2_]) ∧ Kd.R k64 64 w' w.heap.size (fun _ => True) v0_ r1 ∧ Kd.R k61 61 w' w.heap.size (fun _ => True) v1_ r2 ∧ Kd.S k66 66 w' w.heap.size (fun _ => True) v2_ r3 ∧ Below w.heap.size w w' := (tune_Own.callsT k af ag aa ah ai ab aj ak ae r1 r2 r3 w al an ao ap aq ar h).mono fun _ _ ⟨v0_, v1_, v2_, he_, h0_, h1_, h2_, hb_⟩ => ⟨v0_, v1_, v2_, he_, h0_, h1_, k66t_S h2_, hb_⟩
def tune_folded_1.f (a0 : Int) : Option (Int × Int × Int × Int × Bool) := some (2, 0, 0, a0, true)
theorem tune_folded_1.calls (a0 : Int) (r1 : Int) (r2 : Int) (r3 : Int) (r4 : Int) (r5 : Bool) (w : World) (h : tune_folded_1.f a0 = some (r1, r2, r3, r4, r5)) :
  Calls Try.prog 67 #[.int .u64 a0] w fun e w' => e = .returned (.tuple #[.agg #[.int .i64 r1, .int .i64 r2, .int .i64 r3, .int .u64 r4], .bool r5]) ∧ Below w.heap.size w w' := by
 have hu61 := Try.underlying61;have HB := Aside0.mk (Below.refl w.heap.size w);have H : (some (2, 0, 0, a0, true)) = some (r1, r2, r3, r4, r5) := h;clear h;simp only [Option.some.injEq, Prod.mk.injEq] at H;obtain ⟨rfl, rfl, rfl, rfl, rfl⟩ := H;go_enter Try.func67, Try.ntmps67;go_wp2_with (first | ((with_reducible refine gate_dst (N := 2) rfl ?_); refine box_event ?hg (N := 2) ?hd (cs := #[.int .i64 0, .int .i64 0, .int .i64 0, .int .u64 0]) (t := 61) ?hr ?_; (case hd | hg => rfl); (case hr => go_simp; try rfl); intro ab hg w2 hbox hb; have aa := am hbox; have ae := kG HB hg; have af := kG HB hg; replace HB := kH HB hb; clear hb hbox hg; have Z3 := kz4 aa));refine bodyPost_ret (results_ct rfl _ _ ab 61 #[.int .i64 2, .int .i64 0, .int .i64 0, .int .u64 a0] (0, 0) _ rfl (kg aa) Try.underlying61 rfl (by kernel_rfl)) rfl ?_;exact ⟨er, kh HB⟩
def tune_folded_2.f (a0 : Int) (a1 : Int) : Option (Int × Int × Int × Int × Bool) := some (6, a0, 0, a1, true)
theorem tune_folded_2.calls (a0 : Int) (a1 : Int) (r1 : Int) (r2 : Int) (r3 : Int) (r4 : Int) (r5 : Bool) (w : World) (h : tune_folded_2.f a0 a1 = some (r1, r2, r3, r4, r5)) :
  Calls Try.prog 68 #[.int .i64 a0, .int .u64 a1] w fun e w' => e = .returned (.tuple #[.agg #[.int .i64 r1, .int .i64 r2, .int .i64 r3, .int .u64 r4], .bool r5]) ∧ Below w.heap.size w w' := by
 have hu61 := Try.underlying61;have HB := Aside0.mk (Below.refl w.heap.size w);have H : (some (6, a0, 0, a1, true)) = some (r1, r2, r3, r4, r5) := h;clear h;simp only [Option.some.injEq, Prod.mk.injEq] at H;obtain ⟨rfl, rfl, rfl, rfl, rfl⟩ := H;go_enter Try.func68, Try.ntmps68;go_wp2_with (first | ((with_reducible refine gate_dst (N := 4) rfl ?_); refine box_event ?hg (N := 4) ?hd (cs := #[.int .i64 0, .int .i64 0, .int .i64 0, .int .u64 0]) (t := 61) ?hr ?_; (case hd | hg => rfl); (case hr => go_simp; try rfl); intro ab hg w3 hbox hb; have aa := am hbox; have ae := kG HB hg; have af := kG HB hg; replace HB := kH HB hb; clear hb hbox hg; have Z4 := kz4 aa));refine bodyPost_ret (results_ct rfl _ _ ab 61 #[.int .i64 6, .int .i64 a0, .int .i64 0, .int .u64 a1] (0, 0) _ rfl (kg aa) Try.underlying61 rfl (by kernel_rfl)) rfl ?_;exact ⟨er, kh HB⟩
def field_mul.f (a0 : Int) (a1 : Int) (a2 : Int) : Option (Int) := if a0 = 0 then (none) else (some (Int.tmod (IntKind.u64.wrap (a1 * a2)) a0))
theorem field_mul.calls (a0 : Int) (a1 : Int) (a2 : Int) (r : Int) (w : World) (h : field_mul.f a0 a1 a2 = some r) :
  Calls Try.prog 85 #[.int .u64 a0, .int .u64 a1, .int .u64 a2] w fun e w' => e = .returned (.int .u64 r) ∧ Drawn0 w w' := by
 have H : (if a0 = 0 then (none) else (some (Int.tmod (IntKind.u64.wrap (a1 * a2)) a0))) = some r := h;clear h
 by_cases c4 : a0 = 0
 ·rw [if_pos c4] at H
  exact absurd H (by simp)
 rw [if_neg c4] at H;have aa := beq_eq_false_iff_ne.mpr c4;have ab := bne_iff_ne.mpr c4;obtain rfl := qqI H;go_enter Try.func85, Try.ntmps85;go_wp2;go_ret;exact ⟨et, by repeat (first | exact Drawn0.refl _ | apply Drawn0.step)⟩
def qna.f (a0 : Int) (a1 : Int) (a2 : Int) : Option (Int) := (field_mul.f a0 a1 a2).bind fun aa => (some aa)
theorem qna.calls (a0 : Int) (a1 : Int) (a2 : Int) (r : Int) (w : World) (h : qna.f a0 a1 a2 = some r) :
  Calls Try.prog 70 #[.int .u64 a0, .int .u64 a1, .int .u64 a2] w fun e w' => e = .returned (.int .u64 r) ∧ Drawn0 w w' := by
 have H : ((field_mul.f a0 a1 a2).bind fun aa => (some aa)) = some r := h;clear h;replace H := qqB H;obtain ⟨aa, A40, H⟩ := H;(try dsimp only at H);have A4 := Aside0.mk A40;clear A40;obtain rfl := qqI H;go_enter Try.func70, Try.ntmps70;go_wp2_with (first | ((with_reducible refine gate_callee (f := 85) rfl ?_); refine goesL_ (some 10) rfl rfl Try.func85 (by kernel_rfl) rfl #[.int .u64 a0, .int .u64 a1, .int .u64 a2] rfl (by (try simp only [qM1, qM2, qM3]); first | done | rfl) ?_; (with_reducible refine (field_mul.calls a0 a1 a2 aa _ A4.out).mono ?_); rintro e w' ⟨rfl, ⟨nd, rfl⟩⟩; refine ⟨_, rfl, ?_⟩));go_ret;exact ⟨et, by repeat (first | exact Drawn0.refl _ | apply Drawn0.step)⟩
def qta.f (a0 : Int) (a1 : Int) (a2 : Int) : Option (Int) := if (IntKind.u64.wrap (a1 + a2)) ≥ a0 then (some (IntKind.u64.wrap ((IntKind.u64.wrap (a1 + a2)) - a0))) else (some (IntKind.u64.wrap (a1 + a2)))
theorem qta.calls (a0 : Int) (a1 : Int) (a2 : Int) (r : Int) (w : World) (h : qta.f a0 a1 a2 = some r) :
  Calls Try.prog 83 #[.int .u64 a0, .int .u64 a1, .int .u64 a2] w fun e w' => e = .returned (.int .u64 r) ∧ Drawn0 w w' := by
 have H : (if (IntKind.u64.wrap (a1 + a2)) ≥ a0 then (some (IntKind.u64.wrap ((IntKind.u64.wrap (a1 + a2)) - a0))) else (some (IntKind.u64.wrap (a1 + a2)))) = some r := h;clear h
 by_cases c4 : (IntKind.u64.wrap (a1 + a2)) ≥ a0
 ·rw [if_pos c4] at H
  have aa := qqT c4;clear c4;obtain rfl := qqI H;go_enter Try.func83, Try.ntmps83;go_wp2;go_ret;exact ⟨et, by repeat (first | exact Drawn0.refl _ | apply Drawn0.step)⟩
 rw [if_neg c4] at H;have aa := qqF c4;clear c4;obtain rfl := qqI H;go_enter Try.func83, Try.ntmps83;go_wp2;go_ret;exact ⟨et, by repeat (first | exact Drawn0.refl _ | apply Drawn0.step)⟩
def qsa.f (a0 : Int) (a1 : Int) (a2 : Int) : Option (Int) := if a0 = 0 then (none) else ((qta.f a0 a1 (Int.tmod (IntKind.u64.wrap (a0 - a2)) a0)).bind fun aa => (some aa))
theorem qsa.calls (a0 : Int) (a1 : Int) (a2 : Int) (r : Int) (w : World) (h : qsa.f a0 a1 a2 = some r) :
  Calls Try.prog 84 #[.int .u64 a0, .int .u64 a1, .int .u64 a2] w fun e w' => e = .returned (.int .u64 r) ∧ Drawn0 w w' := by
 have H : (if a0 = 0 then (none) else ((qta.f a0 a1 (Int.tmod (IntKind.u64.wrap (a0 - a2)) a0)).bind fun aa => (some aa))) = some r := h;clear h
 by_cases c4 : a0 = 0
 ·rw [if_pos c4] at H
  exact absurd H (by simp)
 rw [if_neg c4] at H;have ab := beq_eq_false_iff_ne.mpr c4;have ae := bne_iff_ne.mpr c4;replace H := qqB H;obtain ⟨aa, A50, H⟩ := H;(try dsimp only at H);have A5 := Aside0.mk A50;clear A50;obtain rfl := qqI H;go_enter Try.func84, Try.ntmps84;go_wp2_with (first | ((with_reducible refine gate_callee (f := 83) rfl ?_); refine goesL_ (some 14) rfl rfl Try.func83 (by kernel_rfl) rfl #[.int .u64 a0, .int .u64 a1, .int .u64 (Int.tmod (IntKind.u64.wrap (a0 - a2)) a0)] rfl (by (try simp only [qM1, qM2, qM3]); first | done | rfl) ?_; (with_reducible refine (qta.calls a0 a1 (Int.tmod (IntKind.u64.wrap (a0 - a2)) a0) aa _ A5.out).mono ?_); rintro e w' ⟨rfl, ⟨nd, rfl⟩⟩; refine ⟨_, rfl, ?_⟩));go_ret;exact ⟨et, by repeat (first | exact Drawn0.refl _ | apply Drawn0.step)⟩
theorem qsa.callsB (a0 : Int) (a1 : Int) (a2 : Int) (r : Int) (w : World) (h : qsa.f a0 a1 a2 = some r) :
  Calls Try.prog 84 #[.int .u64 a0, .int .u64 a1, .int .u64 a2] w fun e w' => e = .returned (.int .u64 r) ∧ Below w.heap.size w w' := (qsa.calls a0 a1 a2 r w h).mono fun _ _ h_ => ⟨h_.1, h_.2.below⟩
def circ_Of.f (a0 : Int) (ae : Int) (aa : Int) (ab : Int) (af : Int) (l2 : List Int) (l3 : List Int) : Option (Int) := if ae = 1 then (if 0 ≤ aa then (if aa < (l2.length : Int) then (some (rd l2 aa)) else (none)) else (none)) else (if ae = 2 then (some af) else (if ae = 3 then (if 0 ≤ aa then (if aa < (l3.length : Int) then (if 0 ≤ ab then (if ab < (l3.length : Int) then ((qta.f a0 (rd l3 aa) (rd l3 ab)).bind fun ag => (some ag)) else (none)) else (none)) else (none)) else (none)) else (if ae = 4 then (if 0 ≤ aa then (if aa < (l3.length : Int) then (if 0 ≤ ab then (if ab < (l3.length : Int) then ((qsa.f a0 (rd l3 aa) (rd l3 ab)).bind fun ah => (some ah)) else (none)) else (none)) else (none)) else (none)) else (if ae = 5 then (if 0 ≤ aa then (if aa < (l3.length : Int) then (if 0 ≤ ab then (if ab < (l3.length : Int) then ((qna.f a0 (rd l3 aa) (rd l3 ab)).bind fun ai => (some ai)) else (none)) else (none)) else (none)) else (none)) else (if 0 ≤ aa then (if aa < (l3.length : Int) then ((qna.f a0 (rd l3 aa) af).bind fun aj => (some aj)) else (none)) else (none))))))
theorem circ_Of.calls (a0 : Int) (af : Int) (aa : Int) (ab : Int) (au : Int) (A2 : Option Addr) (c2 : Nat) (l2 : List Int) (A3 : Option Addr) (c3 : Nat) (l3 : List Int) (r : Int) (w : World) (hr2 : Kd.C (Kd.int .u64) w A2 l2.length l2) (hc2 : l2.length ≤ c2) (hr3 : Kd.C (Kd.int .u64) w A3 l3.length l3) (hc3 : l3.length ≤ c3) (h : circ_Of.f a0 af aa ab au l2 l3 = some r) :
  Calls Try.prog 69 #[.int .u64 a0, .agg #[.int .i64 af, .int .i64 aa, .int .i64 ab, .int .u64 au], .slice A2 l2.length c2, .slice A3 l3.length c3] w fun e w' => e = .returned (.int .u64 r) ∧ Below w.heap.size w w' := by
 have hu61 := Try.underlying61;have HR2 := Aside0.mk hr2;have HC2 := Aside0.mk hc2;clear hr2 hc2;have HR3 := Aside0.mk hr3;have HC3 := Aside0.mk hc3;clear hr3 hc3;have HB := Aside0.mk (Below.refl w.heap.size w);have H : (if af = 1 then (if 0 ≤ aa then (if aa < (l2.length : Int) then (some (rd l2 aa)) else (none)) else (none)) else (if af = 2 then (some au) else (if af = 3 then (if 0 ≤ aa then (if aa < (l3.length : Int) then (if 0 ≤ ab then (if ab < (l3.length : Int) then ((qta.f a0 (rd l3 aa) (rd l3 ab)).bind fun aY => (some aY)) else (none)) else (none)) else (none)) else (none)) else (if af = 4 then (if 0 ≤ aa then (if aa < (l3.length : Int) then (if 0 ≤ ab then (if ab < (l3.length : Int) then ((qsa.f a0 (rd l3 aa) (rd l3 ab)).bind fun aZ => (some aZ)) else (none)) else (none)) else (none)) else (none)) else (if af = 5 then (if 0 ≤ aa then (if aa < (l3.length : Int) then (if 0 ≤ ab then (if ab < (l3.length : Int) then ((qna.f a0 (rd l3 aa) (rd l3 ab)).bind fun ba => (some ba)) else (none)) else (none)) else (none)) else (none)) else (if 0 ≤ aa then (if aa < (l3.length : Int) then ((qna.f a0 (rd l3 aa) au).bind fun bb => (some bb)) else (none)) else (none))))))) = some r := h;clear h
 by_cases c5 : af = 1
 ·rw [if_pos c5] at H
  have bA := beq_iff_eq.mpr c5;have bB := bne_eq_false_iff_eq.mpr c5;clear c5
  by_cases c6 : 0 ≤ aa
  rotate_left
  ·rw [if_neg c6] at H
   exact absurd H (by simp)
  rw [if_pos c6] at H;have bQ := qqT c6;clear c6
  by_cases c7 : aa < (l2.length : Int)
  rotate_left
  ·rw [if_neg c7] at H
   exact absurd H (by simp)
  rw [if_pos c7] at H;have bR := qqT c7;clear c7;obtain rfl := qqI H;go_enter Try.func69, Try.ntmps69;go_wp2_with (first | ((with_reducible refine gate_dst (N := 5) rfl ?_); refine box_event ?hg (N := 5) ?hd (cs := #[.int .i64 af, .int .i64 aa, .int .i64 ab, .int .u64 au]) (t := 61) ?hr ?_; (case hd | hg => rfl); (case hr => go_simp; try rfl); intro ap hg w8 hbox hb; have ae := am hbox; have aq := kG HB hg; have ar := kG HB hg; replace HB := kH HB hb; clear hb hbox hg; have Z9 := kz4 ae; have av : 0 ≤ (aa : Int) := od; have aw : aa < (l2.length : Int) := od; obtain ⟨bk, bc, ag⟩ := Kd.at_int HR2.out aa av aw; cases bc; replace ag := (HB.out.cell (qqW w _ ag)).trans ag; replace av := eq_true av; replace aw := eq_true aw))
  repeat (go_quiet (first | ((with_reducible refine gate_dst (N := 5) rfl ?_); refine box_event ?hg (N := 5) ?hd (cs := #[.int .i64 af, .int .i64 aa, .int .i64 ab, .int .u64 au]) (t := 61) ?hr ?_; (case hd | hg => rfl); (case hr => go_simp; try rfl); intro ap hg w8 hbox hb; have ae := am hbox; have aq := kG HB hg; have ar := kG HB hg; replace HB := kH HB hb; clear hb hbox hg; have Z9 := kz4 ae; have av : 0 ≤ (aa : Int) := od; have aw : aa < (l2.length : Int) := od; obtain ⟨bk, bc, ag⟩ := Kd.at_int HR2.out aa av aw; cases bc; replace ag := (HB.out.cell (qqW w _ ag)).trans ag; replace av := eq_true av; replace aw := eq_true aw)); try go_wp2_with (first | ((with_reducible refine gate_dst (N := 5) rfl ?_); refine box_event ?hg (N := 5) ?hd (cs := #[.int .i64 af, .int .i64 aa, .int .i64 ab, .int .u64 au]) (t := 61) ?hr ?_; (case hd | hg => rfl); (case hr => go_simp; try rfl); intro ap hg w8 hbox hb; have ae := am hbox; have aq := kG HB hg; have ar := kG HB hg; replace HB := kH HB hb; clear hb hbox hg; have Z9 := kz4 ae; have av : 0 ≤ (aa : Int) := od; have aw : aa < (l2.length : Int) := od; obtain ⟨bk, bc, ag⟩ := Kd.at_int HR2.out aa av aw; cases bc; replace ag := (HB.out.cell (qqW w _ ag)).trans ag; replace av := eq_true av; replace aw := eq_true aw)))
  go_ret;exact ⟨er, kh HB⟩
 rw [if_neg c5] at H;have bA := beq_eq_false_iff_ne.mpr c5;have bB := bne_iff_ne.mpr c5
 by_cases c10 : af = 2
 ·rw [if_pos c10] at H
  have bm := beq_iff_eq.mpr c10;have bn := bne_eq_false_iff_eq.mpr c10;clear c10;obtain rfl := qqI H;go_enter Try.func69, Try.ntmps69;go_wp2_with (first | ((with_reducible refine gate_dst (N := 5) rfl ?_); refine box_event ?hg (N := 5) ?hd (cs := #[.int .i64 af, .int .i64 aa, .int .i64 ab, .int .u64 au]) (t := 61) ?hr ?_; (case hd | hg => rfl); (case hr => go_simp; try rfl); intro ap hg w11 hbox hb; have ae := am hbox; have aq := kG HB hg; have ar := kG HB hg; replace HB := kH HB hb; clear hb hbox hg; have Z12 := kz4 ae))
  repeat (go_quiet (first | ((with_reducible refine gate_dst (N := 5) rfl ?_); refine box_event ?hg (N := 5) ?hd (cs := #[.int .i64 af, .int .i64 aa, .int .i64 ab, .int .u64 au]) (t := 61) ?hr ?_; (case hd | hg => rfl); (case hr => go_simp; try rfl); intro ap hg w11 hbox hb; have ae := am hbox; have aq := kG HB hg; have ar := kG HB hg; replace HB := kH HB hb; clear hb hbox hg; have Z12 := kz4 ae)); try go_wp2_with (first | ((with_reducible refine gate_dst (N := 5) rfl ?_); refine box_event ?hg (N := 5) ?hd (cs := #[.int .i64 af, .int .i64 aa, .int .i64 ab, .int .u64 au]) (t := 61) ?hr ?_; (case hd | hg => rfl); (case hr => go_simp; try rfl); intro ap hg w11 hbox hb; have ae := am hbox; have aq := kG HB hg; have ar := kG HB hg; replace HB := kH HB hb; clear hb hbox hg; have Z12 := kz4 ae)))
  go_ret;exact ⟨er, kh HB⟩
 rw [if_neg c10] at H;have bm := beq_eq_false_iff_ne.mpr c10;have bn := bne_iff_ne.mpr c10
 by_cases c13 : af = 3
 ·rw [if_pos c13] at H
  have bo := beq_iff_eq.mpr c13;have bp := bne_eq_false_iff_eq.mpr c13;clear c13
  by_cases c14 : 0 ≤ aa
  rotate_left
  ·rw [if_neg c14] at H
   exact absurd H (by simp)
  rw [if_pos c14] at H;have bC := qqT c14;clear c14
  by_cases c15 : aa < (l3.length : Int)
  rotate_left
  ·rw [if_neg c15] at H
   exact absurd H (by simp)
  rw [if_pos c15] at H;have bD := qqT c15;clear c15
  by_cases c16 : 0 ≤ ab
  rotate_left
  ·rw [if_neg c16] at H
   exact absurd H (by simp)
  rw [if_pos c16] at H;have bE := qqT c16;clear c16
  by_cases c17 : ab < (l3.length : Int)
  rotate_left
  ·rw [if_neg c17] at H
   exact absurd H (by simp)
  rw [if_pos c17] at H;have bF := qqT c17;clear c17;replace H := qqB H;obtain ⟨aY, bq, H⟩ := H;(try dsimp only at H);have A18 := Aside0.mk bq;clear bq;obtain rfl := qqI H;go_enter Try.func69, Try.ntmps69;go_wp2_with (first | ((with_reducible refine gate_dst (N := 5) rfl ?_); refine box_event ?hg (N := 5) ?hd (cs := #[.int .i64 af, .int .i64 aa, .int .i64 ab, .int .u64 au]) (t := 61) ?hr ?_; (case hd | hg => rfl); (case hr => go_simp; try rfl); intro ap hg w19 hbox hb; have ae := am hbox; have aq := kG HB hg; have ar := kG HB hg; replace HB := kH HB hb; clear hb hbox hg; have Z20 := kz4 ae; have ax : 0 ≤ (aa : Int) := od; have ay : aa < (l3.length : Int) := od; obtain ⟨aQ, bd, ah⟩ := Kd.at_int HR3.out aa ax ay; cases bd; replace ah := (HB.out.cell (qqW w _ ah)).trans ah; replace ax := eq_true ax; replace ay := eq_true ay; have az : 0 ≤ (ab : Int) := od; have aA : ab < (l3.length : Int) := od; obtain ⟨aT, be, ai⟩ := Kd.at_int HR3.out ab az aA; obtain rfl : aQ = aT := (by injection be); replace ai := (HB.out.cell (qqW w _ ai)).trans ai; replace az := eq_true az; replace aA := eq_true aA) | (go_at_call 83; (with_reducible refine (qta.calls a0 (rd l3 aa) (rd l3 ab) aY _ A18.out).mono ?_); rintro e w' ⟨rfl, ⟨nd, rfl⟩⟩; (try first | exact ⟨rfl, _, World.drewN_drewN _ _ _⟩ | exact ⟨rfl, _, Eq.trans (World.drewN_drewN _ _ _) (congrArg (World.drewN _) (Nat.add_assoc _ _ _))⟩)))
  repeat (go_quiet (first | ((with_reducible refine gate_dst (N := 5) rfl ?_); refine box_event ?hg (N := 5) ?hd (cs := #[.int .i64 af, .int .i64 aa, .int .i64 ab, .int .u64 au]) (t := 61) ?hr ?_; (case hd | hg => rfl); (case hr => go_simp; try rfl); intro ap hg w19 hbox hb; have ae := am hbox; have aq := kG HB hg; have ar := kG HB hg; replace HB := kH HB hb; clear hb hbox hg; have Z20 := kz4 ae; have ax : 0 ≤ (aa : Int) := od; have ay : aa < (l3.length : Int) := od; obtain ⟨aQ, bd, ah⟩ := Kd.at_int HR3.out aa ax ay; cases bd; replace ah := (HB.out.cell (qqW w _ ah)).trans ah; replace ax := eq_true ax; replace ay := eq_true ay; have az : 0 ≤ (ab : Int) := od; have aA : ab < (l3.length : Int) := od; obtain ⟨aT, be, ai⟩ := Kd.at_int HR3.out ab az aA; obtain rfl : aQ = aT := (by injection be); replace ai := (HB.out.cell (qqW w _ ai)).trans ai; replace az := eq_true az; replace aA := eq_true aA) | (go_at_call 83; (with_reducible refine (qta.calls a0 (rd l3 aa) (rd l3 ab) aY _ A18.out).mono ?_); rintro e w' ⟨rfl, ⟨nd, rfl⟩⟩; (try first | exact ⟨rfl, _, World.drewN_drewN _ _ _⟩ | exact ⟨rfl, _, Eq.trans (World.drewN_drewN _ _ _) (congrArg (World.drewN _) (Nat.add_assoc _ _ _))⟩))); try go_wp2_with (first | ((with_reducible refine gate_dst (N := 5) rfl ?_); refine box_event ?hg (N := 5) ?hd (cs := #[.int .i64 af, .int .i64 aa, .int .i64 ab, .int .u64 au]) (t := 61) ?hr ?_; (case hd | hg => rfl); (case hr => go_simp; try rfl); intro ap hg w19 hbox hb; have ae := am hbox; have aq := kG HB hg; have ar := kG HB hg; replace HB := kH HB hb; clear hb hbox hg; have Z20 := kz4 ae; have ax : 0 ≤ (aa : Int) := od; have ay : aa < (l3.length : Int) := od; obtain ⟨aQ, bd, ah⟩ := Kd.at_int HR3.out aa ax ay; cases bd; replace ah := (HB.out.cell (qqW w _ ah)).trans ah; replace ax := eq_true ax; replace ay := eq_true ay; have az : 0 ≤ (ab : Int) := od; have aA : ab < (l3.length : Int) := od; obtain ⟨aT, be, ai⟩ := Kd.at_int HR3.out ab az aA; obtain rfl : aQ = aT := (by injection be); replace ai := (HB.out.cell (qqW w _ ai)).trans ai; replace az := eq_true az; replace aA := eq_true aA) | (go_at_call 83; (with_reducible refine (qta.calls a0 (rd l3 aa) (rd l3 ab) aY _ A18.out).mono ?_); rintro e w' ⟨rfl, ⟨nd, rfl⟩⟩; (try first | exact ⟨rfl, _, World.drewN_drewN _ _ _⟩ | exact ⟨rfl, _, Eq.trans (World.drewN_drewN _ _ _) (congrArg (World.drewN _) (Nat.add_assoc _ _ _))⟩))))
  go_ret;exact ⟨er, kh HB⟩
 rw [if_neg c13] at H;have bo := beq_eq_false_iff_ne.mpr c13;have bp := bne_iff_ne.mpr c13
 by_cases c21 : af = 4
 ·rw [if_pos c21] at H
  have br := beq_iff_eq.mpr c21;have bt := bne_eq_false_iff_eq.mpr c21;clear c21
  by_cases c22 : 0 ≤ aa
  rotate_left
  ·rw [if_neg c22] at H
   exact absurd H (by simp)
  rw [if_pos c22] at H;have bG := qqT c22;clear c22
  by_cases c23 : aa < (l3.length : Int)
  rotate_left
  ·rw [if_neg c23] at H
   exact absurd H (by simp)
  rw [if_pos c23] at H;have bH := qqT c23;clear c23
  by_cases c24 : 0 ≤ ab
  rotate_left
  ·rw [if_neg c24] at H
   exact absurd H (by simp)
  rw [if_pos c24] at H;have bI := qqT c24;clear c24
  by_cases c25 : ab < (l3.length : Int)
  rotate_left
  ·rw [if_neg c25] at H
   exact absurd H (by simp)
  rw [if_pos c25] at H;have bJ := qqT c25;clear c25;replace H := qqB H;obtain ⟨aZ, bu, H⟩ := H;(try dsimp only at H);have A26 := Aside0.mk bu;clear bu;obtain rfl := qqI H;go_enter Try.func69, Try.ntmps69;go_wp2_with (first | ((with_reducible refine gate_dst (N := 5) rfl ?_); refine box_event ?hg (N := 5) ?hd (cs := #[.int .i64 af, .int .i64 aa, .int .i64 ab, .int .u64 au]) (t := 61) ?hr ?_; (case hd | hg => rfl); (case hr => go_simp; try rfl); intro ap hg w27 hbox hb; have ae := am hbox; have aq := kG HB hg; have ar := kG HB hg; replace HB := kH HB hb; clear hb hbox hg; have Z28 := kz4 ae; have aC : 0 ≤ (aa : Int) := od; have aD : aa < (l3.length : Int) := od; obtain ⟨aU, bf, aj⟩ := Kd.at_int HR3.out aa aC aD; cases bf; replace aj := (HB.out.cell (qqW w _ aj)).trans aj; replace aC := eq_true aC; replace aD := eq_true aD; have aE : 0 ≤ (ab : Int) := od; have aG : ab < (l3.length : Int) := od; obtain ⟨aV, bg, ak⟩ := Kd.at_int HR3.out ab aE aG; obtain rfl : aU = aV := (by injection bg); replace ak := (HB.out.cell (qqW w _ ak)).trans ak; replace aE := eq_true aE; replace aG := eq_true aG) | (go_at_call 84; (with_reducible refine (qsa.calls a0 (rd l3 aa) (rd l3 ab) aZ _ A26.out).mono ?_); rintro e w' ⟨rfl, ⟨nd, rfl⟩⟩; (try first | exact ⟨rfl, _, World.drewN_drewN _ _ _⟩ | exact ⟨rfl, _, Eq.trans (World.drewN_drewN _ _ _) (congrArg (World.drewN _) (Nat.add_assoc _ _ _))⟩)))
  repeat (go_quiet (first | ((with_reducible refine gate_dst (N := 5) rfl ?_); refine box_event ?hg (N := 5) ?hd (cs := #[.int .i64 af, .int .i64 aa, .int .i64 ab, .int .u64 au]) (t := 61) ?hr ?_; (case hd | hg => rfl); (case hr => go_simp; try rfl); intro ap hg w27 hbox hb; have ae := am hbox; have aq := kG HB hg; have ar := kG HB hg; replace HB := kH HB hb; clear hb hbox hg; have Z28 := kz4 ae; have aC : 0 ≤ (aa : Int) := od; have aD : aa < (l3.length : Int) := od; obtain ⟨aU, bf, aj⟩ := Kd.at_int HR3.out aa aC aD; cases bf; replace aj := (HB.out.cell (qqW w _ aj)).trans aj; replace aC := eq_true aC; replace aD := eq_true aD; have aE : 0 ≤ (ab : Int) := od; have aG : ab < (l3.length : Int) := od; obtain ⟨aV, bg, ak⟩ := Kd.at_int HR3.out ab aE aG; obtain rfl : aU = aV := (by injection bg); replace ak := (HB.out.cell (qqW w _ ak)).trans ak; replace aE := eq_true aE; replace aG := eq_true aG) | (go_at_call 84; (with_reducible refine (qsa.calls a0 (rd l3 aa) (rd l3 ab) aZ _ A26.out).mono ?_); rintro e w' ⟨rfl, ⟨nd, rfl⟩⟩; (try first | exact ⟨rfl, _, World.drewN_drewN _ _ _⟩ | exact ⟨rfl, _, Eq.trans (World.drewN_drewN _ _ _) (congrArg (World.drewN _) (Nat.add_assoc _ _ _))⟩))); try go_wp2_with (first | ((with_reducible refine gate_dst (N := 5) rfl ?_); refine box_event ?hg (N := 5) ?hd (cs := #[.int .i64 af, .int .i64 aa, .int .i64 ab, .int .u64 au]) (t := 61) ?hr ?_; (case hd | hg => rfl); (case hr => go_simp; try rfl); intro ap hg w27 hbox hb; have ae := am hbox; have aq := kG HB hg; have ar := kG HB hg; replace HB := kH HB hb; clear hb hbox hg; have Z28 := kz4 ae; have aC : 0 ≤ (aa : Int) := od; have aD : aa < (l3.length : Int) := od; obtain ⟨aU, bf, aj⟩ := Kd.at_int HR3.out aa aC aD; cases bf; replace aj := (HB.out.cell (qqW w _ aj)).trans aj; replace aC := eq_true aC; replace aD := eq_true aD; have aE : 0 ≤ (ab : Int) := od; have aG : ab < (l3.length : Int) := od; obtain ⟨aV, bg, ak⟩ := Kd.at_int HR3.out ab aE aG; obtain rfl : aU = aV := (by injection bg); replace ak := (HB.out.cell (qqW w _ ak)).trans ak; replace aE := eq_true aE; replace aG := eq_true aG) | (go_at_call 84; (with_reducible refine (qsa.calls a0 (rd l3 aa) (rd l3 ab) aZ _ A26.out).mono ?_); rintro e w' ⟨rfl, ⟨nd, rfl⟩⟩; (try first | exact ⟨rfl, _, World.drewN_drewN _ _ _⟩ | exact ⟨rfl, _, Eq.trans (World.drewN_drewN _ _ _) (congrArg (World.drewN _) (Nat.add_assoc _ _ _))⟩))))
  go_ret;exact ⟨er, kh HB⟩
 rw [if_neg c21] at H;have br := beq_eq_false_iff_ne.mpr c21;have bt := bne_iff_ne.mpr c21
 by_cases c29 : af = 5
 rotate_left
 ·rw [if_neg c29] at H
  have bv := beq_eq_false_iff_ne.mpr c29;have bw := bne_iff_ne.mpr c29
  by_cases c37 : 0 ≤ aa
  rotate_left
  ·rw [if_neg c37] at H
   exact absurd H (by simp)
  rw [if_pos c37] at H;have bK := qqT c37;clear c37
  by_cases c38 : aa < (l3.length : Int)
  rotate_left
  ·rw [if_neg c38] at H
   exact absurd H (by simp)
  rw [if_pos c38] at H;have bL := qqT c38;clear c38;replace H := qqB H;obtain ⟨bb, bx, H⟩ := H;(try dsimp only at H);have A39 := Aside0.mk bx;clear bx;obtain rfl := qqI H;go_enter Try.func69, Try.ntmps69;go_wp2_with (first | ((with_reducible refine gate_dst (N := 5) rfl ?_); refine box_event ?hg (N := 5) ?hd (cs := #[.int .i64 af, .int .i64 aa, .int .i64 ab, .int .u64 au]) (t := 61) ?hr ?_; (case hd | hg => rfl); (case hr => go_simp; try rfl); intro ap hg w40 hbox hb; have ae := am hbox; have aq := kG HB hg; have ar := kG HB hg; replace HB := kH HB hb; clear hb hbox hg; have Z41 := kz4 ae; have aH : 0 ≤ (aa : Int) := od; have aI : aa < (l3.length : Int) := od; obtain ⟨bl, bh, al⟩ := Kd.at_int HR3.out aa aH aI; cases bh; replace al := (HB.out.cell (qqW w _ al)).trans al; replace aH := eq_true aH; replace aI := eq_true aI) | (go_at_call 70; (with_reducible refine (qna.calls a0 (rd l3 aa) au bb _ A39.out).mono ?_); rintro e w' ⟨rfl, ⟨nd, rfl⟩⟩; (try first | exact ⟨rfl, _, World.drewN_drewN _ _ _⟩ | exact ⟨rfl, _, Eq.trans (World.drewN_drewN _ _ _) (congrArg (World.drewN _) (Nat.add_assoc _ _ _))⟩)))
  repeat (go_quiet (first | ((with_reducible refine gate_dst (N := 5) rfl ?_); refine box_event ?hg (N := 5) ?hd (cs := #[.int .i64 af, .int .i64 aa, .int .i64 ab, .int .u64 au]) (t := 61) ?hr ?_; (case hd | hg => rfl); (case hr => go_simp; try rfl); intro ap hg w40 hbox hb; have ae := am hbox; have aq := kG HB hg; have ar := kG HB hg; replace HB := kH HB hb; clear hb hbox hg; have Z41 := kz4 ae; have aH : 0 ≤ (aa : Int) := od; have aI : aa < (l3.length : Int) := od; obtain ⟨bl, bh, al⟩ := Kd.at_int HR3.out aa aH aI; cases bh; replace al := (HB.out.cell (qqW w _ al)).trans al; replace aH := eq_true aH; replace aI := eq_true aI) | (go_at_call 70; (with_reducible refine (qna.calls a0 (rd l3 aa) au bb _ A39.out).mono ?_); rintro e w' ⟨rfl, ⟨nd, rfl⟩⟩; (try first | exact ⟨rfl, _, World.drewN_drewN _ _ _⟩ | exact ⟨rfl, _, Eq.trans (World.drewN_drewN _ _ _) (congrArg (World.drewN _) (Nat.add_assoc _ _ _))⟩))); try go_wp2_with (first | ((with_reducible refine gate_dst (N := 5) rfl ?_); refine box_event ?hg (N := 5) ?hd (cs := #[.int .i64 af, .int .i64 aa, .int .i64 ab, .int .u64 au]) (t := 61) ?hr ?_; (case hd | hg => rfl); (case hr => go_simp; try rfl); intro ap hg w40 hbox hb; have ae := am hbox; have aq := kG HB hg; have ar := kG HB hg; replace HB := kH HB hb; clear hb hbox hg; have Z41 := kz4 ae; have aH : 0 ≤ (aa : Int) := od; have aI : aa < (l3.length : Int) := od; obtain ⟨bl, bh, al⟩ := Kd.at_int HR3.out aa aH aI; cases bh; replace al := (HB.out.cell (qqW w _ al)).trans al; replace aH := eq_true aH; replace aI := eq_true aI) | (go_at_call 70; (with_reducible refine (qna.calls a0 (rd l3 aa) au bb _ A39.out).mono ?_); rintro e w' ⟨rfl, ⟨nd, rfl⟩⟩; (try first | exact ⟨rfl, _, World.drewN_drewN _ _ _⟩ | exact ⟨rfl, _, Eq.trans (World.drewN_drewN _ _ _) (congrArg (World.drewN _) (Nat.add_assoc _ _ _))⟩))))
  go_ret;exact ⟨er, kh HB⟩
 rw [if_pos c29] at H;have bv := beq_iff_eq.mpr c29;have bw := bne_eq_false_iff_eq.mpr c29;clear c29
 by_cases c30 : 0 ≤ aa
 rotate_left
 ·rw [if_neg c30] at H
  exact absurd H (by simp)
 rw [if_pos c30] at H;have bM := qqT c30;clear c30
 by_cases c31 : aa < (l3.length : Int)
 rotate_left
 ·rw [if_neg c31] at H
  exact absurd H (by simp)
 rw [if_pos c31] at H;have bN := qqT c31;clear c31
 by_cases c32 : 0 ≤ ab
 rotate_left
 ·rw [if_neg c32] at H
  exact absurd H (by simp)
 rw [if_pos c32] at H;have bO := qqT c32;clear c32
 by_cases c33 : ab < (l3.length : Int)
 rotate_left
 ·rw [if_neg c33] at H
  exact absurd H (by simp)
 rw [if_pos c33] at H;have bP := qqT c33;clear c33;replace H := qqB H;obtain ⟨ba, bz, H⟩ := H;(try dsimp only at H);have A34 := Aside0.mk bz;clear bz;obtain rfl := qqI H;go_enter Try.func69, Try.ntmps69;go_wp2_with (first | ((with_reducible refine gate_dst (N := 5) rfl ?_); refine box_event ?hg (N := 5) ?hd (cs := #[.int .i64 af, .int .i64 aa, .int .i64 ab, .int .u64 au]) (t := 61) ?hr ?_; (case hd | hg => rfl); (case hr => go_simp; try rfl); intro ap hg w35 hbox hb; have ae := am hbox; have aq := kG HB hg; have ar := kG HB hg; replace HB := kH HB hb; clear hb hbox hg; have Z36 := kz4 ae; have aJ : 0 ≤ (aa : Int) := od; have aK : aa < (l3.length : Int) := od; obtain ⟨aW, bi, an⟩ := Kd.at_int HR3.out aa aJ aK; cases bi; replace an := (HB.out.cell (qqW w _ an)).trans an; replace aJ := eq_true aJ; replace aK := eq_true aK; have aM : 0 ≤ (ab : Int) := od; have aN : ab < (l3.length : Int) := od; obtain ⟨aX, bj, ao⟩ := Kd.at_int HR3.out ab aM aN; obtain rfl : aW = aX := (by injection bj); replace ao := (HB.out.cell (qqW w _ ao)).trans ao; replace aM := eq_true aM; replace aN := eq_true aN) | (go_at_call 70; (with_reducible refine (qna.calls a0 (rd l3 aa) (rd l3 ab) ba _ A34.out).mono ?_); rintro e w' ⟨rfl, ⟨nd, rfl⟩⟩; (try first | exact ⟨rfl, _, World.drewN_drewN _ _ _⟩ | exact ⟨rfl, _, Eq.trans (World.drewN_drewN _ _ _) (congrArg (World.drewN _) (Nat.add_assoc _ _ _))⟩)))
 repeat (go_quiet (first | ((with_reducible refine gate_dst (N := 5) rfl ?_); refine box_event ?hg (N := 5) ?hd (cs := #[.int .i64 af, .int .i64 aa, .int .i64 ab, .int .u64 au]) (t := 61) ?hr ?_; (case hd | hg => rfl); (case hr => go_simp; try rfl); intro ap hg w35 hbox hb; have ae := am hbox; have aq := kG HB hg; have ar := kG HB hg; replace HB := kH HB hb; clear hb hbox hg; have Z36 := kz4 ae; have aJ : 0 ≤ (aa : Int) := od; have aK : aa < (l3.length : Int) := od; obtain ⟨aW, bi, an⟩ := Kd.at_int HR3.out aa aJ aK; cases bi; replace an := (HB.out.cell (qqW w _ an)).trans an; replace aJ := eq_true aJ; replace aK := eq_true aK; have aM : 0 ≤ (ab : Int) := od; have aN : ab < (l3.length : Int) := od; obtain ⟨aX, bj, ao⟩ := Kd.at_int HR3.out ab aM aN; obtain rfl : aW = aX := (by injection bj); replace ao := (HB.out.cell (qqW w _ ao)).trans ao; replace aM := eq_true aM; replace aN := eq_true aN) | (go_at_call 70; (with_reducible refine (qna.calls a0 (rd l3 aa) (rd l3 ab) ba _ A34.out).mono ?_); rintro e w' ⟨rfl, ⟨nd, rfl⟩⟩; (try first | exact ⟨rfl, _, World.drewN_drewN _ _ _⟩ | exact ⟨rfl, _, Eq.trans (World.drewN_drewN _ _ _) (congrArg (World.drewN _) (Nat.add_assoc _ _ _))⟩))); try go_wp2_with (first | ((with_reducible refine gate_dst (N := 5) rfl ?_); refine box_event ?hg (N := 5) ?hd (cs := #[.int .i64 af, .int .i64 aa, .int .i64 ab, .int .u64 au]) (t := 61) ?hr ?_; (case hd | hg => rfl); (case hr => go_simp; try rfl); intro ap hg w35 hbox hb; have ae := am hbox; have aq := kG HB hg; have ar := kG HB hg; replace HB := kH HB hb; clear hb hbox hg; have Z36 := kz4 ae; have aJ : 0 ≤ (aa : Int) := od; have aK : aa < (l3.length : Int) := od; obtain ⟨aW, bi, an⟩ := Kd.at_int HR3.out aa aJ aK; cases bi; replace an := (HB.out.cell (qqW w _ an)).trans an; replace aJ := eq_true aJ; replace aK := eq_true aK; have aM : 0 ≤ (ab : Int) := od; have aN : ab < (l3.length : Int) := od; obtain ⟨aX, bj, ao⟩ := Kd.at_int HR3.out ab aM aN; obtain rfl : aW = aX := (by injection bj); replace ao := (HB.out.cell (qqW w _ ao)).trans ao; replace aM := eq_true aM; replace aN := eq_true aN) | (go_at_call 70; (with_reducible refine (qna.calls a0 (rd l3 aa) (rd l3 ab) ba _ A34.out).mono ?_); rintro e w' ⟨rfl, ⟨nd, rfl⟩⟩; (try first | exact ⟨rfl, _, World.drewN_drewN _ _ _⟩ | exact ⟨rfl, _, Eq.trans (World.drewN_drewN _ _ _) (congrArg (World.drewN _) (Nat.add_assoc _ _ _))⟩))))
 go_ret;exact ⟨er, kh HB⟩
end Go.Proofs.Ytmlbliggbkfjnaa.J
