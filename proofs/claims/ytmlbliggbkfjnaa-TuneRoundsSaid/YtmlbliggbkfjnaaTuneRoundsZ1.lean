/- Part 1 of the proof of TuneRounds: what the functions compute as plain Lean functions, that the machine comes to just these answers, and that the answer is true; no conditions. -/
import Derived.Test.YtmlbliggbkfjnaaTuneRoundsZ0
import Derived.Test.YtmlbliggbkfjnaaProg
import Derived.Below
import Derived.Deep.Draws
import Derived.Deep.AppendLies
import Derived.Maps.AppendAt
import Derived.OwnWalk
import Derived.Laws.BytesArg
import Derived.Laws.MakeOwn
import Derived.Laws.OwnMore
import Derived.Deep.OwnRows
import Derived.Tactics
import Derived.Lib.ConvBytes
import Derived.Laws.Slices
import Derived.WalkKit
import Derived.KernelRfl
import Derived.RowKit3
import Derived.Deep.LoopGhost
import Derived.Deep.QuietTactic
import Derived.BigQuiet
import Derived.WideLaws
import Derived.Deep.DeepCutAuto
import Derived.Deep.CutBlock
import Derived.Deep.RegionHeld3
import Derived.Laws.Rows
import Derived.Lib.AppendStr
import Derived.ArgAppend
import Derived.Laws.IdiomCopy
import Derived.OrdersHeld
import Derived.Laws.BitsLemmas
import Derived.RowKit
import Derived.Lib.SliceRun
set_option linter.unusedSimpArgs false
set_option linter.unusedVariables false
set_option maxHeartbeats 8000000
set_option maxRecDepth 100000
namespace Go.Proofs.Ytmlbliggbkfjnaa.J
open Go.RowKit Go.Proofs.YtmlbliggbkfjnaaW.PrintWords Go.Proofs.YtmlbliggbkfjnaaW.PrintLast Go.Proofs.YtmlbliggbkfjnaaW.PrintMore
attribute [local go_sem] max2_int min2_int max_two min_two max_three min_three max_four min_four
def errW : Option Int → Value
  | none => .nilIface
  | some c => .iface 0 (.int .i64 c)
theorem errW_none : errW none = .nilIface := rfl
theorem errW_some (c : Int) : errW (some c) = .iface 0 (.int .i64 c) := rfl
theorem info3 : (Try.prog.info? 3).map (fun i => (i.zero, i.size, i.bytes)) = some (some (.int .i64 0), 1, 8) := by kernel_rfl
theorem info4 : (Try.prog.info? 4).map (fun i => (i.zero, i.size, i.bytes)) = some (some (.bool false), 1, 1) := by kernel_rfl
theorem info27 : (Try.prog.info? 27).map (fun i => (i.zero, i.size, i.bytes)) = some (some (.slice none 0 0), 1, 24) := by kernel_rfl
theorem info34 : (Try.prog.info? 34).map (fun i => (i.zero, i.size, i.bytes)) = some (some (.int .u64 0), 1, 8) := by kernel_rfl
theorem info61 : (Try.prog.info? 61).map (fun i => (i.zero, i.size, i.bytes)) = some (some (.agg #[(.int .i64 0), (.int .i64 0), (.int .i64 0), (.int .u64 0)]), 4, 32) := by kernel_rfl
theorem info64 : (Try.prog.info? 64).map (fun i => (i.zero, i.size, i.bytes)) = some (some (.agg #[(.int .i64 0), (.bool false)]), 2, 16) := by kernel_rfl
theorem info66 : (Try.prog.info? 66).map (fun i => (i.zero, i.size, i.bytes)) = some (some (.agg #[(.slice none 0 0), (.slice none 0 0)]), 2, 48) := by kernel_rfl
theorem info89 : (Try.prog.info? 89).map (fun i => (i.zero, i.size, i.bytes)) = some (some (.agg #[(.slice none 0 0), (.slice none 0 0)]), 2, 48) := by kernel_rfl
structure S61 where
  f0 : Int
  f1 : Int
  f2 : Int
  f3 : Int
def z61 : S61 := ⟨(0 : Int), (0 : Int), (0 : Int), (0 : Int)⟩
def k61 : Kd S61 := Kd.iso (Kd.pair (Kd.int .i64) (Kd.pair (Kd.int .i64) (Kd.pair (Kd.int .i64) (Kd.int .u64)))) (fun x : S61 => (x.f0, x.f1, x.f2, x.f3))
theorem k61_open {w : World} {x : S61} {cs : List Value} (h : k61.K w x cs) : cs = [.int .i64 x.f0, .int .i64 x.f1, .int .i64 x.f2, .int .u64 x.f3] := by
  obtain ⟨_, _, rfl, rfl, ⟨_, _, rfl, rfl, ⟨_, _, rfl, rfl, rfl⟩⟩⟩ := h;exact rfl
theorem k61_openM {w : World} {base : Nat} {ok : Nat → Prop} {x : S61} {cs : List Value} (h : k61.M w base ok x cs) : cs = [.int .i64 x.f0, .int .i64 x.f1, .int .i64 x.f2, .int .u64 x.f3] := by
  obtain ⟨_, _, rfl, rfl, ⟨_, _, rfl, rfl, ⟨_, _, rfl, rfl, rfl⟩⟩⟩ := h;exact rfl
theorem k61_mk (w : World) (x : S61)  : k61.K w x [.int .i64 x.f0, .int .i64 x.f1, .int .i64 x.f2, .int .u64 x.f3] := ⟨[.int .i64 x.f0], [.int .i64 x.f1, .int .i64 x.f2, .int .u64 x.f3], rfl, rfl, ⟨[.int .i64 x.f1], [.int .i64 x.f2, .int .u64 x.f3], rfl, rfl, ⟨[.int .i64 x.f2], [.int .u64 x.f3], rfl, rfl, rfl⟩⟩⟩
theorem k61_mkM (w : World) (base : Nat) (ok : Nat → Prop) (x : S61)  : k61.M w base ok x [.int .i64 x.f0, .int .i64 x.f1, .int .i64 x.f2, .int .u64 x.f3] := ⟨[.int .i64 x.f0], [.int .i64 x.f1, .int .i64 x.f2, .int .u64 x.f3], rfl, rfl, ⟨[.int .i64 x.f1], [.int .i64 x.f2, .int .u64 x.f3], rfl, rfl, ⟨[.int .i64 x.f2], [.int .u64 x.f3], rfl, rfl, rfl⟩⟩⟩
theorem k61_mkF (W : World) (ok : Nat → Prop) (x : S61) : Kd.FK k61 W ok x [.int .i64 x.f0, .int .i64 x.f1, .int .i64 x.f2, .int .u64 x.f3] := fun W2 _ => k61_mk W2 x
def rd_T61 (xs : List S61) (i : Int) : S61 := xs.getD i.toNat z61
theorem at_T61 {w : World} {A : Option Addr} {n : Nat} {xs : List S61} (h : Kd.C k61 w A n xs) (i : Int) (h0 : 0 ≤ i) (h1 : i < n) : ∃ ad , A = some ad ∧ w.cell? (ad.add (i.toNat * 4)) = some (.int .i64 (rd_T61 xs i).f0) ∧ w.cell? ⟨(ad.add (i.toNat * 4)).block, (ad.add (i.toNat * 4)).off + 1, none⟩ = some (.int .i64 (rd_T61 xs i).f1) ∧ w.cell? ⟨(ad.add (i.toNat * 4)).block, (ad.add (i.toNat * 4)).off + 2, none⟩ = some (.int .i64 (rd_T61 xs i).f2) ∧ w.cell? ⟨(ad.add (i.toNat * 4)).block, (ad.add (i.toNat * 4)).off + 3, none⟩ = some (.int .u64 (rd_T61 xs i).f3) := by
  obtain ⟨ad, c, e, _, hK, hc0⟩ := Kd.C_get h z61 i h0 h1;have hc : ∀ j u, c[j]? = some u → w.cell? (ad.add (i.toNat * 4 + j)) = some u := hc0;obtain rfl := k61_open hK;exact ⟨ad, e, hc 0 _ rfl, by rw [← add_field _ _ 1 (by omega)]; exact hc 1 _ rfl, by rw [← add_field _ _ 2 (by omega)]; exact hc 2 _ rfl, by rw [← add_field _ _ 3 (by omega)]; exact hc 3 _ rfl⟩
structure S64 where
  f0 : Int
  f1 : Bool
def z64 : S64 := ⟨(0 : Int), false⟩
def k64 : Kd S64 := Kd.iso (Kd.pair (Kd.int .i64) Kd.bool) (fun x : S64 => (x.f0, x.f1))
theorem k64_open {w : World} {x : S64} {cs : List Value} (h : k64.K w x cs) : cs = [.int .i64 x.f0, .bool x.f1] := by
  obtain ⟨_, _, rfl, rfl, rfl⟩ := h;exact rfl
theorem k64_openM {w : World} {base : Nat} {ok : Nat → Prop} {x : S64} {cs : List Value} (h : k64.M w base ok x cs) : cs = [.int .i64 x.f0, .bool x.f1] := by
  obtain ⟨_, _, rfl, rfl, rfl⟩ := h;exact rfl
theorem k64_mk (w : World) (x : S64)  : k64.K w x [.int .i64 x.f0, .bool x.f1] := ⟨[.int .i64 x.f0], [.bool x.f1], rfl, rfl, rfl⟩
theorem k64_mkM (w : World) (base : Nat) (ok : Nat → Prop) (x : S64)  : k64.M w base ok x [.int .i64 x.f0, .bool x.f1] := ⟨[.int .i64 x.f0], [.bool x.f1], rfl, rfl, rfl⟩
theorem k64_mkF (W : World) (ok : Nat → Prop) (x : S64) : Kd.FK k64 W ok x [.int .i64 x.f0, .bool x.f1] := fun W2 _ => k64_mk W2 x
def rd_T64 (xs : List S64) (i : Int) : S64 := xs.getD i.toNat z64
theorem at_T64 {w : World} {A : Option Addr} {n : Nat} {xs : List S64} (h : Kd.C k64 w A n xs) (i : Int) (h0 : 0 ≤ i) (h1 : i < n) : ∃ ad , A = some ad ∧ w.cell? (ad.add (i.toNat * 2)) = some (.int .i64 (rd_T64 xs i).f0) ∧ w.cell? ⟨(ad.add (i.toNat * 2)).block, (ad.add (i.toNat * 2)).off + 1, none⟩ = some (.bool (rd_T64 xs i).f1) := by
  obtain ⟨ad, c, e, _, hK, hc0⟩ := Kd.C_get h z64 i h0 h1;have hc : ∀ j u, c[j]? = some u → w.cell? (ad.add (i.toNat * 2 + j)) = some u := hc0;obtain rfl := k64_open hK;exact ⟨ad, e, hc 0 _ rfl, by rw [← add_field _ _ 1 (by omega)]; exact hc 1 _ rfl⟩
def rd_L5 (xs : List (List Int)) (i : Int) : (List Int) := xs.getD i.toNat ([] : List Int)
theorem at_L5 {w : World} {A : Option Addr} {n : Nat} {xs : List (List Int)} (h : Kd.C (Kd.slice 3 (Kd.int .i64)) w A n xs) (i : Int) (h0 : 0 ≤ i) (h1 : i < n) : ∃ ad A0 c0, A = some ad ∧ w.cell? (ad.add i.toNat) = some (.slice A0 (rd_L5 xs i).length c0) ∧ (rd_L5 xs i).length ≤ c0 ∧ (Kd.int .i64).C w A0 (rd_L5 xs i).length (rd_L5 xs i) := by
  obtain ⟨ad, c, e, _, hK, hc0⟩ := Kd.C_get h ([] : List Int) i h0 h1;have hc : ∀ j u, c[j]? = some u → w.cell? (ad.add (i.toNat * 1 + j)) = some u := hc0;obtain ⟨A0, c0, rfl, l0, g0⟩ := hK;exact ⟨ad, A0, c0, e, by have hq := hc 0 _ rfl; rwa [Nat.mul_one, Nat.add_zero] at hq, l0, g0⟩
structure S66 where
  f0 : (List Int)
  f1 : (List Int)
def z66 : S66 := ⟨([] : List Int), ([] : List Int)⟩
def k66 : Kd S66 := Kd.iso (Kd.pair (Kd.slice 3 (Kd.int .i64)) (Kd.slice 3 (Kd.int .i64))) (fun x : S66 => (x.f0, x.f1))
theorem k66_open {w : World} {x : S66} {cs : List Value} (h : k66.K w x cs) : ∃ A0 c0 A1 c1, cs = [.slice A0 x.f0.length c0, .slice A1 x.f1.length c1] ∧ x.f0.length ≤ c0 ∧ (Kd.int .i64).C w A0 x.f0.length x.f0 ∧ x.f1.length ≤ c1 ∧ (Kd.int .i64).C w A1 x.f1.length x.f1 := by
  obtain ⟨_, _, rfl, ⟨A0, c0, rfl, l0, g0⟩, ⟨A1, c1, rfl, l1, g1⟩⟩ := h;exact ⟨A0, c0, A1, c1, rfl, l0, g0, l1, g1⟩
theorem k66_openM {w : World} {base : Nat} {ok : Nat → Prop} {x : S66} {cs : List Value} (h : k66.M w base ok x cs) : ∃ v0 v1, cs = [v0, v1] ∧ (Kd.int .i64).R 3 w base ok v0 x.f0 ∧ (Kd.int .i64).R 3 w base ok v1 x.f1 := by
  obtain ⟨_, _, rfl, ⟨v0, rfl, g0⟩, ⟨v1, rfl, g1⟩⟩ := h;exact ⟨v0, v1, rfl, g0, g1⟩
theorem k66_mk (w : World) (x : S66) {A0 : Option Addr} {c0 : Nat} (l0 : x.f0.length ≤ c0) (g0 : (Kd.int .i64).C w A0 x.f0.length x.f0) {A1 : Option Addr} {c1 : Nat} (l1 : x.f1.length ≤ c1) (g1 : (Kd.int .i64).C w A1 x.f1.length x.f1) : k66.K w x [.slice A0 x.f0.length c0, .slice A1 x.f1.length c1] := ⟨[.slice A0 x.f0.length c0], [.slice A1 x.f1.length c1], rfl, ⟨A0, c0, rfl, l0, g0⟩, ⟨A1, c1, rfl, l1, g1⟩⟩
theorem k66_mkM (w : World) (base : Nat) (ok : Nat → Prop) (x : S66) {v0 : Value} (g0 : (Kd.int .i64).R 3 w base ok v0 x.f0) {v1 : Value} (g1 : (Kd.int .i64).R 3 w base ok v1 x.f1) : k66.M w base ok x [v0, v1] := ⟨[v0], [v1], rfl, ⟨v0, rfl, g0⟩, ⟨v1, rfl, g1⟩⟩
theorem k66_openF {W : World} {ok : Nat → Prop} {x : S66} {cs : List Value} (h : Kd.FK k66 W ok x cs) : ∃ A0 c0 A1 c1, cs = [.slice A0 x.f0.length c0, .slice A1 x.f1.length c1] ∧ x.f0.length ≤ c0 ∧ Kd.F (Kd.int .i64) W ok A0 x.f0.length x.f0 ∧ x.f1.length ≤ c1 ∧ Kd.F (Kd.int .i64) W ok A1 x.f1.length x.f1 := by
  obtain ⟨A0, c0, A1, c1, rfl, l0, _, l1, _⟩ := k66_open (Kd.FK_now h);exact ⟨A0, c0, A1, c1, rfl, l0, (fun W' hW => by obtain ⟨A0_, c0_, A1_, c1_, he, l0_, g0_, l1_, g1_⟩ := k66_open (h W' hW); injection (qqI (show some (Value.slice A0 x.f0.length c0) = some (Value.slice A0_ x.f0.length c0_) from congrArg (fun l => l[0]?) he)) with ha_ _ _; rw [ha_]; exact g0_), l1, (fun W' hW => by obtain ⟨A0_, c0_, A1_, c1_, he, l0_, g0_, l1_, g1_⟩ := k66_open (h W' hW); injection (qqI (show some (Value.slice A1 x.f1.length c1) = some (Value.slice A1_ x.f1.length c1_) from congrArg (fun l => l[1]?) he)) with ha_ _ _; rw [ha_]; exact g1_)⟩
theorem k66_mkF (W : World) (ok : Nat → Prop) (x : S66) {A0 : Option Addr} {c0 : Nat} (l0 : x.f0.length ≤ c0) (g0 : Kd.F (Kd.int .i64) W ok A0 x.f0.length x.f0) {A1 : Option Addr} {c1 : Nat} (l1 : x.f1.length ≤ c1) (g1 : Kd.F (Kd.int .i64) W ok A1 x.f1.length x.f1) : Kd.FK k66 W ok x [.slice A0 x.f0.length c0, .slice A1 x.f1.length c1] := fun W2 hW => k66_mk W2 x l0 (g0 W2 hW) l1 (g1 W2 hW)
def rd_T66 (xs : List S66) (i : Int) : S66 := xs.getD i.toNat z66
theorem at_T66 {w : World} {A : Option Addr} {n : Nat} {xs : List S66} (h : Kd.C k66 w A n xs) (i : Int) (h0 : 0 ≤ i) (h1 : i < n) : ∃ ad A0 c0 A1 c1, A = some ad ∧ w.cell? (ad.add (i.toNat * 2)) = some (.slice A0 (rd_T66 xs i).f0.length c0) ∧ w.cell? ⟨(ad.add (i.toNat * 2)).block, (ad.add (i.toNat * 2)).off + 1, none⟩ = some (.slice A1 (rd_T66 xs i).f1.length c1) ∧ (rd_T66 xs i).f0.length ≤ c0 ∧ (Kd.int .i64).C w A0 (rd_T66 xs i).f0.length (rd_T66 xs i).f0 ∧ (rd_T66 xs i).f1.length ≤ c1 ∧ (Kd.int .i64).C w A1 (rd_T66 xs i).f1.length (rd_T66 xs i).f1 := by
  obtain ⟨ad, c, e, _, hK, hc0⟩ := Kd.C_get h z66 i h0 h1;have hc : ∀ j u, c[j]? = some u → w.cell? (ad.add (i.toNat * 2 + j)) = some u := hc0;obtain ⟨A0, c0, A1, c1, rfl, l0, g0, l1, g1⟩ := k66_open hK;exact ⟨ad, A0, c0, A1, c1, e, hc 0 _ rfl, by rw [← add_field _ _ 1 (by omega)]; exact hc 1 _ rfl, l0, g0, l1, g1⟩
def rd_L7 (xs : List (List S64)) (i : Int) : (List S64) := xs.getD i.toNat ([] : List S64)
theorem at_L7 {w : World} {A : Option Addr} {n : Nat} {xs : List (List S64)} (h : Kd.C (Kd.slice 64 k64) w A n xs) (i : Int) (h0 : 0 ≤ i) (h1 : i < n) : ∃ ad A0 c0, A = some ad ∧ w.cell? (ad.add i.toNat) = some (.slice A0 (rd_L7 xs i).length c0) ∧ (rd_L7 xs i).length ≤ c0 ∧ k64.C w A0 (rd_L7 xs i).length (rd_L7 xs i) := by
  obtain ⟨ad, c, e, _, hK, hc0⟩ := Kd.C_get h ([] : List S64) i h0 h1;have hc : ∀ j u, c[j]? = some u → w.cell? (ad.add (i.toNat * 1 + j)) = some u := hc0;obtain ⟨A0, c0, rfl, l0, g0⟩ := hK;exact ⟨ad, A0, c0, e, by have hq := hc 0 _ rfl; rwa [Nat.mul_one, Nat.add_zero] at hq, l0, g0⟩
def rd_L8 (xs : List (List S61)) (i : Int) : (List S61) := xs.getD i.toNat ([] : List S61)
theorem at_L8 {w : World} {A : Option Addr} {n : Nat} {xs : List (List S61)} (h : Kd.C (Kd.slice 61 k61) w A n xs) (i : Int) (h0 : 0 ≤ i) (h1 : i < n) : ∃ ad A0 c0, A = some ad ∧ w.cell? (ad.add i.toNat) = some (.slice A0 (rd_L8 xs i).length c0) ∧ (rd_L8 xs i).length ≤ c0 ∧ k61.C w A0 (rd_L8 xs i).length (rd_L8 xs i) := by
  obtain ⟨ad, c, e, _, hK, hc0⟩ := Kd.C_get h ([] : List S61) i h0 h1;have hc : ∀ j u, c[j]? = some u → w.cell? (ad.add (i.toNat * 1 + j)) = some u := hc0;obtain ⟨A0, c0, rfl, l0, g0⟩ := hK;exact ⟨ad, A0, c0, e, by have hq := hc 0 _ rfl; rwa [Nat.mul_one, Nat.add_zero] at hq, l0, g0⟩
def rd_L9 (xs : List (List S66)) (i : Int) : (List S66) := xs.getD i.toNat ([] : List S66)
theorem at_L9 {w : World} {A : Option Addr} {n : Nat} {xs : List (List S66)} (h : Kd.C (Kd.slice 66 k66) w A n xs) (i : Int) (h0 : 0 ≤ i) (h1 : i < n) : ∃ ad A0 c0, A = some ad ∧ w.cell? (ad.add i.toNat) = some (.slice A0 (rd_L9 xs i).length c0) ∧ (rd_L9 xs i).length ≤ c0 ∧ k66.C w A0 (rd_L9 xs i).length (rd_L9 xs i) := by
  obtain ⟨ad, c, e, _, hK, hc0⟩ := Kd.C_get h ([] : List S66) i h0 h1;have hc : ∀ j u, c[j]? = some u → w.cell? (ad.add (i.toNat * 1 + j)) = some u := hc0;obtain ⟨A0, c0, rfl, l0, g0⟩ := hK;exact ⟨ad, A0, c0, e, by have hq := hc 0 _ rfl; rwa [Nat.mul_one, Nat.add_zero] at hq, l0, g0⟩
structure S26 where
  f0 : (List S64)
  f1 : (List S61)
  f2 : (List S66)
def z26 : S26 := ⟨([] : List S64), ([] : List S61), ([] : List S66)⟩
def k26 : Kd S26 := Kd.iso (Kd.pair (Kd.slice 64 k64) (Kd.pair (Kd.slice 61 k61) (Kd.slice 66 k66))) (fun x : S26 => (x.f0, x.f1, x.f2))
theorem k26_open {w : World} {x : S26} {cs : List Value} (h : k26.K w x cs) : ∃ A0 c0 A1 c1 A2 c2, cs = [.slice A0 x.f0.length c0, .slice A1 x.f1.length c1, .slice A2 x.f2.length c2] ∧ x.f0.length ≤ c0 ∧ k64.C w A0 x.f0.length x.f0 ∧ x.f1.length ≤ c1 ∧ k61.C w A1 x.f1.length x.f1 ∧ x.f2.length ≤ c2 ∧ k66.C w A2 x.f2.length x.f2 := by
  obtain ⟨_, _, rfl, ⟨A0, c0, rfl, l0, g0⟩, ⟨_, _, rfl, ⟨A1, c1, rfl, l1, g1⟩, ⟨A2, c2, rfl, l2, g2⟩⟩⟩ := h;exact ⟨A0, c0, A1, c1, A2, c2, rfl, l0, g0, l1, g1, l2, g2⟩
theorem k26_openM {w : World} {base : Nat} {ok : Nat → Prop} {x : S26} {cs : List Value} (h : k26.M w base ok x cs) : ∃ v0 v1 v2, cs = [v0, v1, v2] ∧ k64.R 64 w base ok v0 x.f0 ∧ k61.R 61 w base ok v1 x.f1 ∧ k66.R 66 w base ok v2 x.f2 := by
  obtain ⟨_, _, rfl, ⟨v0, rfl, g0⟩, ⟨_, _, rfl, ⟨v1, rfl, g1⟩, ⟨v2, rfl, g2⟩⟩⟩ := h;exact ⟨v0, v1, v2, rfl, g0, g1, g2⟩
theorem k26_mk (w : World) (x : S26) {A0 : Option Addr} {c0 : Nat} (l0 : x.f0.length ≤ c0) (g0 : k64.C w A0 x.f0.length x.f0) {A1 : Option Addr} {c1 : Nat} (l1 : x.f1.length ≤ c1) (g1 : k61.C w A1 x.f1.length x.f1) {A2 : Option Addr} {c2 : Nat} (l2 : x.f2.length ≤ c2) (g2 : k66.C w A2 x.f2.length x.f2) : k26.K w x [.slice A0 x.f0.length c0, .slice A1 x.f1.length c1, .slice A2 x.f2.length c2] := ⟨[.slice A0 x.f0.length c0], [.slice A1 x.f1.length c1, .slice A2 x.f2.length c2], rfl, ⟨A0, c0, rfl, l0, g0⟩, ⟨[.slice A1 x.f1.length c1], [.slice A2 x.f2.length c2], rfl, ⟨A1, c1, rfl, l1, g1⟩, ⟨A2, c2, rfl, l2, g2⟩⟩⟩
theorem k26_mkM (w : World) (base : Nat) (ok : Nat → Prop) (x : S26) {v0 : Value} (g0 : k64.R 64 w base ok v0 x.f0) {v1 : Value} (g1 : k61.R 61 w base ok v1 x.f1) {v2 : Value} (g2 : k66.R 66 w base ok v2 x.f2) : k26.M w base ok x [v0, v1, v2] := ⟨[v0], [v1, v2], rfl, ⟨v0, rfl, g0⟩, ⟨[v1], [v2], rfl, ⟨v1, rfl, g1⟩, ⟨v2, rfl, g2⟩⟩⟩
theorem k26_openF {W : World} {ok : Nat → Prop} {x : S26} {cs : List Value} (h : Kd.FK k26 W ok x cs) : ∃ A0 c0 A1 c1 A2 c2, cs = [.slice A0 x.f0.length c0, .slice A1 x.f1.length c1, .slice A2 x.f2.length c2] ∧ x.f0.length ≤ c0 ∧ Kd.F k64 W ok A0 x.f0.length x.f0 ∧ x.f1.length ≤ c1 ∧ Kd.F k61 W ok A1 x.f1.length x.f1 ∧ x.f2.length ≤ c2 ∧ Kd.F k66 W ok A2 x.f2.length x.f2 := by
  obtain ⟨A0, c0, A1, c1, A2, c2, rfl, l0, _, l1, _, l2, _⟩ := k26_open (Kd.FK_now h);exact ⟨A0, c0, A1, c1, A2, c2, rfl, l0, (fun W' hW => by obtain ⟨A0_, c0_, A1_, c1_, A2_, c2_, he, l0_, g0_, l1_, g1_, l2_, g2_⟩ := k26_open (h W' hW); injection (qqI (show some (Value.slice A0 x.f0.length c0) = some (Value.slice A0_ x.f0.length c0_) from congrArg (fun l => l[0]?) he)) with ha_ _ _; rw [ha_]; exact g0_), l1, (fun W' hW => by obtain ⟨A0_, c0_, A1_, c1_, A2_, c2_, he, l0_, g0_, l1_, g1_, l2_, g2_⟩ := k26_open (h W' hW); injection (qqI (show some (Value.slice A1 x.f1.length c1) = some (Value.slice A1_ x.f1.length c1_) from congrArg (fun l => l[1]?) he)) with ha_ _ _; rw [ha_]; exact g1_), l2, (fun W' hW => by obtain ⟨A0_, c0_, A1_, c1_, A2_, c2_, he, l0_, g0_, l1_, g1_, l2_, g2_⟩ := k26_open (h W' hW); injection (qqI (show some (Value.slice A2 x.f2.length c2) = some (Value.slice A2_ x.f2.length c2_) from congrArg (fun l => l[2]?) he)) with ha_ _ _; rw [ha_]; exact g2_)⟩
theorem k26_mkF (W : World) (ok : Nat → Prop) (x : S26) {A0 : Option Addr} {c0 : Nat} (l0 : x.f0.length ≤ c0) (g0 : Kd.F k64 W ok A0 x.f0.length x.f0) {A1 : Option Addr} {c1 : Nat} (l1 : x.f1.length ≤ c1) (g1 : Kd.F k61 W ok A1 x.f1.length x.f1) {A2 : Option Addr} {c2 : Nat} (l2 : x.f2.length ≤ c2) (g2 : Kd.F k66 W ok A2 x.f2.length x.f2) : Kd.FK k26 W ok x [.slice A0 x.f0.length c0, .slice A1 x.f1.length c1, .slice A2 x.f2.length c2] := fun W2 hW => k26_mk W2 x l0 (g0 W2 hW) l1 (g1 W2 hW) l2 (g2 W2 hW)
def rd_T26 (xs : List S26) (i : Int) : S26 := xs.getD i.toNat z26
theorem at_T26 {w : World} {A : Option Addr} {n : Nat} {xs : List S26} (h : Kd.C k26 w A n xs) (i : Int) (h0 : 0 ≤ i) (h1 : i < n) : ∃ ad A0 c0 A1 c1 A2 c2, A = some ad ∧ w.cell? (ad.add (i.toNat * 3)) = some (.slice A0 (rd_T26 xs i).f0.length c0) ∧ w.cell? ⟨(ad.add (i.toNat * 3)).block, (ad.add (i.toNat * 3)).off + 1, none⟩ = some (.slice A1 (rd_T26 xs i).f1.length c1) ∧ w.cell? ⟨(ad.add (i.toNat * 3)).block, (ad.add (i.toNat * 3)).off + 2, none⟩ = some (.slice A2 (rd_T26 xs i).f2.length c2) ∧ (rd_T26 xs i).f0.length ≤ c0 ∧ k64.C w A0 (rd_T26 xs i).f0.length (rd_T26 xs i).f0 ∧ (rd_T26 xs i).f1.length ≤ c1 ∧ k61.C w A1 (rd_T26 xs i).f1.length (rd_T26 xs i).f1 ∧ (rd_T26 xs i).f2.length ≤ c2 ∧ k66.C w A2 (rd_T26 xs i).f2.length (rd_T26 xs i).f2 := by
  obtain ⟨ad, c, e, _, hK, hc0⟩ := Kd.C_get h z26 i h0 h1;have hc : ∀ j u, c[j]? = some u → w.cell? (ad.add (i.toNat * 3 + j)) = some u := hc0;obtain ⟨A0, c0, A1, c1, A2, c2, rfl, l0, g0, l1, g1, l2, g2⟩ := k26_open hK;exact ⟨ad, A0, c0, A1, c1, A2, c2, e, hc 0 _ rfl, by rw [← add_field _ _ 1 (by omega)]; exact hc 1 _ rfl, by rw [← add_field _ _ 2 (by omega)]; exact hc 2 _ rfl, l0, g0, l1, g1, l2, g2⟩
def rd_L11 (xs : List (List S26)) (i : Int) : (List S26) := xs.getD i.toNat ([] : List S26)
theorem at_L11 {w : World} {A : Option Addr} {n : Nat} {xs : List (List S26)} (h : Kd.C (Kd.slice 26 k26) w A n xs) (i : Int) (h0 : 0 ≤ i) (h1 : i < n) : ∃ ad A0 c0, A = some ad ∧ w.cell? (ad.add i.toNat) = some (.slice A0 (rd_L11 xs i).length c0) ∧ (rd_L11 xs i).length ≤ c0 ∧ k26.C w A0 (rd_L11 xs i).length (rd_L11 xs i) := by
  obtain ⟨ad, c, e, _, hK, hc0⟩ := Kd.C_get h ([] : List S26) i h0 h1;have hc : ∀ j u, c[j]? = some u → w.cell? (ad.add (i.toNat * 1 + j)) = some u := hc0;obtain ⟨A0, c0, rfl, l0, g0⟩ := hK;exact ⟨ad, A0, c0, e, by have hq := hc 0 _ rfl; rwa [Nat.mul_one, Nat.add_zero] at hq, l0, g0⟩
def rd_L12 (xs : List (List Int)) (i : Int) : (List Int) := xs.getD i.toNat ([] : List Int)
theorem at_L12 {w : World} {A : Option Addr} {n : Nat} {xs : List (List Int)} (h : Kd.C (Kd.slice 34 (Kd.int .u64)) w A n xs) (i : Int) (h0 : 0 ≤ i) (h1 : i < n) : ∃ ad A0 c0, A = some ad ∧ w.cell? (ad.add i.toNat) = some (.slice A0 (rd_L12 xs i).length c0) ∧ (rd_L12 xs i).length ≤ c0 ∧ (Kd.int .u64).C w A0 (rd_L12 xs i).length (rd_L12 xs i) := by
  obtain ⟨ad, c, e, _, hK, hc0⟩ := Kd.C_get h ([] : List Int) i h0 h1;have hc : ∀ j u, c[j]? = some u → w.cell? (ad.add (i.toNat * 1 + j)) = some u := hc0;obtain ⟨A0, c0, rfl, l0, g0⟩ := hK;exact ⟨ad, A0, c0, e, by have hq := hc 0 _ rfl; rwa [Nat.mul_one, Nat.add_zero] at hq, l0, g0⟩
structure S89 where
  f0 : (List Int)
  f1 : (List Int)
def z89 : S89 := ⟨([] : List Int), ([] : List Int)⟩
def k89 : Kd S89 := Kd.iso (Kd.pair (Kd.slice 3 (Kd.int .i64)) (Kd.slice 34 (Kd.int .u64))) (fun x : S89 => (x.f0, x.f1))
theorem k89_open {w : World} {x : S89} {cs : List Value} (h : k89.K w x cs) : ∃ A0 c0 A1 c1, cs = [.slice A0 x.f0.length c0, .slice A1 x.f1.length c1] ∧ x.f0.length ≤ c0 ∧ (Kd.int .i64).C w A0 x.f0.length x.f0 ∧ x.f1.length ≤ c1 ∧ (Kd.int .u64).C w A1 x.f1.length x.f1 := by
  obtain ⟨_, _, rfl, ⟨A0, c0, rfl, l0, g0⟩, ⟨A1, c1, rfl, l1, g1⟩⟩ := h;exact ⟨A0, c0, A1, c1, rfl, l0, g0, l1, g1⟩
theorem k89_openM {w : World} {base : Nat} {ok : Nat → Prop} {x : S89} {cs : List Value} (h : k89.M w base ok x cs) : ∃ v0 v1, cs = [v0, v1] ∧ (Kd.int .i64).R 3 w base ok v0 x.f0 ∧ (Kd.int .u64).R 34 w base ok v1 x.f1 := by
  obtain ⟨_, _, rfl, ⟨v0, rfl, g0⟩, ⟨v1, rfl, g1⟩⟩ := h;exact ⟨v0, v1, rfl, g0, g1⟩
theorem k89_mk (w : World) (x : S89) {A0 : Option Addr} {c0 : Nat} (l0 : x.f0.length ≤ c0) (g0 : (Kd.int .i64).C w A0 x.f0.length x.f0) {A1 : Option Addr} {c1 : Nat} (l1 : x.f1.length ≤ c1) (g1 : (Kd.int .u64).C w A1 x.f1.length x.f1) : k89.K w x [.slice A0 x.f0.length c0, .slice A1 x.f1.length c1] := ⟨[.slice A0 x.f0.length c0], [.slice A1 x.f1.length c1], rfl, ⟨A0, c0, rfl, l0, g0⟩, ⟨A1, c1, rfl, l1, g1⟩⟩
theorem k89_mkM (w : World) (base : Nat) (ok : Nat → Prop) (x : S89) {v0 : Value} (g0 : (Kd.int .i64).R 3 w base ok v0 x.f0) {v1 : Value} (g1 : (Kd.int .u64).R 34 w base ok v1 x.f1) : k89.M w base ok x [v0, v1] := ⟨[v0], [v1], rfl, ⟨v0, rfl, g0⟩, ⟨v1, rfl, g1⟩⟩
theorem k89_openF {W : World} {ok : Nat → Prop} {x : S89} {cs : List Value} (h : Kd.FK k89 W ok x cs) : ∃ A0 c0 A1 c1, cs = [.slice A0 x.f0.length c0, .slice A1 x.f1.length c1] ∧ x.f0.length ≤ c0 ∧ Kd.F (Kd.int .i64) W ok A0 x.f0.length x.f0 ∧ x.f1.length ≤ c1 ∧ Kd.F (Kd.int .u64) W ok A1 x.f1.length x.f1 := by
  obtain ⟨A0, c0, A1, c1, rfl, l0, _, l1, _⟩ := k89_open (Kd.FK_now h);exact ⟨A0, c0, A1, c1, rfl, l0, (fun W' hW => by obtain ⟨A0_, c0_, A1_, c1_, he, l0_, g0_, l1_, g1_⟩ := k89_open (h W' hW); injection (qqI (show some (Value.slice A0 x.f0.length c0) = some (Value.slice A0_ x.f0.length c0_) from congrArg (fun l => l[0]?) he)) with ha_ _ _; rw [ha_]; exact g0_), l1, (fun W' hW => by obtain ⟨A0_, c0_, A1_, c1_, he, l0_, g0_, l1_, g1_⟩ := k89_open (h W' hW); injection (qqI (show some (Value.slice A1 x.f1.length c1) = some (Value.slice A1_ x.f1.length c1_) from congrArg (fun l => l[1]?) he)) with ha_ _ _; rw [ha_]; exact g1_)⟩
theorem k89_mkF (W : World) (ok : Nat → Prop) (x : S89) {A0 : Option Addr} {c0 : Nat} (l0 : x.f0.length ≤ c0) (g0 : Kd.F (Kd.int .i64) W ok A0 x.f0.length x.f0) {A1 : Option Addr} {c1 : Nat} (l1 : x.f1.length ≤ c1) (g1 : Kd.F (Kd.int .u64) W ok A1 x.f1.length x.f1) : Kd.FK k89 W ok x [.slice A0 x.f0.length c0, .slice A1 x.f1.length c1] := fun W2 hW => k89_mk W2 x l0 (g0 W2 hW) l1 (g1 W2 hW)
def rd_T89 (xs : List S89) (i : Int) : S89 := xs.getD i.toNat z89
theorem at_T89 {w : World} {A : Option Addr} {n : Nat} {xs : List S89} (h : Kd.C k89 w A n xs) (i : Int) (h0 : 0 ≤ i) (h1 : i < n) : ∃ ad A0 c0 A1 c1, A = some ad ∧ w.cell? (ad.add (i.toNat * 2)) = some (.slice A0 (rd_T89 xs i).f0.length c0) ∧ w.cell? ⟨(ad.add (i.toNat * 2)).block, (ad.add (i.toNat * 2)).off + 1, none⟩ = some (.slice A1 (rd_T89 xs i).f1.length c1) ∧ (rd_T89 xs i).f0.length ≤ c0 ∧ (Kd.int .i64).C w A0 (rd_T89 xs i).f0.length (rd_T89 xs i).f0 ∧ (rd_T89 xs i).f1.length ≤ c1 ∧ (Kd.int .u64).C w A1 (rd_T89 xs i).f1.length (rd_T89 xs i).f1 := by
  obtain ⟨ad, c, e, _, hK, hc0⟩ := Kd.C_get h z89 i h0 h1;have hc : ∀ j u, c[j]? = some u → w.cell? (ad.add (i.toNat * 2 + j)) = some u := hc0;obtain ⟨A0, c0, A1, c1, rfl, l0, g0, l1, g1⟩ := k89_open hK;exact ⟨ad, A0, c0, A1, c1, e, hc 0 _ rfl, by rw [← add_field _ _ 1 (by omega)]; exact hc 1 _ rfl, l0, g0, l1, g1⟩
def rd_L14 (xs : List (List (List Int))) (i : Int) : (List (List Int)) := xs.getD i.toNat ([] : List (List Int))
theorem at_L14 {w : World} {A : Option Addr} {n : Nat} {xs : List (List (List Int))} (h : Kd.C (Kd.slice 27 (Kd.slice 3 (Kd.int .i64))) w A n xs) (i : Int) (h0 : 0 ≤ i) (h1 : i < n) : ∃ ad A0 c0, A = some ad ∧ w.cell? (ad.add i.toNat) = some (.slice A0 (rd_L14 xs i).length c0) ∧ (rd_L14 xs i).length ≤ c0 ∧ (Kd.slice 3 (Kd.int .i64)).C w A0 (rd_L14 xs i).length (rd_L14 xs i) := by
  obtain ⟨ad, c, e, _, hK, hc0⟩ := Kd.C_get h ([] : List (List Int)) i h0 h1;have hc : ∀ j u, c[j]? = some u → w.cell? (ad.add (i.toNat * 1 + j)) = some u := hc0;obtain ⟨A0, c0, rfl, l0, g0⟩ := hK;exact ⟨ad, A0, c0, e, by have hq := hc 0 _ rfl; rwa [Nat.mul_one, Nat.add_zero] at hq, l0, g0⟩
end Go.Proofs.Ytmlbliggbkfjnaa.J
/- Facts about memory carried on over a step, with the small proofs that are always alike as default arguments: so that the contracts' texts stay short. -/
namespace Go.Proofs.Ytmlbliggbkfjnaa.J
open Go.RowKit Go.Proofs.YtmlbliggbkfjnaaW.PrintWords Go.Proofs.YtmlbliggbkfjnaaW.PrintLast Go.Proofs.YtmlbliggbkfjnaaW.PrintMore
theorem od {p : Prop} [Decidable p] (h : decide p = true := by first | (with_reducible assumption) | assumption) : p := of_decide_eq_true h
theorem ifF {α : Type} {a b c : α} (h : (if false = true then a else b) = c) : b = c := h
theorem ifT {α : Type} {a b c : α} (h : (if true = true then a else b) = c) : a = c := h
theorem er {p : Prop} (h : p := by first | rfl | (simp [errW_none, errW_some] <;> rfl) | (simp [*, errW_none, errW_some] <;> rfl)) : p := h
theorem et {p : Prop} (h : p := by first | rfl | (simp; done) | (simp [*]; done)) : p := h
theorem am {p : Prop} (h : p) : Aside0 p := ⟨h⟩
section
variable {w w0 w1 W W0 W1 : World} {g g' : Nat} {o o' : Obj}
theorem blk_farO {x : Option Obj} (h : w.heap[g]? = x) {p : Addr} (hp : g ≠ p.block) (u : Value) : (w.setCell p u).heap[g]? = x := (Below.heap_setCell w p u g hp).trans h
theorem kU (h : Aside0 (w.heap[g]? = some o)) (hb : Below w0.heap.size w0 w1) (r : w.heap[g]? = some o → w0.heap[g]? = some o := by
    intro h; (with_reducible repeat (first | exact h | refine blk_drewN ?_ _ | refine blk_drew ?_ | refine blk_alloc ?_ _ | refine blk_farO ?_ (Aside0.out (by assumption)) _)); (try exact h)) : Aside0 (w1.heap[g]? = some o) := ⟨blk_below (r h.out) hb⟩
theorem blk_setT {t : TypeId} {cs : Array Value} {x : Option Obj} (h : w.heap[g]? = some (.cells cs t (0, 0))) (i : Nat) (u : Value) (e : some (.cells (cs.setIfInBounds i u) t (0, 0)) = x) : (w.setCell ⟨g, i, none⟩ u).heap[g]? = x := (blk_set h i u).trans e
theorem kO (h : Aside0 (w.heap[g]? = some o)) (hb : Below w0.heap.size w0 w1) (r : w.heap[g]? = some o → w0.heap[g]? = some o' := by
    intro h; (with_reducible repeat (first | exact h | refine blk_drewN ?_ _ | refine blk_drew ?_ | refine blk_alloc ?_ _ | refine blk_farO ?_ (Aside0.out (by assumption)) _ | apply blk_setT)); (try exact h); all_goals rfl) : Aside0 (w1.heap[g]? = some o') := ⟨blk_below (r h.out) hb⟩
theorem kb (h : Aside0 (w.heap[g]? = some o)) (r : w.heap[g]? = some o → w0.heap[g]? = some o := by
    intro h; (with_reducible repeat first | exact h | refine blk_drewN ?_ _ | refine blk_drew ?_ | refine blk_alloc ?_ _); (try exact h)) : w0.heap[g]? = some o := r h.out
theorem kg (h : Aside0 (w.heap[g]? = some o)) (r : w.heap[g]? = some o → w0.heap[g]? = some o' := by
    intro h; (with_reducible repeat (first | exact h | refine blk_drewN ?_ _ | refine blk_drew ?_ | refine blk_alloc ?_ _ | refine blk_farO ?_ (Aside0.out (by assumption)) _ | apply blk_setT)); (try exact h); all_goals rfl) : w0.heap[g]? = some o' := r h.out
theorem kP (h : Aside0 (w.heap[g]? = some o)) (hg : g' = w0.heap.size) (r : w.heap[g]? = some o → w0.heap[g]? = some o := by
    intro h; (with_reducible repeat (first | exact h | refine blk_drewN ?_ _ | refine blk_drew ?_ | refine blk_alloc ?_ _ | refine blk_farO ?_ (Aside0.out (by assumption)) _)); (try exact h)) : Aside0 (g ≠ g') := ⟨by rw [hg]; exact Nat.ne_of_lt (blk_lt (r h.out))⟩
theorem kQ (h : Aside0 (w.heap[g]? = some o)) (hg : g' = w0.heap.size) (r : w.heap[g]? = some o → w0.heap[g]? = some o := by
    intro h; (with_reducible repeat (first | exact h | refine blk_drewN ?_ _ | refine blk_drew ?_ | refine blk_alloc ?_ _ | refine blk_farO ?_ (Aside0.out (by assumption)) _)); (try exact h)) : Aside0 (g' ≠ g) := ⟨by rw [hg]; exact Nat.ne_of_gt (blk_lt (r h.out))⟩
theorem kD (h : Aside0 (w.heap[g]? = some o)) : Aside0 (w.drew.heap[g]? = some o) := ⟨blk_drew h.out⟩
theorem kh (h : Aside0 (Below w.heap.size w W)) (r : Below w.heap.size w W → Below w.heap.size w W0 := by
    intro h; repeat (first | (with_reducible first | exact h | apply below_alloc | apply pw_below_drewN | apply below_drew1 | refine below_set ?_ (Aside0.out (by assumption))) | exact h)) : Below w.heap.size w W0 := r h.out
theorem kH (h : Aside0 (Below w.heap.size w W)) (hb : Below W0.heap.size W0 W1) (r : Below w.heap.size w W → Below w.heap.size w W0 := by
    intro h; repeat (first | (with_reducible first | exact h | apply below_alloc | apply pw_below_drewN | apply below_drew1 | refine below_set ?_ (Aside0.out (by assumption))) | exact h)) : Aside0 (Below w.heap.size w W1) := ⟨below_step (r h.out) hb⟩
theorem kG (h : Aside0 (Below w.heap.size w W)) (hg : g = W0.heap.size) (r : Below w.heap.size w W → Below w.heap.size w W0 := by
    intro h; repeat (first | (with_reducible first | exact h | apply below_alloc | apply pw_below_drewN | apply below_drew1 | refine below_set ?_ (Aside0.out (by assumption))) | exact h)) : Aside0 (w.heap.size ≤ g) := ⟨by rw [hg]; exact below_size (r h.out)⟩
theorem kE {n : Nat} (h : Aside0 (Below n w W)) : Aside0 (Below n w W.drew) := ⟨below_drew1 h.out⟩
variable {α : Type} {d : Kd α} {e base : Nat} {ok : Nat → Prop} {v : Value} {xs : List α} {A : Option Addr} {n b' : Nat}
theorem kR (h : Aside0 (d.R e w base ok v xs)) (hb : Below w0.heap.size w0 w1) (r : d.R e w base ok v xs → d.R e w0 base ok v xs := by
    intro h; (with_reducible repeat first | exact h | apply Kd.R_alloc | apply Kd.R_drewN | apply Kd.R_drew); (try exact h)) : Aside0 (d.R e w1 base ok v xs) := ⟨Kd.R_below (r h.out) hb⟩
theorem kN (h : Aside0 (d.N e w base ok v xs)) (hb : Below w0.heap.size w0 w1) (r : d.N e w base ok v xs → d.N e w0 base ok v xs := by
    intro h; (with_reducible repeat first | exact h | apply Kd.N_alloc | apply Kd.N_drewN | apply Kd.N_drew); (try exact h)) : Aside0 (d.N e w1 base ok v xs) := ⟨Kd.N_below (r h.out) hb⟩
theorem kS (h : Aside0 (d.S e w base ok v xs)) (hb : Below w0.heap.size w0 w1) (r : d.S e w base ok v xs → d.S e w0 base ok v xs := by
    intro h; (with_reducible repeat first | exact h | apply Kd.S_alloc | apply Kd.S_drewN | apply Kd.S_drew); (try exact h)) : Aside0 (d.S e w1 base ok v xs) := ⟨Kd.S_below (r h.out) hb⟩
theorem krR (h : Aside0 (d.R e w base ok v xs)) (r : d.R e w base ok v xs → d.R e w0 base ok v xs := by
    intro h; (with_reducible repeat first | exact h | apply Kd.R_alloc | apply Kd.R_drewN | apply Kd.R_drew); (try exact h)) : d.R e w0 base ok v xs := r h.out
theorem kV (h : Aside0 (d.V e w base ok v xs)) (hb : Below w0.heap.size w0 w1) (r : d.V e w base ok v xs → d.V e w0 base ok v xs := by
    intro h; (with_reducible repeat first | exact h | apply Kd.V_alloc | apply Kd.V_drewN | apply Kd.V_drew); (try exact h)) : Aside0 (d.V e w1 base ok v xs) := ⟨Kd.V_below (r h.out) hb⟩
theorem krV (h : Aside0 (d.V e w base ok v xs)) (r : d.V e w base ok v xs → d.V e w0 base ok v xs := by
    intro h; (with_reducible repeat first | exact h | apply Kd.V_alloc | apply Kd.V_drewN | apply Kd.V_drew); (try exact h)) : d.V e w0 base ok v xs := r h.out
theorem krN (h : Aside0 (d.N e w base ok v xs)) (r : d.N e w base ok v xs → d.N e w0 base ok v xs := by
    intro h; (with_reducible repeat first | exact h | apply Kd.N_alloc | apply Kd.N_drewN | apply Kd.N_drew); (try exact h)) : d.N e w0 base ok v xs := r h.out
theorem krS (h : Aside0 (d.S e w base ok v xs)) (r : d.S e w base ok v xs → d.S e w0 base ok v xs := by
    intro h; (with_reducible repeat first | exact h | apply Kd.S_alloc | apply Kd.S_drewN | apply Kd.S_drew); (try exact h)) : d.S e w0 base ok v xs := r h.out
theorem kLR (h : d.R e W1 b' ok v xs) (hb : Aside0 (Below w.heap.size w W)) (eb : b' = W0.heap.size := by rfl) (r : Below w.heap.size w W → Below w.heap.size w W0 := by
    intro h; repeat (first | (with_reducible first | exact h | apply below_alloc | apply pw_below_drewN | apply below_drew1 | refine below_set ?_ (Aside0.out (by assumption))) | exact h)) : Aside0 (d.R e W1 w.heap.size ok v xs) := ⟨Kd.R_lower h (eb ▸ below_size (r hb.out))⟩
theorem kLN (h : d.N e W1 b' ok v xs) (hb : Aside0 (Below w.heap.size w W)) (eb : b' = W0.heap.size := by rfl) (r : Below w.heap.size w W → Below w.heap.size w W0 := by
    intro h; repeat (first | (with_reducible first | exact h | apply below_alloc | apply pw_below_drewN | apply below_drew1 | refine below_set ?_ (Aside0.out (by assumption))) | exact h)) : Aside0 (d.N e W1 w.heap.size ok v xs) := ⟨Kd.N_lower h (eb ▸ below_size (r hb.out))⟩
theorem kLS (h : d.S e W1 b' ok v xs) (hb : Aside0 (Below w.heap.size w W)) (eb : b' = W0.heap.size := by rfl) (r : Below w.heap.size w W → Below w.heap.size w W0 := by
    intro h; repeat (first | (with_reducible first | exact h | apply below_alloc | apply pw_below_drewN | apply below_drew1 | refine below_set ?_ (Aside0.out (by assumption))) | exact h)) : Aside0 (d.S e W1 w.heap.size ok v xs) := ⟨Kd.S_lower h (eb ▸ below_size (r hb.out))⟩
theorem kFR (h : Aside0 (d.R e w base ok v xs)) : Aside0 (d.R e w.drew base ok v xs) := ⟨Kd.R_drew h.out⟩
theorem kFV (h : Aside0 (d.V e w base ok v xs)) : Aside0 (d.V e w.drew base ok v xs) := ⟨Kd.V_drew h.out⟩
theorem kFN (h : Aside0 (d.N e w base ok v xs)) : Aside0 (d.N e w.drew base ok v xs) := ⟨Kd.N_drew h.out⟩
theorem kFS (h : Aside0 (d.S e w base ok v xs)) : Aside0 (d.S e w.drew base ok v xs) := ⟨Kd.S_drew h.out⟩
theorem kFC (h : Aside0 (d.C w A n xs)) : Aside0 (d.C w.drew A n xs) := ⟨Kd.C_drew h.out⟩
theorem kc (h : Aside0 (d.C w A n xs)) (r : d.C w A n xs → d.C w0 A n xs := by
    intro h; repeat (first | (with_reducible exact h) | (with_reducible first | refine Kd.C_alloc ?_ _ | refine Kd.C_drewN ?_ _ | refine Kd.C_drew ?_) | exact h)) : d.C w0 A n xs := r h.out
theorem kC (h : Aside0 (d.C w A n xs)) (hb : Below w0.heap.size w0 w1) (r : d.C w A n xs → d.C w0 A n xs := by
    intro h; repeat (first | (with_reducible exact h) | (with_reducible first | refine Kd.C_alloc ?_ _ | refine Kd.C_drewN ?_ _ | refine Kd.C_drew ?_) | exact h)) : Aside0 (d.C w1 A n xs) := ⟨Kd.C_below (r h.out) hb⟩
theorem kt {t : TypeId} {cs : Array Value} (h : Aside0 (d.R e w base ok v xs)) (hb : Aside0 (w.heap[g]? = some (.cells cs t (0, 0)))) (ht : ∀ q, q ∈ e :: d.E → q ≠ t := by decide) (r : d.R e w base (fun k => ok k ∧ k ≠ g) v xs → d.R e w0 base (fun k => ok k ∧ k ≠ g) v xs := by
    intro h; (with_reducible repeat (first | exact h | apply Kd.R_alloc | apply Kd.R_drewN | apply Kd.R_drew | refine Kd.R_far ?_ (fun _ hk => hk.2) _)); (try exact h)) : d.R e w0 base ok v xs := Kd.R_mono (r (Kd.R_types h.out hb.out ht)) (fun _ h_ => h_.1)
theorem ks {t : TypeId} {cs : Array Value} (h : Aside0 (d.S e w base ok v xs)) (hb : Aside0 (w.heap[g]? = some (.cells cs t (0, 0)))) (ht : ∀ q, q ∈ e :: d.E → q ≠ t := by decide) (r : d.S e w base (fun k => ok k ∧ k ≠ g) v xs → d.S e w0 base (fun k => ok k ∧ k ≠ g) v xs := by
    intro h; (with_reducible repeat (first | exact h | apply Kd.S_alloc | apply Kd.S_drewN | apply Kd.S_drew | refine Kd.S_far ?_ (fun _ hk => hk.2) _)); (try exact h)) : d.S e w0 base ok v xs := Kd.S_mono (r (Kd.S_types h.out hb.out ht)) (fun _ h_ => h_.1)
theorem kXR {t : TypeId} {cs : Array Value} {row : Option Nat} (h : Aside0 (w.heap[g]? = some (.cells cs t (0, 0)))) (hR : Aside0 (d.R e w base ok v xs)) (hg : w0.grownBy w1 row) (er : row = v.ownBlock := by rfl) (ht : e ≠ t := by decide) (r : w.heap[g]? = some (.cells cs t (0, 0)) → w0.heap[g]? = some (.cells cs t (0, 0)) := by
    intro h; (with_reducible repeat (first | exact h | refine blk_drewN ?_ _ | refine blk_drew ?_ | refine blk_alloc ?_ _ | refine blk_farO ?_ (Aside0.out (by assumption)) _)); (try exact h)) : Aside0 (w1.heap[g]? = some (.cells cs t (0, 0))) := ⟨blk_grown (r h.out) hg (er ▸ Kd.R_ne hR.out h.out ht)⟩
theorem kXS {t : TypeId} {cs : Array Value} {row : Option Nat} (h : Aside0 (w.heap[g]? = some (.cells cs t (0, 0)))) (hR : Aside0 (d.S e w base ok v xs)) (hg : w0.grownBy w1 row) (er : row = v.ownBlock := by rfl) (ht : e ≠ t := by decide) (r : w.heap[g]? = some (.cells cs t (0, 0)) → w0.heap[g]? = some (.cells cs t (0, 0)) := by
    intro h; (with_reducible repeat (first | exact h | refine blk_drewN ?_ _ | refine blk_drew ?_ | refine blk_alloc ?_ _ | refine blk_farO ?_ (Aside0.out (by assumption)) _)); (try exact h)) : Aside0 (w1.heap[g]? = some (.cells cs t (0, 0))) := ⟨blk_grown (r h.out) hg (er ▸ Kd.S_ne hR.out h.out ht)⟩
end
section
variable {w : World} {g : Nat} {t : TypeId} {a b c d e f : Value}
theorem kz1 (h : Aside0 (w.heap[g]? = some (.cells #[a] t (0, 0)))) : w.cell? ⟨g, 0, none⟩ = some a ∧ w.frozen? ⟨g, 0, none⟩ = false := ⟨blk_cell h.out 0, blk_frozen h.out 0⟩
theorem kz2 (h : Aside0 (w.heap[g]? = some (.cells #[a, b] t (0, 0)))) : w.cell? ⟨g, 0, none⟩ = some a ∧ w.cell? ⟨g, 1, none⟩ = some b ∧ w.frozen? ⟨g, 0, none⟩ = false ∧ w.frozen? ⟨g, 1, none⟩ = false := ⟨blk_cell h.out 0, blk_cell h.out 1, blk_frozen h.out 0, blk_frozen h.out 1⟩
theorem kz3 (h : Aside0 (w.heap[g]? = some (.cells #[a, b, c] t (0, 0)))) : w.cell? ⟨g, 0, none⟩ = some a ∧ w.cell? ⟨g, 1, none⟩ = some b ∧ w.cell? ⟨g, 2, none⟩ = some c ∧ w.frozen? ⟨g, 0, none⟩ = false ∧ w.frozen? ⟨g, 1, none⟩ = false ∧ w.frozen? ⟨g, 2, none⟩ = false := ⟨blk_cell h.out 0, blk_cell h.out 1, blk_cell h.out 2, blk_frozen h.out 0, blk_frozen h.out 1, blk_frozen h.out 2⟩
theorem kz4 (h : Aside0 (w.heap[g]? = some (.cells #[a, b, c, d] t (0, 0)))) : w.cell? ⟨g, 0, none⟩ = some a ∧ w.cell? ⟨g, 1, none⟩ = some b ∧ w.cell? ⟨g, 2, none⟩ = some c ∧ w.cell? ⟨g, 3, none⟩ = some d ∧ w.frozen? ⟨g, 0, none⟩ = false ∧ w.frozen? ⟨g, 1, none⟩ = false ∧ w.frozen? ⟨g, 2, none⟩ = false ∧ w.frozen? ⟨g, 3, none⟩ = false := ⟨blk_cell h.out 0, blk_cell h.out 1, blk_cell h.out 2, blk_cell h.out 3, blk_frozen h.out 0, blk_frozen h.out 1, blk_frozen h.out 2, blk_frozen h.out 3⟩
theorem ky1 (h : Aside0 (w.heap[g]? = some (.cells #[a] t (0, 0)))) : w.cell? ⟨g, 0, none⟩ = some a := blk_cell h.out 0
theorem ky2 (h : Aside0 (w.heap[g]? = some (.cells #[a, b] t (0, 0)))) : w.cell? ⟨g, 0, none⟩ = some a ∧ w.cell? ⟨g, 1, none⟩ = some b := ⟨blk_cell h.out 0, blk_cell h.out 1⟩
theorem ky3 (h : Aside0 (w.heap[g]? = some (.cells #[a, b, c] t (0, 0)))) : w.cell? ⟨g, 0, none⟩ = some a ∧ w.cell? ⟨g, 1, none⟩ = some b ∧ w.cell? ⟨g, 2, none⟩ = some c := ⟨blk_cell h.out 0, blk_cell h.out 1, blk_cell h.out 2⟩
theorem ky4 (h : Aside0 (w.heap[g]? = some (.cells #[a, b, c, d] t (0, 0)))) : w.cell? ⟨g, 0, none⟩ = some a ∧ w.cell? ⟨g, 1, none⟩ = some b ∧ w.cell? ⟨g, 2, none⟩ = some c ∧ w.cell? ⟨g, 3, none⟩ = some d := ⟨blk_cell h.out 0, blk_cell h.out 1, blk_cell h.out 2, blk_cell h.out 3⟩
theorem kk {cs : Array Value} {x : Option Value} (h : Aside0 (w.heap[g]? = some (.cells cs t (0, 0)))) (i : Nat) (e : cs[i]? = x := by rfl) : w.cell? ⟨g, i, none⟩ = x := (blk_cell h.out i).trans e
theorem kq {W W0 : World} {x : Value} {p : Addr} (h : Aside0 (Below w.heap.size w W)) (hc : w.cell? p = some x) (r : Below w.heap.size w W → Below w.heap.size w W0 := by
    intro h; repeat (first | (with_reducible first | exact h | apply below_alloc | apply pw_below_drewN | apply below_drew1 | refine below_set ?_ (Aside0.out (by assumption))) | exact h)) : W0.cell? p = some x := ((r h.out).cell (qqW w _ hc)).trans hc
theorem kw {x : Value} {p : Addr} (h : w.cell? p = some x) (hg : Aside0 (w.heap.size ≤ g)) : p.block ≠ g := Nat.ne_of_lt (Nat.lt_of_lt_of_le (qqW _ _ h) hg.out)
theorem kv {x : Value} {p : Addr} {n : Nat} (h : w.cell? (p.add n) = some x) (hg : Aside0 (w.heap.size ≤ g)) : p.block ≠ g := by
  have := kw h hg
  rwa [add_block] at this
theorem kx {x : Value} {p : Addr} (hg : Aside0 (w.heap.size ≤ g)) (h : w.cell? p = some x) : p.block ≠ g := kw h hg
theorem kf {w0 : World} {p : Addr} {x : Option Value} (h : w0.cell? p = x) (r : w0.cell? p = x → w.cell? p = x := by
    intro h; repeat (first | with_reducible exact h | refine (cell_far (by first | (with_reducible exact Aside0.out (by assumption)) | exact kx (by assumption) (by assumption) | (rw [add_block]; exact kw (by assumption) (by assumption)) | (rw [add_block]; exact kv (by assumption) (by assumption)) | (show (Addr.add _ _).block ≠ _; rw [add_block]; exact kv (by assumption) (by assumption)) | exact kv (by assumption) (by assumption)) _).trans ?_ | exact h)) : w.cell? p = x := r h
end
section
variable {P : Program} {ops : Array Oper} {Q : Exit → Act → World → Prop} {md : Region.Mode} {S : World → Prop} {ds : List Nat} {i : Nat} {N : Option Tmp} {oi : Oper} {v : Value} {fuel : Nat} {l : Array Bool} {a a' : Act} {w : World} {T : Bool × List (List Nat × List Nat)} {B : List Nat}
def bsL : Nat → Nat → List Bool
  | 0, _ => []
  | n + 1, m => (m % 2 == 1) :: bsL n (m / 2)
def bs (n m : Nat) : Array Bool := (bsL n m).toArray
theorem pu (i : Nat) (N : Option Tmp) (l' : Array Bool) (hT : Aside0 (rtab md ops = T)) (h : wpAnyLast P md ops Q S ds fuel l' a' w) (hi : ops[i]? = some oi := by rfl) (hN : oi.dst = N := by rfl) (hc : anyT T l.toList l'.toList i = true := by kernel_rfl)
    (hQ : ∀ c a w, Q (.panic c) (a.put oi.dst v) w → Q (.panic c) a w := by exact fun _ _ _ h => h) (hw : Region.wanted oi (yielded ops a.tmps) = true := by rfl) (hr : ∀ w, (execOp a.eval oi).run P w = .ok (.value v) w := by (intro w'; go_simp; with_reducible rfl)) (ha : a.put N v = a' := by (simp only [Act.put, qS1, qS2, qS3, i64_w, i32_w]; rfl)) :
    wpAnyLast P md ops Q S ds (fuel + 1) l a w := pure_ l' hi hN (any_of hT.out hc) hQ (Or.inl ⟨hw, hr⟩) ha h
theorem no (N : Option Tmp) (h : wpAnyLast P md ops Q S ds fuel l a' w) (ha : a.put N v = a' := by (simp only [Act.put, qS1, qS2, qS3, i64_w, i32_w]; rfl)) : wpAnyLast P md ops Q S ds fuel l (a.put N v) w := norm_ ha h
theorem ta (i : Nat) (N : Option Tmp) (l' : Array Bool) (hT : Aside0 (rtab md ops = T)) (hB : Aside0 (waitsOk T.2 B = true)) (hS : S w) (h : wpAnyLast P md ops Q S ds fuel l' a' w) (hi : ops[i]? = some oi := by rfl) (hN : oi.dst = N := by rfl) (hc : takeW T B ds l.toList l'.toList i = true := by kernel_rfl)
    (hQ : ∀ c a w, Q (.panic c) (a.put oi.dst v) w → Q (.panic c) a w := by exact fun _ _ _ h => h) (hw : Region.wanted oi (yielded ops a.tmps) = true := by rfl) (hr : ∀ w, S w → (execOp a.eval oi).run P w = .ok (.value v) w := by (intro w' hs; (try dsimp only at hs); go_simp; with_reducible rfl)) (ha : a.put N v = a' := by (simp only [Act.put, qS1, qS2, qS3, i64_w, i32_w]; rfl)) :
    wpAnyLast P md ops Q S ds (fuel + 1) l a w := take_ l' hi hN (take_ofW hT.out hB.out hc) hQ (Or.inl ⟨hw, hr⟩) hS ha h
end
end Go.Proofs.Ytmlbliggbkfjnaa.J
namespace Go.Proofs.Ytmlbliggbkfjnaa.J
open Go.RowKit Go.Proofs.YtmlbliggbkfjnaaW.PrintWords Go.Proofs.YtmlbliggbkfjnaaW.PrintLast Go.Proofs.YtmlbliggbkfjnaaW.PrintMore
attribute [local go_sem] max2_int min2_int max_two min_two max_three min_three max_four min_four
def qia.l0 : Nat → List Int → List Int → Int → Int → Option (Bool)
 | 0, _, _, _, _ => none
 | k + 1, x0, x1, x12, x13 => if x13 < x12 then (if 0 ≤ x13 then (if x13 < (x0.length : Int) then (if x13 < (x1.length : Int) then (if (rd x0 x13) = (rd x1 x13) then (qia.l0 k x0 x1 x12 (wrap64 (x13 + 1))) else (some false)) else (none)) else (none)) else (none)) else (some true)
def qia.f (k : Nat) (l0 : List Int) (l1 : List Int) : Option (Bool) := if (l0.length : Int) = (l1.length : Int) then (qia.l0 k l0 l1 (l0.length : Int) 0) else (some false)
theorem qia.calls (k : Nat) (A0 : Option Addr) (c0 : Nat) (l0 : List Int) (A1 : Option Addr) (c1 : Nat) (l1 : List Int) (r : Bool) (w : World) (hr0 : Kd.C (Kd.int .i64) w A0 l0.length l0) (hc0 : l0.length ≤ c0) (hr1 : Kd.C (Kd.int .i64) w A1 l1.length l1) (hc1 : l1.length ≤ c1) (h : qia.f k l0 l1 = some r) :
  Calls Try.prog 13 #[.slice A0 l0.length c0, .slice A1 l1.length c1] w fun e w' => e = .returned (.bool r) ∧ Drawn0 w w' := by
 have HR0 := Aside0.mk hr0;have HC0 := Aside0.mk hc0;clear hr0 hc0;have HR1 := Aside0.mk hr1;have HC1 := Aside0.mk hc1;clear hr1 hc1;have H : (if (l0.length : Int) = (l1.length : Int) then (qia.l0 k l0 l1 (l0.length : Int) 0) else (some false)) = some r := h;clear h
 by_cases c3 : (l0.length : Int) = (l1.length : Int)
 rotate_left
 ·rw [if_neg c3] at H
  have al := beq_eq_false_iff_ne.mpr c3;have an := bne_iff_ne.mpr c3
  have ao : (l0.length == l1.length) = false := by first | simpa using c3 | (simp at c3 ⊢; omega)
  obtain rfl := qqI H;go_enter Try.func13, Try.ntmps13;go_wp2
  repeat (go_quiet (fail); try go_wp2)
  go_ret;exact ⟨et, by repeat (first | exact Drawn0.refl _ | apply Drawn0.step)⟩
 rw [if_pos c3] at H;have al := beq_iff_eq.mpr c3;have an := bne_eq_false_iff_eq.mpr c3
 have ao : (l0.length == l1.length) = true := by first | simpa using c3 | (simp at c3 ⊢; omega)
 clear c3;have H' := Aside0.mk H;clear H;go_enter Try.func13, Try.ntmps13;go_wp2
 repeat (go_quiet (fail); try go_wp2)
 go_loopg [13] k (fun kq v13 w' => ∃ (aa : Int), v13 = .int .i64 aa ∧ Aside0 (qia.l0 kq l0 l1 (l0.length : Int) aa = some r) ∧ Aside0 (kq ≤ k) ∧ Drawn0 w w')
 case atStart => exact ⟨(0), et, H', ⟨Nat.le_refl _⟩, by repeat (first | exact Drawn0.refl _ | apply Drawn0.step)⟩
 case round =>
  clear H';(try clear al an ao);obtain ⟨aa, rfl, HA, HK1, ⟨m1, rfl⟩⟩ := hrel
  cases gk with
  | zero => exact absurd HA.out (by simp [qia.l0])
  | succ k1 =>
   have H := HA.out;clear HA;simp only [qia.l0] at H
   by_cases c4 : aa < (l0.length : Int)
   rotate_left
   ·rw [if_neg c4] at H
    have ar := qqF c4;clear c4;obtain rfl := qqI H;go_wp2
    repeat (go_quiet (fail); try go_wp2)
    go_ret;exact ⟨et, by repeat (first | exact Drawn0.refl _ | apply Drawn0.step)⟩
   rw [if_pos c4] at H;have ar := qqT c4;clear c4
   by_cases c5 : 0 ≤ aa
   rotate_left
   ·rw [if_neg c5] at H
    exact absurd H (by simp)
   rw [if_pos c5] at H;have aw := qqT c5;clear c5
   by_cases c6 : aa < (l0.length : Int)
   rotate_left
   ·rw [if_neg c6] at H
    exact absurd H (by simp)
   rw [if_pos c6] at H;have ax := qqT c6;clear c6
   by_cases c7 : aa < (l1.length : Int)
   rotate_left
   ·rw [if_neg c7] at H
    exact absurd H (by simp)
   rw [if_pos c7] at H;have ay := qqT c7;clear c7
   by_cases c8 : (rd l0 aa) = (rd l1 aa)
   rotate_left
   ·rw [if_neg c8] at H
    have au := beq_eq_false_iff_ne.mpr c8;have av := bne_iff_ne.mpr c8;obtain rfl := qqI H;have ab : 0 ≤ (aa : Int) := od;have ae : aa < (l0.length : Int) := od;obtain ⟨ap, aj, ah⟩ := Kd.at_int HR0.out aa ab ae;cases aj;replace ab := eq_true ab; replace ae := eq_true ae;have af : 0 ≤ (aa : Int) := od;have ag : aa < (l1.length : Int) := od;obtain ⟨aq, ak, ai⟩ := Kd.at_int HR1.out aa af ag;cases ak;replace af := eq_true af; replace ag := eq_true ag;go_wp2
    repeat (go_quiet (fail); try go_wp2)
    go_ret;exact ⟨et, by repeat (first | exact Drawn0.refl _ | apply Drawn0.step)⟩
   rw [if_pos c8] at H;have au := beq_iff_eq.mpr c8;have av := bne_eq_false_iff_eq.mpr c8;clear c8;have H' := Aside0.mk H;clear H;have ab : 0 ≤ (aa : Int) := od;have ae : aa < (l0.length : Int) := od;obtain ⟨ap, aj, ah⟩ := Kd.at_int HR0.out aa ab ae;cases aj;replace ab := eq_true ab; replace ae := eq_true ae;have af : 0 ≤ (aa : Int) := od;have ag : aa < (l1.length : Int) := od;obtain ⟨aq, ak, ai⟩ := Kd.at_int HR1.out aa af ag;cases ak;replace af := eq_true af; replace ag := eq_true ag;go_wp2
   repeat (go_quiet (fail); try go_wp2)
   go_roundg k1
   case measure => have := HK1.out; omega
   case rel => exact ⟨(wrap64 (aa + 1)), et, H', ⟨by have := HK1.out; omega⟩, by repeat (first | exact Drawn0.refl _ | apply Drawn0.step)⟩
def qoa.f (aa : Int) (ab : Int) (ae : Int) (af : Int) : Option (Bool) := if aa = 3 then (some true) else (if aa = 4 then (some true) else (some (aa == 5)))
theorem qoa.calls (aa : Int) (ae : Int) (af : Int) (ag : Int) (r : Bool) (w : World) (h : qoa.f aa ae af ag = some r) :
  Calls Try.prog 36 #[.agg #[.int .i64 aa, .int .i64 ae, .int .i64 af, .int .u64 ag]] w fun e w' => e = .returned (.bool r) ∧ Below w.heap.size w w' := by
 have hu61 := Try.underlying61;have HB := Aside0.mk (Below.refl w.heap.size w);have H : (if aa = 3 then (some true) else (if aa = 4 then (some true) else (some (aa == 5)))) = some r := h;clear h
 by_cases c2 : aa = 3
 ·rw [if_pos c2] at H
  have ak := beq_iff_eq.mpr c2;have al := bne_eq_false_iff_eq.mpr c2;clear c2;obtain rfl := qqI H;go_enter Try.func36, Try.ntmps36;go_wp2_with (first | ((with_reducible refine gate_dst (N := 1) rfl ?_); refine box_event ?hg (N := 1) ?hd (cs := #[.int .i64 aa, .int .i64 ae, .int .i64 af, .int .u64 ag]) (t := 61) ?hr ?_; (case hd | hg => rfl); (case hr => go_simp; try rfl); intro ah hg w3 hbox hb; have ab := am hbox; have ai := kG HB hg; have aj := kG HB hg; replace HB := kH HB hb; clear hb hbox hg; have Z4 := kz4 ab));go_ret;exact ⟨er, kh HB⟩
 rw [if_neg c2] at H;have ak := beq_eq_false_iff_ne.mpr c2;have al := bne_iff_ne.mpr c2
 by_cases c5 : aa = 4
 ·rw [if_pos c5] at H
  have an := beq_iff_eq.mpr c5;have ao := bne_eq_false_iff_eq.mpr c5;clear c5;obtain rfl := qqI H;go_enter Try.func36, Try.ntmps36;go_wp2_with (first | ((with_reducible refine gate_dst (N := 1) rfl ?_); refine box_event ?hg (N := 1) ?hd (cs := #[.int .i64 aa, .int .i64 ae, .int .i64 af, .int .u64 ag]) (t := 61) ?hr ?_; (case hd | hg => rfl); (case hr => go_simp; try rfl); intro ah hg w6 hbox hb; have ab := am hbox; have ai := kG HB hg; have aj := kG HB hg; replace HB := kH HB hb; clear hb hbox hg; have Z7 := kz4 ab));go_ret;exact ⟨er, kh HB⟩
 rw [if_neg c5] at H;have an := beq_eq_false_iff_ne.mpr c5;have ao := bne_iff_ne.mpr c5;obtain rfl := qqI H;go_enter Try.func36, Try.ntmps36;go_wp2_with (first | ((with_reducible refine gate_dst (N := 1) rfl ?_); refine box_event ?hg (N := 1) ?hd (cs := #[.int .i64 aa, .int .i64 ae, .int .i64 af, .int .u64 ag]) (t := 61) ?hr ?_; (case hd | hg => rfl); (case hr => go_simp; try rfl); intro ah hg w8 hbox hb; have ab := am hbox; have ai := kG HB hg; have aj := kG HB hg; replace HB := kH HB hb; clear hb hbox hg; have Z9 := kz4 ab));go_ret;exact ⟨er, kh HB⟩
def qsa.f (aa : Int) (ab : Int) (ae : Int) (af : Int) : Option (Bool) := (qoa.f aa ab ae af).bind fun ag => (if ag = true then (some true) else (some (aa == 6)))
theorem qsa.calls (ab : Int) (ae : Int) (af : Int) (ag : Int) (r : Bool) (w : World) (h : qsa.f ab ae af ag = some r) :
  Calls Try.prog 35 #[.agg #[.int .i64 ab, .int .i64 ae, .int .i64 af, .int .u64 ag]] w fun e w' => e = .returned (.bool r) ∧ Below w.heap.size w w' := by
 have hu61 := Try.underlying61;have HB := Aside0.mk (Below.refl w.heap.size w);have H : ((qoa.f ab ae af ag).bind fun ah => (if ah = true then (some true) else (some (ab == 6)))) = some r := h;clear h;replace H := qqB H;obtain ⟨ah, A20, H⟩ := H;(try dsimp only at H);have A2 := Aside0.mk A20;clear A20
 by_cases c3 : ah = true
 ·subst c3
  replace H := ifT H;obtain rfl := qqI H;go_enter Try.func35, Try.ntmps35;go_wp2_with (first | ((with_reducible refine gate_dst (N := 1) rfl ?_); refine box_event ?hg (N := 1) ?hd (cs := #[.int .i64 ab, .int .i64 ae, .int .i64 af, .int .u64 ag]) (t := 61) ?hr ?_; (case hd | hg => rfl); (case hr => go_simp; try rfl); intro ai hg w4 hbox hb; have aa := am hbox; have aj := kG HB hg; have ak := kG HB hg; replace HB := kH HB hb; clear hb hbox hg; have Z5 := kz4 aa) | ((with_reducible refine gate_callee (f := 36) rfl ?_); refine goesL_ (some 4) rfl rfl Try.func36 (by kernel_rfl) rfl #[.agg #[.int .i64 ab, .int .i64 ae, .int .i64 af, .int .u64 ag]] rfl (by (try simp only [qM1, qM2, qM3]); first | done | rfl) ?_; (with_reducible refine (qoa.calls ab ae af ag true _ A2.out).mono ?_); rintro e w6 ⟨rfl, hb⟩; refine ⟨_, rfl, ?_⟩; replace aa := kU aa hb; replace HB := kH HB hb; (try clear hb); (try clear hb2); (try clear hk); (try clear hi)));go_ret;exact ⟨er, kh HB⟩
 replace c3 := Bool.eq_false_iff.mpr c3;subst c3;replace H := ifF H;obtain rfl := qqI H;go_enter Try.func35, Try.ntmps35;go_wp2_with (first | ((with_reducible refine gate_dst (N := 1) rfl ?_); refine box_event ?hg (N := 1) ?hd (cs := #[.int .i64 ab, .int .i64 ae, .int .i64 af, .int .u64 ag]) (t := 61) ?hr ?_; (case hd | hg => rfl); (case hr => go_simp; try rfl); intro ai hg w7 hbox hb; have aa := am hbox; have aj := kG HB hg; have ak := kG HB hg; replace HB := kH HB hb; clear hb hbox hg; have Z8 := kz4 aa) | ((with_reducible refine gate_callee (f := 36) rfl ?_); refine goesL_ (some 4) rfl rfl Try.func36 (by kernel_rfl) rfl #[.agg #[.int .i64 ab, .int .i64 ae, .int .i64 af, .int .u64 ag]] rfl (by (try simp only [qM1, qM2, qM3]); first | done | rfl) ?_; (with_reducible refine (qoa.calls ab ae af ag false _ A2.out).mono ?_); rintro e w9 ⟨rfl, hb⟩; refine ⟨_, rfl, ?_⟩; replace aa := kU aa hb; replace HB := kH HB hb; (try clear hb); (try clear hb2); (try clear hk); (try clear hi); have Z10 := kz4 aa));go_ret;exact ⟨er, kh HB⟩
mutual
def qea.l0 : Nat → List Int → List (S61) → Int → Int → Option (List Int × Bool)
 | 0, _, _, _, _ => none
 | k + 1, x4, x9, x10, x11 => if x11 < x10 then (if 0 ≤ x11 then (if x11 < (x9.length : Int) then ((qsa.f ((rd_T61 x9 x11).f0) ((rd_T61 x9 x11).f1) ((rd_T61 x9 x11).f2) ((rd_T61 x9 x11).f3)).bind fun ag => (if ag = true then (if ((rd_T61 x9 x11).f1) < 0 then (qea.j1 k x4 x9 x10 x11 true ((rd_T61 x9 x11).f0) ((rd_T61 x9 x11).f1) ((rd_T61 x9 x11).f2) ((rd_T61 x9 x11).f3)) else (if ((rd_T61 x9 x11).f1) ≥ x11 then (qea.j1 k x4 x9 x10 x11 true ((rd_T61 x9 x11).f0) ((rd_T61 x9 x11).f1) ((rd_T61 x9 x11).f2) ((rd_T61 x9 x11).f3)) else ((qoa.f ((rd_T61 x9 x11).f0) ((rd_T61 x9 x11).f1) ((rd_T61 x9 x11).f2) ((rd_T61 x9 x11).f3)).bind fun ah => (if ah = true then (if ((rd_T61 x9 x11).f2) < 0 then (qea.j1 k x4 x9 x10 x11 true ((rd_T61 x9 x11).f0) ((rd_T61 x9 x11).f1) ((rd_T61 x9 x11).f2) ((rd_T61 x9 x11).f3)) else (qea.j1 k x4 x9 x10 x11 (decide (((rd_T61 x9 x11).f2) ≥ x11)) ((rd_T61 x9 x11).f0) ((rd_T61 x9 x11).f1) ((rd_T61 x9 x11).f2) ((rd_T61 x9 x11).f3))) else (qea.j1 k x4 x9 x10 x11 false ((rd_T61 x9 x11).f0) ((rd_T61 x9 x11).f1) ((rd_T61 x9 x11).f2) ((rd_T61 x9 x11).f3)))))) else ((qoa.f ((rd_T61 x9 x11).f0) ((rd_T61 x9 x11).f1) ((rd_T61 x9 x11).f2) ((rd_T61 x9 x11).f3)).bind fun ai => (if ai = true then (if ((rd_T61 x9 x11).f2) < 0 then (qea.j1 k x4 x9 x10 x11 true ((rd_T61 x9 x11).f0) ((rd_T61 x9 x11).f1) ((rd_T61 x9 x11).f2) ((rd_T61 x9 x11).f3)) else (qea.j1 k x4 x9 x10 x11 (decide (((rd_T61 x9 x11).f2) ≥ x11)) ((rd_T61 x9 x11).f0) ((rd_T61 x9 x11).f1) ((rd_T61 x9 x11).f2) ((rd_T61 x9 x11).f3))) else (qea.j1 k x4 x9 x10 x11 false ((rd_T61 x9 x11).f0) ((rd_T61 x9 x11).f1) ((rd_T61 x9 x11).f2) ((rd_T61 x9 x11).f3)))))) else (none)) else (none)) else (some (x4, true))
def qea.j1 : Nat → List Int → List (S61) → Int → Int → Bool → Int → Int → Int → Int → Option (List Int × Bool)
 | 0, _, _, _, _, _, _, _, _, _ => none
 | k + 1, x4, x9, x10, x11, x43, ae, ab, aa, af => if x43 = true then (some (([] : List Int), false)) else ((qsa.f ae ab aa af).bind fun aj => (if aj = true then (if 0 ≤ ab then (if ab < (x4.length : Int) then (qea.j2 k x4 (rd x4 ab) x9 x10 x11 ae ab aa af) else (none)) else (none)) else (qea.j2 k x4 0 x9 x10 x11 ae ab aa af)))
def qea.j2 : Nat → List Int → Int → List (S61) → Int → Int → Int → Int → Int → Int → Option (List Int × Bool)
 | 0, _, _, _, _, _, _, _, _, _ => none
 | k + 1, x4, x7, x9, x10, x11, ae, ab, aa, af => (qoa.f ae ab aa af).bind fun ak => (if ak = true then (if 0 ≤ aa then (if aa < (x4.length : Int) then (if ae = 5 then (if x4.length < 17592186044416 then (qea.l0 k (x4 ++ [wrap64 ((mx x7 (rd x4 aa)) + 1)]) x9 x10 (wrap64 (x11 + 1))) else (none)) else (if x4.length < 17592186044416 then (qea.l0 k (x4 ++ [mx x7 (rd x4 aa)]) x9 x10 (wrap64 (x11 + 1))) else (none))) else (none)) else (none)) else (if ae = 5 then (if x4.length < 17592186044416 then (qea.l0 k (x4 ++ [wrap64 (x7 + 1)]) x9 x10 (wrap64 (x11 + 1))) else (none)) else (if x4.length < 17592186044416 then (qea.l0 k (x4 ++ [x7]) x9 x10 (wrap64 (x11 + 1))) else (none))))
end
def qea.f (k : Nat) (ab : List (S64)) (aa : List (S61)) (ae : List (S66)) : Option (List Int × Bool) := qea.l0 k ([] : List Int) aa (aa.length : Int) 0
theorem qea.calls (k : Nat) (aI : Option Addr) (aJ : Nat) (ar : List (S64)) (aU : Option Addr) (aK : Nat) (ab : List (S61)) (aM : Option Addr) (aN : Nat) (au : List (S66)) (r1 : List Int) (r2 : Bool) (w : World) (aZ : Kd.C k64 w aI ar.length ar) (ba : ar.length ≤ aJ) (bb : Kd.C k61 w aU ab.length ab) (bc : ab.length ≤ aK) (bd : Kd.C k66 w aM au.length au) (be : au.length ≤ aN) (h : qea.f k ar ab au = some (r1, r2)) :
  Calls Try.prog 12 #[.agg #[.slice aI ar.length aJ, .slice aU ab.length aK, .slice aM au.length aN]] w fun e w' => ∃ v0_ : Value, e = .returned (.tuple #[v0_, .bool r2]) ∧ Kd.R (Kd.int .i64) 3 w' w.heap.size (fun _ => True) v0_ r1 ∧ Below w.heap.size w w' := by
 have hu26 := Try.underlying26;have hu61 := Try.underlying61;have cj := Aside0.mk aZ;have ck := Aside0.mk ba;clear aZ ba;have bn := Aside0.mk bb;have cl := Aside0.mk bc;clear bb bc;have cm := Aside0.mk bd;have cn := Aside0.mk be;clear bd be;have HB := Aside0.mk (Below.refl w.heap.size w);have H : (qea.l0 k ([] : List Int) ab (ab.length : Int) 0) = some (r1, r2) := h;clear h;have H' := Aside0.mk H;clear H;go_enter Try.func12, Try.ntmps12;go_wp2_with (first | ((with_reducible refine gate_dst (N := 1) rfl ?_); refine box_event ?hg (N := 1) ?hd (cs := #[.slice aI ar.length aJ, .slice aU ab.length aK, .slice aM au.length aN]) (t := 26) ?hr ?_; (case hd | hg => rfl); (case hr => go_simp; try rfl); intro aQ hg w2 hbox hb; have af := am hbox; have co := kG HB hg; have cp := kG HB hg; replace HB := kH HB hb; clear hb hbox hg; have Z3 := kz3 af));go_loopg [4, 11] k (fun kq v4 v11 w' => ∃ (aj : List Int) (aa : Int), v11 = .int .i64 aa ∧ Aside0 (qea.l0 kq aj ab (ab.length : Int) aa = some (r1, r2)) ∧ Aside0 (kq ≤ k) ∧ Aside0 (Kd.R (Kd.int .i64) 3 w' w.heap.size (fun _ => True) v4 aj) ∧ Aside0 (w'.heap[aQ]? = some (.cells #[(.slice aI ar.length aJ), (.slice aU ab.length aK), (.slice aM au.length aN)] 26 (0, 0))) ∧ Aside0 (Below w.heap.size w w'))
 case atStart => exact ⟨(([] : List Int)), (0), et, H', ⟨Nat.le_refl _⟩, ⟨by first | exact Kd.R_nil _ _ _ _ _ | exact Kd.N_nil _ _ _ _ _ | exact Kd.V_nil _ _ _ _ _ | exact Kd.Q_nil _ _ _ _ _ | exact Kd.S_nil _ _ _ _ _⟩, ⟨kg af⟩, ⟨kh HB⟩⟩
 case round =>
  clear H'; (try clear Z3);obtain ⟨aj, aa, rfl, HA, HK1, ag, af, HB⟩ := hrel
  cases gk with
  | zero => exact absurd HA.out (by simp [qea.l0])
  | succ k1 =>
   have H := HA.out;clear HA;simp only [qea.l0] at H
   by_cases c4 : aa < (ab.length : Int)
   rotate_left
   ·rw [if_neg c4] at H
    have bo := qqF c4;clear c4;simp only [Option.some.injEq, Prod.mk.injEq] at H;obtain ⟨rfl, rfl⟩ := H;go_wp2;go_ret2;exact ⟨_, er, by (with_reducible repeat first | apply Kd.R_alloc | apply Kd.R_drewN | apply Kd.R_drew); exact ag.out, kh HB⟩
   rw [if_pos c4] at H;have bo := qqT c4;clear c4
   by_cases c5 : 0 ≤ aa
   rotate_left
   ·rw [if_neg c5] at H
    exact absurd H (by simp)
   rw [if_pos c5] at H;have bU := qqT c5;clear c5
   by_cases c6 : aa < (ab.length : Int)
   rotate_left
   ·rw [if_neg c6] at H
    exact absurd H (by simp)
   rw [if_pos c6] at H;have bV := qqT c6;clear c6;have HC7 := Aside0.mk H;clear H;have aV : 0 ≤ (aa : Int) := od;have aW : aa < (ab.length : Int) := od;obtain ⟨bf, bW, al, an, ao, ap⟩ := at_T61 bn.out aa aV aW;cases bW;replace al := (HB.out.cell (qqW w _ al)).trans al;replace an := (HB.out.cell (qqW w _ an)).trans an;replace ao := (HB.out.cell (qqW w _ ao)).trans ao;replace ap := (HB.out.cell (qqW w _ ap)).trans ap;replace aV := eq_true aV; replace aW := eq_true aW;go_upto_region 5 with (first | ((with_reducible refine gate_dst (N := 6) rfl ?_); refine box_event ?hg (N := 6) ?hd (cs := #[.int .i64 0, .int .i64 0, .int .i64 0, .int .u64 0]) (t := 61) ?hr ?_; (case hd | hg => rfl); (case hr => go_simp; try rfl); intro bg hg w8 hbox hb; replace ag := kR ag hb; have ae := am hbox; have cq := kG HB hg; have cr := kG HB hg; replace HB := kH HB hb; have ah := kP af hg; have ai := kQ af hg; replace af := kU af hb; clear hb hbox hg; have cX := ai.out; have cY := ah.out; have Z10 := kz4 ae));(try simp only [Act.put, qS1, qS2, qS3]);go_cut [43] (fun v43 wc => ∃ (kq : Nat) (aG : Bool), v43 = .bool aG ∧ Aside0 (qea.j1 kq aj ab (ab.length : Int) aa aG ((rd_T61 ab aa).f0) ((rd_T61 ab aa).f1) ((rd_T61 ab aa).f2) ((rd_T61 ab aa).f3) = some (r1, r2)) ∧ Aside0 (kq ≤ k1) ∧ Aside0 (Kd.R (Kd.int .i64) 3 wc w.heap.size (fun _ => True) u4 aj) ∧ Aside0 (wc.heap[aQ]? = some (.cells #[(.slice aI ar.length aJ), (.slice (some bf) ab.length aK), (.slice aM au.length aN)] 26 (0, 0))) ∧ Aside0 (wc.heap[bg]? = some (.cells #[.int .i64 ((rd_T61 ab aa).f0), .int .i64 ((rd_T61 ab aa).f1), .int .i64 ((rd_T61 ab aa).f2), .int .u64 ((rd_T61 ab aa).f3)] 61 (0, 0))) ∧ Aside0 (Below w.heap.size w wc))
   case first =>
    have H := HC7.out;clear HC7;replace H := qqB H;obtain ⟨bX, bp, H⟩ := H;(try dsimp only at H);have A11 := Aside0.mk bp;clear bp
    by_cases c12 : bX = true
    rotate_left
    ·replace c12 := Bool.eq_false_iff.mpr c12
     subst c12;replace H := ifF H;replace H := qqB H;obtain ⟨bY, bq, H⟩ := H;(try dsimp only at H);have A43 := Aside0.mk bq;clear bq
     by_cases c44 : bY = true
     rotate_left
     ·replace c44 := Bool.eq_false_iff.mpr c44
      subst c44;replace H := ifF H;have H' := Aside0.mk H;clear H;have ct := ai.out;have cu := ah.out;have Z59 := kz4 ae;go_wp2_with (first | ((with_reducible refine gate_callee (f := 35) rfl ?_); refine goesL_ (some 17) rfl rfl Try.func35 (by kernel_rfl) rfl #[.agg #[.int .i64 ((rd_T61 ab aa).f0), .int .i64 ((rd_T61 ab aa).f1), .int .i64 ((rd_T61 ab aa).f2), .int .u64 ((rd_T61 ab aa).f3)]] rfl (by (try simp only [qM1, qM2, qM3]); first | done | rfl) ?_; (with_reducible refine (qsa.calls ((rd_T61 ab aa).f0) ((rd_T61 ab aa).f1) ((rd_T61 ab aa).f2) ((rd_T61 ab aa).f3) false _ A11.out).mono ?_); rintro e w60 ⟨rfl, hb⟩; refine ⟨_, rfl, ?_⟩; replace ag := Aside0.mk (Kd.R_below (kt ag ae) hb); replace af := kU af hb; replace ae := kO (o' := .cells #[.int .i64 ((rd_T61 ab aa).f0), .int .i64 ((rd_T61 ab aa).f1), .int .i64 ((rd_T61 ab aa).f2), .int .u64 ((rd_T61 ab aa).f3)] 61 (0, 0)) ae hb; replace HB := kH HB hb; (try clear hb); (try clear hb2); (try clear hk); (try clear hi); have Z61 := kz4 ae) | (go_at_call 36; (with_reducible refine (qoa.calls ((rd_T61 ab aa).f0) ((rd_T61 ab aa).f1) ((rd_T61 ab aa).f2) ((rd_T61 ab aa).f3) false _ A43.out).mono ?_); rintro e w62 ⟨rfl, hb⟩; replace ag := kR ag hb; replace af := kU af hb; replace ae := kU ae hb; replace HB := kH HB hb; (try clear hb); (try clear hb2); (try clear hk); (try clear hi)));go_meet
      case rel => exact ⟨_, (false), et, H', ⟨by have := HK1.out; first | omega | exact Nat.le_refl _⟩, ⟨krR ag⟩, ⟨kg af⟩, ⟨kg ae⟩, ⟨kh HB⟩⟩
     subst c44;replace H := ifT H
     by_cases c45 : ((rd_T61 ab aa).f2) < 0
     ·rw [if_pos c45] at H
      have br := qqT c45;clear c45;have H' := Aside0.mk H;clear H;have cv := ai.out;have cw := ah.out;have Z47 := kz4 ae;go_wp2_with (first | ((with_reducible refine gate_callee (f := 35) rfl ?_); refine goesL_ (some 17) rfl rfl Try.func35 (by kernel_rfl) rfl #[.agg #[.int .i64 ((rd_T61 ab aa).f0), .int .i64 ((rd_T61 ab aa).f1), .int .i64 ((rd_T61 ab aa).f2), .int .u64 ((rd_T61 ab aa).f3)]] rfl (by (try simp only [qM1, qM2, qM3]); first | done | rfl) ?_; (with_reducible refine (qsa.calls ((rd_T61 ab aa).f0) ((rd_T61 ab aa).f1) ((rd_T61 ab aa).f2) ((rd_T61 ab aa).f3) false _ A11.out).mono ?_); rintro e w48 ⟨rfl, hb⟩; refine ⟨_, rfl, ?_⟩; replace ag := Aside0.mk (Kd.R_below (kt ag ae) hb); replace af := kU af hb; replace ae := kO (o' := .cells #[.int .i64 ((rd_T61 ab aa).f0), .int .i64 ((rd_T61 ab aa).f1), .int .i64 ((rd_T61 ab aa).f2), .int .u64 ((rd_T61 ab aa).f3)] 61 (0, 0)) ae hb; replace HB := kH HB hb; (try clear hb); (try clear hb2); (try clear hk); (try clear hi); have Z49 := kz4 ae) | (go_at_call 36; (with_reducible refine (qoa.calls ((rd_T61 ab aa).f0) ((rd_T61 ab aa).f1) ((rd_T61 ab aa).f2) ((rd_T61 ab aa).f3) true _ A43.out).mono ?_); rintro e w50 ⟨rfl, hb⟩; replace ag := kR ag hb; replace af := kU af hb; replace ae := kU ae hb; replace HB := kH HB hb; (try clear hb); (try clear hb2); (try clear hk); (try clear hi); have Z51 := kz4 ae));go_meet
      case rel => exact ⟨_, (true), et, H', ⟨by have := HK1.out; first | omega | exact Nat.le_refl _⟩, ⟨krR ag⟩, ⟨kg af⟩, ⟨kg ae⟩, ⟨kh HB⟩⟩
     rw [if_neg c45] at H;have br := qqF c45;clear c45;have H' := Aside0.mk H;clear H;have cx := ai.out;have cy := ah.out;have Z53 := kz4 ae;go_wp2_with (first | ((with_reducible refine gate_callee (f := 35) rfl ?_); refine goesL_ (some 17) rfl rfl Try.func35 (by kernel_rfl) rfl #[.agg #[.int .i64 ((rd_T61 ab aa).f0), .int .i64 ((rd_T61 ab aa).f1), .int .i64 ((rd_T61 ab aa).f2), .int .u64 ((rd_T61 ab aa).f3)]] rfl (by (try simp only [qM1, qM2, qM3]); first | done | rfl) ?_; (with_reducible refine (qsa.calls ((rd_T61 ab aa).f0) ((rd_T61 ab aa).f1) ((rd_T61 ab aa).f2) ((rd_T61 ab aa).f3) false _ A11.out).mono ?_); rintro e w54 ⟨rfl, hb⟩; refine ⟨_, rfl, ?_⟩; replace ag := Aside0.mk (Kd.R_below (kt ag ae) hb); replace af := kU af hb; replace ae := kO (o' := .cells #[.int .i64 ((rd_T61 ab aa).f0), .int .i64 ((rd_T61 ab aa).f1), .int .i64 ((rd_T61 ab aa).f2), .int .u64 ((rd_T61 ab aa).f3)] 61 (0, 0)) ae hb; replace HB := kH HB hb; (try clear hb); (try clear hb2); (try clear hk); (try clear hi); have Z55 := kz4 ae) | (go_at_call 36; (with_reducible refine (qoa.calls ((rd_T61 ab aa).f0) ((rd_T61 ab aa).f1) ((rd_T61 ab aa).f2) ((rd_T61 ab aa).f3) true _ A43.out).mono ?_); rintro e w56 ⟨rfl, hb⟩; replace ag := kR ag hb; replace af := kU af hb; replace ae := kU ae hb; replace HB := kH HB hb; (try clear hb); (try clear hb2); (try clear hk); (try clear hi); have Z57 := kz4 ae));go_meet
     case rel => exact ⟨_, (decide (((rd_T61 ab aa).f2) ≥ aa)), et, H', ⟨by have := HK1.out; first | omega | exact Nat.le_refl _⟩, ⟨krR ag⟩, ⟨kg af⟩, ⟨kg ae⟩, ⟨kh HB⟩⟩
    subst c12;replace H := ifT H
    by_cases c13 : ((rd_T61 ab aa).f1) < 0
    ·rw [if_pos c13] at H
     have aw := qqT c13;clear c13;(first | rw [aw] | (simp only [i64_w, i32_w]; rw [aw]) | skip);have H' := Aside0.mk H;clear H;have cz := ai.out;have cA := ah.out;have Z15 := kz4 ae;go_wp2_with (first | ((with_reducible refine gate_callee (f := 35) rfl ?_); refine goesL_ (some 17) rfl rfl Try.func35 (by kernel_rfl) rfl #[.agg #[.int .i64 ((rd_T61 ab aa).f0), .int .i64 ((rd_T61 ab aa).f1), .int .i64 ((rd_T61 ab aa).f2), .int .u64 ((rd_T61 ab aa).f3)]] rfl (by (try simp only [qM1, qM2, qM3]); first | done | rfl) ?_; (with_reducible refine (qsa.calls ((rd_T61 ab aa).f0) ((rd_T61 ab aa).f1) ((rd_T61 ab aa).f2) ((rd_T61 ab aa).f3) true _ A11.out).mono ?_); rintro e w16 ⟨rfl, hb⟩; refine ⟨_, rfl, ?_⟩; replace ag := Aside0.mk (Kd.R_below (kt ag ae) hb); replace af := kU af hb; replace ae := kO (o' := .cells #[.int .i64 ((rd_T61 ab aa).f0), .int .i64 ((rd_T61 ab aa).f1), .int .i64 ((rd_T61 ab aa).f2), .int .u64 ((rd_T61 ab aa).f3)] 61 (0, 0)) ae hb; replace HB := kH HB hb; (try clear hb); (try clear hb2); (try clear hk); (try clear hi); have Z17 := kz4 ae));go_meet
     case rel => exact ⟨_, (true), et, H', ⟨by have := HK1.out; first | omega | exact Nat.le_refl _⟩, ⟨krR ag⟩, ⟨kg af⟩, ⟨kg ae⟩, ⟨kh HB⟩⟩
    rw [if_neg c13] at H;have aw := qqF c13;clear c13;(first | rw [aw] | (simp only [i64_w, i32_w]; rw [aw]) | skip)
    by_cases c18 : ((rd_T61 ab aa).f1) ≥ aa
    ·rw [if_pos c18] at H
     have bt := qqT c18;clear c18;have H' := Aside0.mk H;clear H;have cB := ai.out;have cC := ah.out;have Z20 := kz4 ae;go_wp2_with (first | ((with_reducible refine gate_callee (f := 35) rfl ?_); refine goesL_ (some 17) rfl rfl Try.func35 (by kernel_rfl) rfl #[.agg #[.int .i64 ((rd_T61 ab aa).f0), .int .i64 ((rd_T61 ab aa).f1), .int .i64 ((rd_T61 ab aa).f2), .int .u64 ((rd_T61 ab aa).f3)]] rfl (by (try simp only [qM1, qM2, qM3]); first | done | rfl) ?_; (with_reducible refine (qsa.calls ((rd_T61 ab aa).f0) ((rd_T61 ab aa).f1) ((rd_T61 ab aa).f2) ((rd_T61 ab aa).f3) true _ A11.out).mono ?_); rintro e w21 ⟨rfl, hb⟩; refine ⟨_, rfl, ?_⟩; replace ag := Aside0.mk (Kd.R_below (kt ag ae) hb); replace af := kU af hb; replace ae := kO (o' := .cells #[.int .i64 ((rd_T61 ab aa).f0), .int .i64 ((rd_T61 ab aa).f1), .int .i64 ((rd_T61 ab aa).f2), .int .u64 ((rd_T61 ab aa).f3)] 61 (0, 0)) ae hb; replace HB := kH HB hb; (try clear hb); (try clear hb2); (try clear hk); (try clear hi); have Z22 := kz4 ae));go_meet
     case rel => exact ⟨_, (true), et, H', ⟨by have := HK1.out; first | omega | exact Nat.le_refl _⟩, ⟨krR ag⟩, ⟨kg af⟩, ⟨kg ae⟩, ⟨kh HB⟩⟩
    rw [if_neg c18] at H;have bt := qqF c18;clear c18;replace H := qqB H;obtain ⟨bZ, bu, H⟩ := H;(try dsimp only at H);have A23 := Aside0.mk bu;clear bu
    by_cases c24 : bZ = true
    rotate_left
    ·replace c24 := Bool.eq_false_iff.mpr c24
     subst c24;replace H := ifF H;have H' := Aside0.mk H;clear H;have cD := ai.out;have cE := ah.out;have Z39 := kz4 ae;go_wp2_with (first | ((with_reducible refine gate_callee (f := 35) rfl ?_); refine goesL_ (some 17) rfl rfl Try.func35 (by kernel_rfl) rfl #[.agg #[.int .i64 ((rd_T61 ab aa).f0), .int .i64 ((rd_T61 ab aa).f1), .int .i64 ((rd_T61 ab aa).f2), .int .u64 ((rd_T61 ab aa).f3)]] rfl (by (try simp only [qM1, qM2, qM3]); first | done | rfl) ?_; (with_reducible refine (qsa.calls ((rd_T61 ab aa).f0) ((rd_T61 ab aa).f1) ((rd_T61 ab aa).f2) ((rd_T61 ab aa).f3) true _ A11.out).mono ?_); rintro e w40 ⟨rfl, hb⟩; refine ⟨_, rfl, ?_⟩; replace ag := Aside0.mk (Kd.R_below (kt ag ae) hb); replace af := kU af hb; replace ae := kO (o' := .cells #[.int .i64 ((rd_T61 ab aa).f0), .int .i64 ((rd_T61 ab aa).f1), .int .i64 ((rd_T61 ab aa).f2), .int .u64 ((rd_T61 ab aa).f3)] 61 (0, 0)) ae hb; replace HB := kH HB hb; (try clear hb); (try clear hb2); (try clear hk); (try clear hi); have Z41 := kz4 ae) | (go_at_call 36; (with_reducible refine (qoa.calls ((rd_T61 ab aa).f0) ((rd_T61 ab aa).f1) ((rd_T61 ab aa).f2) ((rd_T61 ab aa).f3) false _ A23.out).mono ?_); rintro e w42 ⟨rfl, hb⟩; replace ag := kR ag hb; replace af := kU af hb; replace ae := kU ae hb; replace HB := kH HB hb; (try clear hb); (try clear hb2); (try clear hk); (try clear hi)));go_meet
     case rel => exact ⟨_, (false), et, H', ⟨by have := HK1.out; first | omega | exact Nat.le_refl _⟩, ⟨krR ag⟩, ⟨kg af⟩, ⟨kg ae⟩, ⟨kh HB⟩⟩
    subst c24;replace H := ifT H
    by_cases c25 : ((rd_T61 ab aa).f2) < 0
    ·rw [if_pos c25] at H
     have bv := qqT c25;clear c25;have H' := Aside0.mk H;clear H;have cF := ai.out;have cG := ah.out;have Z27 := kz4 ae;go_wp2_with (first | ((with_reducible refine gate_callee (f := 35) rfl ?_); refine goesL_ (some 17) rfl rfl Try.func35 (by kernel_rfl) rfl #[.agg #[.int .i64 ((rd_T61 ab aa).f0), .int .i64 ((rd_T61 ab aa).f1), .int .i64 ((rd_T61 ab aa).f2), .int .u64 ((rd_T61 ab aa).f3)]] rfl (by (try simp only [qM1, qM2, qM3]); first | done | rfl) ?_; (with_reducible refine (qsa.calls ((rd_T61 ab aa).f0) ((rd_T61 ab aa).f1) ((rd_T61 ab aa).f2) ((rd_T61 ab aa).f3) true _ A11.out).mono ?_); rintro e w28 ⟨rfl, hb⟩; refine ⟨_, rfl, ?_⟩; replace ag := Aside0.mk (Kd.R_below (kt ag ae) hb); replace af := kU af hb; replace ae := kO (o' := .cells #[.int .i64 ((rd_T61 ab aa).f0), .int .i64 ((rd_T61 ab aa).f1), .int .i64 ((rd_T61 ab aa).f2), .int .u64 ((rd_T61 ab aa).f3)] 61 (0, 0)) ae hb; replace HB := kH HB hb; (try clear hb); (try clear hb2); (try clear hk); (try clear hi); have Z29 := kz4 ae) | (go_at_call 36; (with_reducible refine (qoa.calls ((rd_T61 ab aa).f0) ((rd_T61 ab aa).f1) ((rd_T61 ab aa).f2) ((rd_T61 ab aa).f3) true _ A23.out).mono ?_); rintro e w30 ⟨rfl, hb⟩; replace ag := kR ag hb; replace af := kU af hb; replace ae := kU ae hb; replace HB := kH HB hb; (try clear hb); (try clear hb2); (try clear hk); (try clear hi); have Z31 := kz4 ae));go_meet
     case rel => exact ⟨_, (true), et, H', ⟨by have := HK1.out; first | omega | exact Nat.le_refl _⟩, ⟨krR ag⟩, ⟨kg af⟩, ⟨kg ae⟩, ⟨kh HB⟩⟩
    rw [if_neg c25] at H;have bv := qqF c25;clear c25;have H' := Aside0.mk H;clear H;have cH := ai.out;have cI := ah.out;have Z33 := kz4 ae;go_wp2_with (first | ((with_reducible refine gate_callee (f := 35) rfl ?_); refine goesL_ (some 17) rfl rfl Try.func35 (by kernel_rfl) rfl #[.agg #[.int .i64 ((rd_T61 ab aa).f0), .int .i64 ((rd_T61 ab aa).f1), .int .i64 ((rd_T61 ab aa).f2), .int .u64 ((rd_T61 ab aa).f3)]] rfl (by (try simp only [qM1, qM2, qM3]); first | done | rfl) ?_; (with_reducible refine (qsa.calls ((rd_T61 ab aa).f0) ((rd_T61 ab aa).f1) ((rd_T61 ab aa).f2) ((rd_T61 ab aa).f3) true _ A11.out).mono ?_); rintro e w34 ⟨rfl, hb⟩; refine ⟨_, rfl, ?_⟩; replace ag := Aside0.mk (Kd.R_below (kt ag ae) hb); replace af := kU af hb; replace ae := kO (o' := .cells #[.int .i64 ((rd_T61 ab aa).f0), .int .i64 ((rd_T61 ab aa).f1), .int .i64 ((rd_T61 ab aa).f2), .int .u64 ((rd_T61 ab aa).f3)] 61 (0, 0)) ae hb; replace HB := kH HB hb; (try clear hb); (try clear hb2); (try clear hk); (try clear hi); have Z35 := kz4 ae) | (go_at_call 36; (with_reducible refine (qoa.calls ((rd_T61 ab aa).f0) ((rd_T61 ab aa).f1) ((rd_T61 ab aa).f2) ((rd_T61 ab aa).f3) true _ A23.out).mono ?_); rintro e w36 ⟨rfl, hb⟩; replace ag := kR ag hb; replace af := kU af hb; replace ae := kU ae hb; replace HB := kH HB hb; (try clear hb); (try clear hb2); (try clear hk); (try clear hi); have Z37 := kz4 ae));go_meet
    case rel => exact ⟨_, (decide (((rd_T61 ab aa).f2) ≥ aa)), et, H', ⟨by have := HK1.out; first | omega | exact Nat.le_refl _⟩, ⟨krR ag⟩, ⟨kg af⟩, ⟨kg ae⟩, ⟨kh HB⟩⟩
   clear HC7;(try clear bo bU bV Z10 al an ao ap aV aW);obtain ⟨kq, aG, rfl, HA, HJ6, ag, af, ae, HB⟩ := hcut
   cases kq with
   | zero => exact absurd HA.out (by simp [qea.j1])
   | succ kj6 =>
    have H := HA.out;clear HA;simp only [qea.j1] at H
    by_cases c63 : aG = true
    ·subst c63
     replace H := ifT H;simp only [Option.some.injEq, Prod.mk.injEq] at H;obtain ⟨rfl, rfl⟩ := H;go_wp2;go_ret2;exact ⟨_, er, by first | exact Kd.R_nil _ _ _ _ _ | exact Kd.N_nil _ _ _ _ _ | exact Kd.V_nil _ _ _ _ _ | exact Kd.Q_nil _ _ _ _ _ | exact Kd.S_nil _ _ _ _ _, kh HB⟩
    replace c63 := Bool.eq_false_iff.mpr c63;subst c63;replace H := ifF H;replace H := qqB H;obtain ⟨bw, bx, H⟩ := H;(try dsimp only at H);have A64 := Aside0.mk bx;clear bx;have bi := Aside0.mk H;clear H;have cJ := ai.out;have cK := ah.out;have Z67 := kz4 ae;go_upto_if 45 with (first | ((with_reducible refine gate_callee (f := 35) rfl ?_); refine goesL_ (some 45) rfl rfl Try.func35 (by kernel_rfl) rfl #[.agg #[.int .i64 ((rd_T61 ab aa).f0), .int .i64 ((rd_T61 ab aa).f1), .int .i64 ((rd_T61 ab aa).f2), .int .u64 ((rd_T61 ab aa).f3)]] rfl (by (try simp only [qM1, qM2, qM3]); first | done | rfl) ?_; (with_reducible refine (qsa.calls ((rd_T61 ab aa).f0) ((rd_T61 ab aa).f1) ((rd_T61 ab aa).f2) ((rd_T61 ab aa).f3) bw _ A64.out).mono ?_); rintro e w68 ⟨rfl, hb⟩; refine ⟨_, rfl, ?_⟩; replace ag := kR ag hb; replace af := kU af hb; replace ae := kU ae hb; replace HB := kH HB hb; (try clear hb); (try clear hb2); (try clear hk); (try clear hi)));(try simp only [Act.put, qS1, qS2, qS3]);go_cut [7] (fun v7 wc => ∃ (kq : Nat) (ak : Int), v7 = .int .i64 ak ∧ Aside0 (qea.j2 kq aj ak ab (ab.length : Int) aa ((rd_T61 ab aa).f0) ((rd_T61 ab aa).f1) ((rd_T61 ab aa).f2) ((rd_T61 ab aa).f3) = some (r1, r2)) ∧ Aside0 (kq ≤ kj6) ∧ Aside0 (Kd.R (Kd.int .i64) 3 wc w.heap.size (fun _ => True) u4 aj) ∧ Aside0 (wc.heap[aQ]? = some (.cells #[(.slice aI ar.length aJ), (.slice (some bf) ab.length aK), (.slice aM au.length aN)] 26 (0, 0))) ∧ Aside0 (wc.heap[bg]? = some (.cells #[.int .i64 ((rd_T61 ab aa).f0), .int .i64 ((rd_T61 ab aa).f1), .int .i64 ((rd_T61 ab aa).f2), .int .u64 ((rd_T61 ab aa).f3)] 61 (0, 0))) ∧ Aside0 (Below w.heap.size w wc))
    case first =>
     have H := bi.out;clear bi
     by_cases c69 : bw = true
     rotate_left
     ·replace c69 := Bool.eq_false_iff.mpr c69
      subst c69;replace H := ifF H;have H' := Aside0.mk H;clear H;go_wp2;go_meet
      case rel => exact ⟨_, (0), et, H', ⟨by have := HK1.out; have := HJ6.out; first | omega | exact Nat.le_refl _⟩, ⟨krR ag⟩, ⟨kg af⟩, ⟨kg ae⟩, ⟨kh HB⟩⟩
     subst c69;replace H := ifT H
     by_cases c70 : 0 ≤ ((rd_T61 ab aa).f1)
     rotate_left
     ·rw [if_neg c70] at H
      exact absurd H (by simp)
     rw [if_pos c70] at H;have bh := qqT c70;clear c70;(first | rw [bh] | (simp only [i64_w, i32_w]; rw [bh]) | skip)
     by_cases c71 : ((rd_T61 ab aa).f1) < (aj.length : Int)
     rotate_left
     ·rw [if_neg c71] at H
      exact absurd H (by simp)
     rw [if_pos c71] at H;have cL := qqT c71;clear c71;have H' := Aside0.mk H;clear H;have cM := ai.out;have cN := ah.out;have Z73 := kz4 ae;obtain ⟨cZ, da, ca⟩ := Kd.R_slice ag.out;subst ca;have bj : 0 ≤ (((rd_T61 ab aa).f1) : Int) := od;have bk : ((rd_T61 ab aa).f1) < (aj.length : Int) := od;obtain ⟨cO, cb, bT⟩ := Kd.at_int (Kd.R_reads' ag.out).2.2 ((rd_T61 ab aa).f1) bj bk;cases cb;replace bj := eq_true bj; replace bk := eq_true bk;go_wp2;go_meet
     case rel => exact ⟨_, (rd aj ((rd_T61 ab aa).f1)), et, H', ⟨by have := HK1.out; have := HJ6.out; first | omega | exact Nat.le_refl _⟩, ⟨krR ag⟩, ⟨kg af⟩, ⟨kg ae⟩, ⟨kh HB⟩⟩
    clear bi;(try clear c63 Z67);obtain ⟨kq, ak, rfl, HA, ax, ag, af, ae, HB⟩ := hcut
    cases kq with
    | zero => exact absurd HA.out (by simp [qea.j2])
    | succ aq =>
     have H := HA.out;clear HA;simp only [qea.j2] at H;replace H := qqB H;obtain ⟨cc, bz, H⟩ := H;(try dsimp only at H);have A75 := Aside0.mk bz;clear bz
     by_cases c76 : cc = true
     rotate_left
     ·replace c76 := Bool.eq_false_iff.mpr c76
      subst c76;replace H := ifF H
      by_cases c95 : ((rd_T61 ab aa).f0) = 5
      rotate_left
      ·rw [if_neg c95] at H
       have bA := beq_eq_false_iff_ne.mpr c95;have bB := bne_iff_ne.mpr c95
       by_cases aX : aj.length < 17592186044416
       rotate_left
       ·rw [if_neg aX] at H
        exact absurd H (by simp)
       rw [if_pos aX] at H;have bl := Aside0.mk aX;clear aX;obtain ⟨bC, ay⟩ : ∃ y_ : List Int, y_ = (aj ++ [ak]) := ⟨_, rfl⟩
       replace H : (qea.l0 aq bC ab (ab.length : Int) (wrap64 (aa + 1))) = some (r1, r2) := by first | (rw [ay]; with_reducible exact H) | (have H2_ := (Option.bind_some _ _).symm.trans H; rw [ay]; with_reducible exact H2_) | (have H2_ := (Option.bind_some _ _).symm.trans H; with_reducible exact H2_) | with_reducible exact H | (rw [ay]; exact H) | exact H
       have bD := Aside0.mk ay;clear ay;have H' := Aside0.mk H;clear H;have cd := ai.out;have ce := ah.out;have db := kz4 ae;go_wp2_with (first | ((with_reducible refine gate_callee (f := 36) rfl ?_); refine goesL_ (some 52) rfl rfl Try.func36 (by kernel_rfl) rfl #[.agg #[.int .i64 ((rd_T61 ab aa).f0), .int .i64 ((rd_T61 ab aa).f1), .int .i64 ((rd_T61 ab aa).f2), .int .u64 ((rd_T61 ab aa).f3)]] rfl (by (try simp only [qM1, qM2, qM3]); first | done | rfl) ?_; (with_reducible refine (qoa.calls ((rd_T61 ab aa).f0) ((rd_T61 ab aa).f1) ((rd_T61 ab aa).f2) ((rd_T61 ab aa).f3) false _ A75.out).mono ?_); rintro e dc ⟨rfl, hb⟩; refine ⟨_, rfl, ?_⟩; replace ag := kR ag hb; replace af := kU af hb; replace ae := kU ae hb; replace HB := kH HB hb; (try clear hb); (try clear hb2); (try clear hk); (try clear hi); have dd := kz4 ae) | ((with_reducible refine gate_builtin (b := .append) (xs := #[.tmp 65, .tmp 67]) rfl ?_); at_builtin; refine Kd.R_append (Kd.int .i64) (w0 := w) w.heap.size rfl (.tmp 65) (.tmp 67) 27 3 (.int .i64 0) 8 rfl Try.underlying27 info3 rfl (by decide) (by omega) u4 aj ak [.int .i64 ak] (fun _ => True) (fun _ => False) rfl rfl ?aP (fun _ hk => hk.elim) ?aF ?aO ?aB ?aS ?aL ?_; (case aP => exact rfl); (case aB => exact (kh HB)); (case aF => exact (fun _ _ => trivial)); (case aO => exact (krR ag)); (case aS => exact (below_size (kh HB))); (case aL => have := bl.out; omega); intro de df ho hb hg hat; rw [← bD.out] at ho; replace af := kXR af ag hg; replace ae := kXR ae ag hg; replace HB := Aside0.mk (hb); have bE := Aside0.mk (ho); clear ag; clear ho hb hg hat));go_roundg aq
       case measure => have := HK1.out; have := HJ6.out; have := ax.out; omega
       case rel => exact ⟨(bC), (wrap64 (aa + 1)), et, H', ⟨by have := HK1.out; have := HJ6.out; have := ax.out; omega⟩, ⟨krR bE⟩, ⟨kg af⟩, ⟨kh HB⟩⟩
      rw [if_pos c95] at H;have bA := beq_iff_eq.mpr c95;have bB := bne_eq_false_iff_eq.mpr c95;clear c95
      by_cases c96 : aj.length < 17592186044416
      rotate_left
      ·rw [if_neg c96] at H
       exact absurd H (by simp)
      rw [if_pos c96] at H;have bF := Aside0.mk c96;clear c96;obtain ⟨bG, az⟩ : ∃ y_ : List Int, y_ = (aj ++ [wrap64 (ak + 1)]) := ⟨_, rfl⟩
      replace H : (qea.l0 aq bG ab (ab.length : Int) (wrap64 (aa + 1))) = some (r1, r2) := by first | (rw [az]; with_reducible exact H) | (have H2_ := (Option.bind_some _ _).symm.trans H; rw [az]; with_reducible exact H2_) | (have H2_ := (Option.bind_some _ _).symm.trans H; with_reducible exact H2_) | with_reducible exact H | (rw [az]; exact H) | exact H
      have bH := Aside0.mk az;clear az;have H' := Aside0.mk H;clear H;have cP := ai.out;have cQ := ah.out;have Z98 := kz4 ae;go_wp2_with (first | ((with_reducible refine gate_callee (f := 36) rfl ?_); refine goesL_ (some 52) rfl rfl Try.func36 (by kernel_rfl) rfl #[.agg #[.int .i64 ((rd_T61 ab aa).f0), .int .i64 ((rd_T61 ab aa).f1), .int .i64 ((rd_T61 ab aa).f2), .int .u64 ((rd_T61 ab aa).f3)]] rfl (by (try simp only [qM1, qM2, qM3]); first | done | rfl) ?_; (with_reducible refine (qoa.calls ((rd_T61 ab aa).f0) ((rd_T61 ab aa).f1) ((rd_T61 ab aa).f2) ((rd_T61 ab aa).f3) false _ A75.out).mono ?_); rintro e w99 ⟨rfl, hb⟩; refine ⟨_, rfl, ?_⟩; replace ag := kR ag hb; replace af := kU af hb; replace ae := kU ae hb; replace HB := kH HB hb; (try clear hb); (try clear hb2); (try clear hk); (try clear hi); have dg := kz4 ae) | ((with_reducible refine gate_builtin (b := .append) (xs := #[.tmp 65, .tmp 67]) rfl ?_); at_builtin; refine Kd.R_append (Kd.int .i64) (w0 := w) w.heap.size rfl (.tmp 65) (.tmp 67) 27 3 (.int .i64 0) 8 rfl Try.underlying27 info3 rfl (by decide) (by omega) u4 aj (wrap64 (ak + 1)) [.int .i64 (wrap64 (ak + 1))] (fun _ => True) (fun _ => False) rfl rfl ?aP (fun _ hk => hk.elim) ?aF ?aO ?aB ?aS ?aL ?_; (case aP => exact rfl); (case aB => exact (kh HB)); (case aF => exact (fun _ _ => trivial)); (case aO => exact (krR ag)); (case aS => exact (below_size (kh HB))); (case aL => have := bF.out; omega); intro dh di ho hb hg hat; rw [← bH.out] at ho; replace af := kXR af ag hg; replace ae := kXR ae ag hg; replace HB := Aside0.mk (hb); have bI := Aside0.mk (ho); clear ag; clear ho hb hg hat));go_roundg aq
      case measure => have := HK1.out; have := HJ6.out; have := ax.out; omega
      case rel => exact ⟨(bG), (wrap64 (aa + 1)), et, H', ⟨by have := HK1.out; have := HJ6.out; have := ax.out; omega⟩, ⟨krR bI⟩, ⟨kg af⟩, ⟨kh HB⟩⟩
     subst c76;replace H := ifT H
     by_cases c77 : 0 ≤ ((rd_T61 ab aa).f2)
     rotate_left
     ·rw [if_neg c77] at H
      exact absurd H (by simp)
     rw [if_pos c77] at H;have cR := qqT c77;clear c77
     by_cases c78 : ((rd_T61 ab aa).f2) < (aj.length : Int)
     rotate_left
     ·rw [if_neg c78] at H
      exact absurd H (by simp)
     rw [if_pos c78] at H;have cS := qqT c78;clear c78;obtain ⟨av, aH⟩ : ∃ j_ : Int, (mx ak (rd aj ((rd_T61 ab aa).f2))) = j_ := ⟨_, rfl⟩
     replace H : (if ((rd_T61 ab aa).f0) = 5 then (if aj.length < 17592186044416 then (qea.l0 aq (aj ++ [wrap64 ((av) + 1)]) ab (ab.length : Int) (wrap64 (aa + 1))) else (none)) else (if aj.length < 17592186044416 then (qea.l0 aq (aj ++ [av]) ab (ab.length : Int) (wrap64 (aa + 1))) else (none))) = some (r1, r2) := by first | (rw [aH] at H; exact H) | (simp only [aH] at H ⊢; exact H)
     (try rw [aH] at A75);have hji79_ : (if ak < (rd aj ((rd_T61 ab aa).f2)) then (rd aj ((rd_T61 ab aa).f2)) else ak) = av := aH
     by_cases c80 : ((rd_T61 ab aa).f0) = 5
     rotate_left
     ·rw [if_neg c80] at H
      have bJ := beq_eq_false_iff_ne.mpr c80;have bK := bne_iff_ne.mpr c80
      by_cases c88 : aj.length < 17592186044416
      rotate_left
      ·rw [if_neg c88] at H
       exact absurd H (by simp)
      rw [if_pos c88] at H;have bL := Aside0.mk c88;clear c88;obtain ⟨bM, aA⟩ : ∃ y_ : List Int, y_ = (aj ++ [av]) := ⟨_, rfl⟩
      replace H : (qea.l0 aq bM ab (ab.length : Int) (wrap64 (aa + 1))) = some (r1, r2) := by first | (rw [aA]; with_reducible exact H) | (have H2_ := (Option.bind_some _ _).symm.trans H; rw [aA]; with_reducible exact H2_) | (have H2_ := (Option.bind_some _ _).symm.trans H; with_reducible exact H2_) | with_reducible exact H | (rw [aA]; exact H) | exact H
      have bN := Aside0.mk aA;clear aA;have H' := Aside0.mk H;clear H;have cT := ai.out;have cU := ah.out;have Z90 := kz4 ae;go_wp2_with (first | ((with_reducible refine gate_callee (f := 36) rfl ?_); refine goesL_ (some 52) rfl rfl Try.func36 (by kernel_rfl) rfl #[.agg #[.int .i64 ((rd_T61 ab aa).f0), .int .i64 ((rd_T61 ab aa).f1), .int .i64 ((rd_T61 ab aa).f2), .int .u64 ((rd_T61 ab aa).f3)]] rfl (by (try simp only [qM1, qM2, qM3]); first | done | rfl) ?_; (with_reducible refine (qoa.calls ((rd_T61 ab aa).f0) ((rd_T61 ab aa).f1) ((rd_T61 ab aa).f2) ((rd_T61 ab aa).f3) true _ A75.out).mono ?_); rintro e w91 ⟨rfl, hb⟩; refine ⟨_, rfl, ?_⟩; replace ag := kR ag hb; replace af := kU af hb; replace ae := kU ae hb; replace HB := kH HB hb; (try clear hb); (try clear hb2); (try clear hk); (try clear hi); have Z92 := kz4 ae; obtain ⟨dj, cf, cg⟩ := Kd.R_slice ag.out; subst cg; have aD : 0 ≤ (((rd_T61 ab aa).f2) : Int) := od; have aE : ((rd_T61 ab aa).f2) < (aj.length : Int) := od; obtain ⟨aT, bm, aY⟩ := Kd.at_int (Kd.R_reads' ag.out).2.2 ((rd_T61 ab aa).f2) aD aE; cases bm; replace aD := eq_true aD; replace aE := eq_true aE) | ((with_reducible refine gate_builtin (b := .append) (xs := #[.tmp 65, .tmp 67]) rfl ?_); at_builtin; refine Kd.R_append (Kd.int .i64) (w0 := w) w.heap.size rfl (.tmp 65) (.tmp 67) 27 3 (.int .i64 0) 8 rfl Try.underlying27 info3 rfl (by decide) (by omega) (.slice (some aT) aj.length cf) aj av [.int .i64 av] (fun _ => True) (fun _ => False) rfl rfl ?aP (fun _ hk => hk.elim) ?aF ?aO ?aB ?aS ?aL ?_; (case aP => exact rfl); (case aB => exact (kh HB)); (case aF => exact (fun _ _ => trivial)); (case aO => exact (krR ag)); (case aS => exact (below_size (kh HB))); (case aL => have := bL.out; omega); intro dk w94 ho hb hg hat; rw [← bN.out] at ho; replace af := kXR af ag hg; replace ae := kXR ae ag hg; replace HB := Aside0.mk (hb); have bO := Aside0.mk (ho); clear ag; clear ho hb hg hat));go_roundg aq
      case measure => have := HK1.out; have := HJ6.out; have := ax.out; omega
      case rel => exact ⟨(bM), (wrap64 (aa + 1)), et, H', ⟨by have := HK1.out; have := HJ6.out; have := ax.out; omega⟩, ⟨krR bO⟩, ⟨kg af⟩, ⟨kh HB⟩⟩
     rw [if_pos c80] at H;have bJ := beq_iff_eq.mpr c80;have bK := bne_eq_false_iff_eq.mpr c80;clear c80
     by_cases c81 : aj.length < 17592186044416
     rotate_left
     ·rw [if_neg c81] at H
      exact absurd H (by simp)
     rw [if_pos c81] at H;have bP := Aside0.mk c81;clear c81;obtain ⟨bQ, aC⟩ : ∃ y_ : List Int, y_ = (aj ++ [wrap64 ((av) + 1)]) := ⟨_, rfl⟩
     replace H : (qea.l0 aq bQ ab (ab.length : Int) (wrap64 (aa + 1))) = some (r1, r2) := by first | (rw [aC]; with_reducible exact H) | (have H2_ := (Option.bind_some _ _).symm.trans H; rw [aC]; with_reducible exact H2_) | (have H2_ := (Option.bind_some _ _).symm.trans H; with_reducible exact H2_) | with_reducible exact H | (rw [aC]; exact H) | exact H
     have bR := Aside0.mk aC;clear aC;have H' := Aside0.mk H;clear H;have cV := ai.out;have cW := ah.out;have Z83 := kz4 ae;go_wp2_with (first | ((with_reducible refine gate_callee (f := 36) rfl ?_); refine goesL_ (some 52) rfl rfl Try.func36 (by kernel_rfl) rfl #[.agg #[.int .i64 ((rd_T61 ab aa).f0), .int .i64 ((rd_T61 ab aa).f1), .int .i64 ((rd_T61 ab aa).f2), .int .u64 ((rd_T61 ab aa).f3)]] rfl (by (try simp only [qM1, qM2, qM3]); first | done | rfl) ?_; (with_reducible refine (qoa.calls ((rd_T61 ab aa).f0) ((rd_T61 ab aa).f1) ((rd_T61 ab aa).f2) ((rd_T61 ab aa).f3) true _ A75.out).mono ?_); rintro e w84 ⟨rfl, hb⟩; refine ⟨_, rfl, ?_⟩; replace ag := kR ag hb; replace af := kU af hb; replace ae := kU ae hb; replace HB := kH HB hb; (try clear hb); (try clear hb2); (try clear hk); (try clear hi); have Z85 := kz4 ae; obtain ⟨dl, ch, ci⟩ := Kd.R_slice ag.out; subst ci; have aD : 0 ≤ (((rd_T61 ab aa).f2) : Int) := od; have aE : ((rd_T61 ab aa).f2) < (aj.length : Int) := od; obtain ⟨aT, bm, aY⟩ := Kd.at_int (Kd.R_reads' ag.out).2.2 ((rd_T61 ab aa).f2) aD aE; cases bm; replace aD := eq_true aD; replace aE := eq_true aE) | ((with_reducible refine gate_builtin (b := .append) (xs := #[.tmp 65, .tmp 67]) rfl ?_); at_builtin; refine Kd.R_append (Kd.int .i64) (w0 := w) w.heap.size rfl (.tmp 65) (.tmp 67) 27 3 (.int .i64 0) 8 rfl Try.underlying27 info3 rfl (by decide) (by omega) (.slice (some aT) aj.length ch) aj (wrap64 ((av) + 1)) [.int .i64 (wrap64 ((av) + 1))] (fun _ => True) (fun _ => False) rfl rfl ?aP (fun _ hk => hk.elim) ?aF ?aO ?aB ?aS ?aL ?_; (case aP => exact rfl); (case aB => exact (kh HB)); (case aF => exact (fun _ _ => trivial)); (case aO => exact (krR ag)); (case aS => exact (below_size (kh HB))); (case aL => have := bP.out; omega); intro dm w87 ho hb hg hat; rw [← bR.out] at ho; replace af := kXR af ag hg; replace ae := kXR ae ag hg; replace HB := Aside0.mk (hb); have bS := Aside0.mk (ho); clear ag; clear ho hb hg hat));go_roundg aq
     case measure => have := HK1.out; have := HJ6.out; have := ax.out; omega
     case rel => exact ⟨(bQ), (wrap64 (aa + 1)), et, H', ⟨by have := HK1.out; have := HJ6.out; have := ax.out; omega⟩, ⟨krR bS⟩, ⟨kg af⟩, ⟨kh HB⟩⟩
theorem rdOf_set_ (xs : List Int) (i v : Int) (h0 : 0 ≤ i) (h1 : i < xs.length) : rdOf 0 (xs.set i.toNat v) i = v := by
 unfold rdOf;rw [List.getD_eq_getElem?_getD, List.getElem?_set_self (by omega)]
 rfl
mutual
def tune_Levels.l0 : Nat → List Int → List (S61) → Int → Int → Option (List Int)
 | 0, _, _, _, _ => none
 | k + 1, x3, x12, x13, x14 => if x14 < x13 then (if 0 ≤ x14 then (if x14 < (x12.length : Int) then (if ((rd_T61 x12 x14).f0) = 3 then (tune_Levels.j1 k x3 x14 true x12 x13 x14 ((rd_T61 x12 x14).f0) ((rd_T61 x12 x14).f1) ((rd_T61 x12 x14).f2) ((rd_T61 x12 x14).f3)) else (if ((rd_T61 x12 x14).f0) = 4 then (tune_Levels.j1 k x3 x14 true x12 x13 x14 ((rd_T61 x12 x14).f0) ((rd_T61 x12 x14).f1) ((rd_T61 x12 x14).f2) ((rd_T61 x12 x14).f3)) else (tune_Levels.j1 k x3 x14 (((rd_T61 x12 x14).f0) == 5) x12 x13 x14 ((rd_T61 x12 x14).f0) ((rd_T61 x12 x14).f1) ((rd_T61 x12 x14).f2) ((rd_T61 x12 x14).f3)))) else (none)) else (none)) else (some x3)
def tune_Levels.j1 : Nat → List Int → Int → Bool → List (S61) → Int → Int → Int → Int → Int → Int → Option (List Int)
 | 0, _, _, _, _, _, _, _, _, _, _ => none
 | k + 1, x3, x4, x6, x12, x13, x14, ae, aa, ab, af => if x6 = true then (if aa < 0 then (tune_Levels.j2 k x3 x4 x6 x12 x13 x14 true ae aa ab af) else (if aa ≥ x4 then (tune_Levels.j2 k x3 x4 x6 x12 x13 x14 true ae aa ab af) else (if ab < 0 then (tune_Levels.j2 k x3 x4 x6 x12 x13 x14 true ae aa ab af) else (tune_Levels.j2 k x3 x4 x6 x12 x13 x14 (decide (ab ≥ x4)) ae aa ab af)))) else (if ae = 6 then (if aa < 0 then (tune_Levels.j2 k x3 x4 x6 x12 x13 x14 true ae aa ab af) else (if aa ≥ x4 then (tune_Levels.j2 k x3 x4 x6 x12 x13 x14 true ae aa ab af) else (tune_Levels.j2 k x3 x4 x6 x12 x13 x14 false ae aa ab af))) else (tune_Levels.j2 k x3 x4 x6 x12 x13 x14 false ae aa ab af))
def tune_Levels.j2 : Nat → List Int → Int → Bool → List (S61) → Int → Int → Bool → Int → Int → Int → Int → Option (List Int)
 | 0, _, _, _, _, _, _, _, _, _, _, _ => none
 | k + 1, x3, x4, x6, x12, x13, x14, x62, ae, aa, ab, af => if x62 = true then (some ([] : List Int)) else (if x6 = true then (if 0 ≤ aa then (if aa < (x3.length : Int) then (if 0 ≤ ab then (if ab < (x3.length : Int) then (if 0 ≤ x4 then (if x4 < (x3.length : Int) then ((some (x3.set (x4 : Int).toNat (mx (rd x3 aa) (rd x3 ab)) : List Int)).bind fun ah => (if ae = 5 then (tune_Levels.l0 k (ah.set (x4 : Int).toNat (wrap64 ((mx (rd x3 aa) (rd x3 ab)) + 1))) x12 x13 (wrap64 (x14 + 1))) else (tune_Levels.l0 k ah x12 x13 (wrap64 (x14 + 1))))) else (none)) else (none)) else (none)) else (none)) else (none)) else (none)) else (if ae = 6 then (if 0 ≤ aa then (if aa < (x3.length : Int) then (if 0 ≤ x4 then (if x4 < (x3.length : Int) then ((some (x3.set (x4 : Int).toNat (rd x3 aa) : List Int)).bind fun ag => (if ae = 5 then (tune_Levels.l0 k (ag.set (x4 : Int).toNat (wrap64 ((rd ag x4) + 1))) x12 x13 (wrap64 (x14 + 1))) else (tune_Levels.l0 k ag x12 x13 (wrap64 (x14 + 1))))) else (none)) else (none)) else (none)) else (none)) else (if ae = 5 then (if 0 ≤ x4 then (if x4 < (x3.length : Int) then (tune_Levels.l0 k (x3.set (x4 : Int).toNat (wrap64 ((rd x3 x4) + 1))) x12 x13 (wrap64 (x14 + 1))) else (none)) else (none)) else (tune_Levels.l0 k x3 x12 x13 (wrap64 (x14 + 1))))))
end
def tune_Levels.f (k : Nat) (ab : List (S64)) (aa : List (S61)) (ae : List (S66)) : Option (List Int) := if 0 ≤ (aa.length : Int) then (if ((aa.length : Int) : Int).toNat ≤ 35184372088832 then (tune_Levels.l0 k (List.replicate ((aa.length : Int) : Int).toNat 0) aa (aa.length : Int) 0) else (none)) else (none)
def tune_Levels.T9 : Bool × List (List Nat × List Nat) := (true, [([], []), ([], []), ([], []), ([], []), ([3], [3]), ([2, 4], [2, 4]), ([5], [5]), ([], []), ([], []), ([8], [8]), ([7, 9], [7, 9]), ([10], [10]), ([6, 11], [6, 11]), ([0, 1, 0, 1, 2, 3, 4, 5, 6, 7, 8, 9, 10, 11, 12], [0, 1]), ([13, 12, 0, 1, 2, 3, 4, 5, 6, 7, 8, 9, 10, 11, 12], [12, 13])])
def tune_Levels.B9 : List Nat := [0, 0, 0, 0, 8, 28, 60, 0, 0, 256, 896, 1920, 4092, 8191, 16383]
theorem tune_Levels.tab9 : rtab .any (opsOf Try.f14 9) = tune_Levels.T9 := by kernel_rfl
theorem tune_Levels.bits9 : waitsOk tune_Levels.T9.2 tune_Levels.B9 = true := by kernel_rfl
theorem tune_Levels.calls (k : Nat) (aX : Option Addr) (aY : Nat) (aC : List (S64)) (bx : Option Addr) (aZ : Nat) (ab : List (S61)) (ba : Option Addr) (bb : Nat) (aD : List (S66)) (r : List Int) (w : World) (bD : Kd.C k64 w aX aC.length aC) (bE : aC.length ≤ aY) (bF : Kd.C k61 w bx ab.length ab) (bG : ab.length ≤ aZ) (bH : Kd.C k66 w ba aD.length aD) (bI : aD.length ≤ bb) (h : tune_Levels.f k aC ab aD = some r) :
  Calls Try.prog 14 #[.agg #[.slice aX aC.length aY, .slice bx ab.length aZ, .slice ba aD.length bb]] w fun e w' => ∃ v0_ : Value, e = .returned (v0_) ∧ Kd.R (Kd.int .i64) 3 w' w.heap.size (fun _ => True) v0_ r ∧ Below w.heap.size w w' := by
 have hu26 := Try.underlying26;have hu61 := Try.underlying61;have dE := Aside0.mk bD;have dF := Aside0.mk bE;clear bD bE;have ci := Aside0.mk bF;have dG := Aside0.mk bG;clear bF bG;have dH := Aside0.mk bH;have dI := Aside0.mk bI;clear bH bI;have HB := Aside0.mk (Below.refl w.heap.size w);have H : (if 0 ≤ (ab.length : Int) then (if ((ab.length : Int) : Int).toNat ≤ 35184372088832 then (tune_Levels.l0 k (List.replicate ((ab.length : Int) : Int).toNat 0) ab (ab.length : Int) 0) else (none)) else (none)) = some r := h;clear h
 by_cases c2 : 0 ≤ (ab.length : Int)
 rotate_left
 ·rw [if_neg c2] at H
  exact absurd H (by simp)
 rw [if_pos c2] at H;have df := eq_true c2;have dg := qqT c2;clear c2
 by_cases c3 : ((ab.length : Int) : Int).toNat ≤ 35184372088832
 rotate_left
 ·rw [if_neg c3] at H
  exact absurd H (by simp)
 rw [if_pos c3] at H;have dh := eq_true c3;have di := qqT c3;clear c3;obtain ⟨cj, aK⟩ : ∃ y_ : List Int, y_ = (List.replicate ((ab.length : Int) : Int).toNat 0) := ⟨_, rfl⟩
 replace H : (tune_Levels.l0 k cj ab (ab.length : Int) 0) = some r := by first | (rw [aK]; with_reducible exact H) | (have H2_ := (Option.bind_some _ _).symm.trans H; rw [aK]; with_reducible exact H2_) | (have H2_ := (Option.bind_some _ _).symm.trans H; with_reducible exact H2_) | with_reducible exact H | (rw [aK]; exact H) | exact H
 have bJ := Aside0.mk aK;clear aK;have H' := Aside0.mk H;clear H;go_enter Try.func14, Try.ntmps14;go_wp2_with (first | ((with_reducible refine gate_dst (N := 1) rfl ?_); refine box_event ?hg (N := 1) ?hd (cs := #[.slice aX aC.length aY, .slice bx ab.length aZ, .slice ba aD.length bb]) (t := 26) ?hr ?_; (case hd | hg => rfl); (case hr => go_simp; try rfl); intro bk hg w4 hbox hb; have ag := am hbox; have dJ := kG HB hg; have dK := kG HB hg; replace HB := kH HB hb; clear hb hbox hg; have Z5 := kz3 ag) | ((with_reducible refine gate_dst (N := 10) rfl ?_); refine Kd.R_make (Kd.int .i64) _ 3 rfl (N := 10) rfl 27 _ _ rfl (ab.length : Int) rfl rfl Try.underlying27 (.int .i64 0) 8 info3 rfl (by decide) (by omega) 0 (ok := fun _ => True) (okp := fun _ => True) rfl (fun _ hk => hk) trivial od (Nat.le_trans (Nat.mul_le_mul_right _ (od : (ab.length : Int).toNat ≤ 35184372088832)) (by omega)) (Below.refl _ _) (Nat.le_refl _) ?_; intro bK w6 ho7 hb hg_ hnew_; clear hg_ hnew_; (first | rw [← bJ.out] at ho7 | (simp only [Int.reduceToNat] at ho7; rw [← bJ.out] at ho7)); have ck := kLR ho7 HB; replace ag := kU ag hb; replace HB := kH HB hb; clear hb ho7; have Z8 := kz3 ag));go_loopg [14] k (fun kq v14 w' => ∃ (aj : List Int) (aa : Int), v14 = .int .i64 aa ∧ Aside0 (tune_Levels.l0 kq aj ab (ab.length : Int) aa = some r) ∧ Aside0 (kq ≤ k) ∧ Aside0 (Kd.R (Kd.int .i64) 3 w' w.heap.size (fun _ => True) bK aj) ∧ Aside0 (w'.heap[bk]? = some (.cells #[(.slice aX aC.length aY), (.slice bx ab.length aZ), (.slice ba aD.length bb)] 26 (0, 0))) ∧ Aside0 (Below w.heap.size w w'))
 case atStart => exact ⟨(cj), (0), et, H', ⟨Nat.le_refl _⟩, ⟨krR ck⟩, ⟨kg ag⟩, ⟨kh HB⟩⟩
 case round =>
  clear H';(try clear df dg dh di Z5 Z8);obtain ⟨aj, aa, rfl, HA, HK1, af, ag, HB⟩ := hrel
  cases gk with
  | zero => exact absurd HA.out (by simp [tune_Levels.l0])
  | succ k1 =>
   have H := HA.out;clear HA;simp only [tune_Levels.l0] at H
   by_cases c9 : aa < (ab.length : Int)
   rotate_left
   ·rw [if_neg c9] at H
    have cl := qqF c9;clear c9;obtain rfl := qqI H;go_wp2;go_ret;exact ⟨_, er, by (with_reducible repeat first | apply Kd.R_alloc | apply Kd.R_drewN | apply Kd.R_drew); exact af.out, kh HB⟩
   rw [if_pos c9] at H;have cl := qqT c9;clear c9
   by_cases c10 : 0 ≤ aa
   rotate_left
   ·rw [if_neg c10] at H
    exact absurd H (by simp)
   rw [if_pos c10] at H;have cm := qqT c10;clear c10
   by_cases c11 : aa < (ab.length : Int)
   rotate_left
   ·rw [if_neg c11] at H
    exact absurd H (by simp)
   rw [if_pos c11] at H;have cn := qqT c11;clear c11;have bL := Aside0.mk H;clear H;have bz : 0 ≤ (aa : Int) := od;have bA : aa < (ab.length : Int) := od;obtain ⟨bl, dj, av, aw, ax, ay⟩ := at_T61 ci.out aa bz bA;cases dj;replace av := (HB.out.cell (qqW w _ av)).trans av;replace aw := (HB.out.cell (qqW w _ aw)).trans aw;replace ax := (HB.out.cell (qqW w _ ax)).trans ax;replace ay := (HB.out.cell (qqW w _ ay)).trans ay;replace bz := eq_true bz; replace bA := eq_true bA;go_upto_region 5 with (first | ((with_reducible refine gate_dst (N := 5) rfl ?_); refine box_event ?hg (N := 5) ?hd (cs := #[.int .i64 0, .int .i64 0, .int .i64 0, .int .u64 0]) (t := 61) ?hr ?_; (case hd | hg => rfl); (case hr => go_simp; try rfl); intro ak hg w13 hbox hb; replace af := kR af hb; have ae := am hbox; have dL := kG HB hg; have dM := kG HB hg; replace HB := kH HB hb; have ah := kP ag hg; have ai := kQ ag hg; replace ag := kU ag hb; clear hb hbox hg; have dN := ai.out; have dO := ah.out; have Z15 := kz4 ae));(try simp only [Act.put, qS1, qS2, qS3]);go_cut [6] (fun v6 wc => ∃ (kq : Nat) (aE : Bool), v6 = .bool aE ∧ Aside0 (tune_Levels.j1 kq aj aa aE ab (ab.length : Int) aa ((rd_T61 ab aa).f0) ((rd_T61 ab aa).f1) ((rd_T61 ab aa).f2) ((rd_T61 ab aa).f3) = some r) ∧ Aside0 (kq ≤ k1) ∧ Aside0 (Kd.R (Kd.int .i64) 3 wc w.heap.size (fun _ => True) bK aj) ∧ Aside0 (wc.heap[bk]? = some (.cells #[(.slice aX aC.length aY), (.slice (some bl) ab.length aZ), (.slice ba aD.length bb)] 26 (0, 0))) ∧ Aside0 (wc.heap[ak]? = some (.cells #[.int .i64 ((rd_T61 ab aa).f0), .int .i64 ((rd_T61 ab aa).f1), .int .i64 ((rd_T61 ab aa).f2), .int .u64 ((rd_T61 ab aa).f3)] 61 (0, 0))) ∧ Aside0 (Below w.heap.size w wc))
   case first =>
    have H := bL.out;clear bL
    by_cases c16 : ((rd_T61 ab aa).f0) = 3
    ·rw [if_pos c16] at H
     have aM := beq_iff_eq.mpr c16;have co := bne_eq_false_iff_eq.mpr c16;clear c16;(first | rw [aM] | (simp only [i64_w, i32_w]; rw [aM]) | skip);have H' := Aside0.mk H;clear H;have dP := ai.out;have dQ := ah.out;have Z18 := kz4 ae;go_wp2;go_meet
     case rel => exact ⟨_, (true), et, H', ⟨by have := HK1.out; first | omega | exact Nat.le_refl _⟩, ⟨by (with_reducible repeat first | apply Kd.R_alloc | apply Kd.R_drewN | apply Kd.R_drew); exact Kd.R_mono (Kd.R_far (p := ⟨ak, 3, none⟩) (Kd.R_far (p := ⟨ak, 2, none⟩) (Kd.R_far (p := ⟨ak, 1, none⟩) (Kd.R_far (p := ⟨ak, 0, none⟩) (Kd.R_types af.out ae.out (by decide)) (fun _ hk => hk.2) (.int .i64 ((rd_T61 ab aa).f0))) (fun _ hk => hk.2) (.int .i64 ((rd_T61 ab aa).f1))) (fun _ hk => hk.2) (.int .i64 ((rd_T61 ab aa).f2))) (fun _ hk => hk.2) (.int .u64 ((rd_T61 ab aa).f3))) (fun _ hk => trivial)⟩, ⟨kg ag⟩, ⟨kg ae⟩, ⟨kh HB⟩⟩
    rw [if_neg c16] at H;have aM := beq_eq_false_iff_ne.mpr c16;have co := bne_iff_ne.mpr c16;(first | rw [aM] | (simp only [i64_w, i32_w]; rw [aM]) | skip)
    by_cases c19 : ((rd_T61 ab aa).f0) = 4
    rotate_left
    ·rw [if_neg c19] at H
     have cp := beq_eq_false_iff_ne.mpr c19;have cq := bne_iff_ne.mpr c19;have H' := Aside0.mk H;clear H;have dR := ai.out;have dS := ah.out;have Z23 := kz4 ae;go_wp2;go_meet
     case rel => exact ⟨_, ((((rd_T61 ab aa).f0) == 5)), et, H', ⟨by have := HK1.out; first | omega | exact Nat.le_refl _⟩, ⟨by (with_reducible repeat first | apply Kd.R_alloc | apply Kd.R_drewN | apply Kd.R_drew); exact Kd.R_mono (Kd.R_far (p := ⟨ak, 3, none⟩) (Kd.R_far (p := ⟨ak, 2, none⟩) (Kd.R_far (p := ⟨ak, 1, none⟩) (Kd.R_far (p := ⟨ak, 0, none⟩) (Kd.R_types af.out ae.out (by decide)) (fun _ hk => hk.2) (.int .i64 ((rd_T61 ab aa).f0))) (fun _ hk => hk.2) (.int .i64 ((rd_T61 ab aa).f1))) (fun _ hk => hk.2) (.int .i64 ((rd_T61 ab aa).f2))) (fun _ hk => hk.2) (.int .u64 ((rd_T61 ab aa).f3))) (fun _ hk => trivial)⟩, ⟨kg ag⟩, ⟨kg ae⟩, ⟨kh HB⟩⟩
    rw [if_pos c19] at H;have cp := beq_iff_eq.mpr c19;have cq := bne_eq_false_iff_eq.mpr c19;clear c19;have H' := Aside0.mk H;clear H;have dT := ai.out;have dU := ah.out;have Z21 := kz4 ae;go_wp2;go_meet
    case rel => exact ⟨_, (true), et, H', ⟨by have := HK1.out; first | omega | exact Nat.le_refl _⟩, ⟨by (with_reducible repeat first | apply Kd.R_alloc | apply Kd.R_drewN | apply Kd.R_drew); exact Kd.R_mono (Kd.R_far (p := ⟨ak, 3, none⟩) (Kd.R_far (p := ⟨ak, 2, none⟩) (Kd.R_far (p := ⟨ak, 1, none⟩) (Kd.R_far (p := ⟨ak, 0, none⟩) (Kd.R_types af.out ae.out (by decide)) (fun _ hk => hk.2) (.int .i64 ((rd_T61 ab aa).f0))) (fun _ hk => hk.2) (.int .i64 ((rd_T61 ab aa).f1))) (fun _ hk => hk.2) (.int .i64 ((rd_T61 ab aa).f2))) (fun _ hk => hk.2) (.int .u64 ((rd_T61 ab aa).f3))) (fun _ hk => trivial)⟩, ⟨kg ag⟩, ⟨kg ae⟩, ⟨kh HB⟩⟩
   clear bL;(try clear cl cm cn Z15 av aw ax ay bz bA);obtain ⟨kq, aE, rfl, HA, ao, af, ag, ae, HB⟩ := hcut
   cases kq with
   | zero => exact absurd HA.out (by simp [tune_Levels.j1])
   | succ dk =>
    have H := HA.out;clear HA;simp only [tune_Levels.j1] at H;have bM := Aside0.mk H;clear H;go_upto_region 6 with (fail);go_cut [62] (fun v62 wc => ∃ (kq : Nat) (aG : Bool), v62 = .bool aG ∧ Aside0 (tune_Levels.j2 kq aj aa aE ab (ab.length : Int) aa aG ((rd_T61 ab aa).f0) ((rd_T61 ab aa).f1) ((rd_T61 ab aa).f2) ((rd_T61 ab aa).f3) = some r) ∧ Aside0 (kq ≤ dk) ∧ Aside0 (Kd.R (Kd.int .i64) 3 wc w.heap.size (fun _ => True) bK aj) ∧ Aside0 (wc.heap[bk]? = some (.cells #[(.slice aX aC.length aY), (.slice (some bl) ab.length aZ), (.slice ba aD.length bb)] 26 (0, 0))) ∧ Aside0 (wc.heap[ak]? = some (.cells #[.int .i64 ((rd_T61 ab aa).f0), .int .i64 ((rd_T61 ab aa).f1), .int .i64 ((rd_T61 ab aa).f2), .int .u64 ((rd_T61 ab aa).f3)] 61 (0, 0))) ∧ Aside0 (Below w.heap.size w wc))
    case first =>
     have H := bM.out;clear bM
     by_cases c25 : aE = true
     ·subst c25
      replace H := ifT H
      by_cases c26 : ((rd_T61 ab aa).f1) < 0
      ·rw [if_pos c26] at H
       have aN := qqT c26;clear c26;(first | rw [aN] | (simp only [i64_w, i32_w]; rw [aN]) | skip);have H' := Aside0.mk H;clear H;have dV := ai.out;have dW := ah.out;have Z28 := kz4 ae;go_wp2;go_meet
       case rel => exact ⟨_, (true), et, H', ⟨by have := HK1.out; have := ao.out; first | omega | exact Nat.le_refl _⟩, ⟨krR af⟩, ⟨kg ag⟩, ⟨kg ae⟩, ⟨kh HB⟩⟩
      rw [if_neg c26] at H;have aN := qqF c26;clear c26;(first | rw [aN] | (simp only [i64_w, i32_w]; rw [aN]) | skip)
      by_cases c29 : ((rd_T61 ab aa).f1) ≥ aa
      ·rw [if_pos c29] at H
       have cr := qqT c29;clear c29;have H' := Aside0.mk H;clear H;have dX := ai.out;have dY := ah.out;have Z31 := kz4 ae;go_wp2;go_meet
       case rel => exact ⟨_, (true), et, H', ⟨by have := HK1.out; have := ao.out; first | omega | exact Nat.le_refl _⟩, ⟨krR af⟩, ⟨kg ag⟩, ⟨kg ae⟩, ⟨kh HB⟩⟩
      rw [if_neg c29] at H;have cr := qqF c29;clear c29
      by_cases c32 : ((rd_T61 ab aa).f2) < 0
      ·rw [if_pos c32] at H
       have ct := qqT c32;clear c32;have H' := Aside0.mk H;clear H;have dZ := ai.out;have ea := ah.out;have Z34 := kz4 ae;go_wp2;go_meet
       case rel => exact ⟨_, (true), et, H', ⟨by have := HK1.out; have := ao.out; first | omega | exact Nat.le_refl _⟩, ⟨krR af⟩, ⟨kg ag⟩, ⟨kg ae⟩, ⟨kh HB⟩⟩
      rw [if_neg c32] at H;have ct := qqF c32;clear c32;have H' := Aside0.mk H;clear H;have ec := ai.out;have ed := ah.out;have Z36 := kz4 ae;go_wp2;go_meet
      case rel => exact ⟨_, (decide (((rd_T61 ab aa).f2) ≥ aa)), et, H', ⟨by have := HK1.out; have := ao.out; first | omega | exact Nat.le_refl _⟩, ⟨krR af⟩, ⟨kg ag⟩, ⟨kg ae⟩, ⟨kh HB⟩⟩
     replace c25 := Bool.eq_false_iff.mpr c25;subst c25;replace H := ifF H
     by_cases c37 : ((rd_T61 ab aa).f0) = 6
     rotate_left
     ·rw [if_neg c37] at H
      have cu := beq_eq_false_iff_ne.mpr c37;have cv := bne_iff_ne.mpr c37;have H' := Aside0.mk H;clear H;have ee := ai.out;have ef := ah.out;have Z47 := kz4 ae;go_wp2;go_meet
      case rel => exact ⟨_, (false), et, H', ⟨by have := HK1.out; have := ao.out; first | omega | exact Nat.le_refl _⟩, ⟨krR af⟩, ⟨kg ag⟩, ⟨kg ae⟩, ⟨kh HB⟩⟩
     rw [if_pos c37] at H;have cu := beq_iff_eq.mpr c37;have cv := bne_eq_false_iff_eq.mpr c37;clear c37
     by_cases c38 : ((rd_T61 ab aa).f1) < 0
     ·rw [if_pos c38] at H
      have cw := qqT c38;clear c38;have H' := Aside0.mk H;clear H;have eg := ai.out;have eh := ah.out;have Z40 := kz4 ae;go_wp2;go_meet
      case rel => exact ⟨_, (true), et, H', ⟨by have := HK1.out; have := ao.out; first | omega | exact Nat.le_refl _⟩, ⟨krR af⟩, ⟨kg ag⟩, ⟨kg ae⟩, ⟨kh HB⟩⟩
     rw [if_neg c38] at H;have cw := qqF c38;clear c38
     by_cases c41 : ((rd_T61 ab aa).f1) ≥ aa
     ·rw [if_pos c41] at H
      have cx := qqT c41;clear c41;have H' := Aside0.mk H;clear H;have ei := ai.out;have ej := ah.out;have Z43 := kz4 ae;go_wp2;go_meet
      case rel => exact ⟨_, (true), et, H', ⟨by have := HK1.out; have := ao.out; first | omega | exact Nat.le_refl _⟩, ⟨krR af⟩, ⟨kg ag⟩, ⟨kg ae⟩, ⟨kh HB⟩⟩
     rw [if_neg c41] at H;have cx := qqF c41;clear c41;have H' := Aside0.mk H;clear H;have ek := ai.out;have el := ah.out;have Z45 := kz4 ae;go_wp2;go_meet
     case rel => exact ⟨_, (false), et, H', ⟨by have := HK1.out; have := ao.out; first | omega | exact Nat.le_refl _⟩, ⟨krR af⟩, ⟨kg ag⟩, ⟨kg ae⟩, ⟨kh HB⟩⟩
    clear bM;obtain ⟨kq, aG, rfl, HA, au, af, ag, ae, HB⟩ := hcut
    cases kq with
    | zero => exact absurd HA.out (by simp [tune_Levels.j2])
    | succ ar =>
     have H := HA.out;clear HA;simp only [tune_Levels.j2] at H
     by_cases c48 : aG = true
     ·subst c48
      replace H := ifT H;obtain rfl := qqI H;go_wp2;go_ret;exact ⟨_, er, by first | exact Kd.R_nil _ _ _ _ _ | exact Kd.N_nil _ _ _ _ _ | exact Kd.V_nil _ _ _ _ _ | exact Kd.Q_nil _ _ _ _ _ | exact Kd.S_nil _ _ _ _ _, kh HB⟩
     replace c48 := Bool.eq_false_iff.mpr c48;subst c48;replace H := ifF H
     by_cases c49 : aE = true
     rotate_left
     ·replace c49 := Bool.eq_false_iff.mpr c49
      subst c49;replace H := ifF H
      by_cases c74 : ((rd_T61 ab aa).f0) = 6
      rotate_left
      ·rw [if_neg c74] at H
       have cy := beq_eq_false_iff_ne.mpr c74;have cz := bne_iff_ne.mpr c74
       by_cases c96 : ((rd_T61 ab aa).f0) = 5
       rotate_left
       ·rw [if_neg c96] at H
        have cA := beq_eq_false_iff_ne.mpr c96;have cB := bne_iff_ne.mpr c96;have H' := Aside0.mk H;clear H;have dl := ai.out;have dm := ah.out;have eN := kz4 ae;go_wp2;go_roundg ar
        case measure => have := HK1.out; have := ao.out; have := au.out; omega
        case rel => exact ⟨(aj), (wrap64 (aa + 1)), et, H', ⟨by have := HK1.out; have := ao.out; have := au.out; omega⟩, ⟨krR af⟩, ⟨kg ag⟩, ⟨kh HB⟩⟩
       rw [if_pos c96] at H;have cA := beq_iff_eq.mpr c96;have cB := bne_eq_false_iff_eq.mpr c96;clear c96
       by_cases c97 : 0 ≤ aa
       rotate_left
       ·rw [if_neg c97] at H
        exact absurd H (by simp)
       rw [if_pos c97] at H;have em := qqT c97;clear c97
       by_cases c98 : aa < (aj.length : Int)
       rotate_left
       ·rw [if_neg c98] at H
        exact absurd H (by simp)
       rw [if_pos c98] at H;have en := qqT c98;clear c98;obtain ⟨bN, aQ⟩ : ∃ y_ : List Int, y_ = (aj.set (aa : Int).toNat (wrap64 ((rd aj aa) + 1))) := ⟨_, rfl⟩
       replace H : (tune_Levels.l0 ar bN ab (ab.length : Int) (wrap64 (aa + 1))) = some r := by first | (rw [aQ]; with_reducible exact H) | (have H2_ := (Option.bind_some _ _).symm.trans H; rw [aQ]; with_reducible exact H2_) | (have H2_ := (Option.bind_some _ _).symm.trans H; with_reducible exact H2_) | with_reducible exact H | (rw [aQ]; exact H) | exact H
       have cC := Aside0.mk aQ;clear aQ;have H' := Aside0.mk H;clear H;have dn := ai.out;have dp := ah.out;have eO := kz4 ae;obtain ⟨eo, cD, cE⟩ := Kd.R_slice af.out;subst cE;have bO : 0 ≤ (aa : Int) := od;have bP : aa < (aj.length : Int) := od;obtain ⟨ep, dq, bB⟩ := Kd.at_int (Kd.R_reads' af.out).2.2 aa bO bP;cases dq;replace bO := eq_true bO; replace bP := eq_true bP;have p99 : 0 ≤ (aa : Int) := od;have q99 : (aa : Int) < ((aj.length : Int) : Int) := od;obtain ⟨bQ, eP, cF, cG, gl99, cl99, HG99⟩ := Kd.R_form af.out (by omega);(first | cases cF | (injection cF with ea_ en_ ec_; (first | subst ea_ | (injection ea_ with ea_; subst ea_)); subst ec_; clear en_));have dr := Aside0.mk cG;have eQ := Aside0.mk HG99;clear cG gl99 HG99;(first | simp only [add_plain] at bB | skip);obtain ⟨dt, du⟩ := Kd.R_celln 0 af.out (aa : Int) p99 q99;replace p99 := eq_true p99; replace q99 := eq_true q99;have bm := Kd.R_putg af.out (aa : Int) (wrap64 ((rd aj aa) + 1));go_wp2_with (first | ((with_reducible refine gate_store (t := 3) (p := 99) rfl ?_); refine store_event (t := 3) (p := 99) (v := ?vo_w104) (w1 := (wc.setCell ⟨bQ, (aa : Int).toNat, none⟩ (.int .i64 (wrap64 ((rd aj aa) + 1))))) ?hg ?ho ?hn ?hr ?_; (case ho => rfl); (case hg => rfl); (case hn => rfl); (case hr => go_simp; try rfl); intro bR hw; have hg : wc.grownBy bR (some bQ) := (by rw [hw]; exact bm.2); have hp_ : Kd.R (Kd.int .i64) 3 bR w.heap.size (fun _ => True) (.slice (some ⟨bQ, 0, none⟩) aj.length cD) bN := (by rw [hw, cC.out]; exact bm.1); clear bm; replace ag := kXR ag af hg; replace ae := kXR ae af hg; replace af := Aside0.mk (hp_); replace HB := Aside0.mk ((by rw [hw]; exact below_set (HB.out) dr.out : Below w.heap.size w bR)); clear hg hw hp_));go_roundg ar
       case measure => have := HK1.out; have := ao.out; have := au.out; omega
       case rel => exact ⟨(bN), (wrap64 (aa + 1)), et, H', ⟨by have := HK1.out; have := ao.out; have := au.out; omega⟩, ⟨krR af⟩, ⟨kg ag⟩, ⟨kh HB⟩⟩
      rw [if_pos c74] at H;have cy := beq_iff_eq.mpr c74;have cz := bne_eq_false_iff_eq.mpr c74;clear c74
      by_cases c75 : 0 ≤ ((rd_T61 ab aa).f1)
      rotate_left
      ·rw [if_neg c75] at H
       exact absurd H (by simp)
      rw [if_pos c75] at H;have eq := qqT c75;clear c75
      by_cases c76 : ((rd_T61 ab aa).f1) < (aj.length : Int)
      rotate_left
      ·rw [if_neg c76] at H
       exact absurd H (by simp)
      rw [if_pos c76] at H;have es := qqT c76;clear c76
      by_cases c77 : 0 ≤ aa
      rotate_left
      ·rw [if_neg c77] at H
       exact absurd H (by simp)
      rw [if_pos c77] at H;have eu := qqT c77;clear c77
      by_cases c78 : aa < (aj.length : Int)
      rotate_left
      ·rw [if_neg c78] at H
       exact absurd H (by simp)
      rw [if_pos c78] at H;have ev := qqT c78;clear c78;obtain ⟨az, aT⟩ : ∃ y_ : List Int, y_ = (aj.set (aa : Int).toNat (rd aj ((rd_T61 ab aa).f1))) := ⟨_, rfl⟩
      replace H : (if ((rd_T61 ab aa).f0) = 5 then (tune_Levels.l0 ar (az.set (aa : Int).toNat (wrap64 ((rd az aa) + 1))) ab (ab.length : Int) (wrap64 (aa + 1))) else (tune_Levels.l0 ar az ab (ab.length : Int) (wrap64 (aa + 1)))) = some r := by first | (rw [aT]; with_reducible exact H) | (have H2_ := (Option.bind_some _ _).symm.trans H; rw [aT]; with_reducible exact H2_) | (have H2_ := (Option.bind_some _ _).symm.trans H; with_reducible exact H2_) | with_reducible exact H | (rw [aT]; exact H) | exact H
      have bn := Aside0.mk aT;clear aT
      by_cases c80 : ((rd_T61 ab aa).f0) = 5
      rotate_left
      ·rw [if_neg c80] at H
       have cH := beq_eq_false_iff_ne.mpr c80;have cI := bne_iff_ne.mpr c80;have H' := Aside0.mk H;clear H;have ew := ai.out;have ex := ah.out;have Z91 := kz4 ae;obtain ⟨eR, dv, dw⟩ := Kd.R_slice af.out;subst dw;have bc : 0 ≤ (((rd_T61 ab aa).f1) : Int) := od;have bd : ((rd_T61 ab aa).f1) < (aj.length : Int) := od;obtain ⟨cJ, bS, aH⟩ := Kd.at_int (Kd.R_reads' af.out).2.2 ((rd_T61 ab aa).f1) bc bd;cases bS;replace bc := eq_true bc; replace bd := eq_true bd;have p79 : 0 ≤ (aa : Int) := od;have q79 : (aa : Int) < ((aj.length : Int) : Int) := od;obtain ⟨aA, dx, bo, bp, gl79, cl79, HG79⟩ := Kd.R_form af.out (by omega);(first | cases bo | (injection bo with ea_ en_ ec_; (first | subst ea_ | (injection ea_ with ea_; subst ea_)); subst ec_; clear en_));have bC := Aside0.mk bp;have dy := Aside0.mk HG79;clear bp gl79 HG79;(first | simp only [add_plain] at aH | skip);obtain ⟨bT, bU⟩ := Kd.R_celln 0 af.out (aa : Int) p79 q79;replace p79 := eq_true p79; replace q79 := eq_true q79;have bV := Kd.R_putg af.out (aa : Int) (rd aj ((rd_T61 ab aa).f1));go_wp2_with (first | ((with_reducible refine gate_store (t := 3) (p := 90) rfl ?_); refine store_event (t := 3) (p := 90) (v := ?vo_w94) (w1 := (wc.setCell ⟨aA, (aa : Int).toNat, none⟩ (.int .i64 (rd aj ((rd_T61 ab aa).f1))))) ?hg ?ho ?hn ?hr ?_; (case ho => rfl); (case hg => rfl); (case hn => rfl); (case hr => go_simp; try rfl); intro w94 hw; have hg : wc.grownBy w94 (some aA) := (by rw [hw]; exact bV.2); have hp_ : Kd.R (Kd.int .i64) 3 w94 w.heap.size (fun _ => True) (.slice (some ⟨aA, 0, none⟩) aj.length dv) az := (by rw [hw, bn.out]; exact bV.1); clear bV; replace ag := kXR ag af hg; replace ae := kXR ae af hg; replace af := Aside0.mk (hp_); replace HB := Aside0.mk ((by rw [hw]; exact below_set (HB.out) bC.out : Below w.heap.size w w94)); clear hg hw hp_; have Z95 := kz4 ae));go_roundg ar
       case measure => have := HK1.out; have := ao.out; have := au.out; omega
       case rel => exact ⟨(az), (wrap64 (aa + 1)), et, H', ⟨by have := HK1.out; have := ao.out; have := au.out; omega⟩, ⟨krR af⟩, ⟨kg ag⟩, ⟨kh HB⟩⟩
      rw [if_pos c80] at H;have cH := beq_iff_eq.mpr c80;have cI := bne_eq_false_iff_eq.mpr c80;clear c80;obtain ⟨bW, aU⟩ : ∃ y_ : List Int, y_ = (az.set (aa : Int).toNat (wrap64 ((rd az aa) + 1))) := ⟨_, rfl⟩
      replace H : (tune_Levels.l0 ar bW ab (ab.length : Int) (wrap64 (aa + 1))) = some r := by first | (rw [aU]; with_reducible exact H) | (have H2_ := (Option.bind_some _ _).symm.trans H; rw [aU]; with_reducible exact H2_) | (have H2_ := (Option.bind_some _ _).symm.trans H; with_reducible exact H2_) | with_reducible exact H | (rw [aU]; exact H) | exact H
      have cK := Aside0.mk aU;clear aU;have H' := Aside0.mk H;clear H;have ey := ai.out;have ez := ah.out;have Z83 := kz4 ae;obtain ⟨eS, cL, dz⟩ := Kd.R_slice af.out;subst dz;have bc : 0 ≤ (((rd_T61 ab aa).f1) : Int) := od;have bd : ((rd_T61 ab aa).f1) < (aj.length : Int) := od;obtain ⟨cJ, bS, aH⟩ := Kd.at_int (Kd.R_reads' af.out).2.2 ((rd_T61 ab aa).f1) bc bd;cases bS;replace bc := eq_true bc; replace bd := eq_true bd;have p79 : 0 ≤ (aa : Int) := od;have q79 : (aa : Int) < ((aj.length : Int) : Int) := od;obtain ⟨aA, dx, bo, bp, gl79, cl79, HG79⟩ := Kd.R_form af.out (by omega);(first | cases bo | (injection bo with ea_ en_ ec_; (first | subst ea_ | (injection ea_ with ea_; subst ea_)); subst ec_; clear en_));have bC := Aside0.mk bp;have dy := Aside0.mk HG79;clear bp gl79 HG79;(first | simp only [add_plain] at aH | skip);obtain ⟨bT, bU⟩ := Kd.R_celln 0 af.out (aa : Int) p79 q79;replace p79 := eq_true p79; replace q79 := eq_true q79;have bX := Kd.R_putg af.out (aa : Int) (rd aj ((rd_T61 ab aa).f1));go_wp2_with (first | ((with_reducible refine gate_store (t := 3) (p := 90) rfl ?_); refine store_event (t := 3) (p := 90) (v := ?vo_w86) (w1 := (wc.setCell ⟨aA, (aa : Int).toNat, none⟩ (.int .i64 (rd aj ((rd_T61 ab aa).f1))))) ?hg ?ho ?hn ?hr ?_; (case ho => rfl); (case hg => rfl); (case hn => rfl); (case hr => go_simp; try rfl); intro w86 hw; have hg : wc.grownBy w86 (some aA) := (by rw [hw]; exact bX.2); have hp_ : Kd.R (Kd.int .i64) 3 w86 w.heap.size (fun _ => True) (.slice (some ⟨aA, 0, none⟩) aj.length cL) az := (by rw [hw, bn.out]; exact bX.1); clear bX; replace ag := kXR ag af hg; replace ae := kXR ae af hg; replace af := Aside0.mk (hp_); replace HB := Aside0.mk ((by rw [hw]; exact below_set (HB.out) bC.out : Below w.heap.size w w86)); clear hg hw hp_; have Z87 := kz4 ae; have bY : 0 ≤ (aa : Int) := od; have bZ : aa < (az.length : Int) := (by have h_ : (aa : Int) < ((aj.length : Int) : Int) := od; first | (have e_ := (Kd.R_reads' af.out).1; omega) | simpa only [bn.out, List.length_set] using h_); have ql141 : ((aa : Int) < ((aj.length : Int) : Int)) = True := eq_true od; obtain ⟨cM, dA, aI⟩ := Kd.at_int (Kd.R_reads' af.out).2.2 aa bY bZ; obtain rfl : (⟨aA, 0, none⟩ : Addr) = cM := (by injection dA); (first | simp only [add_plain] at aI | simp only [add_at] at aI | simp only [Addr.add, Nat.zero_add] at aI | skip); replace bY := eq_true bY; replace bZ := eq_true bZ; have p81 : 0 ≤ (aa : Int) := od; have q81 : (aa : Int) < ((aj.length : Int) : Int) := od; obtain ⟨dB, dC⟩ := Kd.R_celln 0 af.out (aa : Int) p81 q81; replace p81 := eq_true p81; replace q81 := eq_true q81; obtain ⟨eA, eB⟩ := Kd.R_celln 0 af.out (aa : Int) od od; have ca := Kd.R_putg af.out (aa : Int) (wrap64 ((rd az aa) + 1))) | ((with_reducible refine gate_store (t := 3) (p := 99) rfl ?_); refine store_event (t := 3) (p := 99) (v := ?vo_w89) (w1 := (w86.setCell ⟨aA, (aa : Int).toNat, none⟩ (.int .i64 (wrap64 ((rd az aa) + 1))))) ?hg ?ho ?hn ?hr ?_; (case ho => rfl); (case hg => rfl); (case hn => rfl); (case hr => go_simp; try rfl); intro w89 hw; have hg : w86.grownBy w89 (some aA) := (by rw [hw]; exact ca.2); have hp_ : Kd.R (Kd.int .i64) 3 w89 w.heap.size (fun _ => True) (.slice (some ⟨aA, 0, none⟩) aj.length cL) bW := (by rw [hw, cK.out]; exact ca.1); clear ca; replace ag := kXR ag af hg; replace ae := kXR ae af hg; replace af := Aside0.mk (hp_); replace HB := Aside0.mk ((by rw [hw]; exact below_set (HB.out) bC.out : Below w.heap.size w w89)); clear hg hw hp_));go_roundg ar
      case measure => have := HK1.out; have := ao.out; have := au.out; omega
      case rel => exact ⟨(bW), (wrap64 (aa + 1)), et, H', ⟨by have := HK1.out; have := ao.out; have := au.out; omega⟩, ⟨krR af⟩, ⟨kg ag⟩, ⟨kh HB⟩⟩
     subst c49;replace H := ifT H
     by_cases c50 : 0 ≤ ((rd_T61 ab aa).f1)
     rotate_left
     ·rw [if_neg c50] at H
      exact absurd H (by simp)
     rw [if_pos c50] at H;have eC := qqT c50;clear c50
     by_cases c51 : ((rd_T61 ab aa).f1) < (aj.length : Int)
     rotate_left
     ·rw [if_neg c51] at H
      exact absurd H (by simp)
     rw [if_pos c51] at H;have eD := qqT c51;clear c51
     by_cases c52 : 0 ≤ ((rd_T61 ab aa).f2)
     rotate_left
     ·rw [if_neg c52] at H
      exact absurd H (by simp)
     rw [if_pos c52] at H;have eE := qqT c52;clear c52
     by_cases c53 : ((rd_T61 ab aa).f2) < (aj.length : Int)
     rotate_left
     ·rw [if_neg c53] at H
      exact absurd H (by simp)
     rw [if_pos c53] at H;have eF := qqT c53;clear c53;obtain ⟨al, bq⟩ : ∃ j_ : Int, (mx (rd aj ((rd_T61 ab aa).f1)) (rd aj ((rd_T61 ab aa).f2))) = j_ := ⟨_, rfl⟩
     replace H : (if 0 ≤ aa then (if aa < (aj.length : Int) then ((some (aj.set (aa : Int).toNat (al) : List Int)).bind fun aJ => (if ((rd_T61 ab aa).f0) = 5 then (tune_Levels.l0 ar (aJ.set (aa : Int).toNat (wrap64 ((al) + 1))) ab (ab.length : Int) (wrap64 (aa + 1))) else (tune_Levels.l0 ar aJ ab (ab.length : Int) (wrap64 (aa + 1))))) else (none)) else (none)) = some r := by first | (rw [bq] at H; exact H) | (simp only [bq] at H ⊢; exact H)
     have hji54_ : (if (rd aj ((rd_T61 ab aa).f1)) < (rd aj ((rd_T61 ab aa).f2)) then (rd aj ((rd_T61 ab aa).f2)) else (rd aj ((rd_T61 ab aa).f1))) = al := bq
     by_cases c55 : 0 ≤ aa
     rotate_left
     ·rw [if_neg c55] at H
      exact absurd H (by simp)
     rw [if_pos c55] at H;have eG := qqT c55;clear c55
     by_cases c56 : aa < (aj.length : Int)
     rotate_left
     ·rw [if_neg c56] at H
      exact absurd H (by simp)
     rw [if_pos c56] at H;have eH := qqT c56;clear c56;obtain ⟨aJ, aV⟩ : ∃ y_ : List Int, y_ = (aj.set (aa : Int).toNat (al)) := ⟨_, rfl⟩
     replace H : (if ((rd_T61 ab aa).f0) = 5 then (tune_Levels.l0 ar (aJ.set (aa : Int).toNat (wrap64 ((al) + 1))) ab (ab.length : Int) (wrap64 (aa + 1))) else (tune_Levels.l0 ar aJ ab (ab.length : Int) (wrap64 (aa + 1)))) = some r := by first | (rw [aV]; with_reducible exact H) | (have H2_ := (Option.bind_some _ _).symm.trans H; rw [aV]; with_reducible exact H2_) | (have H2_ := (Option.bind_some _ _).symm.trans H; with_reducible exact H2_) | with_reducible exact H | (rw [aV]; exact H) | exact H
     have br := Aside0.mk aV;clear aV
     by_cases c58 : ((rd_T61 ab aa).f0) = 5
     rotate_left
     ·rw [if_neg c58] at H
      have cN := beq_eq_false_iff_ne.mpr c58;have cO := bne_iff_ne.mpr c58;have H' := Aside0.mk H;clear H;(try go_wp2);replace af := kFR af; replace ag := kD ag; replace ae := kD ae; replace HB := kE HB;obtain ⟨eT, eU, cP⟩ := Kd.R_slice af.out;(first | subst cP | (injection cP with f1_ f2_ f3_; have f4_ := f1_.symm; have f5_ := f3_.symm; clear f1_ f2_ f3_; subst f4_; subst f5_));have be : 0 ≤ (((rd_T61 ab aa).f1) : Int) := od;have bf : ((rd_T61 ab aa).f1) < (aj.length : Int) := od;obtain ⟨bt, cb, ap⟩ := Kd.at_int (Kd.R_reads' af.out).2.2 ((rd_T61 ab aa).f1) be bf;cases cb;replace be := eq_true be; replace bf := eq_true bf;have bg : 0 ≤ (((rd_T61 ab aa).f2) : Int) := od;have bh : ((rd_T61 ab aa).f2) < (aj.length : Int) := od;obtain ⟨bu, cc, aq⟩ := Kd.at_int (Kd.R_reads' af.out).2.2 ((rd_T61 ab aa).f2) bg bh;obtain rfl : bt = bu := (by injection cc);replace bg := eq_true bg; replace bh := eq_true bh;have p57 : 0 ≤ (aa : Int) := od;have q57 : (aa : Int) < ((aj.length : Int) : Int) := od;obtain ⟨an, dD, bv, bw, gl57, cl57, HG57⟩ := Kd.R_form af.out (by omega);(first | cases bv | (injection bv with ea_ en_ ec_; (first | subst ea_ | (injection ea_ with ea_; subst ea_)); subst ec_; clear en_));have cQ := Aside0.mk bw;have cd := Aside0.mk HG57;clear bw gl57 HG57;(first | simp only [add_plain] at ap | skip);(first | simp only [add_plain] at aq | skip);obtain ⟨bi, bj⟩ := Kd.R_celln 0 af.out (aa : Int) p57 q57;replace p57 := eq_true p57; replace q57 := eq_true q57;have ce := Kd.R_putn af.out (aa : Int) al;rw [← br.out] at ce;have cR := Aside0.mk ce;clear ce;refine start_ (n := 15) (S := fun w' => w'.cell? ⟨ak, 0, none⟩ = some (.int .i64 ((rd_T61 ab aa).f0)) ∧ w'.cell? ⟨ak, 1, none⟩ = some (.int .i64 ((rd_T61 ab aa).f1)) ∧ w'.cell? ⟨ak, 2, none⟩ = some (.int .i64 ((rd_T61 ab aa).f2)) ∧ w'.cell? ⟨ak, 3, none⟩ = some (.int .u64 ((rd_T61 ab aa).f3)) ∧ w'.cell? ⟨an, (((rd_T61 ab aa).f1)).toNat, none⟩ = some (.int .i64 (rd aj ((rd_T61 ab aa).f1))) ∧ w'.cell? ⟨an, (((rd_T61 ab aa).f2)).toNat, none⟩ = some (.int .i64 (rd aj ((rd_T61 ab aa).f2)))) (ds := [14]) (bs 15 0) (by kernel_rfl) rfl rfl ⟨kk ae 0, kk ae 1, kk ae 2, kk ae 3, ap, aq⟩ (fun hHeld => ?_); refine with_tabW tune_Levels.tab9 tune_Levels.bits9 (fun HT_ HW_ => ?_);generalize wc.drew = w69 at af ag ae HB cd cR bj ap aq bi hHeld ⊢;refine pu 0 (some 65) (bs 15 1) HT_ ?_;refine pu 1 (some 66) (bs 15 3) HT_ ?_;refine pu 2 (some 67) (bs 15 7) HT_ ?_;refine pu 3 (some 68) (bs 15 15) HT_ ?_;refine pu 7 (some 72) (bs 15 143) HT_ ?_;refine pu 8 (some 73) (bs 15 399) HT_ ?_;refine ta 4 (some 69) (bs 15 415) HT_ HW_ hHeld ?_;refine pu 5 (some 70) (bs 15 447) HT_ ?_;refine ta 6 (some 71) (bs 15 511) HT_ HW_ hHeld ?_;refine ta 9 (some 74) (bs 15 1023) HT_ HW_ hHeld ?_;refine pu 10 (some 75) (bs 15 2047) HT_ ?_;refine ta 11 (some 76) (bs 15 4095) HT_ HW_ hHeld ?_;refine pu 12 (some 77) (bs 15 8191) HT_ ?_;refine pu 13 (some 78) (bs 15 16383) HT_ ?_;refine last_ (i := 14) (N := none) (bs 15 32767) rfl rfl (one_of HT_.out (by kernel_rfl)) (by decide) (fun K hK => ?_);refine skip_ (w1 := ?_) (by rfl) rfl ?_ ?_
      rotate_left
      ·go_simp
       rfl
      refine hK.out _ _ ?_;clear hK K;refine done_ (done_of HT_.out (by kernel_rfl)) ?_;have eI := ai.out;have eJ := ah.out;have cX : (w69.setCell ⟨an, (aa : Int).toNat, none⟩ (.int .i64 al)).cell? ⟨ak, 0, none⟩ = some (.int .i64 ((rd_T61 ab aa).f0)) := (blk_cell (blk_far (p := ⟨an, (aa : Int).toNat, none⟩) ae.out (by have h_ := Kd.R_ne af.out ae.out (by decide); intro e_; exact h_ (by rw [e_]; rfl)) (.int .i64 al)) 0).trans rfl;have cY : (w69.setCell ⟨an, (aa : Int).toNat, none⟩ (.int .i64 al)).cell? ⟨ak, 1, none⟩ = some (.int .i64 ((rd_T61 ab aa).f1)) := (blk_cell (blk_far (p := ⟨an, (aa : Int).toNat, none⟩) ae.out (by have h_ := Kd.R_ne af.out ae.out (by decide); intro e_; exact h_ (by rw [e_]; rfl)) (.int .i64 al)) 1).trans rfl;have cZ : (w69.setCell ⟨an, (aa : Int).toNat, none⟩ (.int .i64 al)).cell? ⟨ak, 2, none⟩ = some (.int .i64 ((rd_T61 ab aa).f2)) := (blk_cell (blk_far (p := ⟨an, (aa : Int).toNat, none⟩) ae.out (by have h_ := Kd.R_ne af.out ae.out (by decide); intro e_; exact h_ (by rw [e_]; rfl)) (.int .i64 al)) 2).trans rfl;have da : (w69.setCell ⟨an, (aa : Int).toNat, none⟩ (.int .i64 al)).cell? ⟨ak, 3, none⟩ = some (.int .u64 ((rd_T61 ab aa).f3)) := (blk_cell (blk_far (p := ⟨an, (aa : Int).toNat, none⟩) ae.out (by have h_ := Kd.R_ne af.out ae.out (by decide); intro e_; exact h_ (by rw [e_]; rfl)) (.int .i64 al)) 3).trans rfl;have db := blk_frozen ae.out 0;have dc := blk_frozen ae.out 1;have dd := blk_frozen ae.out 2;have de := blk_frozen ae.out 3;(try go_wp2);go_roundg ar
      case measure => have := HK1.out; have := ao.out; have := au.out; omega
      case rel => exact ⟨(aJ), (wrap64 (aa + 1)), et, H', ⟨by have := HK1.out; have := ao.out; have := au.out; omega⟩, ⟨krR cR⟩, ⟨by (with_reducible repeat first | refine blk_drewN ?_ _ | refine blk_drew ?_ | refine blk_alloc ?_ _); refine blk_far ?_ (by have h_ := Kd.R_ne af.out ag.out (by decide); intro e_; exact h_ (by rw [e_]; rfl)) _; (with_reducible repeat first | refine blk_drewN ?_ _ | refine blk_drew ?_ | refine blk_alloc ?_ _); exact ag.out⟩, ⟨kh HB⟩⟩
     rw [if_pos c58] at H;have cN := beq_iff_eq.mpr c58;have cO := bne_eq_false_iff_eq.mpr c58;clear c58;obtain ⟨cf, aW⟩ : ∃ y_ : List Int, y_ = (aJ.set (aa : Int).toNat (wrap64 ((al) + 1))) := ⟨_, rfl⟩
     replace H : (tune_Levels.l0 ar cf ab (ab.length : Int) (wrap64 (aa + 1))) = some r := by first | (rw [aW]; with_reducible exact H) | (have H2_ := (Option.bind_some _ _).symm.trans H; rw [aW]; with_reducible exact H2_) | (have H2_ := (Option.bind_some _ _).symm.trans H; with_reducible exact H2_) | with_reducible exact H | (rw [aW]; exact H) | exact H
     have cS := Aside0.mk aW;clear aW;have H' := Aside0.mk H;clear H;(try go_wp2);replace af := kFR af; replace ag := kD ag; replace ae := kD ae; replace HB := kE HB;obtain ⟨eV, cT, cU⟩ := Kd.R_slice af.out;(first | subst cU | (injection cU with f1_ f2_ f3_; have f4_ := f1_.symm; have f5_ := f3_.symm; clear f1_ f2_ f3_; subst f4_; subst f5_));have be : 0 ≤ (((rd_T61 ab aa).f1) : Int) := od;have bf : ((rd_T61 ab aa).f1) < (aj.length : Int) := od;obtain ⟨bt, cb, ap⟩ := Kd.at_int (Kd.R_reads' af.out).2.2 ((rd_T61 ab aa).f1) be bf;cases cb;replace be := eq_true be; replace bf := eq_true bf;have bg : 0 ≤ (((rd_T61 ab aa).f2) : Int) := od;have bh : ((rd_T61 ab aa).f2) < (aj.length : Int) := od;obtain ⟨bu, cc, aq⟩ := Kd.at_int (Kd.R_reads' af.out).2.2 ((rd_T61 ab aa).f2) bg bh;obtain rfl : bt = bu := (by injection cc);replace bg := eq_true bg; replace bh := eq_true bh;have p57 : 0 ≤ (aa : Int) := od;have q57 : (aa : Int) < ((aj.length : Int) : Int) := od;obtain ⟨an, dD, bv, bw, gl57, cl57, HG57⟩ := Kd.R_form af.out (by omega);(first | cases bv | (injection bv with ea_ en_ ec_; (first | subst ea_ | (injection ea_ with ea_; subst ea_)); subst ec_; clear en_));have cQ := Aside0.mk bw;have cd := Aside0.mk HG57;clear bw gl57 HG57;(first | simp only [add_plain] at ap | skip);(first | simp only [add_plain] at aq | skip);obtain ⟨bi, bj⟩ := Kd.R_celln 0 af.out (aa : Int) p57 q57;replace p57 := eq_true p57; replace q57 := eq_true q57;have cg := Kd.R_putn af.out (aa : Int) al;rw [← br.out] at cg;have cV := Aside0.mk cg;clear cg;refine start_ (n := 15) (S := fun w' => w'.cell? ⟨ak, 0, none⟩ = some (.int .i64 ((rd_T61 ab aa).f0)) ∧ w'.cell? ⟨ak, 1, none⟩ = some (.int .i64 ((rd_T61 ab aa).f1)) ∧ w'.cell? ⟨ak, 2, none⟩ = some (.int .i64 ((rd_T61 ab aa).f2)) ∧ w'.cell? ⟨ak, 3, none⟩ = some (.int .u64 ((rd_T61 ab aa).f3)) ∧ w'.cell? ⟨an, (((rd_T61 ab aa).f1)).toNat, none⟩ = some (.int .i64 (rd aj ((rd_T61 ab aa).f1))) ∧ w'.cell? ⟨an, (((rd_T61 ab aa).f2)).toNat, none⟩ = some (.int .i64 (rd aj ((rd_T61 ab aa).f2)))) (ds := [14]) (bs 15 0) (by kernel_rfl) rfl rfl ⟨kk ae 0, kk ae 1, kk ae 2, kk ae 3, ap, aq⟩ (fun hHeld => ?_); refine with_tabW tune_Levels.tab9 tune_Levels.bits9 (fun HT_ HW_ => ?_);generalize wc.drew = w61 at af ag ae HB cd cV bj ap aq bi hHeld ⊢;refine pu 0 (some 65) (bs 15 1) HT_ ?_;refine pu 1 (some 66) (bs 15 3) HT_ ?_;refine pu 2 (some 67) (bs 15 7) HT_ ?_;refine pu 3 (some 68) (bs 15 15) HT_ ?_;refine pu 7 (some 72) (bs 15 143) HT_ ?_;refine pu 8 (some 73) (bs 15 399) HT_ ?_;refine ta 4 (some 69) (bs 15 415) HT_ HW_ hHeld ?_;refine pu 5 (some 70) (bs 15 447) HT_ ?_;refine ta 6 (some 71) (bs 15 511) HT_ HW_ hHeld ?_;refine ta 9 (some 74) (bs 15 1023) HT_ HW_ hHeld ?_;refine pu 10 (some 75) (bs 15 2047) HT_ ?_;refine ta 11 (some 76) (bs 15 4095) HT_ HW_ hHeld ?_;refine pu 12 (some 77) (bs 15 8191) HT_ ?_;refine pu 13 (some 78) (bs 15 16383) HT_ ?_;refine last_ (i := 14) (N := none) (bs 15 32767) rfl rfl (one_of HT_.out (by kernel_rfl)) (by decide) (fun K hK => ?_);refine skip_ (w1 := ?_) (by rfl) rfl ?_ ?_
     rotate_left
     ·go_simp
      rfl
     refine hK.out _ _ ?_;clear hK K;refine done_ (done_of HT_.out (by kernel_rfl)) ?_;have n0_ : Aside0 (Kd.R (Kd.int .i64) 3 (w61.setCell ⟨an, (aa : Int).toNat, none⟩ (.int .i64 al)) w.heap.size (fun _ => True) (.slice (some ⟨an, 0, none⟩) aj.length cT) aJ) := ⟨krR cV⟩;have n1_ : Aside0 ((w61.setCell ⟨an, (aa : Int).toNat, none⟩ (.int .i64 al)).heap[bk]? = some (.cells #[.slice aX aC.length aY, .slice (some bl) ab.length aZ, .slice ba aD.length bb] 26 (0, 0))) := ⟨by (with_reducible repeat first | refine blk_drewN ?_ _ | refine blk_drew ?_ | refine blk_alloc ?_ _); refine blk_far ?_ (by have h_ := Kd.R_ne af.out ag.out (by decide); intro e_; exact h_ (by rw [e_]; rfl)) _; (with_reducible repeat first | refine blk_drewN ?_ _ | refine blk_drew ?_ | refine blk_alloc ?_ _); exact ag.out⟩;have n2_ : Aside0 ((w61.setCell ⟨an, (aa : Int).toNat, none⟩ (.int .i64 al)).heap[ak]? = some (.cells #[.int .i64 ((rd_T61 ab aa).f0), .int .i64 ((rd_T61 ab aa).f1), .int .i64 ((rd_T61 ab aa).f2), .int .u64 ((rd_T61 ab aa).f3)] 61 (0, 0))) := ⟨by (with_reducible repeat first | refine blk_drewN ?_ _ | refine blk_drew ?_ | refine blk_alloc ?_ _); refine blk_far ?_ (by have h_ := Kd.R_ne af.out ae.out (by decide); intro e_; exact h_ (by rw [e_]; rfl)) _; (with_reducible repeat first | refine blk_drewN ?_ _ | refine blk_drew ?_ | refine blk_alloc ?_ _); exact ae.out⟩;have n3_ : Aside0 (Below w.heap.size w (w61.setCell ⟨an, (aa : Int).toNat, none⟩ (.int .i64 al))) := ⟨kh HB⟩;(try clear af ag ae HB);generalize (w61.setCell ⟨an, (aa : Int).toNat, none⟩ (.int .i64 al)) = w64 at n0_ n1_ n2_ n3_ ⊢;have af := n0_; have ag := n1_; have ae := n2_; have HB := n3_; clear n0_ n1_ n2_ n3_;have eK := ai.out;have eL := ah.out;have Z66 := kz4 ae;have p59 : 0 ≤ (aa : Int) := od;have q59 : (aa : Int) < ((aj.length : Int) : Int) := od;replace p59 := eq_true p59; replace q59 := eq_true q59;have p60 : 0 ≤ (aa : Int) := od;have q60 : (aa : Int) < ((aj.length : Int) : Int) := od;replace p60 := eq_true p60; replace q60 := eq_true q60;obtain ⟨cW, eM⟩ := Kd.R_celln 0 af.out (aa : Int) od od;rw [show rdOf 0 aJ aa = al from by rw [br.out]; exact rdOf_set_ _ _ _ od od] at cW;have ch := Kd.R_putg af.out (aa : Int) (wrap64 ((al) + 1));(try go_wp2_with (first | ((with_reducible refine gate_store (t := 3) (p := 99) rfl ?_); refine store_event (t := 3) (p := 99) (v := ?vo_w68) (w1 := (w64.setCell ⟨an, (aa : Int).toNat, none⟩ (.int .i64 (wrap64 ((al) + 1))))) ?hg ?ho ?hn ?hr ?_; (case ho => rfl); (case hg => rfl); (case hn => rfl); (case hr => go_simp; try rfl); intro w68 hw; have hg : w64.grownBy w68 (some an) := (by rw [hw]; exact ch.2); have hp_ : Kd.R (Kd.int .i64) 3 w68 w.heap.size (fun _ => True) (.slice (some ⟨an, 0, none⟩) aj.length cT) cf := (by rw [hw, cS.out]; exact ch.1); clear ch; replace ag := kXR ag af hg; replace ae := kXR ae af hg; replace af := Aside0.mk (hp_); replace HB := Aside0.mk ((by rw [hw]; exact below_set (HB.out) cQ.out : Below w.heap.size w w68)); clear hg hw hp_)));go_roundg ar
     case measure => have := HK1.out; have := ao.out; have := au.out; omega
     case rel => exact ⟨(cf), (wrap64 (aa + 1)), et, H', ⟨by have := HK1.out; have := ao.out; have := au.out; omega⟩, ⟨krR af⟩, ⟨kg ag⟩, ⟨kh HB⟩⟩
theorem api_Slot_78.goesT {P : Program} {ops : Array Oper} {Q : Exit → Act → World → Prop} {rest : List Oper} {oi : Oper} {a : Act} {w : World} (N : Option Tmp) (hd : oi.dst = N) (hg : oi.guard = none) {f : FuncId} {L : Array Value} {c : Operand} {ops_ : Array Operand} {ts : Array TypeId}
  (he : ∀ args w, (callFunc f args).run P w = .ok (.enter f args) w) (args : Array Value) (hop : oi.op = .call { callee := .value c, args := ops_, argTypes := ts }) (hc : a.eval c = .func (.func f) #[] L) (hargs : ops_.map a.eval = args)
  (h : Calls P f (args ++ L) w fun e w' => ∃ v, e = .returned v ∧ wpList P ops Q rest (a.put N v) w') : wpList P ops Q (oi :: rest) a w := by
 refine wpList_plain hg fun K hK => ?_
 have he := he (args ++ L) w
 have hrun : (execOp a.eval oi).run P w = .ok (.enter f (args ++ L)) w := by
  unfold execOp;have hargs' : Array.map (fun x => a.eval x) ops_ = args := hargs;simp [hop, resolve, Deferred.ofValue, invoke, hc, hargs', he]
 unfold Oper.wp;rw [hrun, Oper.upon_enter]
 refine h.mono fun e w'' hh => ?_
 obtain ⟨v, rfl, hk⟩ := hh;subst hd;exact hK _ _ hk
theorem api_Slot_78.goesT_ {P : Program} {ops : Array Oper} {Q : Exit → Act → World → Prop} {oi : Oper} {N : Option Tmp} {a : Act} {w : World} {K : Act → World → Prop} {f : FuncId} {L : Array Value} {c : Operand} {ops_ : Array Operand} {ts : Array TypeId}
  (he : ∀ args w, (callFunc f args).run P w = .ok (.enter f args) w) (args : Array Value) (hw : Region.wanted oi (yielded ops a.tmps) = true) (hN : oi.dst = N) (hop : oi.op = .call { callee := .value c, args := ops_, argTypes := ts }) (hc : a.eval c = .func (.func f) #[] L) (hargs : ops_.map a.eval = args)
  (h : Calls P f (args ++ L) w fun e w' => ∃ v, e = .returned v ∧ K (a.put N v) w') : if Region.wanted oi (yielded ops a.tmps) = true then Oper.wp P oi a w K Q else K (a.put N undef) w := by
 refine call_ f (args ++ L) hw hN ?_ h;have he := he (args ++ L) w;have hargs' : Array.map (fun x => a.eval x) ops_ = args := hargs;unfold execOp;simp [hop, resolve, Deferred.ofValue, invoke, hc, hargs', he]
theorem api_Slot_78.goesT0 {P : Program} {ops : Array Oper} {Q : Exit → Act → World → Prop} {rest : List Oper} {oi : Oper} {a : Act} {w : World} (N : Option Tmp) (hd : oi.dst = N) (hg : oi.guard = none) {f : FuncId} {fn : Func} (hf : P.funcs[f]? = some fn) (hname : (fn.name == "runtime.NumGoroutine") = false) (hb : fn.body.isSome = true) {c : Operand} {ops_ : Array Operand} {ts : Array TypeId}
  (args : Array Value) (hop : oi.op = .call { callee := .value c, args := ops_, argTypes := ts }) (hc : a.eval c = .func (.func f) #[] #[]) (hargs : ops_.map a.eval = args)
  (h : Calls P f args w fun e w' => ∃ v, e = .returned v ∧ wpList P ops Q rest (a.put N v) w') : wpList P ops Q (oi :: rest) a w :=
 api_Slot_78.goesT N hd hg (fun args w => enters_ hf hname hb args w) args hop hc hargs (by rw [Array.append_empty]; exact h)
theorem api_Slot_78.goesT0_ {P : Program} {ops : Array Oper} {Q : Exit → Act → World → Prop} {oi : Oper} {N : Option Tmp} {a : Act} {w : World} {K : Act → World → Prop} {f : FuncId} {fn : Func} (hf : P.funcs[f]? = some fn) (hname : (fn.name == "runtime.NumGoroutine") = false) (hb : fn.body.isSome = true) {c : Operand} {ops_ : Array Operand} {ts : Array TypeId}
  (args : Array Value) (hw : Region.wanted oi (yielded ops a.tmps) = true) (hN : oi.dst = N) (hop : oi.op = .call { callee := .value c, args := ops_, argTypes := ts }) (hc : a.eval c = .func (.func f) #[] #[]) (hargs : ops_.map a.eval = args)
  (h : Calls P f args w fun e w' => ∃ v, e = .returned v ∧ K (a.put N v) w') : if Region.wanted oi (yielded ops a.tmps) = true then Oper.wp P oi a w K Q else K (a.put N undef) w :=
 api_Slot_78.goesT_ (fun args w => enters_ hf hname hb args w) args hw hN hop hc hargs (by rw [Array.append_empty]; exact h)
theorem api_Slot_78.any_step {α : Type} (d : α → Bool) (z : α) (l : List α) (k : Nat) (hk : k < l.length) (h : (l.take k).any d = false) : (l.take (k + 1)).any d = d (l.getD k z) := by
 rw [List.take_succ_eq_append_getElem hk, List.any_append, h];simp [List.getD_eq_getElem?_getD, hk]
theorem api_Slot_78.any_true {α : Type} (d : α → Bool) (z : α) (l : List α) (k : Nat) (hk : k < l.length) (h : d (l.getD k z) = true) : l.any d = true := by
 rw [List.any_eq_true];exact ⟨l[k], List.getElem_mem hk, by simpa [List.getD_eq_getElem?_getD, hk] using h⟩
theorem api_Slot_78.below2 {n : Nat} {w w1 w2 : World} (h : Below n w w1) (hn : n ≤ w.heap.size) (h2 : Below w1.heap.size w1 w2) : Below n w w2 := h.trans (h2.mono (Nat.le_trans hn h.size))
def api_Slot_78.Post (b : Bool) (w : World) (e : Ending) (w' : World) : Prop := ∃ i : Int, e = .returned (.int .i64 i) ∧ decide (0 ≤ i) = b ∧ Below w.heap.size w w'
theorem api_Slot_78.any_calls (d : S64 → Bool) (fid : FuncId) (L : Array Value) (hE : ∀ args w, (callFunc fid args).run Try.prog w = .ok (.enter fid args) w) (A0 : Option Addr) (c0 : Nat) (l0 : List S64) (w : World)
  (hD : ∀ (x : S64) (W : World), Below w.heap.size w W → Calls Try.prog fid (#[.agg #[.int .i64 x.f0, .bool x.f1]] ++ L) W fun e w' => e = .returned (.bool (d x)) ∧ Below W.heap.size W w')
  (hr0 : Kd.C k64 w A0 l0.length l0) (hc0 : l0.length ≤ c0) :
  Calls Try.prog 78 #[.slice A0 l0.length c0, .func (.func fid) #[] L] w (api_Slot_78.Post (l0.any d) w) := by
 have HE := Aside0.mk hE;have HD := Aside0.mk hD;have HR := Aside0.mk hr0;have hlen : l0.length ≤ 9223372036854775807 := hr0.2.1;clear hE hD hr0 hc0;obtain ⟨n, hn⟩ : ∃ n, n = l0.length := ⟨_, rfl⟩;rw [← hn] at hlen ⊢;have HN := Aside0.mk hn;clear hn;go_enter Try.func78, Try.ntmps78;go_wp2;go_loopw [8] (fun v8 w' => ∃ k : Nat, v8 = .int .i64 k ∧ k ≤ n ∧ Aside0 ((l0.take k).any d = false) ∧ Aside0 (Below w.heap.size w w')) (fun v8 _ => n - (intOf v8).toNat)
 case atStart => exact ⟨0, rfl, Nat.zero_le _, ⟨by simp⟩, ⟨Below.refl _ _⟩⟩
 case round =>
  obtain ⟨k, rfl, hk, HA, HW⟩ := hrel
  by_cases hlt : k < n
  rotate_left
  ·obtain rfl : k = n := by omega
   go_wp2;go_ret;exact ⟨_, rfl, by have := HA.out; rw [HN.out, List.take_length] at this; rw [this]; rfl, HW.out⟩
  have hltl : k < l0.length := by have := HN.out; omega
  obtain ⟨ad, e1, hc1, hc2⟩ := at_T64 HR.out (k : Int) (by omega) (by have := HN.out; omega);subst e1;simp only [Int.toNat_natCast] at hc1 hc2;replace hc1 := (HW.out.cell (qqW w _ hc1)).trans hc1;replace hc2 := (HW.out.cell (qqW w _ hc2)).trans hc2;have HLT := Aside0.mk hltl;clear hltl;obtain ⟨b, hb⟩ : ∃ b, b = d (rd_T64 l0 k) := ⟨_, rfl⟩;obtain ⟨x, hx⟩ : ∃ x, x = rd_T64 l0 k := ⟨_, rfl⟩;rw [← hx] at hc1 hc2 hb;have HX := Aside0.mk hx;have HBB := Aside0.mk hb;clear hx hb
  cases b with
  | true =>
   go_wp2_with ((with_reducible refine gate_dst (N := 16) rfl ?_); refine api_Slot_78.goesT (some 16) rfl rfl HE.out #[.agg #[.int .i64 x.f0, .bool x.f1]] rfl rfl (by (try simp only [qM1, qM2, qM3]); first | done | rfl) ?_; (with_reducible refine (HD.out x _ HW.out).mono ?_); rintro e w' ⟨rfl, hb_⟩; have HB2 := Aside0.mk hb_; clear hb_; rw [← HBB.out]; refine ⟨_, rfl, ?_⟩);go_ret;exact ⟨_, rfl, by rw [api_Slot_78.any_true d _ l0 k HLT.out (by have := HX.out; unfold rd_T64 at this; rw [Int.toNat_natCast] at this; rw [← this]; exact HBB.out.symm)]; simp, api_Slot_78.below2 HW.out (Nat.le_refl _) HB2.out⟩
  | false =>
   go_wp2_with ((with_reducible refine gate_dst (N := 16) rfl ?_); refine api_Slot_78.goesT (some 16) rfl rfl HE.out #[.agg #[.int .i64 x.f0, .bool x.f1]] rfl rfl (by (try simp only [qM1, qM2, qM3]); first | done | rfl) ?_; (with_reducible refine (HD.out x _ HW.out).mono ?_); rintro e w' ⟨rfl, hb_⟩; have HB2 := Aside0.mk hb_; clear hb_; rw [← HBB.out]; refine ⟨_, rfl, ?_⟩);go_roundw
   case rel => exact ⟨k + 1, by first | rfl | go_num, by omega, ⟨by rw [api_Slot_78.any_step d _ l0 k HLT.out HA.out]; have := HX.out; unfold rd_T64 at this; rw [Int.toNat_natCast] at this; rw [← this]; exact HBB.out.symm⟩, ⟨api_Slot_78.below2 HW.out (Nat.le_refl _) HB2.out⟩⟩
   case measure => simp [intOf]; omega
mutual
def qta.j0 : Nat → Int → Bool → Option (Bool)
 | 0, _, _ => none
 | k + 1, x0, x14 => if x14 = true then (some false) else (qta.l0 k x0 3)
def qta.l0 : Nat → Int → Int → Option (Bool)
 | 0, _, _ => none
 | k + 1, x0, x3 => if (IntKind.u64.wrap (x3 * x3)) ≤ x0 then (if x3 = 0 then (none) else (if (Int.tmod x0 x3) = 0 then (some false) else (qta.l0 k x0 (IntKind.u64.wrap (x3 + 2))))) else (some true)
end
def qta.f (k : Nat) (a0 : Int) : Option (Bool) := if a0 < 3 then (qta.j0 k a0 true) else (if a0 > 65537 then (qta.j0 k a0 true) else (qta.j0 k a0 ((Int.tmod a0 2) == 0)))
theorem qta.calls (k : Nat) (a0 : Int) (r : Bool) (w : World) (h : qta.f k a0 = some r) :
  Calls Try.prog 59 #[.int .u64 a0] w fun e w' => e = .returned (.bool r) ∧ Drawn0 w w' := by
 have H : (if a0 < 3 then (qta.j0 k a0 true) else (if a0 > 65537 then (qta.j0 k a0 true) else (qta.j0 k a0 ((Int.tmod a0 2) == 0)))) = some r := h;clear h;have HC2 := Aside0.mk H;clear H;go_enter Try.func59, Try.ntmps59;go_upto_region 1 with (fail);go_cut [14] (fun v14 wc => ∃ (kq : Nat) (ab : Bool), v14 = .bool ab ∧ Aside0 (qta.j0 kq a0 ab = some r) ∧ Aside0 (kq ≤ k) ∧ Drawn0 w wc)
 case first =>
  have H := HC2.out;clear HC2
  by_cases c3 : a0 < 3
  ·rw [if_pos c3] at H
   have ae := qqT c3;clear c3;(first | rw [ae] | (simp only [i64_w, i32_w]; rw [ae]) | skip);have H' := Aside0.mk H;clear H;go_wp2;go_meet
   case rel => exact ⟨_, (true), et, H', ⟨by first | omega | exact Nat.le_refl _⟩, by repeat (first | exact Drawn0.refl _ | apply Drawn0.step)⟩
  rw [if_neg c3] at H;have ae := qqF c3;clear c3;(first | rw [ae] | (simp only [i64_w, i32_w]; rw [ae]) | skip)
  by_cases c4 : a0 > 65537
  ·rw [if_pos c4] at H
   have af := qqT c4;clear c4;have H' := Aside0.mk H;clear H;go_wp2;go_meet
   case rel => exact ⟨_, (true), et, H', ⟨by first | omega | exact Nat.le_refl _⟩, by repeat (first | exact Drawn0.refl _ | apply Drawn0.step)⟩
  rw [if_neg c4] at H;have af := qqF c4;clear c4;have H' := Aside0.mk H;clear H;go_wp2;go_meet
  case rel => exact ⟨_, (((Int.tmod a0 2) == 0)), et, H', ⟨by first | omega | exact Nat.le_refl _⟩, by repeat (first | exact Drawn0.refl _ | apply Drawn0.step)⟩
 clear HC2;obtain ⟨kq, ab, rfl, HA, HJ1, ⟨mc1, rfl⟩⟩ := hcut
 cases kq with
 | zero => exact absurd HA.out (by simp [qta.j0])
 | succ kj1 =>
  have H := HA.out;clear HA;simp only [qta.j0] at H
  by_cases c5 : ab = true
  ·subst c5
   replace H := ifT H;obtain rfl := qqI H;go_wp2;go_ret;exact ⟨et, by repeat (first | exact Drawn0.refl _ | apply Drawn0.step)⟩
  replace c5 := Bool.eq_false_iff.mpr c5;subst c5;replace H := ifF H;have H' := Aside0.mk H;clear H;go_wp2;go_loopg [3] kj1 (fun kq v3 w' => ∃ (aa : Int), v3 = .int .u64 aa ∧ Aside0 (qta.l0 kq a0 aa = some r) ∧ Aside0 (kq ≤ kj1) ∧ Drawn0 w w')
  case atStart => exact ⟨(3), et, H', ⟨Nat.le_refl _⟩, by repeat (first | exact Drawn0.refl _ | apply Drawn0.step)⟩
  case round =>
   clear H'; (try clear c5);obtain ⟨aa, rfl, HA, HK2, ⟨m2, rfl⟩⟩ := hrel
   cases gk with
   | zero => exact absurd HA.out (by simp [qta.l0])
   | succ k2 =>
    have H := HA.out;clear HA;simp only [qta.l0] at H
    by_cases c6 : (IntKind.u64.wrap (aa * aa)) ≤ a0
    rotate_left
    ·rw [if_neg c6] at H
     have ag := qqF c6;clear c6;obtain rfl := qqI H;go_wp2;go_ret;exact ⟨et, by repeat (first | exact Drawn0.refl _ | apply Drawn0.step)⟩
    rw [if_pos c6] at H;have ag := qqT c6;clear c6
    by_cases c7 : aa = 0
    ·rw [if_pos c7] at H
     exact absurd H (by simp)
    rw [if_neg c7] at H;have aj := beq_eq_false_iff_ne.mpr c7;have ak := bne_iff_ne.mpr c7
    by_cases c8 : (Int.tmod a0 aa) = 0
    ·rw [if_pos c8] at H
     have ah := beq_iff_eq.mpr c8;have ai := bne_eq_false_iff_eq.mpr c8;clear c8;obtain rfl := qqI H;go_wp2;go_ret;exact ⟨et, by repeat (first | exact Drawn0.refl _ | apply Drawn0.step)⟩
    rw [if_neg c8] at H;have ah := beq_eq_false_iff_ne.mpr c8;have ai := bne_iff_ne.mpr c8;have H' := Aside0.mk H;clear H;go_wp2;go_roundg k2
    case measure => have := HJ1.out; have := HK2.out; omega
    case rel => exact ⟨(IntKind.u64.wrap (aa + 2)), et, H', ⟨by have := HJ1.out; have := HK2.out; omega⟩, by repeat (first | exact Drawn0.refl _ | apply Drawn0.step)⟩
def circ_Check_1.f (aa : Int) (ab : Bool) : Option (Bool) := if aa < 1 then (some true) else (some (decide (aa > 13)))
theorem circ_Check_1.calls (aa : Int) (ae : Bool) (r : Bool) (w : World) (h : circ_Check_1.f aa ae = some r) :
  Calls Try.prog 61 #[.agg #[.int .i64 aa, .bool ae]] w fun e w' => e = .returned (.bool r) ∧ Below w.heap.size w w' := by
 have hu64 := Try.underlying64;have HB := Aside0.mk (Below.refl w.heap.size w);have H : (if aa < 1 then (some true) else (some (decide (aa > 13)))) = some r := h;clear h
 by_cases c2 : aa < 1
 ·rw [if_pos c2] at H
  have ai := qqT c2;clear c2;obtain rfl := qqI H;go_enter Try.func61, Try.ntmps61;go_wp2_with (first | ((with_reducible refine gate_dst (N := 1) rfl ?_); refine box_event ?hg (N := 1) ?hd (cs := #[.int .i64 aa, .bool ae]) (t := 64) ?hr ?_; (case hd | hg => rfl); (case hr => go_simp; try rfl); intro af hg w3 hbox hb; have ab := am hbox; have ag := kG HB hg; have ah := kG HB hg; replace HB := kH HB hb; clear hb hbox hg; have Z4 := kz2 ab));go_ret;exact ⟨er, kh HB⟩
 rw [if_neg c2] at H;have ai := qqF c2;clear c2;obtain rfl := qqI H;go_enter Try.func61, Try.ntmps61;go_wp2_with (first | ((with_reducible refine gate_dst (N := 1) rfl ?_); refine box_event ?hg (N := 1) ?hd (cs := #[.int .i64 aa, .bool ae]) (t := 64) ?hr ?_; (case hd | hg => rfl); (case hr => go_simp; try rfl); intro af hg w5 hbox hb; have ab := am hbox; have ag := kG HB hg; have ah := kG HB hg; replace HB := kH HB hb; clear hb hbox hg; have Z6 := kz2 ab));go_ret;exact ⟨er, kh HB⟩
def circ_named.j0 : Nat → Int → Bool → Option (Bool × Bool × Bool × Bool × Bool)
 | 0, _, _ => none
 | k + 1, x4, x11 => if x11 = true then (some (false, true, true, false, true)) else (if x4 = 6 then (some (false, true, false, true, true)) else (some (false, false, false, false, false)))
def circ_named.f (k : Nat) (a0 : Int) : Option (Bool × Bool × Bool × Bool × Bool) := if a0 = 1 then (some (true, false, false, false, true)) else (if a0 = 2 then (some (false, false, false, true, true)) else (if a0 = 3 then (circ_named.j0 k a0 (a0 == 3)) else (if a0 = 4 then (circ_named.j0 k a0 (a0 == 4)) else (circ_named.j0 k a0 (a0 == 5)))))
theorem circ_named.calls (k : Nat) (a0 : Int) (r1 : Bool) (r2 : Bool) (r3 : Bool) (r4 : Bool) (r5 : Bool) (w : World) (h : circ_named.f k a0 = some (r1, r2, r3, r4, r5)) :
  Calls Try.prog 79 #[.int .i64 a0] w fun e w' => e = .returned (.tuple #[.agg #[.bool r1, .bool r2, .bool r3, .bool r4], .bool r5]) ∧ Below w.heap.size w w' := by
 have hu104 := Try.underlying104;have HB := Aside0.mk (Below.refl w.heap.size w);have H : (if a0 = 1 then (some (true, false, false, false, true)) else (if a0 = 2 then (some (false, false, false, true, true)) else (if a0 = 3 then (circ_named.j0 k a0 (a0 == 3)) else (if a0 = 4 then (circ_named.j0 k a0 (a0 == 4)) else (circ_named.j0 k a0 (a0 == 5)))))) = some (r1, r2, r3, r4, r5) := h;clear h
 by_cases c2 : a0 = 1
 ·rw [if_pos c2] at H
  have ai := beq_iff_eq.mpr c2;have aj := bne_eq_false_iff_eq.mpr c2;clear c2;simp only [Option.some.injEq, Prod.mk.injEq] at H;obtain ⟨rfl, rfl, rfl, rfl, rfl⟩ := H;go_enter Try.func79, Try.ntmps79;go_wp2_with (first | ((with_reducible refine gate_dst (N := 2) rfl ?_); refine box_event ?hg (N := 2) ?hd (cs := #[.bool false, .bool false, .bool false, .bool false]) (t := 104) ?hr ?_; (case hd | hg => rfl); (case hr => go_simp; try rfl); intro ab hg w3 hbox hb; have aa := am hbox; have ag := kG HB hg; have ah := kG HB hg; replace HB := kH HB hb; clear hb hbox hg; have Z4 := kz4 aa));refine bodyPost_ret (results_ct rfl _ _ ab 104 #[.bool true, .bool false, .bool false, .bool false] (0, 0) _ rfl (kg aa) Try.underlying104 rfl (by kernel_rfl)) rfl ?_;exact ⟨er, kh HB⟩
 rw [if_neg c2] at H;have ai := beq_eq_false_iff_ne.mpr c2;have aj := bne_iff_ne.mpr c2
 by_cases c5 : a0 = 2
 ·rw [if_pos c5] at H
  have ak := beq_iff_eq.mpr c5;have al := bne_eq_false_iff_eq.mpr c5;clear c5;simp only [Option.some.injEq, Prod.mk.injEq] at H;obtain ⟨rfl, rfl, rfl, rfl, rfl⟩ := H;go_enter Try.func79, Try.ntmps79;go_wp2_with (first | ((with_reducible refine gate_dst (N := 2) rfl ?_); refine box_event ?hg (N := 2) ?hd (cs := #[.bool false, .bool false, .bool false, .bool false]) (t := 104) ?hr ?_; (case hd | hg => rfl); (case hr => go_simp; try rfl); intro ab hg w6 hbox hb; have aa := am hbox; have ag := kG HB hg; have ah := kG HB hg; replace HB := kH HB hb; clear hb hbox hg; have Z7 := kz4 aa));refine bodyPost_ret (results_ct rfl _ _ ab 104 #[.bool false, .bool false, .bool false, .bool true] (0, 0) _ rfl (kg aa) Try.underlying104 rfl (by kernel_rfl)) rfl ?_;exact ⟨er, kh HB⟩
 rw [if_neg c5] at H;have ak := beq_eq_false_iff_ne.mpr c5;have al := bne_iff_ne.mpr c5;have HC8 := Aside0.mk H;clear H;go_enter Try.func79, Try.ntmps79;go_upto_if 11 with (first | ((with_reducible refine gate_dst (N := 2) rfl ?_); refine box_event ?hg (N := 2) ?hd (cs := #[.bool false, .bool false, .bool false, .bool false]) (t := 104) ?hr ?_; (case hd | hg => rfl); (case hr => go_simp; try rfl); intro ab hg w9 hbox hb; have aa := am hbox; have ag := kG HB hg; have ah := kG HB hg; replace HB := kH HB hb; clear hb hbox hg));(try simp only [Act.put, qS1, qS2, qS3]);go_cut [11] (fun v11 wc => ∃ (kq : Nat) (af : Bool), v11 = .bool af ∧ Aside0 (circ_named.j0 kq a0 af = some (r1, r2, r3, r4, r5)) ∧ Aside0 (kq ≤ k) ∧ Aside0 (wc.heap[ab]? = some (.cells #[.bool false, .bool false, .bool false, .bool false] 104 (0, 0))) ∧ Aside0 (Below w.heap.size w wc))
 case first =>
  have H := HC8.out;clear HC8
  by_cases c10 : a0 = 3
  ·rw [if_pos c10] at H
   have ae := beq_iff_eq.mpr c10;have an := bne_eq_false_iff_eq.mpr c10;clear c10;(first | rw [ae] | (simp only [i64_w, i32_w]; rw [ae]) | skip);have H' := Aside0.mk H;clear H;go_wp2;go_meet
   case rel => exact ⟨_, ((a0 == 3)), et, H', ⟨by first | omega | exact Nat.le_refl _⟩, ⟨kg aa⟩, ⟨kh HB⟩⟩
  rw [if_neg c10] at H;have ae := beq_eq_false_iff_ne.mpr c10;have an := bne_iff_ne.mpr c10;(first | rw [ae] | (simp only [i64_w, i32_w]; rw [ae]) | skip)
  by_cases c11 : a0 = 4
  rotate_left
  ·rw [if_neg c11] at H
   have ao := beq_eq_false_iff_ne.mpr c11;have ap := bne_iff_ne.mpr c11;have H' := Aside0.mk H;clear H;go_wp2;go_meet
   case rel => exact ⟨_, ((a0 == 5)), et, H', ⟨by first | omega | exact Nat.le_refl _⟩, ⟨kg aa⟩, ⟨kh HB⟩⟩
  rw [if_pos c11] at H;have ao := beq_iff_eq.mpr c11;have ap := bne_eq_false_iff_eq.mpr c11;clear c11;have H' := Aside0.mk H;clear H;go_wp2;go_meet
  case rel => exact ⟨_, ((a0 == 4)), et, H', ⟨by first | omega | exact Nat.le_refl _⟩, ⟨kg aa⟩, ⟨kh HB⟩⟩
 clear HC8;(try clear ai aj ak al Z4 Z7);obtain ⟨kq, af, rfl, HA, HJ7, aa, HB⟩ := hcut
 cases kq with
 | zero => exact absurd HA.out (by simp [circ_named.j0])
 | succ kj7 =>
  have H := HA.out;clear HA;simp only [circ_named.j0] at H
  by_cases c12 : af = true
  ·subst c12
   replace H := ifT H;simp only [Option.some.injEq, Prod.mk.injEq] at H;obtain ⟨rfl, rfl, rfl, rfl, rfl⟩ := H;have Z13 := kz4 aa;go_wp2;refine bodyPost_ret (results_ct rfl _ _ ab 104 #[.bool false, .bool true, .bool true, .bool false] (0, 0) _ rfl (kg aa) Try.underlying104 rfl (by kernel_rfl)) rfl ?_;exact ⟨er, kh HB⟩
  replace c12 := Bool.eq_false_iff.mpr c12;subst c12;replace H := ifF H
  by_cases c14 : a0 = 6
  ·rw [if_pos c14] at H
   have aq := beq_iff_eq.mpr c14;have ar := bne_eq_false_iff_eq.mpr c14;clear c14;simp only [Option.some.injEq, Prod.mk.injEq] at H;obtain ⟨rfl, rfl, rfl, rfl, rfl⟩ := H;have Z15 := kz4 aa;go_wp2;refine bodyPost_ret (results_ct rfl _ _ ab 104 #[.bool false, .bool true, .bool false, .bool true] (0, 0) _ rfl (kg aa) Try.underlying104 rfl (by kernel_rfl)) rfl ?_;exact ⟨er, kh HB⟩
  rw [if_neg c14] at H;have aq := beq_eq_false_iff_ne.mpr c14;have ar := bne_iff_ne.mpr c14;simp only [Option.some.injEq, Prod.mk.injEq] at H;obtain ⟨rfl, rfl, rfl, rfl, rfl⟩ := H;have Z16 := kz4 aa;go_wp2;refine bodyPost_ret (results_ct rfl _ _ ab 104 #[.bool false, .bool false, .bool false, .bool false] (0, 0) _ rfl (kg aa) Try.underlying104 rfl (by kernel_rfl)) rfl ?_;exact ⟨er, kh HB⟩
def circ_Gate_1.f (a0 : Int) (a1 : Int) : Option (Bool) := if a0 ≥ 0 then (some (decide (a0 < a1))) else (some false)
theorem circ_Gate_1.calls (a0 : Int) (a1 : Int) (r : Bool) (w : World) (h : circ_Gate_1.f a0 a1 = some r) :
  Calls Try.prog 80 #[.int .i64 a0, .int .i64 a1] w fun e w' => e = .returned (.bool r) ∧ Drawn0 w w' := by
 have H : (if a0 ≥ 0 then (some (decide (a0 < a1))) else (some false)) = some r := h;clear h
 by_cases c3 : a0 ≥ 0
 ·rw [if_pos c3] at H
  have aa := qqT c3;clear c3;obtain rfl := qqI H;go_enter Try.func80, Try.ntmps80;go_wp2;go_ret;exact ⟨et, by repeat (first | exact Drawn0.refl _ | apply Drawn0.step)⟩
 rw [if_neg c3] at H;have aa := qqF c3;clear c3;obtain rfl := qqI H;go_enter Try.func80, Try.ntmps80;go_wp2;go_ret;exact ⟨et, by repeat (first | exact Drawn0.refl _ | apply Drawn0.step)⟩
def api_Slot_60.f (l0 : List S64) : Option Bool := some (l0.any fun x => (circ_Check_1.f x.f0 x.f1).getD false)
theorem api_Slot_60.lit (x : S64) (W : World) : Calls Try.prog 61 (#[.agg #[.int .i64 x.f0, .bool x.f1]] ++ #[]) W fun e w' => e = .returned (.bool ((circ_Check_1.f x.f0 x.f1).getD false)) ∧ Below W.heap.size W w' := by
 have h : ∃ r, circ_Check_1.f x.f0 x.f1 = some r := by unfold circ_Check_1.f; split <;> exact ⟨_, rfl⟩
 obtain ⟨r, h⟩ := h;rw [h];exact circ_Check_1.calls x.f0 x.f1 r W h
theorem api_Slot_60.calls (A0 : Option Addr) (c0 : Nat) (l0 : List S64) (r : Bool) (w : World) (hr0 : Kd.C k64 w A0 l0.length l0) (hc0 : l0.length ≤ c0) (h : api_Slot_60.f l0 = some r) :
  Calls Try.prog 60 #[.slice A0 l0.length c0, .func (.func 61) #[] #[]] w fun e w' => e = .returned (.bool r) ∧ Below w.heap.size w w' := by
 have K := Aside0.mk (api_Slot_78.any_calls (fun x => (circ_Check_1.f x.f0 x.f1).getD false) 61 #[] (fun args w => enters_ Try.func61 (by kernel_rfl) rfl args w) A0 c0 l0 w (fun x W _ => api_Slot_60.lit x W) hr0 hc0);obtain rfl := qqI h;clear hr0 hc0 h;go_enter Try.func60, Try.ntmps60;go_wp2_with (go_at_call 78; refine K.out.mono ?_; rintro e w' ⟨i, rfl, hi, hb_⟩; have HI := Aside0.mk hi; have HB := Aside0.mk hb_; clear hi hb_);rw [HI.out];go_ret;exact ⟨rfl, HB.out⟩
mutual
def circ_Gate.j0 : Nat → Int → Int → Int → Bool → Int → Int → Int → Int → Bool → Bool → Bool → Bool → Option (Int)
 | 0, _, _, _, _, _, _, _, _, _, _, _, _ => none
 | k + 1, x0, x1, x2, x18, af, ab, aa, ae, ai, ah, ag, aj => if x18 = true then (some 4) else (if ai = true then ((circ_Gate_1.f ab x1).bind fun ak => (if ak = true then (if ah = true then ((circ_Gate_1.f ab x2).bind fun al => (if al = true then (if ag = true then ((circ_Gate_1.f aa x2).bind fun an => (circ_Gate.j1 k x0 (!an) af ab aa ae)) else (circ_Gate.j1 k x0 false af ab aa ae)) else (circ_Gate.j1 k x0 true af ab aa ae))) else (if ag = true then ((circ_Gate_1.f aa x2).bind fun ao => (circ_Gate.j1 k x0 (!ao) af ab aa ae)) else (circ_Gate.j1 k x0 false af ab aa ae))) else (circ_Gate.j1 k x0 true af ab aa ae))) else (if ah = true then ((circ_Gate_1.f ab x2).bind fun ap => (if ap = true then (if ag = true then ((circ_Gate_1.f aa x2).bind fun aq => (circ_Gate.j1 k x0 (!aq) af ab aa ae)) else (circ_Gate.j1 k x0 false af ab aa ae)) else (circ_Gate.j1 k x0 true af ab aa ae))) else (if ag = true then ((circ_Gate_1.f aa x2).bind fun ar => (circ_Gate.j1 k x0 (!ar) af ab aa ae)) else (circ_Gate.j1 k x0 false af ab aa ae))))
def circ_Gate.j1 : Nat → Int → Bool → Int → Int → Int → Int → Option (Int)
 | 0, _, _, _, _, _, _ => none
 | k + 1, x0, x56, af, ab, aa, ae => if x56 = true then (some 13) else (if ae ≥ x0 then (some 2) else (some 0))
end
def circ_Gate.f (k : Nat) (a0 : Int) (a1 : Int) (a2 : Int) (af : Int) (ag : Int) (ae : Int) (ab : Int) : Option (Int) := (circ_named.f k af).bind fun aa => (if aa.2.2.2.2 = true then (if aa.1 = true then (if aa.2.2.1 = true then (if aa.2.2.2.1 = true then (circ_Gate.j0 k a0 a1 a2 false af ag ae ab aa.1 aa.2.1 aa.2.2.1 aa.2.2.2.1) else (circ_Gate.j0 k a0 a1 a2 (ab != 0) af ag ae ab aa.1 aa.2.1 aa.2.2.1 aa.2.2.2.1)) else (if ae = 0 then (if aa.2.2.2.1 = true then (circ_Gate.j0 k a0 a1 a2 false af ag ae ab aa.1 aa.2.1 aa.2.2.1 aa.2.2.2.1) else (circ_Gate.j0 k a0 a1 a2 (ab != 0) af ag ae ab aa.1 aa.2.1 aa.2.2.1 aa.2.2.2.1)) else (circ_Gate.j0 k a0 a1 a2 true af ag ae ab aa.1 aa.2.1 aa.2.2.1 aa.2.2.2.1))) else (if aa.2.1 = true then (if aa.2.2.1 = true then (if aa.2.2.2.1 = true then (circ_Gate.j0 k a0 a1 a2 false af ag ae ab aa.1 aa.2.1 aa.2.2.1 aa.2.2.2.1) else (circ_Gate.j0 k a0 a1 a2 (ab != 0) af ag ae ab aa.1 aa.2.1 aa.2.2.1 aa.2.2.2.1)) else (if ae = 0 then (if aa.2.2.2.1 = true then (circ_Gate.j0 k a0 a1 a2 false af ag ae ab aa.1 aa.2.1 aa.2.2.1 aa.2.2.2.1) else (circ_Gate.j0 k a0 a1 a2 (ab != 0) af ag ae ab aa.1 aa.2.1 aa.2.2.1 aa.2.2.2.1)) else (circ_Gate.j0 k a0 a1 a2 true af ag ae ab aa.1 aa.2.1 aa.2.2.1 aa.2.2.2.1))) else (if ag = 0 then (if aa.2.2.1 = true then (if aa.2.2.2.1 = true then (circ_Gate.j0 k a0 a1 a2 false af ag ae ab aa.1 aa.2.1 aa.2.2.1 aa.2.2.2.1) else (circ_Gate.j0 k a0 a1 a2 (ab != 0) af ag ae ab aa.1 aa.2.1 aa.2.2.1 aa.2.2.2.1)) else (if ae = 0 then (if aa.2.2.2.1 = true then (circ_Gate.j0 k a0 a1 a2 false af ag ae ab aa.1 aa.2.1 aa.2.2.1 aa.2.2.2.1) else (circ_Gate.j0 k a0 a1 a2 (ab != 0) af ag ae ab aa.1 aa.2.1 aa.2.2.1 aa.2.2.2.1)) else (circ_Gate.j0 k a0 a1 a2 true af ag ae ab aa.1 aa.2.1 aa.2.2.1 aa.2.2.2.1))) else (circ_Gate.j0 k a0 a1 a2 true af ag ae ab aa.1 aa.2.1 aa.2.2.1 aa.2.2.2.1)))) else (circ_Gate.j0 k a0 a1 a2 true af ag ae ab aa.1 aa.2.1 aa.2.2.1 aa.2.2.2.1))
theorem circ_Gate.calls (k : Nat) (a0 : Int) (a1 : Int) (a2 : Int) (ak : Int) (ah : Int) (aj : Int) (ai : Int) (r : Int) (w : World) (h : circ_Gate.f k a0 a1 a2 ak ah aj ai = some r) :
  Calls Try.prog 62 #[.int .u64 a0, .int .i64 a1, .int .i64 a2, .agg #[.int .i64 ak, .int .i64 ah, .int .i64 aj, .int .u64 ai]] w fun e w' => e = .returned (.int .i64 r) ∧ Below w.heap.size w w' := by
 have hu61 := Try.underlying61;have hu104 := Try.underlying104;have HB := Aside0.mk (Below.refl w.heap.size w);have H : ((circ_named.f k ak).bind fun aa => (if aa.2.2.2.2 = true then (if aa.1 = true then (if aa.2.2.1 = true then (if aa.2.2.2.1 = true then (circ_Gate.j0 k a0 a1 a2 false ak ah aj ai aa.1 aa.2.1 aa.2.2.1 aa.2.2.2.1) else (circ_Gate.j0 k a0 a1 a2 (ai != 0) ak ah aj ai aa.1 aa.2.1 aa.2.2.1 aa.2.2.2.1)) else (if aj = 0 then (if aa.2.2.2.1 = true then (circ_Gate.j0 k a0 a1 a2 false ak ah aj ai aa.1 aa.2.1 aa.2.2.1 aa.2.2.2.1) else (circ_Gate.j0 k a0 a1 a2 (ai != 0) ak ah aj ai aa.1 aa.2.1 aa.2.2.1 aa.2.2.2.1)) else (circ_Gate.j0 k a0 a1 a2 true ak ah aj ai aa.1 aa.2.1 aa.2.2.1 aa.2.2.2.1))) else (if aa.2.1 = true then (if aa.2.2.1 = true then (if aa.2.2.2.1 = true then (circ_Gate.j0 k a0 a1 a2 false ak ah aj ai aa.1 aa.2.1 aa.2.2.1 aa.2.2.2.1) else (circ_Gate.j0 k a0 a1 a2 (ai != 0) ak ah aj ai aa.1 aa.2.1 aa.2.2.1 aa.2.2.2.1)) else (if aj = 0 then (if aa.2.2.2.1 = true then (circ_Gate.j0 k a0 a1 a2 false ak ah aj ai aa.1 aa.2.1 aa.2.2.1 aa.2.2.2.1) else (circ_Gate.j0 k a0 a1 a2 (ai != 0) ak ah aj ai aa.1 aa.2.1 aa.2.2.1 aa.2.2.2.1)) else (circ_Gate.j0 k a0 a1 a2 true ak ah aj ai aa.1 aa.2.1 aa.2.2.1 aa.2.2.2.1))) else (if ah = 0 then (if aa.2.2.1 = true then (if aa.2.2.2.1 = true then (circ_Gate.j0 k a0 a1 a2 false ak ah aj ai aa.1 aa.2.1 aa.2.2.1 aa.2.2.2.1) else (circ_Gate.j0 k a0 a1 a2 (ai != 0) ak ah aj ai aa.1 aa.2.1 aa.2.2.1 aa.2.2.2.1)) else (if aj = 0 then (if aa.2.2.2.1 = true then (circ_Gate.j0 k a0 a1 a2 false ak ah aj ai aa.1 aa.2.1 aa.2.2.1 aa.2.2.2.1) else (circ_Gate.j0 k a0 a1 a2 (ai != 0) ak ah aj ai aa.1 aa.2.1 aa.2.2.1 aa.2.2.2.1)) else (circ_Gate.j0 k a0 a1 a2 true ak ah aj ai aa.1 aa.2.1 aa.2.2.1 aa.2.2.2.1))) else (circ_Gate.j0 k a0 a1 a2 true ak ah aj ai aa.1 aa.2.1 aa.2.2.1 aa.2.2.2.1)))) else (circ_Gate.j0 k a0 a1 a2 true ak ah aj ai aa.1 aa.2.1 aa.2.2.1 aa.2.2.2.1))) = some r := h;clear h;replace H := qqB H;obtain ⟨⟨au, aq, al, an, aM⟩, A50, H⟩ := H;(try dsimp only at H);have A5 := Aside0.mk A50;clear A50;have HC6 := Aside0.mk H;clear H;go_enter Try.func62, Try.ntmps62;go_upto_region 3 with (first | ((with_reducible refine gate_dst (N := 7) rfl ?_); refine box_event ?hg (N := 7) ?hd (cs := #[.int .i64 ak, .int .i64 ah, .int .i64 aj, .int .u64 ai]) (t := 61) ?hr ?_; (case hd | hg => rfl); (case hr => go_simp; try rfl); intro aC hg w7 hbox hb; have af := am hbox; have bD := kG HB hg; have bE := kG HB hg; replace HB := kH HB hb; clear hb hbox hg; have Z8 := kz4 af) | ((with_reducible refine gate_callee (f := 79) rfl ?_); refine goesL_ (some 15) rfl rfl Try.func79 (by kernel_rfl) rfl #[.int .i64 ak] rfl (by (try simp only [qM1, qM2, qM3]); first | done | rfl) ?_; (with_reducible refine (circ_named.calls k ak au aq al an aM _ A5.out).mono ?_); rintro e w9 ⟨rfl, hb⟩; refine ⟨_, rfl, ?_⟩; replace af := kU af hb; replace HB := kH HB hb; (try clear hb); (try clear hb2); (try clear hk); (try clear hi)) | ((with_reducible refine gate_dst (N := 9) rfl ?_); refine box_event ?hg (N := 9) ?hd (cs := #[.bool false, .bool false, .bool false, .bool false]) (t := 104) ?hr ?_; (case hd | hg => rfl); (case hr => go_simp; try rfl); intro aD hg w10 hbox hb; have ag := am hbox; have bF := kG HB hg; have bG := kG HB hg; replace HB := kH HB hb; have ab := kP af hg; have ae := kQ af hg; replace af := kU af hb; clear hb hbox hg; have bH := ae.out; have bI := ab.out; have Z12 := kz4 ag));(try simp only [Act.put, qS1, qS2, qS3]);go_cut [18] (fun v18 wc => ∃ (kq : Nat) (ar : Bool), v18 = .bool ar ∧ Aside0 (circ_Gate.j0 kq a0 a1 a2 ar ak ah aj ai au aq al an = some r) ∧ Aside0 (kq ≤ k) ∧ Aside0 (wc.heap[aC]? = some (.cells #[.int .i64 ak, .int .i64 ah, .int .i64 aj, .int .u64 ai] 61 (0, 0))) ∧ Aside0 (wc.heap[aD]? = some (.cells #[.bool au, .bool aq, .bool al, .bool an] 104 (0, 0))) ∧ Aside0 (Below w.heap.size w wc))
 case first =>
  have H := HC6.out;clear HC6
  by_cases c13 : aM = true
  rotate_left
  ·replace c13 := Bool.eq_false_iff.mpr c13
   subst c13;replace H := ifF H;have H' := Aside0.mk H;clear H;go_wp2;go_meet
   case rel => exact ⟨_, (true), et, H', ⟨by first | omega | exact Nat.le_refl _⟩, ⟨kg af⟩, ⟨kg ag⟩, ⟨kh HB⟩⟩
  subst c13;replace H := ifT H
  by_cases c14 : au = true
  ·subst c14
   replace H := ifT H
   by_cases c15 : al = true
   ·subst c15
    replace H := ifT H
    by_cases c16 : an = true
    ·subst c16
     replace H := ifT H;have H' := Aside0.mk H;clear H;have bJ := ae.out;have bK := ab.out;have Z18 := kz4 ag;go_wp2;go_meet
     case rel => exact ⟨_, (false), et, H', ⟨by first | omega | exact Nat.le_refl _⟩, ⟨kg af⟩, ⟨kg ag⟩, ⟨kh HB⟩⟩
    replace c16 := Bool.eq_false_iff.mpr c16;subst c16;replace H := ifF H;have H' := Aside0.mk H;clear H;have bL := ae.out;have bM := ab.out;have Z20 := kz4 ag;have Z21 := kz4 af;go_wp2;go_meet
    case rel => exact ⟨_, ((ai != 0)), et, H', ⟨by first | omega | exact Nat.le_refl _⟩, ⟨kg af⟩, ⟨kg ag⟩, ⟨kh HB⟩⟩
   replace c15 := Bool.eq_false_iff.mpr c15;subst c15;replace H := ifF H
   by_cases c22 : aj = 0
   rotate_left
   ·rw [if_neg c22] at H
    have ap := beq_eq_false_iff_ne.mpr c22;have aN := bne_iff_ne.mpr c22;(first | rw [ap] | (simp only [i64_w, i32_w]; rw [ap]) | skip);have H' := Aside0.mk H;clear H;have bN := ae.out;have bO := ab.out;have Z31 := kz4 ag;have Z32 := kz4 af;go_wp2;go_meet
    case rel => exact ⟨_, (true), et, H', ⟨by first | omega | exact Nat.le_refl _⟩, ⟨kg af⟩, ⟨kg ag⟩, ⟨kh HB⟩⟩
   rw [if_pos c22] at H;have ap := beq_iff_eq.mpr c22;have aN := bne_eq_false_iff_eq.mpr c22;clear c22;(first | rw [ap] | (simp only [i64_w, i32_w]; rw [ap]) | skip)
   by_cases c23 : an = true
   ·subst c23
    replace H := ifT H;have H' := Aside0.mk H;clear H;have bP := ae.out;have bQ := ab.out;have Z25 := kz4 ag;have Z26 := kz4 af;go_wp2;go_meet
    case rel => exact ⟨_, (false), et, H', ⟨by first | omega | exact Nat.le_refl _⟩, ⟨kg af⟩, ⟨kg ag⟩, ⟨kh HB⟩⟩
   replace c23 := Bool.eq_false_iff.mpr c23;subst c23;replace H := ifF H;have H' := Aside0.mk H;clear H;have bR := ae.out;have bS := ab.out;have Z28 := kz4 ag;have Z29 := kz4 af;go_wp2;go_meet
   case rel => exact ⟨_, ((ai != 0)), et, H', ⟨by first | omega | exact Nat.le_refl _⟩, ⟨kg af⟩, ⟨kg ag⟩, ⟨kh HB⟩⟩
  replace c14 := Bool.eq_false_iff.mpr c14;subst c14;replace H := ifF H
  by_cases c33 : aq = true
  ·subst c33
   replace H := ifT H
   by_cases c34 : al = true
   ·subst c34
    replace H := ifT H
    by_cases c35 : an = true
    ·subst c35
     replace H := ifT H;have H' := Aside0.mk H;clear H;have bT := ae.out;have bU := ab.out;have Z37 := kz4 ag;go_wp2;go_meet
     case rel => exact ⟨_, (false), et, H', ⟨by first | omega | exact Nat.le_refl _⟩, ⟨kg af⟩, ⟨kg ag⟩, ⟨kh HB⟩⟩
    replace c35 := Bool.eq_false_iff.mpr c35;subst c35;replace H := ifF H;have H' := Aside0.mk H;clear H;have bV := ae.out;have bW := ab.out;have Z39 := kz4 ag;have Z40 := kz4 af;go_wp2;go_meet
    case rel => exact ⟨_, ((ai != 0)), et, H', ⟨by first | omega | exact Nat.le_refl _⟩, ⟨kg af⟩, ⟨kg ag⟩, ⟨kh HB⟩⟩
   replace c34 := Bool.eq_false_iff.mpr c34;subst c34;replace H := ifF H
   by_cases c41 : aj = 0
   rotate_left
   ·rw [if_neg c41] at H
    have aQ := beq_eq_false_iff_ne.mpr c41;have aT := bne_iff_ne.mpr c41;have H' := Aside0.mk H;clear H;have bX := ae.out;have bY := ab.out;have Z50 := kz4 ag;have Z51 := kz4 af;go_wp2;go_meet
    case rel => exact ⟨_, (true), et, H', ⟨by first | omega | exact Nat.le_refl _⟩, ⟨kg af⟩, ⟨kg ag⟩, ⟨kh HB⟩⟩
   rw [if_pos c41] at H;have aQ := beq_iff_eq.mpr c41;have aT := bne_eq_false_iff_eq.mpr c41;clear c41
   by_cases c42 : an = true
   ·subst c42
    replace H := ifT H;have H' := Aside0.mk H;clear H;have bZ := ae.out;have ca := ab.out;have Z44 := kz4 ag;have Z45 := kz4 af;go_wp2;go_meet
    case rel => exact ⟨_, (false), et, H', ⟨by first | omega | exact Nat.le_refl _⟩, ⟨kg af⟩, ⟨kg ag⟩, ⟨kh HB⟩⟩
   replace c42 := Bool.eq_false_iff.mpr c42;subst c42;replace H := ifF H;have H' := Aside0.mk H;clear H;have cb := ae.out;have cc := ab.out;have Z47 := kz4 ag;have Z48 := kz4 af;go_wp2;go_meet
   case rel => exact ⟨_, ((ai != 0)), et, H', ⟨by first | omega | exact Nat.le_refl _⟩, ⟨kg af⟩, ⟨kg ag⟩, ⟨kh HB⟩⟩
  replace c33 := Bool.eq_false_iff.mpr c33;subst c33;replace H := ifF H
  by_cases c52 : ah = 0
  rotate_left
  ·rw [if_neg c52] at H
   have aU := beq_eq_false_iff_ne.mpr c52;have aV := bne_iff_ne.mpr c52;have H' := Aside0.mk H;clear H;have cd := ae.out;have ce := ab.out;have Z73 := kz4 ag;have Z74 := kz4 af;go_wp2;go_meet
   case rel => exact ⟨_, (true), et, H', ⟨by first | omega | exact Nat.le_refl _⟩, ⟨kg af⟩, ⟨kg ag⟩, ⟨kh HB⟩⟩
  rw [if_pos c52] at H;have aU := beq_iff_eq.mpr c52;have aV := bne_eq_false_iff_eq.mpr c52;clear c52
  by_cases c53 : al = true
  ·subst c53
   replace H := ifT H
   by_cases c54 : an = true
   ·subst c54
    replace H := ifT H;have H' := Aside0.mk H;clear H;have cf := ae.out;have cg := ab.out;have Z56 := kz4 ag;have Z57 := kz4 af;go_wp2;go_meet
    case rel => exact ⟨_, (false), et, H', ⟨by first | omega | exact Nat.le_refl _⟩, ⟨kg af⟩, ⟨kg ag⟩, ⟨kh HB⟩⟩
   replace c54 := Bool.eq_false_iff.mpr c54;subst c54;replace H := ifF H;have H' := Aside0.mk H;clear H;have ch := ae.out;have ci := ab.out;have Z59 := kz4 ag;have Z60 := kz4 af;go_wp2;go_meet
   case rel => exact ⟨_, ((ai != 0)), et, H', ⟨by first | omega | exact Nat.le_refl _⟩, ⟨kg af⟩, ⟨kg ag⟩, ⟨kh HB⟩⟩
  replace c53 := Bool.eq_false_iff.mpr c53;subst c53;replace H := ifF H
  by_cases c61 : aj = 0
  rotate_left
  ·rw [if_neg c61] at H
   have aW := beq_eq_false_iff_ne.mpr c61;have aX := bne_iff_ne.mpr c61;have H' := Aside0.mk H;clear H;have cj := ae.out;have ck := ab.out;have Z70 := kz4 ag;have Z71 := kz4 af;go_wp2;go_meet
   case rel => exact ⟨_, (true), et, H', ⟨by first | omega | exact Nat.le_refl _⟩, ⟨kg af⟩, ⟨kg ag⟩, ⟨kh HB⟩⟩
  rw [if_pos c61] at H;have aW := beq_iff_eq.mpr c61;have aX := bne_eq_false_iff_eq.mpr c61;clear c61
  by_cases c62 : an = true
  ·subst c62
   replace H := ifT H;have H' := Aside0.mk H;clear H;have cl := ae.out;have cm := ab.out;have Z64 := kz4 ag;have Z65 := kz4 af;go_wp2;go_meet
   case rel => exact ⟨_, (false), et, H', ⟨by first | omega | exact Nat.le_refl _⟩, ⟨kg af⟩, ⟨kg ag⟩, ⟨kh HB⟩⟩
  replace c62 := Bool.eq_false_iff.mpr c62;subst c62;replace H := ifF H;have H' := Aside0.mk H;clear H;have cn := ae.out;have co := ab.out;have Z67 := kz4 ag;have Z68 := kz4 af;go_wp2;go_meet
  case rel => exact ⟨_, ((ai != 0)), et, H', ⟨by first | omega | exact Nat.le_refl _⟩, ⟨kg af⟩, ⟨kg ag⟩, ⟨kh HB⟩⟩
 clear HC6;(try clear Z12 Z8);obtain ⟨kq, ar, rfl, HA, HJ5, af, ag, HB⟩ := hcut
 cases kq with
 | zero => exact absurd HA.out (by simp [circ_Gate.j0])
 | succ kj5 =>
  have H := HA.out;clear HA;simp only [circ_Gate.j0] at H
  by_cases c75 : ar = true
  ·subst c75
   replace H := ifT H;obtain rfl := qqI H;go_wp2;go_ret;exact ⟨er, kh HB⟩
  replace c75 := Bool.eq_false_iff.mpr c75;subst c75;replace H := ifF H;have aI := Aside0.mk H;clear H;go_upto_region 5 with (fail);go_cut [56] (fun v56 wc => ∃ (kq : Nat) (ao : Bool), v56 = .bool ao ∧ Aside0 (circ_Gate.j1 kq a0 ao ak ah aj ai = some r) ∧ Aside0 (kq ≤ kj5) ∧ Aside0 (wc.heap[aC]? = some (.cells #[.int .i64 ak, .int .i64 ah, .int .i64 aj, .int .u64 ai] 61 (0, 0))) ∧ Aside0 (wc.heap[aD]? = some (.cells #[.bool au, .bool aq, .bool al, .bool an] 104 (0, 0))) ∧ Aside0 (Below w.heap.size w wc))
  case first =>
   have H := aI.out;clear aI
   by_cases c77 : au = true
   rotate_left
   ·replace c77 := Bool.eq_false_iff.mpr c77
    subst c77;replace H := ifF H
    by_cases aw : aq = true
    rotate_left
    ·replace aw := Bool.eq_false_iff.mpr aw
     subst aw;replace H := ifF H
     by_cases ax : al = true
     rotate_left
     ·replace ax := Bool.eq_false_iff.mpr ax
      subst ax;replace H := ifF H;have H' := Aside0.mk H;clear H;have bg := ae.out;have bh := ab.out;have cA := kz4 ag;go_wp2;go_meet
      case rel => exact ⟨_, (false), et, H', ⟨by have := HJ5.out; first | omega | exact Nat.le_refl _⟩, ⟨kg af⟩, ⟨kg ag⟩, ⟨kh HB⟩⟩
     subst ax;replace H := ifT H;replace H := qqB H;obtain ⟨aY, aE, H⟩ := H;(try dsimp only at H);have bi := Aside0.mk aE;clear aE;have H' := Aside0.mk H;clear H;have bj := ae.out;have bk := ab.out;have cB := kz4 ag;have cC := kz4 af;go_wp2_with (first | (go_at_call 80; (with_reducible refine (circ_Gate_1.calls aj a2 aY _ bi.out).mono ?_); rintro e w' ⟨rfl, ⟨nd, rfl⟩⟩));go_meet
     case rel => exact ⟨_, (!aY), et, H', ⟨by have := HJ5.out; first | omega | exact Nat.le_refl _⟩, ⟨kg af⟩, ⟨kg ag⟩, ⟨kh HB⟩⟩
    subst aw;replace H := ifT H;replace H := qqB H;obtain ⟨bl, aG, H⟩ := H;(try dsimp only at H);have aJ := Aside0.mk aG;clear aG
    by_cases ay : bl = true
    rotate_left
    ·replace ay := Bool.eq_false_iff.mpr ay
     subst ay;replace H := ifF H;have H' := Aside0.mk H;clear H;have bm := ae.out;have bn := ab.out;have cD := kz4 ag;have cE := kz4 af;go_wp2_with (first | (go_at_call 80; (with_reducible refine (circ_Gate_1.calls ah a2 false _ aJ.out).mono ?_); rintro e w' ⟨rfl, ⟨nd, rfl⟩⟩));go_meet
     case rel => exact ⟨_, (true), et, H', ⟨by have := HJ5.out; first | omega | exact Nat.le_refl _⟩, ⟨kg af⟩, ⟨kg ag⟩, ⟨kh HB⟩⟩
    subst ay;replace H := ifT H
    by_cases az : al = true
    rotate_left
    ·replace az := Bool.eq_false_iff.mpr az
     subst az;replace H := ifF H;have H' := Aside0.mk H;clear H;have bo := ae.out;have bp := ab.out;have cF := kz4 ag;have cG := kz4 af;go_wp2_with (first | (go_at_call 80; (with_reducible refine (circ_Gate_1.calls ah a2 true _ aJ.out).mono ?_); rintro e w' ⟨rfl, ⟨nd, rfl⟩⟩));go_meet
     case rel => exact ⟨_, (false), et, H', ⟨by have := HJ5.out; first | omega | exact Nat.le_refl _⟩, ⟨kg af⟩, ⟨kg ag⟩, ⟨kh HB⟩⟩
    subst az;replace H := ifT H;replace H := qqB H;obtain ⟨aZ, aH, H⟩ := H;(try dsimp only at H);have bq := Aside0.mk aH;clear aH;have H' := Aside0.mk H;clear H;have br := ae.out;have bt := ab.out;have cH := kz4 ag;have cI := kz4 af;go_wp2_with (first | (go_at_call 80; (with_reducible refine (circ_Gate_1.calls ah a2 true _ aJ.out).mono ?_); rintro e w' ⟨rfl, ⟨nd, rfl⟩⟩) | (go_at_call 80; (with_reducible refine (circ_Gate_1.calls aj a2 aZ _ bq.out).mono ?_); rintro e w' ⟨rfl, ⟨nd, rfl⟩⟩));go_meet
    case rel => exact ⟨_, (!aZ), et, H', ⟨by have := HJ5.out; first | omega | exact Nat.le_refl _⟩, ⟨kg af⟩, ⟨kg ag⟩, ⟨kh HB⟩⟩
   subst c77;replace H := ifT H;replace H := qqB H;obtain ⟨bu, ba, H⟩ := H;(try dsimp only at H);have A78 := Aside0.mk ba;clear ba
   by_cases c79 : bu = true
   rotate_left
   ·replace c79 := Bool.eq_false_iff.mpr c79
    subst c79;replace H := ifF H;have H' := Aside0.mk H;clear H;have bv := ae.out;have bw := ab.out;have cJ := kz4 ag;have cK := kz4 af;go_wp2_with (first | (go_at_call 80; (with_reducible refine (circ_Gate_1.calls ah a1 false _ A78.out).mono ?_); rintro e w' ⟨rfl, ⟨nd, rfl⟩⟩));go_meet
    case rel => exact ⟨_, (true), et, H', ⟨by have := HJ5.out; first | omega | exact Nat.le_refl _⟩, ⟨kg af⟩, ⟨kg ag⟩, ⟨kh HB⟩⟩
   subst c79;replace H := ifT H
   by_cases c80 : aq = true
   rotate_left
   ·replace c80 := Bool.eq_false_iff.mpr c80
    subst c80;replace H := ifF H
    by_cases c94 : al = true
    rotate_left
    ·replace c94 := Bool.eq_false_iff.mpr c94
     subst c94;replace H := ifF H;have H' := Aside0.mk H;clear H;have cp := ae.out;have cq := ab.out;have cL := kz4 ag;have cM := kz4 af;go_wp2_with (first | (go_at_call 80; (with_reducible refine (circ_Gate_1.calls ah a1 true _ A78.out).mono ?_); rintro e w' ⟨rfl, ⟨nd, rfl⟩⟩));go_meet
     case rel => exact ⟨_, (false), et, H', ⟨by have := HJ5.out; first | omega | exact Nat.le_refl _⟩, ⟨kg af⟩, ⟨kg ag⟩, ⟨kh HB⟩⟩
    subst c94;replace H := ifT H;replace H := qqB H;obtain ⟨bb, bc, H⟩ := H;(try dsimp only at H);have A95 := Aside0.mk bc;clear bc;have H' := Aside0.mk H;clear H;have cr := ae.out;have ct := ab.out;have Z97 := kz4 ag;have Z98 := kz4 af;go_wp2_with (first | (go_at_call 80; (with_reducible refine (circ_Gate_1.calls ah a1 true _ A78.out).mono ?_); rintro e w' ⟨rfl, ⟨nd, rfl⟩⟩) | (go_at_call 80; (with_reducible refine (circ_Gate_1.calls aj a2 bb _ A95.out).mono ?_); rintro e w' ⟨rfl, ⟨nd, rfl⟩⟩));go_meet
    case rel => exact ⟨_, (!bb), et, H', ⟨by have := HJ5.out; first | omega | exact Nat.le_refl _⟩, ⟨kg af⟩, ⟨kg ag⟩, ⟨kh HB⟩⟩
   subst c80;replace H := ifT H;replace H := qqB H;obtain ⟨bx, bd, H⟩ := H;(try dsimp only at H);have A81 := Aside0.mk bd;clear bd
   by_cases c82 : bx = true
   rotate_left
   ·replace c82 := Bool.eq_false_iff.mpr c82
    subst c82;replace H := ifF H;have H' := Aside0.mk H;clear H;have cu := ae.out;have cv := ab.out;have Z92 := kz4 ag;have Z93 := kz4 af;go_wp2_with (first | (go_at_call 80; (with_reducible refine (circ_Gate_1.calls ah a1 true _ A78.out).mono ?_); rintro e w' ⟨rfl, ⟨nd, rfl⟩⟩) | (go_at_call 80; (with_reducible refine (circ_Gate_1.calls ah a2 false _ A81.out).mono ?_); rintro e w' ⟨rfl, ⟨nd, rfl⟩⟩));go_meet
    case rel => exact ⟨_, (true), et, H', ⟨by have := HJ5.out; first | omega | exact Nat.le_refl _⟩, ⟨kg af⟩, ⟨kg ag⟩, ⟨kh HB⟩⟩
   subst c82;replace H := ifT H
   by_cases c83 : al = true
   rotate_left
   ·replace c83 := Bool.eq_false_iff.mpr c83
    subst c83;replace H := ifF H;have H' := Aside0.mk H;clear H;have cw := ae.out;have cx := ab.out;have Z89 := kz4 ag;have Z90 := kz4 af;go_wp2_with (first | (go_at_call 80; (with_reducible refine (circ_Gate_1.calls ah a1 true _ A78.out).mono ?_); rintro e w' ⟨rfl, ⟨nd, rfl⟩⟩) | (go_at_call 80; (with_reducible refine (circ_Gate_1.calls ah a2 true _ A81.out).mono ?_); rintro e w' ⟨rfl, ⟨nd, rfl⟩⟩));go_meet
    case rel => exact ⟨_, (false), et, H', ⟨by have := HJ5.out; first | omega | exact Nat.le_refl _⟩, ⟨kg af⟩, ⟨kg ag⟩, ⟨kh HB⟩⟩
   subst c83;replace H := ifT H;replace H := qqB H;obtain ⟨be, bf, H⟩ := H;(try dsimp only at H);have A84 := Aside0.mk bf;clear bf;have H' := Aside0.mk H;clear H;have cy := ae.out;have cz := ab.out;have Z86 := kz4 ag;have Z87 := kz4 af;go_wp2_with (first | (go_at_call 80; (with_reducible refine (circ_Gate_1.calls ah a1 true _ A78.out).mono ?_); rintro e w' ⟨rfl, ⟨nd, rfl⟩⟩) | (go_at_call 80; (with_reducible refine (circ_Gate_1.calls ah a2 true _ A81.out).mono ?_); rintro e w' ⟨rfl, ⟨nd, rfl⟩⟩) | (go_at_call 80; (with_reducible refine (circ_Gate_1.calls aj a2 be _ A84.out).mono ?_); rintro e w' ⟨rfl, ⟨nd, rfl⟩⟩));go_meet
   case rel => exact ⟨_, (!be), et, H', ⟨by have := HJ5.out; first | omega | exact Nat.le_refl _⟩, ⟨kg af⟩, ⟨kg ag⟩, ⟨kh HB⟩⟩
  clear aI; (try clear c75);obtain ⟨kq, ao, rfl, HA, cN, af, ag, HB⟩ := hcut
  cases kq with
  | zero => exact absurd HA.out (by simp [circ_Gate.j1])
  | succ cO =>
   have H := HA.out;clear HA;simp only [circ_Gate.j1] at H
   by_cases aA : ao = true
   ·subst aA
    replace H := ifT H;obtain rfl := qqI H;go_wp2;go_ret;exact ⟨er, kh HB⟩
   replace aA := Bool.eq_false_iff.mpr aA;subst aA;replace H := ifF H
   by_cases av : ai ≥ a0
   ·rw [if_pos av] at H
    have aK := qqT av;clear av;obtain rfl := qqI H;have bz := ab.out;have bA := ae.out;have cP := kz4 af;go_wp2;go_ret;exact ⟨er, kh HB⟩
   rw [if_neg av] at H;have aK := qqF av;clear av;obtain rfl := qqI H;have bB := ab.out;have bC := ae.out;have cQ := kz4 af;go_wp2;go_ret;exact ⟨er, kh HB⟩
def qva.Post (b : Bool) (w : World) (e : Ending) (w' : World) : Prop := ∃ i : Int, e = .returned (.int .i64 i) ∧ decide (0 ≤ i) = b ∧ Below w.heap.size w w'
theorem qva.any_calls (d : Int → Bool) (fid : FuncId) (L : Array Value) (hE : ∀ args w, (callFunc fid args).run Try.prog w = .ok (.enter fid args) w) (A0 : Option Addr) (c0 : Nat) (l0 : List Int) (w : World)
  (hD : ∀ (x : Int) (W : World), Below w.heap.size w W → Calls Try.prog fid (#[.int .i64 x] ++ L) W fun e w' => e = .returned (.bool (d x)) ∧ Below W.heap.size W w')
  (hr0 : Kd.C (Kd.int .i64) w A0 l0.length l0) (hc0 : l0.length ≤ c0) :
  Calls Try.prog 86 #[.slice A0 l0.length c0, .func (.func fid) #[] L] w (qva.Post (l0.any d) w) := by
 have HE := Aside0.mk hE;have HD := Aside0.mk hD;have HR := Aside0.mk hr0;have hlen : l0.length ≤ 9223372036854775807 := hr0.2.1;clear hE hD hr0 hc0;obtain ⟨n, hn⟩ : ∃ n, n = l0.length := ⟨_, rfl⟩;rw [← hn] at hlen ⊢;have HN := Aside0.mk hn;clear hn;go_enter Try.func86, Try.ntmps86;go_wp2;go_loopw [8] (fun v8 w' => ∃ k : Nat, v8 = .int .i64 k ∧ k ≤ n ∧ Aside0 ((l0.take k).any d = false) ∧ Aside0 (Below w.heap.size w w')) (fun v8 _ => n - (intOf v8).toNat)
 case atStart => exact ⟨0, rfl, Nat.zero_le _, ⟨by simp⟩, ⟨Below.refl _ _⟩⟩
 case round =>
  obtain ⟨k, rfl, hk, HA, HW⟩ := hrel
  by_cases hlt : k < n
  rotate_left
  ·obtain rfl : k = n := by omega
   go_wp2;go_ret;exact ⟨_, rfl, by have := HA.out; rw [HN.out, List.take_length] at this; rw [this]; rfl, HW.out⟩
  have hltl : k < l0.length := by have := HN.out; omega
  obtain ⟨ad, e1, hc1⟩ := Kd.at_int HR.out (k : Int) (by omega) (by have := HN.out; omega);subst e1;simp only [Int.toNat_natCast] at hc1;replace hc1 := (HW.out.cell (qqW w _ hc1)).trans hc1;have HLT := Aside0.mk hltl;clear hltl;obtain ⟨b, hb⟩ : ∃ b, b = d (rd l0 k) := ⟨_, rfl⟩;obtain ⟨x, hx⟩ : ∃ x, x = rd l0 k := ⟨_, rfl⟩;rw [← hx] at hc1 hb;have HX := Aside0.mk hx;have HBB := Aside0.mk hb;clear hx hb
  cases b with
  | true =>
   go_wp2_with ((with_reducible refine gate_dst (N := 16) rfl ?_); refine api_Slot_78.goesT (some 16) rfl rfl HE.out #[.int .i64 x] rfl rfl (by (try simp only [qM1, qM2, qM3]); first | done | rfl) ?_; (with_reducible refine (HD.out x _ HW.out).mono ?_); rintro e w' ⟨rfl, hb_⟩; have HB2 := Aside0.mk hb_; clear hb_; rw [← HBB.out]; refine ⟨_, rfl, ?_⟩);go_ret;exact ⟨_, rfl, by rw [api_Slot_78.any_true d _ l0 k HLT.out (by have := HX.out; unfold rd at this; rw [Int.toNat_natCast] at this; rw [← this]; exact HBB.out.symm)]; simp, api_Slot_78.below2 HW.out (Nat.le_refl _) HB2.out⟩
  | false =>
   go_wp2_with ((with_reducible refine gate_dst (N := 16) rfl ?_); refine api_Slot_78.goesT (some 16) rfl rfl HE.out #[.int .i64 x] rfl rfl (by (try simp only [qM1, qM2, qM3]); first | done | rfl) ?_; (with_reducible refine (HD.out x _ HW.out).mono ?_); rintro e w' ⟨rfl, hb_⟩; have HB2 := Aside0.mk hb_; clear hb_; rw [← HBB.out]; refine ⟨_, rfl, ?_⟩);go_roundw
   case rel => exact ⟨k + 1, by first | rfl | go_num, by omega, ⟨by rw [api_Slot_78.any_step d _ l0 k HLT.out HA.out]; have := HX.out; unfold rd at this; rw [Int.toNat_natCast] at this; rw [← this]; exact HBB.out.symm⟩, ⟨api_Slot_78.below2 HW.out (Nat.le_refl _) HB2.out⟩⟩
   case measure => simp [intOf]; omega
def qna.f (l0 : List Int) (n : Int) : Option Bool := some (l0.any fun x => decide (x < 0) || decide (x ≥ n))
theorem qna.lit (x n : Int) (b : Addr) (W : World) (hc : W.cell? b = some (.int .i64 n)) : Calls Try.prog 82 (#[.int .i64 x] ++ #[.pointer (some b)]) W fun e w' => e = .returned (.bool (decide (x < 0) || decide (x ≥ n))) ∧ Below W.heap.size W w' := by
 show Calls Try.prog 82 #[.int .i64 x, .pointer (some b)] W _
 by_cases h : x < 0
 ·have h2 : decide (x < 0) = true := qqT h
  go_enter Try.func82, Try.ntmps82;go_wp2;go_ret;exact ⟨by simp [h], Below.refl _ _⟩
 have h2 : decide (x < 0) = false := qqF h;go_enter Try.func82, Try.ntmps82;go_wp2;go_ret;exact ⟨by simp [h], Below.refl _ _⟩
theorem qna.calls (b : Addr) (A0 : Option Addr) (c0 : Nat) (l0 : List Int) (n : Int) (r : Bool) (w : World) (hb : w.cell? b = some (.int .i64 n)) (hr0 : Kd.C (Kd.int .i64) w A0 l0.length l0) (hc0 : l0.length ≤ c0) (h : qna.f l0 n = some r) :
  Calls Try.prog 81 #[.slice A0 l0.length c0, .func (.func 82) #[] #[.pointer (some b)]] w fun e w' => e = .returned (.bool r) ∧ Below w.heap.size w w' := by
 have K := Aside0.mk (qva.any_calls (fun x => decide (x < 0) || decide (x ≥ n)) 82 #[.pointer (some b)] (fun args w => enters_ Try.func82 (by kernel_rfl) rfl args w) A0 c0 l0 w (fun x W hB => qna.lit x n b W ((hB.cell (qqW w _ hb)).trans hb)) hr0 hc0);obtain rfl := qqI h;clear hr0 hc0 h hb;go_enter Try.func81, Try.ntmps81;go_wp2_with (go_at_call 86; refine K.out.mono ?_; rintro e w' ⟨i, rfl, hi, hb_⟩; have HI := Aside0.mk hi; have HB := Aside0.mk hb_; clear hi hb_);rw [HI.out];go_ret;exact ⟨rfl, HB.out⟩
def circ_Exit.l0 : Nat → Int → List Int → Int → Int → Int → List Int → List Int → Option (Int)
 | 0, _, _, _, _, _, _, _ => none
 | k + 1, x5, x9, x10, x11, ab, ae, aa => if x11 < x10 then (if 0 ≤ x11 then (if x11 < (x9.length : Int) then (if (rd x9 x11) ≤ x5 then (some 2) else (if (rd x9 x11) > 13 then (some 2) else (circ_Exit.l0 k (rd x9 x11) x9 x10 (wrap64 (x11 + 1)) ab ae aa))) else (none)) else (none)) else (if (aa.length : Int) > 1024 then (some 3) else ((qna.f aa ab).bind fun af => (if af = true then (some 13) else (some 0))))
def circ_Exit.f (k : Nat) (a0 : Int) (aa : List Int) (ab : List Int) : Option (Int) := circ_Exit.l0 k 0 aa (aa.length : Int) 0 a0 aa ab
theorem circ_Exit.calls (k : Nat) (a0 : Int) (au : Option Addr) (av : Nat) (ae : List Int) (ao : Option Addr) (ap : Nat) (aj : List Int) (r : Int) (w : World) (ax : Kd.C (Kd.int .i64) w au ae.length ae) (ay : ae.length ≤ av) (az : Kd.C (Kd.int .i64) w ao aj.length aj) (aA : aj.length ≤ ap) (h : circ_Exit.f k a0 ae aj = some r) :
  Calls Try.prog 63 #[.int .i64 a0, .agg #[.slice au ae.length av, .slice ao aj.length ap]] w fun e w' => e = .returned (.int .i64 r) ∧ Below w.heap.size w w' := by
 have hu66 := Try.underlying66;have aq := Aside0.mk ax;have aT := Aside0.mk ay;clear ax ay;have aC := Aside0.mk az;have aD := Aside0.mk aA;clear az aA;have HB := Aside0.mk (Below.refl w.heap.size w);have H : (circ_Exit.l0 k 0 ae (ae.length : Int) 0 a0 ae aj) = some r := h;clear h;have H' := Aside0.mk H;clear H;go_enter Try.func63, Try.ntmps63;go_wp2_with (first | ((with_reducible refine gate_dst (N := 2) rfl ?_); refine box_event ?hg (N := 2) ?hd (cs := #[.int .i64 a0]) (t := 3) ?hr ?_; (case hd | hg => rfl); (case hr => go_simp; try rfl); intro an hg w3 hbox hb; have af := am hbox; have aU := kG HB hg; have aV := kG HB hg; replace HB := kH HB hb; clear hb hbox hg) | ((with_reducible refine gate_dst (N := 3) rfl ?_); refine box_event ?hg (N := 3) ?hd (cs := #[.slice au ae.length av, .slice ao aj.length ap]) (t := 66) ?hr ?_; (case hd | hg => rfl); (case hr => go_simp; try rfl); intro aG hg w4 hbox hb; have ag := am hbox; have aW := kG HB hg; have aX := kG HB hg; replace HB := kH HB hb; have ah := kP af hg; have ai := kQ af hg; replace af := kU af hb; clear hb hbox hg; have be := ai.out; have bf := ah.out; have Z6 := kz2 ag));go_loopg [5, 11] k (fun kq v5 v11 w' => ∃ (aw : Int) (aa : Int), v5 = .int .i64 aw ∧ v11 = .int .i64 aa ∧ Aside0 (circ_Exit.l0 kq aw ae (ae.length : Int) aa a0 ae aj = some r) ∧ Aside0 (kq ≤ k) ∧ Aside0 (w'.heap[an]? = some (.cells #[.int .i64 a0] 3 (0, 0))) ∧ Aside0 (w'.heap[aG]? = some (.cells #[(.slice au ae.length av), (.slice ao aj.length ap)] 66 (0, 0))) ∧ Aside0 (Below w.heap.size w w'))
 case atStart => exact ⟨(0), (0), et, et, H', ⟨Nat.le_refl _⟩, ⟨kg af⟩, ⟨kg ag⟩, ⟨kh HB⟩⟩
 case round =>
  clear H'; (try clear Z6);obtain ⟨aw, aa, rfl, rfl, HA, HK1, af, ag, HB⟩ := hrel
  cases gk with
  | zero => exact absurd HA.out (by simp [circ_Exit.l0])
  | succ k1 =>
   have H := HA.out;clear HA;simp only [circ_Exit.l0] at H
   by_cases c7 : aa < (ae.length : Int)
   rotate_left
   ·rw [if_neg c7] at H
    have aN := qqF c7;clear c7
    by_cases c12 : (aj.length : Int) > 1024
    ·rw [if_pos c12] at H
     have aH := qqT c12;have aI : decide (1024 < aj.length) = true := qqT (by omega);clear c12;obtain rfl := qqI H;have aY := ai.out;have aZ := ah.out;have Z14 := kz2 ag;go_wp2;go_ret;exact ⟨er, kh HB⟩
    rw [if_neg c12] at H;have aH := qqF c12;have aI : decide (1024 < aj.length) = false := qqF (by omega);clear c12;replace H := qqB H;obtain ⟨aQ, aJ, H⟩ := H;(try dsimp only at H);have A15 := Aside0.mk aJ;clear aJ
    by_cases c16 : aQ = true
    ·subst c16
     replace H := ifT H;obtain rfl := qqI H;have ba := ai.out;have bb := ah.out;have Z18 := kz2 ag;have Z19 := kz1 af;go_wp2_with (first | ((with_reducible refine gate_callee (f := 81) rfl ?_); refine goesL_ (some 33) rfl rfl Try.func81 (by kernel_rfl) rfl #[.slice ao aj.length ap, .func (.func 82) #[] #[.pointer (some ⟨an, 0, none⟩)]] rfl (by (try simp only [qM1, qM2, qM3]); first | done | rfl) ?_; (with_reducible refine (qna.calls ⟨an, 0, none⟩ _ _ aj a0 true _ Z19.1 ?side1 ?side2 A15.out).mono ?_); (case side1 => repeat (first | exact (Kd.C_below aC.out HB.out) | (with_reducible first | refine Kd.C_alloc ?_ _ | refine Kd.C_drewN ?_ _ | refine Kd.C_drew ?_))); (case side2 => exact aD.out); rintro e w20 ⟨rfl, hb⟩; refine ⟨_, rfl, ?_⟩; replace af := kU af hb; replace ag := kU ag hb; replace HB := kH HB hb; (try clear hb); (try clear hb2); (try clear hk); (try clear hi)));go_ret;exact ⟨er, kh HB⟩
    replace c16 := Bool.eq_false_iff.mpr c16;subst c16;replace H := ifF H;obtain rfl := qqI H;have bc := ai.out;have bd := ah.out;have Z22 := kz2 ag;have Z23 := kz1 af;go_wp2_with (first | ((with_reducible refine gate_callee (f := 81) rfl ?_); refine goesL_ (some 33) rfl rfl Try.func81 (by kernel_rfl) rfl #[.slice ao aj.length ap, .func (.func 82) #[] #[.pointer (some ⟨an, 0, none⟩)]] rfl (by (try simp only [qM1, qM2, qM3]); first | done | rfl) ?_; (with_reducible refine (qna.calls ⟨an, 0, none⟩ _ _ aj a0 false _ Z23.1 ?side1 ?side2 A15.out).mono ?_); (case side1 => repeat (first | exact (Kd.C_below aC.out HB.out) | (with_reducible first | refine Kd.C_alloc ?_ _ | refine Kd.C_drewN ?_ _ | refine Kd.C_drew ?_))); (case side2 => exact aD.out); rintro e w24 ⟨rfl, hb⟩; refine ⟨_, rfl, ?_⟩; replace af := kU af hb; replace ag := kU ag hb; replace HB := kH HB hb; (try clear hb); (try clear hb2); (try clear hk); (try clear hi)));go_ret;exact ⟨er, kh HB⟩
   rw [if_pos c7] at H;have aN := qqT c7;clear c7
   by_cases c8 : 0 ≤ aa
   rotate_left
   ·rw [if_neg c8] at H
    exact absurd H (by simp)
   rw [if_pos c8] at H;have bg := qqT c8;clear c8
   by_cases c9 : aa < (ae.length : Int)
   rotate_left
   ·rw [if_neg c9] at H
    exact absurd H (by simp)
   rw [if_pos c9] at H;have bh := qqT c9;clear c9
   by_cases c10 : (rd ae aa) ≤ aw
   ·rw [if_pos c10] at H
    have aK := qqT c10;clear c10;obtain rfl := qqI H;have ak : 0 ≤ (aa : Int) := od;have al : aa < (ae.length : Int) := od;obtain ⟨aE, ar, ab⟩ := Kd.at_int aq.out aa ak al;cases ar;replace ab := (HB.out.cell (qqW w _ ab)).trans ab;replace ak := eq_true ak; replace al := eq_true al;go_wp2;go_ret;exact ⟨er, kh HB⟩
   rw [if_neg c10] at H;have aK := qqF c10;clear c10
   by_cases c11 : (rd ae aa) > 13
   ·rw [if_pos c11] at H
    have aM := qqT c11;clear c11;obtain rfl := qqI H;have ak : 0 ≤ (aa : Int) := od;have al : aa < (ae.length : Int) := od;obtain ⟨aE, ar, ab⟩ := Kd.at_int aq.out aa ak al;cases ar;replace ab := (HB.out.cell (qqW w _ ab)).trans ab;replace ak := eq_true ak; replace al := eq_true al;go_wp2;go_ret;exact ⟨er, kh HB⟩
   rw [if_neg c11] at H;have aM := qqF c11;clear c11;have H' := Aside0.mk H;clear H;have ak : 0 ≤ (aa : Int) := od;have al : aa < (ae.length : Int) := od;obtain ⟨aE, ar, ab⟩ := Kd.at_int aq.out aa ak al;cases ar;replace ab := (HB.out.cell (qqW w _ ab)).trans ab;replace ak := eq_true ak; replace al := eq_true al;go_wp2;go_roundg k1
   case measure => have := HK1.out; omega
   case rel => exact ⟨(rd ae aa), (wrap64 (aa + 1)), et, et, H', ⟨by have := HK1.out; omega⟩, ⟨kg af⟩, ⟨kg ag⟩, ⟨kh HB⟩⟩
mutual
def circ_Check.j0 : Nat → Int → Bool → List (S64) → List (S61) → List (S66) → Option (Int)
 | 0, _, _, _, _, _ => none
 | k + 1, x0, x15, ab, aa, ae => if x15 = true then (some 3) else ((api_Slot_60.f ab).bind fun ah => (if ah = true then (some 2) else (circ_Check.l0 k x0 aa (aa.length : Int) 0 ab aa ae)))
def circ_Check.l0 : Nat → Int → List (S61) → Int → Int → List (S64) → List (S61) → List (S66) → Option (Int)
 | 0, _, _, _, _, _, _, _ => none
 | k + 1, x0, x37, x38, x39, ab, aa, ae => if x39 < x38 then (if 0 ≤ x39 then (if x39 < (x37.length : Int) then ((circ_Gate.f k x0 (ab.length : Int) x39 ((rd_T61 x37 x39).f0) ((rd_T61 x37 x39).f1) ((rd_T61 x37 x39).f2) ((rd_T61 x37 x39).f3)).bind fun af => (if af = 0 then (circ_Check.l0 k x0 x37 x38 (wrap64 (x39 + 1)) ab aa ae) else (some af))) else (none)) else (none)) else (circ_Check.l1 k ae (ae.length : Int) 0 ab aa ae)
def circ_Check.l1 : Nat → List (S66) → Int → Int → List (S64) → List (S61) → List (S66) → Option (Int)
 | 0, _, _, _, _, _, _ => none
 | k + 1, x56, x57, x58, ab, aa, ae => if x58 < x57 then (if 0 ≤ x58 then (if x58 < (x56.length : Int) then ((circ_Exit.f k (aa.length : Int) ((rd_T66 x56 x58).f0) ((rd_T66 x56 x58).f1)).bind fun ag => (if ag = 0 then (circ_Check.l1 k x56 x57 (wrap64 (x58 + 1)) ab aa ae) else (some ag))) else (none)) else (none)) else (some 0)
end
def circ_Check.f (k : Nat) (a0 : Int) (aa : List (S64)) (ab : List (S61)) (ae : List (S66)) : Option (Int) := (qta.f k a0).bind fun af => (if af = true then (if (aa.length : Int) > 256 then (circ_Check.j0 k a0 true aa ab ae) else (if (ab.length : Int) > 65536 then (circ_Check.j0 k a0 true aa ab ae) else (circ_Check.j0 k a0 (decide ((ae.length : Int) > 4096)) aa ab ae))) else (some 2))
theorem circ_Check.calls (k : Nat) (a0 : Int) (aE : Option Addr) (aG : Nat) (ah : List (S64)) (aM : Option Addr) (aN : Nat) (ae : List (S61)) (aQ : Option Addr) (aT : Nat) (ag : List (S66)) (r : Int) (w : World) (bb : Kd.C k64 w aE ah.length ah) (bc : ah.length ≤ aG) (bd : Kd.C k61 w aM ae.length ae) (be : ae.length ≤ aN) (bf : Kd.C k66 w aQ ag.length ag) (bg : ag.length ≤ aT) (h : circ_Check.f k a0 ah ae ag = some r) :
  Calls Try.prog 37 #[.int .u64 a0, .agg #[.slice aE ah.length aG, .slice aM ae.length aN, .slice aQ ag.length aT]] w fun e w' => e = .returned (.int .i64 r) ∧ Below w.heap.size w w' := by
 have hu26 := Try.underlying26;have hu61 := Try.underlying61;have hu66 := Try.underlying66;have bh := Aside0.mk bb;have bi := Aside0.mk bc;clear bb bc;have bj := Aside0.mk bd;have bP := Aside0.mk be;clear bd be;have bk := Aside0.mk bf;have bQ := Aside0.mk bg;clear bf bg;have HB := Aside0.mk (Below.refl w.heap.size w);have H : ((qta.f k a0).bind fun bm => (if bm = true then (if (ah.length : Int) > 256 then (circ_Check.j0 k a0 true ah ae ag) else (if (ae.length : Int) > 65536 then (circ_Check.j0 k a0 true ah ae ag) else (circ_Check.j0 k a0 (decide ((ag.length : Int) > 4096)) ah ae ag))) else (some 2))) = some r := h;clear h;replace H := qqB H;obtain ⟨bm, A30, H⟩ := H;(try dsimp only at H);have A3 := Aside0.mk A30;clear A30
 by_cases c4 : bm = true
 rotate_left
 ·replace c4 := Bool.eq_false_iff.mpr c4
  subst c4;replace H := ifF H;obtain rfl := qqI H;go_enter Try.func37, Try.ntmps37;go_wp2_with (first | ((with_reducible refine gate_dst (N := 3) rfl ?_); (try (refine gate_guard (by rfl) ?_; dsimp only)); refine box_event ?hg (N := 3) ?hd (cs := #[.slice aE ah.length aG, .slice aM ae.length aN, .slice aQ ag.length aT]) (t := 26) ?hr ?_; (case hd | hg => rfl); (case hr => go_simp; try rfl); intro aY hg w51 hbox hb; have aa := am hbox; have br := kG HB hg; have bt := kG HB hg; replace HB := kH HB hb; clear hb hbox hg) | ((with_reducible refine gate_callee (f := 59) rfl ?_); refine goesL_ (some 13) rfl rfl Try.func59 (by kernel_rfl) rfl #[.int .u64 a0] rfl (by (try simp only [qM1, qM2, qM3]); first | done | rfl) ?_; (with_reducible refine (qta.calls k a0 false _ A3.out).mono ?_); rintro e w' ⟨rfl, ⟨nd, rfl⟩⟩; refine ⟨_, rfl, ?_⟩));go_ret;exact ⟨er, kh HB⟩
 subst c4;replace H := ifT H;have HC5 := Aside0.mk H;clear H;go_enter Try.func37, Try.ntmps37;go_upto_region 3 with (first | ((with_reducible refine gate_dst (N := 3) rfl ?_); (try (refine gate_guard (by rfl) ?_; dsimp only)); refine box_event ?hg (N := 3) ?hd (cs := #[.slice aE ah.length aG, .slice aM ae.length aN, .slice aQ ag.length aT]) (t := 26) ?hr ?_; (case hd | hg => rfl); (case hr => go_simp; try rfl); intro aY hg w6 hbox hb; have aa := am hbox; have br := kG HB hg; have bt := kG HB hg; replace HB := kH HB hb; clear hb hbox hg) | ((with_reducible refine gate_callee (f := 59) rfl ?_); refine goesL_ (some 13) rfl rfl Try.func59 (by kernel_rfl) rfl #[.int .u64 a0] rfl (by (try simp only [qM1, qM2, qM3]); first | done | rfl) ?_; (with_reducible refine (qta.calls k a0 true _ A3.out).mono ?_); rintro e w' ⟨rfl, ⟨nd, rfl⟩⟩; refine ⟨_, rfl, ?_⟩));(try simp only [Act.put, qS1, qS2, qS3]);go_cut [15] (fun v15 wc => ∃ (kq : Nat) (aZ : Bool), v15 = .bool aZ ∧ Aside0 (circ_Check.j0 kq a0 aZ ah ae ag = some r) ∧ Aside0 (kq ≤ k) ∧ Aside0 (wc.heap[aY]? = some (.cells #[(.slice aE ah.length aG), (.slice aM ae.length aN), (.slice aQ ag.length aT)] 26 (0, 0))) ∧ Aside0 (Below w.heap.size w wc))
 case first =>
  have H := HC5.out;clear HC5
  by_cases c7 : (ah.length : Int) > 256
  ·rw [if_pos c7] at H
   have ba := qqT c7;have bL : decide (256 < ah.length) = true := qqT (by omega);clear c7;(first | rw [ba] | (simp only [i64_w, i32_w]; rw [ba]) | skip);have H' := Aside0.mk H;clear H;have Z8 := kz3 aa;go_wp2;go_meet
   case rel => exact ⟨_, (true), et, H', ⟨by first | omega | exact Nat.le_refl _⟩, ⟨kg aa⟩, ⟨kh HB⟩⟩
  rw [if_neg c7] at H;have ba := qqF c7;have bL : decide (256 < ah.length) = false := qqF (by omega);clear c7;(first | rw [ba] | (simp only [i64_w, i32_w]; rw [ba]) | skip)
  by_cases c9 : (ae.length : Int) > 65536
  ·rw [if_pos c9] at H
   have bM := qqT c9;have bN : decide (65536 < ae.length) = true := qqT (by omega);clear c9;have H' := Aside0.mk H;clear H;have Z10 := kz3 aa;go_wp2;go_meet
   case rel => exact ⟨_, (true), et, H', ⟨by first | omega | exact Nat.le_refl _⟩, ⟨kg aa⟩, ⟨kh HB⟩⟩
  rw [if_neg c9] at H;have bM := qqF c9;have bN : decide (65536 < ae.length) = false := qqF (by omega);clear c9;have H' := Aside0.mk H;clear H;have Z11 := kz3 aa;go_wp2;go_meet
  case rel => exact ⟨_, (decide ((ag.length : Int) > 4096)), et, H', ⟨by first | omega | exact Nat.le_refl _⟩, ⟨kg aa⟩, ⟨kh HB⟩⟩
 clear HC5; (try clear c4);obtain ⟨kq, aZ, rfl, HA, HJ4, aa, HB⟩ := hcut
 cases kq with
 | zero => exact absurd HA.out (by simp [circ_Check.j0])
 | succ kj4 =>
  have H := HA.out;clear HA;simp only [circ_Check.j0] at H
  by_cases c12 : aZ = true
  ·subst c12
   replace H := ifT H;obtain rfl := qqI H;go_wp2;go_ret;exact ⟨er, kh HB⟩
  replace c12 := Bool.eq_false_iff.mpr c12;subst c12;replace H := ifF H;replace H := qqB H;obtain ⟨bO, bu, H⟩ := H;(try dsimp only at H);have A13 := Aside0.mk bu;clear bu
  by_cases c14 : bO = true
  ·subst c14
   replace H := ifT H;obtain rfl := qqI H;have Z15 := kz3 aa;go_wp2_with (first | ((with_reducible refine gate_callee (f := 60) rfl ?_); refine goesL_ (some 35) rfl rfl Try.func60 (by kernel_rfl) rfl #[.slice aE ah.length aG, .func (.func 61) #[] #[]] rfl (by (try simp only [qM1, qM2, qM3]); first | done | rfl) ?_; (with_reducible refine (api_Slot_60.calls _ _ ah true _ ?side1 ?side2 A13.out).mono ?_); (case side1 => repeat (first | exact (Kd.C_below bh.out HB.out) | (with_reducible first | refine Kd.C_alloc ?_ _ | refine Kd.C_drewN ?_ _ | refine Kd.C_drew ?_))); (case side2 => exact bi.out); rintro e w16 ⟨rfl, hb⟩; refine ⟨_, rfl, ?_⟩; replace aa := kU aa hb; replace HB := kH HB hb; (try clear hb); (try clear hb2); (try clear hk); (try clear hi)));go_ret;exact ⟨er, kh HB⟩
  replace c14 := Bool.eq_false_iff.mpr c14;subst c14;replace H := ifF H;have H' := Aside0.mk H;clear H;have Z17 := kz3 aa;go_wp2_with (first | ((with_reducible refine gate_callee (f := 60) rfl ?_); refine goesL_ (some 35) rfl rfl Try.func60 (by kernel_rfl) rfl #[.slice aE ah.length aG, .func (.func 61) #[] #[]] rfl (by (try simp only [qM1, qM2, qM3]); first | done | rfl) ?_; (with_reducible refine (api_Slot_60.calls _ _ ah false _ ?side1 ?side2 A13.out).mono ?_); (case side1 => repeat (first | exact (Kd.C_below bh.out HB.out) | (with_reducible first | refine Kd.C_alloc ?_ _ | refine Kd.C_drewN ?_ _ | refine Kd.C_drew ?_))); (case side2 => exact bi.out); rintro e w18 ⟨rfl, hb⟩; refine ⟨_, rfl, ?_⟩; replace aa := kU aa hb; replace HB := kH HB hb; (try clear hb); (try clear hb2); (try clear hk); (try clear hi); have Z19 := kz3 aa));go_loopg [39] kj4 (fun kq v39 w' => ∃ (ab : Int), v39 = .int .i64 ab ∧ Aside0 (circ_Check.l0 kq a0 ae (ae.length : Int) ab ah ae ag = some r) ∧ Aside0 (kq ≤ kj4) ∧ Aside0 (w'.heap[aY]? = some (.cells #[(.slice aE ah.length aG), (.slice aM ae.length aN), (.slice aQ ag.length aT)] 26 (0, 0))) ∧ Aside0 (Below w.heap.size w w'))
  case atStart => exact ⟨(0), et, H', ⟨Nat.le_refl _⟩, ⟨kg aa⟩, ⟨kh HB⟩⟩
  case round =>
   clear H';(try clear c12 c14 Z15 Z17 Z19);obtain ⟨ab, rfl, HA, HK2, aa, HB⟩ := hrel
   cases gk with
   | zero => exact absurd HA.out (by simp [circ_Check.l0])
   | succ k2 =>
    have H := HA.out;clear HA;simp only [circ_Check.l0] at H
    by_cases c20 : ab < (ae.length : Int)
    ·rw [if_pos c20] at H
     have bl := qqT c20;clear c20
     by_cases c21 : 0 ≤ ab
     rotate_left
     ·rw [if_neg c21] at H
      exact absurd H (by simp)
     rw [if_pos c21] at H;have bR := qqT c21;clear c21
     by_cases c22 : ab < (ae.length : Int)
     rotate_left
     ·rw [if_neg c22] at H
      exact absurd H (by simp)
     rw [if_pos c22] at H;have bS := qqT c22;clear c22;replace H := qqB H;obtain ⟨bn, bv, H⟩ := H;(try dsimp only at H);have A23 := Aside0.mk bv;clear bv
     by_cases c24 : bn = 0
     rotate_left
     ·rw [if_neg c24] at H
      have bw := beq_eq_false_iff_ne.mpr c24;have bx := bne_iff_ne.mpr c24;obtain rfl := qqI H;have aU : 0 ≤ (ab : Int) := od;have aV : ab < (ae.length : Int) := od;obtain ⟨bz, bo, ai, aj, ak, al⟩ := at_T61 bj.out ab aU aV;cases bo;replace ai := (HB.out.cell (qqW w _ ai)).trans ai;replace aj := (HB.out.cell (qqW w _ aj)).trans aj;replace ak := (HB.out.cell (qqW w _ ak)).trans ak;replace al := (HB.out.cell (qqW w _ al)).trans al;replace aU := eq_true aU; replace aV := eq_true aV;go_wp2_with (first | ((with_reducible refine gate_dst (N := 6) rfl ?_); (try (refine gate_guard (by rfl) ?_; dsimp only)); refine box_event ?hg (N := 6) ?hd (cs := #[.int .i64 0, .int .i64 0, .int .i64 0, .int .u64 0]) (t := 61) ?hr ?_; (case hd | hg => rfl); (case hr => go_simp; try rfl); intro bA hg w30 hbox hb; have ax := am hbox; have bB := kG HB hg; have bC := kG HB hg; replace HB := kH HB hb; have ar := kP aa hg; have au := kQ aa hg; replace aa := kU aa hb; clear hb hbox hg; have bT := au.out; have bU := ar.out; have Z32 := kz4 ax; have Z33 := kz3 aa) | ((with_reducible refine gate_callee (f := 62) rfl ?_); refine goesL_ (some 50) rfl rfl Try.func62 (by kernel_rfl) rfl #[.int .u64 a0, .int .i64 (ah.length : Int), .int .i64 ab, .agg #[.int .i64 ((rd_T61 ae ab).f0), .int .i64 ((rd_T61 ae ab).f1), .int .i64 ((rd_T61 ae ab).f2), .int .u64 ((rd_T61 ae ab).f3)]] rfl (by (try simp only [qM1, qM2, qM3]); first | done | rfl) ?_; (with_reducible refine (circ_Gate.calls k2 a0 (ah.length : Int) ab ((rd_T61 ae ab).f0) ((rd_T61 ae ab).f1) ((rd_T61 ae ab).f2) ((rd_T61 ae ab).f3) bn _ A23.out).mono ?_); rintro e w34 ⟨rfl, hb⟩; refine ⟨_, rfl, ?_⟩; replace aa := kU aa hb; replace ax := kO (o' := .cells #[.int .i64 ((rd_T61 ae ab).f0), .int .i64 ((rd_T61 ae ab).f1), .int .i64 ((rd_T61 ae ab).f2), .int .u64 ((rd_T61 ae ab).f3)] 61 (0, 0)) ax hb; replace HB := kH HB hb; (try clear hb); (try clear hb2); (try clear hk); (try clear hi)));go_ret;exact ⟨er, kh HB⟩
     rw [if_pos c24] at H;have bw := beq_iff_eq.mpr c24;have bx := bne_eq_false_iff_eq.mpr c24;clear c24;have H' := Aside0.mk H;clear H;have aU : 0 ≤ (ab : Int) := od;have aV : ab < (ae.length : Int) := od;obtain ⟨bz, bo, ai, aj, ak, al⟩ := at_T61 bj.out ab aU aV;cases bo;replace ai := (HB.out.cell (qqW w _ ai)).trans ai;replace aj := (HB.out.cell (qqW w _ aj)).trans aj;replace ak := (HB.out.cell (qqW w _ ak)).trans ak;replace al := (HB.out.cell (qqW w _ al)).trans al;replace aU := eq_true aU; replace aV := eq_true aV;go_wp2_with (first | ((with_reducible refine gate_dst (N := 6) rfl ?_); (try (refine gate_guard (by rfl) ?_; dsimp only)); refine box_event ?hg (N := 6) ?hd (cs := #[.int .i64 0, .int .i64 0, .int .i64 0, .int .u64 0]) (t := 61) ?hr ?_; (case hd | hg => rfl); (case hr => go_simp; try rfl); intro bA hg w25 hbox hb; have ax := am hbox; have bB := kG HB hg; have bC := kG HB hg; replace HB := kH HB hb; have ar := kP aa hg; have au := kQ aa hg; replace aa := kU aa hb; clear hb hbox hg; have bV := au.out; have bW := ar.out; have Z27 := kz4 ax; have Z28 := kz3 aa) | ((with_reducible refine gate_callee (f := 62) rfl ?_); refine goesL_ (some 50) rfl rfl Try.func62 (by kernel_rfl) rfl #[.int .u64 a0, .int .i64 (ah.length : Int), .int .i64 ab, .agg #[.int .i64 ((rd_T61 ae ab).f0), .int .i64 ((rd_T61 ae ab).f1), .int .i64 ((rd_T61 ae ab).f2), .int .u64 ((rd_T61 ae ab).f3)]] rfl (by (try simp only [qM1, qM2, qM3]); first | done | rfl) ?_; (with_reducible refine (circ_Gate.calls k2 a0 (ah.length : Int) ab ((rd_T61 ae ab).f0) ((rd_T61 ae ab).f1) ((rd_T61 ae ab).f2) ((rd_T61 ae ab).f3) bn _ A23.out).mono ?_); rintro e w29 ⟨rfl, hb⟩; refine ⟨_, rfl, ?_⟩; replace aa := kU aa hb; replace ax := kO (o' := .cells #[.int .i64 ((rd_T61 ae ab).f0), .int .i64 ((rd_T61 ae ab).f1), .int .i64 ((rd_T61 ae ab).f2), .int .u64 ((rd_T61 ae ab).f3)] 61 (0, 0)) ax hb; replace HB := kH HB hb; (try clear hb); (try clear hb2); (try clear hk); (try clear hi)));go_roundg k2
     case measure => have := HJ4.out; have := HK2.out; omega
     case rel => exact ⟨(wrap64 (ab + 1)), et, H', ⟨by have := HJ4.out; have := HK2.out; omega⟩, ⟨kg aa⟩, ⟨kh HB⟩⟩
    rw [if_neg c20] at H;have bl := qqF c20;clear c20;have H' := Aside0.mk H;clear H;have Z35 := kz3 aa;go_wp2;go_loopg [58] k2 (fun kq v58 w' => ∃ (af : Int), v58 = .int .i64 af ∧ Aside0 (circ_Check.l1 kq ag (ag.length : Int) af ah ae ag = some r) ∧ Aside0 (kq ≤ k2) ∧ Aside0 (w'.heap[aY]? = some (.cells #[(.slice aE ah.length aG), (.slice aM ae.length aN), (.slice aQ ag.length aT)] 26 (0, 0))) ∧ Aside0 (Below w.heap.size w w'))
    case atStart => exact ⟨(0), et, H', ⟨Nat.le_refl _⟩, ⟨kg aa⟩, ⟨kh HB⟩⟩
    case round =>
     clear H';(try clear bl c21 Z35);obtain ⟨af, rfl, HA, HK3, aa, HB⟩ := hrel
     cases gk with
     | zero => exact absurd HA.out (by simp [circ_Check.l1])
     | succ k3 =>
      have H := HA.out;clear HA;simp only [circ_Check.l1] at H
      by_cases c36 : af < (ag.length : Int)
      rotate_left
      ·rw [if_neg c36] at H
       have bD := qqF c36;clear c36;obtain rfl := qqI H;go_wp2;go_ret;exact ⟨er, kh HB⟩
      rw [if_pos c36] at H;have bD := qqT c36;clear c36
      by_cases c37 : 0 ≤ af
      rotate_left
      ·rw [if_neg c37] at H
       exact absurd H (by simp)
      rw [if_pos c37] at H;have bX := qqT c37;clear c37
      by_cases c38 : af < (ag.length : Int)
      rotate_left
      ·rw [if_neg c38] at H
       exact absurd H (by simp)
      rw [if_pos c38] at H;have bY := qqT c38;clear c38;replace H := qqB H;obtain ⟨bp, bE, H⟩ := H;(try dsimp only at H);have A39 := Aside0.mk bE;clear bE
      by_cases c40 : bp = 0
      rotate_left
      ·rw [if_neg c40] at H
       have bF := beq_eq_false_iff_ne.mpr c40;have bG := bne_iff_ne.mpr c40;obtain rfl := qqI H;have aW : 0 ≤ (af : Int) := od;have aX : af < (ag.length : Int) := od;obtain ⟨bH, ay, az, aA, aC, bq, an, ao, ap, hi171_0, aq, hi171_1⟩ := at_T66 bk.out af aW aX;cases bq;replace an := (HB.out.cell (qqW w _ an)).trans an;replace ao := (HB.out.cell (qqW w _ ao)).trans ao;have aH := Aside0.mk hi171_0;have aI := Aside0.mk ap;clear hi171_0 ap;have aJ := Aside0.mk hi171_1;have aK := Aside0.mk aq;clear hi171_1 aq; replace aW := eq_true aW; replace aX := eq_true aX;go_wp2_with (first | ((with_reducible refine gate_dst (N := 9) rfl ?_); (try (refine gate_guard (by rfl) ?_; dsimp only)); refine box_event ?hg (N := 9) ?hd (cs := #[.slice none 0 0, .slice none 0 0]) (t := 66) ?hr ?_; (case hd | hg => rfl); (case hr => go_simp; try rfl); intro bI hg w46 hbox hb; have aD := am hbox; have bJ := kG HB hg; have bK := kG HB hg; replace HB := kH HB hb; have av := kP aa hg; have aw := kQ aa hg; replace aa := kU aa hb; clear hb hbox hg; have bZ := aw.out; have ca := av.out; have Z48 := kz2 aD; have Z49 := kz3 aa) | ((with_reducible refine gate_callee (f := 63) rfl ?_); refine goesL_ (some 66) rfl rfl Try.func63 (by kernel_rfl) rfl #[.int .i64 (ae.length : Int), .agg #[.slice ay ((rd_T66 ag af).f0).length az, .slice aA ((rd_T66 ag af).f1).length aC]] rfl (by (try simp only [qM1, qM2, qM3]); first | done | rfl) ?_; (with_reducible refine (circ_Exit.calls k3 (ae.length : Int) _ _ ((rd_T66 ag af).f0) _ _ ((rd_T66 ag af).f1) bp _ ?side1 ?side2 ?side3 ?side4 A39.out).mono ?_); (case side1 => exact Kd.C_below aH.out (kh HB)); (case side2 => exact aI.out); (case side3 => exact Kd.C_below aJ.out (kh HB)); (case side4 => exact aK.out); rintro e w50 ⟨rfl, hb⟩; refine ⟨_, rfl, ?_⟩; replace aa := kU aa hb; replace aD := kO (o' := .cells #[.slice ay ((rd_T66 ag af).f0).length az, .slice aA ((rd_T66 ag af).f1).length aC] 66 (0, 0)) aD hb; replace HB := kH HB hb; (try clear hb); (try clear hb2); (try clear hk); (try clear hi)));go_ret;exact ⟨er, kh HB⟩
      rw [if_pos c40] at H;have bF := beq_iff_eq.mpr c40;have bG := bne_eq_false_iff_eq.mpr c40;clear c40;have H' := Aside0.mk H;clear H;have aW : 0 ≤ (af : Int) := od;have aX : af < (ag.length : Int) := od;obtain ⟨bH, ay, az, aA, aC, bq, an, ao, ap, hi171_0, aq, hi171_1⟩ := at_T66 bk.out af aW aX;cases bq;replace an := (HB.out.cell (qqW w _ an)).trans an;replace ao := (HB.out.cell (qqW w _ ao)).trans ao;have aH := Aside0.mk hi171_0;have aI := Aside0.mk ap;clear hi171_0 ap;have aJ := Aside0.mk hi171_1;have aK := Aside0.mk aq;clear hi171_1 aq; replace aW := eq_true aW; replace aX := eq_true aX;go_wp2_with (first | ((with_reducible refine gate_dst (N := 9) rfl ?_); (try (refine gate_guard (by rfl) ?_; dsimp only)); refine box_event ?hg (N := 9) ?hd (cs := #[.slice none 0 0, .slice none 0 0]) (t := 66) ?hr ?_; (case hd | hg => rfl); (case hr => go_simp; try rfl); intro bI hg w41 hbox hb; have aD := am hbox; have bJ := kG HB hg; have bK := kG HB hg; replace HB := kH HB hb; have av := kP aa hg; have aw := kQ aa hg; replace aa := kU aa hb; clear hb hbox hg; have cb := aw.out; have cc := av.out; have Z43 := kz2 aD; have Z44 := kz3 aa) | ((with_reducible refine gate_callee (f := 63) rfl ?_); refine goesL_ (some 66) rfl rfl Try.func63 (by kernel_rfl) rfl #[.int .i64 (ae.length : Int), .agg #[.slice ay ((rd_T66 ag af).f0).length az, .slice aA ((rd_T66 ag af).f1).length aC]] rfl (by (try simp only [qM1, qM2, qM3]); first | done | rfl) ?_; (with_reducible refine (circ_Exit.calls k3 (ae.length : Int) _ _ ((rd_T66 ag af).f0) _ _ ((rd_T66 ag af).f1) bp _ ?side1 ?side2 ?side3 ?side4 A39.out).mono ?_); (case side1 => exact Kd.C_below aH.out (kh HB)); (case side2 => exact aI.out); (case side3 => exact Kd.C_below aJ.out (kh HB)); (case side4 => exact aK.out); rintro e w45 ⟨rfl, hb⟩; refine ⟨_, rfl, ?_⟩; replace aa := kU aa hb; replace aD := kO (o' := .cells #[.slice ay ((rd_T66 ag af).f0).length az, .slice aA ((rd_T66 ag af).f1).length aC] 66 (0, 0)) aD hb; replace HB := kH HB hb; (try clear hb); (try clear hb2); (try clear hk); (try clear hi)));go_roundg k3
      case measure => have := HJ4.out; have := HK2.out; have := HK3.out; omega
      case rel => exact ⟨(wrap64 (af + 1)), et, H', ⟨by have := HJ4.out; have := HK2.out; have := HK3.out; omega⟩, ⟨kg aa⟩, ⟨kh HB⟩⟩
def api_Slot_64.f (l0 : List S64) : Option (List S64) := if l0.length < 8796093022208 then some l0 else none
theorem api_Slot_64.calls (A0 : Option Addr) (c0 : Nat) (l0 r : List S64) (w : World) (hr0 : Kd.C k64 w A0 l0.length l0) (hc0 : l0.length ≤ c0) (h : api_Slot_64.f l0 = some r) :
  Calls Try.prog 64 #[.slice A0 l0.length c0] w fun e w' => ∃ v0_ : Value, e = .returned (v0_) ∧ Kd.R k64 64 w' w.heap.size (fun _ => True) v0_ r ∧ Below w.heap.size w w' := by
 have HR0 := Aside0.mk hr0;have HC0 := Aside0.mk hc0;clear hr0 hc0;have HB := Aside0.mk (Below.refl w.heap.size w);unfold api_Slot_64.f at h
 by_cases hl : l0.length < 8796093022208
 rotate_left
 ·rw [if_neg hl] at h; cases h
 rw [if_pos hl] at h;obtain rfl := qqI h;clear h;have HL := Aside0.mk hl;clear hl
 have he := fun w : World => Lib.run_eql_slice_nil (P := Try.prog) w 22 64 A0 l0.length c0 0 0 Try.underlying22
 cases A0 with
 | none =>
  have hn : l0 = [] := by
   have h2 := HR0.out.2.2
   cases l0 with
   | nil => rfl
   | cons a l => obtain ⟨ad, h, _⟩ := h2 (by simp); cases h
  subst hn
  show Calls Try.prog 64 #[.slice none 0 c0] w _
  have he : ∀ w : World, (binOp .eql 22 (.slice none 0 c0) (.slice none 0 0)).run Try.prog w = .ok (.bool true) w := he;go_enter Try.func64, Try.ntmps64;go_wp2;go_ret;exact ⟨_, rfl, Kd.R_nil _ _ _ _ _, HB.out⟩
 | some ad =>
  go_enter Try.func64, Try.ntmps64;obtain ⟨ae, ab⟩ : ∃ y_ : List S64, y_ = (([] : List S64)) := ⟨_, rfl⟩;have aa := Aside0.mk ab;clear ab
  go_wp2_with (first
   | ((with_reducible refine gate_dst (N := 5) rfl ?_); refine Kd.R_lit k64 _ 64 ?hg (N := 5) ?hd (xs := ([] : List S64)) (inner := []) (ok := fun _ => True) (okp := fun _ => True) ?hr ?hp (fun _ hk => hk) trivial (Below.refl _ _) (Nat.le_refl _) (by simp) ?_; (case hd | hg => rfl); (case hr => go_simp; try rfl); (case hp => exact (Reps.none _ _)); intro af w10 ho11 hb hg_ hnew_; clear hg_ hnew_; rw [← aa.out] at ho11; have HO := Aside0.mk (Kd.R_lower ho11 (below_size HB.out)); replace HB := Aside0.mk (below_step HB.out hb); clear hb ho11)
   | ((with_reducible refine gate_builtin (b := .append) (xs := #[.tmp 5, .tmp 6]) rfl ?_); at_builtin; refine Kd.R_append_rows k64 (w0 := w) w.heap.size rfl (.tmp 5) (.tmp 6) 22 64 (.agg #[.int .i64 0, .bool false]) 16 rfl Try.underlying22 info64 rfl (by decide) (by omega) af ae l0 _ _ _ (fun _ => True) (fun _ => False) rfl rfl ?aO ?aR (fun _ _ h => h) (fun _ h => h.elim) ?aF ?aB ?aS ?aL ?_; (case aR => exact (Kd.C_below HR0.out HB.out)); (case aB => exact HB.out); (case aF => exact (fun _ _ => trivial)); (case aO => exact HO.out); (case aS => exact (below_size HB.out)); (case aL => have := HL.out; have h2 := aa.out; rw [h2]; simp only [List.length_nil]; omega); intro ag w20 ho hb hg hat; rw [aa.out, List.nil_append] at ho; replace HB := Aside0.mk (hb); replace HO := Aside0.mk (ho); clear ho hb hg hat))
  go_ret;exact ⟨_, rfl, HO.out, HB.out⟩
def api_Gate_65.f (l0 : List S61) : Option (List S61) := if l0.length < 4398046511104 then some l0 else none
theorem api_Gate_65.calls (A0 : Option Addr) (c0 : Nat) (l0 r : List S61) (w : World) (hr0 : Kd.C k61 w A0 l0.length l0) (hc0 : l0.length ≤ c0) (h : api_Gate_65.f l0 = some r) :
  Calls Try.prog 65 #[.slice A0 l0.length c0] w fun e w' => ∃ v0_ : Value, e = .returned (v0_) ∧ Kd.R k61 61 w' w.heap.size (fun _ => True) v0_ r ∧ Below w.heap.size w w' := by
 have HR0 := Aside0.mk hr0;have HC0 := Aside0.mk hc0;clear hr0 hc0;have HB := Aside0.mk (Below.refl w.heap.size w);unfold api_Gate_65.f at h
 by_cases hl : l0.length < 4398046511104
 rotate_left
 ·rw [if_neg hl] at h; cases h
 rw [if_pos hl] at h;obtain rfl := qqI h;clear h;have HL := Aside0.mk hl;clear hl
 have he := fun w : World => Lib.run_eql_slice_nil (P := Try.prog) w 23 61 A0 l0.length c0 0 0 Try.underlying23
 cases A0 with
 | none =>
  have hn : l0 = [] := by
   have h2 := HR0.out.2.2
   cases l0 with
   | nil => rfl
   | cons a l => obtain ⟨ad, h, _⟩ := h2 (by simp); cases h
  subst hn
  show Calls Try.prog 65 #[.slice none 0 c0] w _
  have he : ∀ w : World, (binOp .eql 23 (.slice none 0 c0) (.slice none 0 0)).run Try.prog w = .ok (.bool true) w := he;go_enter Try.func65, Try.ntmps65;go_wp2;go_ret;exact ⟨_, rfl, Kd.R_nil _ _ _ _ _, HB.out⟩
 | some ad =>
  go_enter Try.func65, Try.ntmps65;obtain ⟨ae, ab⟩ : ∃ y_ : List S61, y_ = (([] : List S61)) := ⟨_, rfl⟩;have aa := Aside0.mk ab;clear ab
  go_wp2_with (first
   | ((with_reducible refine gate_dst (N := 5) rfl ?_); refine Kd.R_lit k61 _ 61 ?hg (N := 5) ?hd (xs := ([] : List S61)) (inner := []) (ok := fun _ => True) (okp := fun _ => True) ?hr ?hp (fun _ hk => hk) trivial (Below.refl _ _) (Nat.le_refl _) (by simp) ?_; (case hd | hg => rfl); (case hr => go_simp; try rfl); (case hp => exact (Reps.none _ _)); intro af w10 ho11 hb hg_ hnew_; clear hg_ hnew_; rw [← aa.out] at ho11; have HO := Aside0.mk (Kd.R_lower ho11 (below_size HB.out)); replace HB := Aside0.mk (below_step HB.out hb); clear hb ho11)
   | ((with_reducible refine gate_builtin (b := .append) (xs := #[.tmp 5, .tmp 6]) rfl ?_); at_builtin; refine Kd.R_append_rows k61 (w0 := w) w.heap.size rfl (.tmp 5) (.tmp 6) 23 61 (.agg #[.int .i64 0, .int .i64 0, .int .i64 0, .int .u64 0]) 32 rfl Try.underlying23 info61 rfl (by decide) (by omega) af ae l0 _ _ _ (fun _ => True) (fun _ => False) rfl rfl ?aO ?aR (fun _ _ h => h) (fun _ h => h.elim) ?aF ?aB ?aS ?aL ?_; (case aR => exact (Kd.C_below HR0.out HB.out)); (case aB => exact HB.out); (case aF => exact (fun _ _ => trivial)); (case aO => exact HO.out); (case aS => exact (below_size HB.out)); (case aL => have := HL.out; have h2 := aa.out; rw [h2]; simp only [List.length_nil]; omega); intro ag w20 ho hb hg hat; rw [aa.out, List.nil_append] at ho; replace HB := Aside0.mk (hb); replace HO := Aside0.mk (ho); clear ho hb hg hat))
  go_ret;exact ⟨_, rfl, HO.out, HB.out⟩
def qpa.f (l0 : List Int) : Option (List Int) := if l0.length < 17592186044416 then some l0 else none
theorem qpa.calls (A0 : Option Addr) (c0 : Nat) (l0 r : List Int) (w : World) (hr0 : Kd.C (Kd.int .i64) w A0 l0.length l0) (hc0 : l0.length ≤ c0) (h : qpa.f l0 = some r) :
  Calls Try.prog 66 #[.slice A0 l0.length c0] w fun e w' => ∃ v0_ : Value, e = .returned (v0_) ∧ Kd.R (Kd.int .i64) 3 w' w.heap.size (fun _ => True) v0_ r ∧ Below w.heap.size w w' := by
 have HR0 := Aside0.mk hr0;have HC0 := Aside0.mk hc0;clear hr0 hc0;have HB := Aside0.mk (Below.refl w.heap.size w);unfold qpa.f at h
 by_cases hl : l0.length < 17592186044416
 rotate_left
 ·rw [if_neg hl] at h; cases h
 rw [if_pos hl] at h;obtain rfl := qqI h;clear h;have HL := Aside0.mk hl;clear hl
 have he := fun w : World => Lib.run_eql_slice_nil (P := Try.prog) w 27 3 A0 l0.length c0 0 0 Try.underlying27
 cases A0 with
 | none =>
  have hn : l0 = [] := by
   have h2 := HR0.out.2.2
   cases l0 with
   | nil => rfl
   | cons a l => obtain ⟨ad, h, _⟩ := h2 (by simp); cases h
  subst hn
  show Calls Try.prog 66 #[.slice none 0 c0] w _
  have he : ∀ w : World, (binOp .eql 27 (.slice none 0 c0) (.slice none 0 0)).run Try.prog w = .ok (.bool true) w := he;go_enter Try.func66, Try.ntmps66;go_wp2;go_ret;exact ⟨_, rfl, Kd.R_nil _ _ _ _ _, HB.out⟩
 | some ad =>
  go_enter Try.func66, Try.ntmps66;obtain ⟨ae, ab⟩ : ∃ y_ : List Int, y_ = (([] : List Int)) := ⟨_, rfl⟩;have aa := Aside0.mk ab;clear ab
  go_wp2_with (first
   | ((with_reducible refine gate_dst (N := 5) rfl ?_); refine Kd.R_lit (Kd.int .i64) _ 3 ?hg (N := 5) ?hd (xs := ([] : List Int)) (inner := []) (ok := fun _ => True) (okp := fun _ => True) ?hr ?hp (fun _ hk => hk) trivial (Below.refl _ _) (Nat.le_refl _) (by simp) ?_; (case hd | hg => rfl); (case hr => go_simp; try rfl); (case hp => exact (Reps.none _ _)); intro af w10 ho11 hb hg_ hnew_; clear hg_ hnew_; rw [← aa.out] at ho11; have HO := Aside0.mk (Kd.R_lower ho11 (below_size HB.out)); replace HB := Aside0.mk (below_step HB.out hb); clear hb ho11)
   | ((with_reducible refine gate_builtin (b := .append) (xs := #[.tmp 5, .tmp 6]) rfl ?_); at_builtin; refine Kd.R_append_rows (Kd.int .i64) (w0 := w) w.heap.size rfl (.tmp 5) (.tmp 6) 27 3 (.int .i64 0) 8 rfl Try.underlying27 info3 rfl (by decide) (by omega) af ae l0 _ _ _ (fun _ => True) (fun _ => False) rfl rfl ?aO ?aR (fun _ _ h => h) (fun _ h => h.elim) ?aF ?aB ?aS ?aL ?_; (case aR => exact (Kd.C_below HR0.out HB.out)); (case aB => exact HB.out); (case aF => exact (fun _ _ => trivial)); (case aO => exact HO.out); (case aS => exact (below_size HB.out)); (case aL => have := HL.out; have h2 := aa.out; rw [h2]; simp only [List.length_nil]; omega); intro ag w20 ho hb hg hat; rw [aa.out, List.nil_append] at ho; replace HB := Aside0.mk (hb); replace HO := Aside0.mk (ho); clear ho hb hg hat))
  go_ret;exact ⟨_, rfl, HO.out, HB.out⟩
end Go.Proofs.Ytmlbliggbkfjnaa.J
