/- Part 2 of the proof of TuneLevels: what the functions compute as plain Lean functions, that the machine comes to just these answers, and that the answer is true; no conditions. -/
import Derived.Test.YtmlbliggbkfjnaaTuneLevelsZ0
import Derived.Test.YtmlbliggbkfjnaaTuneLevelsZ1
import Derived.Lib.SliceRun
set_option linter.unusedSimpArgs false
set_option linter.unusedVariables false
set_option maxHeartbeats 8000000
set_option maxRecDepth 100000
namespace Go.Proofs.Ytmlbliggbkfjnaa.J
open Go.RowKit Go.Proofs.YtmlbliggbkfjnaaW.PrintWords Go.Proofs.YtmlbliggbkfjnaaW.PrintLast Go.Proofs.YtmlbliggbkfjnaaW.PrintMore
attribute [local go_sem] max2_int min2_int max_two min_two max_three min_three max_four min_four
def api_Slot_64.f (l0 : List S64) : Option (List S64) := if l0.length < 8796093022208 then some l0 else none
theorem api_Slot_64.calls (A0 : Option Addr) (c0 : Nat) (l0 r : List S64) (w : World) (hr0 : Kd.C k64 w A0 l0.length l0) (hc0 : l0.length ≤ c0) (h : api_Slot_64.f l0 = some r) :
  Calls Try.prog 64 #[.slice A0 l0.length c0] w fun e w' => ∃ v0_ : Value, e = .returned (v0_) ∧ Kd.R k64 64 w' w.heap.size (fun _ => True) v0_ r ∧ Below w.heap.size w w' := by
 have HR0 := Aside0.mk hr0;have HC0 := Aside0.mk hc0;clear hr0 hc0;have HB := Aside0.mk (Below.refl w.heap.size w);unfold api_Slot_64.f at h
 by_cases hl : l0.length < 8796093022208
 rotate_left
 ·rw [if_neg hl] at h; cases h
 rw [if_pos hl] at h;obtain rfl := Option.some.inj h;clear h;have HL := Aside0.mk hl;clear hl
 have he := fun w : World => Lib.run_eql_slice_nil (P := Try.prog) w 22 64 A0 l0.length c0 0 0 Try.underlying22
 cases A0 with
 | none =>
  have hn : l0 = [] := by
   have h2 := HR0.out.2.2
   cases l0 with
   | nil => rfl
   | cons a l => obtain ⟨ad, h, _⟩ := h2 (by simp); cases h
  subst hn
  show Calls Try.prog 64 #[.slice none 0 c0] w _
  have he : ∀ w : World, (binOp .eql 22 (.slice none 0 c0) (.slice none 0 0)).run Try.prog w = .ok (.bool true) w := he;go_enter Try.func64, Try.ntmps64;go_wp2;go_ret;exact ⟨_, rfl, Kd.R_nil _ _ _ _ _, HB.out⟩
 | some ad =>
  go_enter Try.func64, Try.ntmps64;obtain ⟨ae, ab⟩ : ∃ y_ : List S64, y_ = (([] : List S64)) := ⟨_, rfl⟩;have aa := Aside0.mk ab;clear ab
  go_wp2_with (first
   | ((with_reducible refine gate_dst (N := 5) rfl ?_); refine Kd.R_lit k64 _ 64 ?hg (N := 5) ?hd (xs := ([] : List S64)) (inner := []) (ok := fun _ => True) (okp := fun _ => True) ?hr ?hp (fun _ hk => hk) trivial (Below.refl _ _) (Nat.le_refl _) (by simp) ?_; (case hd => rfl); (case hg => rfl); (case hr => first | (go_simp; done) | (go_simp; rfl)); (case hp => exact (Reps.none _ _)); intro af w10 ho11 hb hg_ hnew_; clear hg_ hnew_; rw [← aa.out] at ho11; have HO := Aside0.mk (Kd.R_lower ho11 (below_size HB.out)); replace HB := Aside0.mk (below_step HB.out hb); clear hb ho11)
   | ((with_reducible refine gate_builtin (b := .append) (xs := #[.tmp 5, .tmp 6]) rfl ?_); at_builtin; refine Kd.R_append_rows k64 (w0 := w) w.heap.size rfl (.tmp 5) (.tmp 6) 22 64 (.agg #[.int .i64 0, .bool false]) 16 rfl Try.underlying22 info64 rfl (by decide) (by omega) af ae l0 _ _ _ (fun _ => True) (fun _ => False) rfl rfl ?aO ?aR (fun _ _ h => h) (fun _ h => h.elim) ?aF ?aB ?aS ?aL ?_; (case aR => exact (Kd.C_below HR0.out HB.out)); (case aB => exact HB.out); (case aF => exact (fun _ _ => trivial)); (case aO => exact HO.out); (case aS => exact (below_size HB.out)); (case aL => have := HL.out; have h2 := aa.out; rw [h2]; simp only [List.length_nil]; omega); intro ag w20 ho hb hg hat; rw [aa.out, List.nil_append] at ho; replace HB := Aside0.mk (hb); replace HO := Aside0.mk (ho); clear ho hb hg hat))
  go_ret;exact ⟨_, rfl, HO.out, HB.out⟩
def api_Gate_65.f (l0 : List S61) : Option (List S61) := if l0.length < 4398046511104 then some l0 else none
theorem api_Gate_65.calls (A0 : Option Addr) (c0 : Nat) (l0 r : List S61) (w : World) (hr0 : Kd.C k61 w A0 l0.length l0) (hc0 : l0.length ≤ c0) (h : api_Gate_65.f l0 = some r) :
  Calls Try.prog 65 #[.slice A0 l0.length c0] w fun e w' => ∃ v0_ : Value, e = .returned (v0_) ∧ Kd.R k61 61 w' w.heap.size (fun _ => True) v0_ r ∧ Below w.heap.size w w' := by
 have HR0 := Aside0.mk hr0;have HC0 := Aside0.mk hc0;clear hr0 hc0;have HB := Aside0.mk (Below.refl w.heap.size w);unfold api_Gate_65.f at h
 by_cases hl : l0.length < 4398046511104
 rotate_left
 ·rw [if_neg hl] at h; cases h
 rw [if_pos hl] at h;obtain rfl := Option.some.inj h;clear h;have HL := Aside0.mk hl;clear hl
 have he := fun w : World => Lib.run_eql_slice_nil (P := Try.prog) w 23 61 A0 l0.length c0 0 0 Try.underlying23
 cases A0 with
 | none =>
  have hn : l0 = [] := by
   have h2 := HR0.out.2.2
   cases l0 with
   | nil => rfl
   | cons a l => obtain ⟨ad, h, _⟩ := h2 (by simp); cases h
  subst hn
  show Calls Try.prog 65 #[.slice none 0 c0] w _
  have he : ∀ w : World, (binOp .eql 23 (.slice none 0 c0) (.slice none 0 0)).run Try.prog w = .ok (.bool true) w := he;go_enter Try.func65, Try.ntmps65;go_wp2;go_ret;exact ⟨_, rfl, Kd.R_nil _ _ _ _ _, HB.out⟩
 | some ad =>
  go_enter Try.func65, Try.ntmps65;obtain ⟨ae, ab⟩ : ∃ y_ : List S61, y_ = (([] : List S61)) := ⟨_, rfl⟩;have aa := Aside0.mk ab;clear ab
  go_wp2_with (first
   | ((with_reducible refine gate_dst (N := 5) rfl ?_); refine Kd.R_lit k61 _ 61 ?hg (N := 5) ?hd (xs := ([] : List S61)) (inner := []) (ok := fun _ => True) (okp := fun _ => True) ?hr ?hp (fun _ hk => hk) trivial (Below.refl _ _) (Nat.le_refl _) (by simp) ?_; (case hd => rfl); (case hg => rfl); (case hr => first | (go_simp; done) | (go_simp; rfl)); (case hp => exact (Reps.none _ _)); intro af w10 ho11 hb hg_ hnew_; clear hg_ hnew_; rw [← aa.out] at ho11; have HO := Aside0.mk (Kd.R_lower ho11 (below_size HB.out)); replace HB := Aside0.mk (below_step HB.out hb); clear hb ho11)
   | ((with_reducible refine gate_builtin (b := .append) (xs := #[.tmp 5, .tmp 6]) rfl ?_); at_builtin; refine Kd.R_append_rows k61 (w0 := w) w.heap.size rfl (.tmp 5) (.tmp 6) 23 61 (.agg #[.int .i64 0, .int .i64 0, .int .i64 0, .int .u64 0]) 32 rfl Try.underlying23 info61 rfl (by decide) (by omega) af ae l0 _ _ _ (fun _ => True) (fun _ => False) rfl rfl ?aO ?aR (fun _ _ h => h) (fun _ h => h.elim) ?aF ?aB ?aS ?aL ?_; (case aR => exact (Kd.C_below HR0.out HB.out)); (case aB => exact HB.out); (case aF => exact (fun _ _ => trivial)); (case aO => exact HO.out); (case aS => exact (below_size HB.out)); (case aL => have := HL.out; have h2 := aa.out; rw [h2]; simp only [List.length_nil]; omega); intro ag w20 ho hb hg hat; rw [aa.out, List.nil_append] at ho; replace HB := Aside0.mk (hb); replace HO := Aside0.mk (ho); clear ho hb hg hat))
  go_ret;exact ⟨_, rfl, HO.out, HB.out⟩
def qla.f (l0 : List Int) : Option (List Int) := if l0.length < 17592186044416 then some l0 else none
theorem qla.calls (A0 : Option Addr) (c0 : Nat) (l0 r : List Int) (w : World) (hr0 : Kd.C (Kd.int .i64) w A0 l0.length l0) (hc0 : l0.length ≤ c0) (h : qla.f l0 = some r) :
  Calls Try.prog 66 #[.slice A0 l0.length c0] w fun e w' => ∃ v0_ : Value, e = .returned (v0_) ∧ Kd.R (Kd.int .i64) 3 w' w.heap.size (fun _ => True) v0_ r ∧ Below w.heap.size w w' := by
 have HR0 := Aside0.mk hr0;have HC0 := Aside0.mk hc0;clear hr0 hc0;have HB := Aside0.mk (Below.refl w.heap.size w);unfold qla.f at h
 by_cases hl : l0.length < 17592186044416
 rotate_left
 ·rw [if_neg hl] at h; cases h
 rw [if_pos hl] at h;obtain rfl := Option.some.inj h;clear h;have HL := Aside0.mk hl;clear hl
 have he := fun w : World => Lib.run_eql_slice_nil (P := Try.prog) w 27 3 A0 l0.length c0 0 0 Try.underlying27
 cases A0 with
 | none =>
  have hn : l0 = [] := by
   have h2 := HR0.out.2.2
   cases l0 with
   | nil => rfl
   | cons a l => obtain ⟨ad, h, _⟩ := h2 (by simp); cases h
  subst hn
  show Calls Try.prog 66 #[.slice none 0 c0] w _
  have he : ∀ w : World, (binOp .eql 27 (.slice none 0 c0) (.slice none 0 0)).run Try.prog w = .ok (.bool true) w := he;go_enter Try.func66, Try.ntmps66;go_wp2;go_ret;exact ⟨_, rfl, Kd.R_nil _ _ _ _ _, HB.out⟩
 | some ad =>
  go_enter Try.func66, Try.ntmps66;obtain ⟨ae, ab⟩ : ∃ y_ : List Int, y_ = (([] : List Int)) := ⟨_, rfl⟩;have aa := Aside0.mk ab;clear ab
  go_wp2_with (first
   | ((with_reducible refine gate_dst (N := 5) rfl ?_); refine Kd.R_lit (Kd.int .i64) _ 3 ?hg (N := 5) ?hd (xs := ([] : List Int)) (inner := []) (ok := fun _ => True) (okp := fun _ => True) ?hr ?hp (fun _ hk => hk) trivial (Below.refl _ _) (Nat.le_refl _) (by simp) ?_; (case hd => rfl); (case hg => rfl); (case hr => first | (go_simp; done) | (go_simp; rfl)); (case hp => exact (Reps.none _ _)); intro af w10 ho11 hb hg_ hnew_; clear hg_ hnew_; rw [← aa.out] at ho11; have HO := Aside0.mk (Kd.R_lower ho11 (below_size HB.out)); replace HB := Aside0.mk (below_step HB.out hb); clear hb ho11)
   | ((with_reducible refine gate_builtin (b := .append) (xs := #[.tmp 5, .tmp 6]) rfl ?_); at_builtin; refine Kd.R_append_rows (Kd.int .i64) (w0 := w) w.heap.size rfl (.tmp 5) (.tmp 6) 27 3 (.int .i64 0) 8 rfl Try.underlying27 info3 rfl (by decide) (by omega) af ae l0 _ _ _ (fun _ => True) (fun _ => False) rfl rfl ?aO ?aR (fun _ _ h => h) (fun _ h => h.elim) ?aF ?aB ?aS ?aL ?_; (case aR => exact (Kd.C_below HR0.out HB.out)); (case aB => exact HB.out); (case aF => exact (fun _ _ => trivial)); (case aO => exact HO.out); (case aS => exact (below_size HB.out)); (case aL => have := HL.out; have h2 := aa.out; rw [h2]; simp only [List.length_nil]; omega); intro ag w20 ho hb hg hat; rw [aa.out, List.nil_append] at ho; replace HB := Aside0.mk (hb); replace HO := Aside0.mk (ho); clear ho hb hg hat))
  go_ret;exact ⟨_, rfl, HO.out, HB.out⟩
end Go.Proofs.Ytmlbliggbkfjnaa.J
/- Exits whose two rows, and all whose rows among each other, lie apart: what is stored into one row says nothing of the others. -/
namespace Go.Proofs.Ytmlbliggbkfjnaa.J
open Go.RowKit Go.Proofs.YtmlbliggbkfjnaaW.PrintWords Go.Proofs.YtmlbliggbkfjnaaW.PrintLast Go.Proofs.YtmlbliggbkfjnaaW.PrintMore
def two {α β : Type} (a : Kd α) (b : Kd β) : Kd (α × β) where
  sz := a.sz + b.sz
  E := a.E ++ b.E
  K := fun w x cs => ∃ c0 c1, cs = c0 ++ c1 ∧ a.K w x.1 c0 ∧ b.K w x.2 c1
  M := fun w base ok x cs => ∃ (g : Nat → Bool) (c0 c1 : List Value), cs = c0 ++ c1 ∧ a.M w base (fun k => ok k ∧ g k = true) x.1 c0 ∧ b.M w base (fun k => ok k ∧ g k = false) x.2 c1
  K_len := (Kd.pair a b).K_len
  K_one := (Kd.pair a b).K_one
  K_below := (Kd.pair a b).K_below
  K_of_M := by
    rintro w base ok x cs ⟨g, c0, c1, rfl, h0, h1⟩;exact ⟨c0, c1, rfl, a.K_of_M h0, b.K_of_M h1⟩
  M_mono := by
    rintro w base ok ok' x cs hok ⟨g, c0, c1, rfl, h0, h1⟩;exact ⟨g, c0, c1, rfl, a.M_mono (fun k hk => ⟨hok k hk.1, hk.2⟩) h0, b.M_mono (fun k hk => ⟨hok k hk.1, hk.2⟩) h1⟩
  M_bound := by
    rintro w base ok x cs ⟨g, c0, c1, rfl, h0, h1⟩;refine ⟨g, c0, c1, rfl, a.M_mono ?_ (a.M_bound h0), b.M_mono ?_ (b.M_bound h1)⟩
    · rintro k ⟨⟨h2, hg⟩, h3, h4, q, hq, hc⟩
      exact ⟨⟨h2, h3, h4, q, List.mem_append_left _ hq, hc⟩, hg⟩
    · rintro k ⟨⟨h2, hg⟩, h3, h4, q, hq, hc⟩
      exact ⟨⟨h2, h3, h4, q, List.mem_append_right _ hq, hc⟩, hg⟩
  M_move := by
    rintro w w1 base ok x cs hm ⟨g, c0, c1, rfl, h0, h1⟩;exact ⟨g, c0, c1, rfl, a.M_move (fun k hk => hm k hk.1) h0, b.M_move (fun k hk => hm k hk.1) h1⟩
  M_lower := by
    rintro w base base' ok x cs hb ⟨g, c0, c1, rfl, h0, h1⟩;exact ⟨g, c0, c1, rfl, a.M_lower hb h0, b.M_lower hb h1⟩
def k66t : Kd S66 := Kd.iso (two (Kd.slice 3 (Kd.int .i64)) (Kd.slice 3 (Kd.int .i64))) (fun x : S66 => (x.f0, x.f1))
theorem k66t_openM {w : World} {base : Nat} {ok : Nat → Prop} {x : S66} {cs : List Value} (h : k66t.M w base ok x cs) :
    ∃ v0 v1, cs = [v0, v1] ∧ (∀ k, v0.ownBlock = some k → v1.ownBlock ≠ some k) ∧ (Kd.int .i64).R 3 w base ok v0 x.f0 ∧ (Kd.int .i64).R 3 w base ok v1 x.f1 := by
  obtain ⟨g, c0, c1, rfl, ⟨v0, rfl, h0⟩, ⟨v1, rfl, h1⟩⟩ := h;refine ⟨v0, v1, rfl, fun k e0 e1 => ?_, Kd.R_mono h0 (fun _ hk => hk.1), Kd.R_mono h1 (fun _ hk => hk.1)⟩;have a0 := (h0.1 k e0).2;have a1 := (h1.1 k e1).2;rw [a0] at a1;cases a1
open Classical in
theorem k66t_mkM (w : World) (base : Nat) (ok : Nat → Prop) (x : S66) {v0 v1 : Value} (hne : ∀ k, v0.ownBlock = some k → v1.ownBlock ≠ some k) (g0 : (Kd.int .i64).R 3 w base ok v0 x.f0) (g1 : (Kd.int .i64).R 3 w base ok v1 x.f1) : k66t.M w base ok x [v0, v1] := by
  refine ⟨fun k => decide (v1.ownBlock ≠ some k), [v0], [v1], rfl, ⟨v0, rfl, ?_⟩, ⟨v1, rfl, ?_⟩⟩
  · exact Kd.R_mono (Kd.R_tight2 rfl g0) (fun k hk => ⟨hk.2, decide_eq_true (hne k hk.1.symm)⟩)
  · exact Kd.R_mono (Kd.R_tight2 rfl g1) (fun k hk => ⟨hk.2, decide_eq_false (fun h => h hk.1.symm)⟩)
theorem k66t_M {w : World} {base : Nat} {ok : Nat → Prop} {x : S66} {cs : List Value} (h : k66t.M w base ok x cs) : k66.M w base ok x cs := by
  obtain ⟨v0, v1, rfl, _, g0, g1⟩ := k66t_openM h;exact k66_mkM w base ok x g0 g1
theorem k66t_S {e : Nat} {w : World} {base : Nat} {ok : Nat → Prop} {v : Value} {xs : List S66} (h : Kd.S k66t e w base ok v xs) : Kd.S k66 e w base ok v xs := by
  obtain ⟨f, h0, inner, ho, hr⟩ := h;exact ⟨f, h0, inner, ho, hr.1, fun j p hj => k66t_M (hr.2 j p hj)⟩
theorem k66t_C {w : World} {A : Option Addr} {n : Nat} {xs : List S66} (h : Kd.C k66t w A n xs) : Kd.C k66 w A n xs := h
theorem k66t_none (w : World) (base : Nat) (ok : Nat → Prop) : Kd.S k66t 66 w base ok (.slice none 0 0) [] := Kd.S_nil _ _ _ _ _
theorem exits_put {W : World} {base : Nat} {ok : Nat → Prop} {ad : Addr} {n cap : Nat} {xs : List S66} (h : Kd.S k66t 66 W base ok (.slice (some ad) n cap) xs) (i : Int) (hi0 : 0 ≤ i) (hi : i < n) {A1 : Option Addr} {len c1 : Nat}
    (hc : W.cell? ⟨(ad.add (i.toNat * 2)).block, (ad.add (i.toNat * 2)).off + 1, none⟩ = some (.slice A1 len c1)) (j : Int) (hj0 : 0 ≤ j) (hj : j < (rd_T66 xs i).f1.length) :
    ∃ b, A1 = some ⟨b, 0, none⟩ ∧ len = (rd_T66 xs i).f1.length ∧ W.cell? ⟨b, j.toNat, none⟩ = some (.int .i64 (rd (rd_T66 xs i).f1 j)) ∧ W.frozen? ⟨b, j.toNat, none⟩ = false ∧ base ≤ b ∧ b < W.heap.size ∧ ok b ∧ (∃ cells, W.heap[b]? = some (.cells cells 3 (0, 0))) ∧
      ∀ u, Kd.S k66t 66 (W.setCell ⟨b, j.toNat, none⟩ (.int .i64 u)) base ok (.slice (some ad) n cap) (xs.set i.toNat ⟨(rd_T66 xs i).f0, (rd_T66 xs i).f1.set j.toNat u⟩) ∧ (W.setCell ⟨b, j.toNat, none⟩ (.int .i64 u)).cell? ⟨(ad.add (i.toNat * 2)).block, (ad.add (i.toNat * 2)).off + 1, none⟩ = some (.slice A1 len c1) := by
  obtain ⟨f, h0, inner, ho, hr⟩ := h;obtain ⟨gr, rfl⟩ := Kd.R_head (d := Kd.tag f k66t) ⟨h0, inner, ho, hr⟩
  have hlen : n = xs.length := by have := ho.1; have h2 := (Kd.R_reads' (d := Kd.tag f k66t) ⟨h0, inner, ho, hr⟩).1; rw [List.length_zipIdx] at h2; exact h2
  have hil : i.toNat < xs.length := by omega
  have hrd : rd_T66 xs i = xs[i.toNat] := by unfold rd_T66; rw [List.getD_eq_getElem?_getD, List.getElem?_eq_getElem hil]; rfl
  have hM := hr.2 i.toNat (xs[i.toNat], i.toNat) (Kd.zip_at (List.getElem?_eq_getElem hil));obtain ⟨v0, v1, hcs, hne, g0, g1⟩ := k66t_openM (show k66t.M _ _ _ _ _ from hM);obtain ⟨cg0, hg0⟩ := own_typed ho gr rfl
  have hv1 : v1 = .slice A1 len c1 := by
    have hin : inner[i.toNat * 2 + 1]? = some v1 := by
      have e1 : ((inner.drop (i.toNat * (Kd.tag f k66t).sz)).take (Kd.tag f k66t).sz)[1]? = some v1 := by rw [hcs]; rfl
      have e2 : ((inner.drop (i.toNat * 2)).take 2)[1]? = some v1 := e1;rw [List.getElem?_take, List.getElem?_drop] at e2
      simpa using e2
    have hcell := World.ownsRow.cells ho (g := gr) rfl (i.toNat * 2 + 1) v1 hin
    have : W.cell? ⟨gr, i.toNat * 2 + 1, none⟩ = some (.slice A1 len c1) := by
      rw [add_plain] at hc;exact hc
    rw [add_plain, this] at hcell;exact (Option.some.inj hcell).symm
  have hl1 : 0 < xs[i.toNat].f1.length := by rw [← hrd]; omega
  obtain ⟨b, cap1, e1, hb1, hb2, cells1, hb3⟩ := Kd.R_form g1 hl1;rw [hv1] at e1
  injection e1 with e1a e1b e1c
  subst e1a;subst e1c;have hokb := g1.1 b (by rw [hv1]; rfl)
  have hbg : b ≠ gr := by
    rintro rfl;rw [hb3] at hg0
    injection hg0 with hg0
    injection hg0 with _ hg0
    cases hg0
  subst hv1;rw [e1b] at g1;obtain ⟨hcell, hfr⟩ := Kd.R_celln 0 g1 j hj0 (by rw [← hrd]; exact hj);refine ⟨b, rfl, by rw [e1b, hrd], ?_, hfr, hb1, hb2, hokb.1.1, ⟨_, hb3⟩, fun u => ?_⟩
  · rw [hrd]
    exact hcell
  · have hmove : ∀ k, k ≠ b → (W.setCell ⟨b, j.toNat, none⟩ (.int .i64 u)).heap[k]? = W.heap[k]? := fun k hk => Below.heap_setCell W ⟨b, j.toNat, none⟩ (.int .i64 u) k hk
    have hz : (xs.set i.toNat ⟨(rd_T66 xs i).f0, (rd_T66 xs i).f1.set j.toNat u⟩).zipIdx = xs.zipIdx.set i.toNat (⟨(rd_T66 xs i).f0, (rd_T66 xs i).f1.set j.toNat u⟩, i.toNat) := by
      apply List.ext_getElem?
      intro m;rw [List.getElem?_zipIdx, List.getElem?_set, List.getElem?_set, List.length_zipIdx, List.getElem?_zipIdx]
      by_cases hm : i.toNat = m
      · subst hm
        rw [if_pos rfl, if_pos rfl, if_pos hil, if_pos hil, Nat.zero_add]
        rfl
      · rw [if_neg hm, if_neg hm]
    refine ⟨⟨f, h0, inner, ?_, ?_⟩, ?_⟩
    · rw [hz, List.length_set]
      exact own_move ho (fun k hk => hmove k (by rintro rfl; exact hbg (by simpa [Value.ownBlock] using hk.symm)))
    · rw [hz]
      refine ⟨by rw [List.length_set]; exact hr.1, fun m p hp => ?_⟩;rw [List.getElem?_set] at hp
      by_cases hm : i.toNat = m
      · subst hm
        rw [if_pos rfl, List.length_zipIdx, if_pos hil] at hp;obtain rfl := Option.some.inj hp;rw [hcs];have g1' := (Kd.R_put (W := W) (e := 3) (base := base) (h1 := fun _ => rfl) (enc := Value.int .i64) g1 j u).1;refine k66t_mkM _ _ _ _ (v0 := v0) (v1 := .slice (some ⟨b, 0, none⟩) len c1) hne ?_ ?_
        · rw [hrd]
          exact Kd.R_mono (Kd.R_far (p := ⟨b, j.toNat, none⟩) (Kd.R_far1 g0 rfl (g := b) (fun e => hne b e.symm rfl)) (fun _ hk => hk.2) (.int .i64 u)) (fun _ hk => hk.1)
        · rw [hrd]
          rw [e1b];exact g1'
      · rw [if_neg hm] at hp
        have hMm := hr.2 m p hp
        have hpi : p.2 = m := by
          rw [List.getElem?_zipIdx, Nat.zero_add] at hp;obtain ⟨a, ha, rfl⟩ := Option.map_eq_some_iff.1 hp
          rfl
        refine k66t.M_move (fun k hk => hmove k ?_) hMm;rintro rfl;have := hk.2;rw [hpi] at this;have h3 := hokb.2
        omega
    · rw [← hc]
      unfold World.cell?;rw [hmove _ (by rw [add_plain]; exact fun e => hbg e.symm)]
end Go.Proofs.Ytmlbliggbkfjnaa.J
namespace Go.Proofs.Ytmlbliggbkfjnaa.J
open Go.RowKit Go.Proofs.YtmlbliggbkfjnaaW.PrintWords Go.Proofs.YtmlbliggbkfjnaaW.PrintLast Go.Proofs.YtmlbliggbkfjnaaW.PrintMore
attribute [local go_sem] max2_int min2_int max_two min_two max_three min_three max_four min_four
def tune_Own.l0 : Nat → List (S66) → Int → Int → List (S64) → List (S61) → List (S66) → Option ((List (S64)) × (List (S61)) × (List (S66)))
 | 0, _, _, _, _, _, _ => none
 | k + 1, x14, x15, x16, ab, ae, aa => if x16 < x15 then (if 0 ≤ x16 then (if x16 < (x14.length : Int) then ((qla.f ((rd_T66 x14 x16).f0)).bind fun af => ((qla.f ((rd_T66 x14 x16).f1)).bind fun ag => (if aa.length < 2932031007402 then (tune_Own.l0 k x14 x15 (wrap64 (x16 + 1)) ab ae (aa ++ [(⟨af, ag⟩ : S66)])) else (none)))) else (none)) else (none)) else (some (ab, ae, aa))
def tune_Own.f (k : Nat) (ab : List (S64)) (ae : List (S61)) (aa : List (S66)) : Option ((List (S64)) × (List (S61)) × (List (S66))) := (api_Slot_64.f ab).bind fun af => ((api_Gate_65.f ae).bind fun ag => (tune_Own.l0 k aa (aa.length : Int) 0 af ag ([] : List (S66))))
theorem tune_Own.mono_l : ∀ k, (∀ y0 y1 y2 y3 y4 y5, LeO (tune_Own.l0 k y0 y1 y2 y3 y4 y5) (tune_Own.l0 (k + 1) y0 y1 y2 y3 y4 y5))
 | 0 => fun _ _ _ _ _ _ r h => by simp [tune_Own.l0] at h
 | k + 1 => by
  have ih0 := tune_Own.mono_l k
  ·intro y0 y1 y2 y3 y4 y5
   unfold tune_Own.l0
   repeat' first
   | (with_reducible exact ih0 _ _ _ _ _ _)
   | (with_reducible exact LeO.refl _)
   | (with_reducible exact LeO.none _)
   | (with_reducible refine LeO.ite ?_ ?_)
   | (with_reducible refine LeO.bind ?_ (fun _ => ?_))
   | exact ih0 _ _ _ _ _ _
   | exact LeO.none _
   | refine LeO.ite ?_ ?_
   | refine LeO.bind ?_ (fun _ => ?_)
theorem tune_Own.mono : ∀ a0 a1 a2 k, LeO (tune_Own.f k a0 a1 a2) (tune_Own.f (k + 1) a0 a1 a2) := by
 intro a0 a1 a2 k;have ih0 := tune_Own.mono_l k;unfold tune_Own.f
 repeat' first
   | (with_reducible exact ih0 _ _ _ _ _ _)
   | (with_reducible exact LeO.refl _)
   | (with_reducible exact LeO.none _)
   | (with_reducible refine LeO.ite ?_ ?_)
   | (with_reducible refine LeO.bind ?_ (fun _ => ?_))
   | exact ih0 _ _ _ _ _ _
   | exact LeO.none _
   | refine LeO.ite ?_ ?_
   | refine LeO.bind ?_ (fun _ => ?_)
def tune_Own.T1 : Bool × List (List Nat × List Nat) := (true, [([], []), ([0], [0]), ([1], [1]), ([], []), ([3], [3]), ([4, 2], [4]), ([2, 5], [2, 5]), ([], []), ([7, 6, 5, 0, 1, 2, 3, 4, 5, 6, 7], [6, 7])])
def tune_Own.B1 : List Nat := [0, 1, 3, 0, 8, 31, 63, 0, 255]
theorem tune_Own.tab1 : rtab .any (opsOf Try.f38 1) = tune_Own.T1 := by kernel_rfl
theorem tune_Own.bits1 : waitsOk tune_Own.T1.2 tune_Own.B1 = true := by kernel_rfl
def tune_Own.T5 : Bool × List (List Nat × List Nat) := (true, [([], []), ([0], [0]), ([], []), ([2], [2]), ([3], [3]), ([], []), ([5], [5]), ([6, 4], [6]), ([4, 7], [4, 7]), ([8], [8]), ([1, 9, 7], [1, 9]), ([0, 1, 2, 3, 4, 5, 6, 7, 8, 9, 10], []), ([11, 10, 10, 0, 1, 2, 3, 4, 5, 6, 7, 8, 9, 10], [10, 11])])
def tune_Own.B5 : List Nat := [0, 1, 0, 4, 12, 0, 32, 124, 252, 508, 1023, 2047, 4095]
theorem tune_Own.tab5 : rtab .any (opsOf Try.f38 5) = tune_Own.T5 := by kernel_rfl
theorem tune_Own.bits5 : waitsOk tune_Own.T5.2 tune_Own.B5 = true := by kernel_rfl
theorem tune_Own.callsT (k : Nat) (aQ : Option Addr) (aT : Nat) (aJ : List (S64)) (aK : Option Addr) (aM : Nat) (aH : List (S61)) (bf : Option Addr) (aY : Nat) (aj : List (S66)) (r1 : List (S64)) (r2 : List (S61)) (r3 : List (S66)) (w : World) (bK : Kd.C k64 w aQ aJ.length aJ) (bL : aJ.length ≤ aT) (bM : Kd.C k61 w aK aH.length aH) (bN : aH.length ≤ aM) (bO : Kd.C k66 w bf aj.length aj) (bP : aj.length ≤ aY) (h : tune_Own.f k aJ aH aj = some (r1, r2, r3)) :
  Calls Try.prog 38 #[.agg #[.slice aQ aJ.length aT, .slice aK aH.length aM, .slice bf aj.length aY]] w fun e w' => ∃ v0_ v1_ v2_ : Value, e = .returned (.agg #[v0_, v1_, v2_]) ∧ Kd.R k64 64 w' w.heap.size (fun _ => True) v0_ r1 ∧ Kd.R k61 61 w' w.heap.size (fun _ => True) v1_ r2 ∧ Kd.S k66t 66 w' w.heap.size (fun _ => True) v2_ r3 ∧ Below w.heap.size w w' := by
 have hu26 := Try.underlying26;have hu66 := Try.underlying66;have bQ := Aside0.mk bK;have bR := Aside0.mk bL;clear bK bL;have bv := Aside0.mk bM;have bw := Aside0.mk bN;clear bM bN;have bY := Aside0.mk bO;have cJ := Aside0.mk bP;clear bO bP;have HB := Aside0.mk (Below.refl w.heap.size w);have H : ((api_Slot_64.f aJ).bind fun aG => ((api_Gate_65.f aH).bind fun aE => (tune_Own.l0 k aj (aj.length : Int) 0 aG aE ([] : List (S66))))) = some (r1, r2, r3) := h;clear h;replace H := Option.bind_eq_some_iff.mp H;obtain ⟨aG, A20, H⟩ := H;(try dsimp only at H);have A2 := Aside0.mk A20;clear A20;replace H := Option.bind_eq_some_iff.mp H;obtain ⟨aE, A30, H⟩ := H;(try dsimp only at H);have A3 := Aside0.mk A30;clear A30;have H' := Aside0.mk H;clear H;go_enter Try.func38, Try.ntmps38;(try go_wp2_with (first | ((with_reducible refine gate_dst (N := 1) rfl ?_); refine box_event ?hg (N := 1) ?hd (cs := #[.slice aQ aJ.length aT, .slice aK aH.length aM, .slice bf aj.length aY]) (t := 26) ?hr ?_; (case hd => rfl); (case hg => rfl); (case hr => first | (go_simp; done) | (go_simp; rfl)); intro aD hg w4 hbox hb; have aa := am hbox; have cK := kG HB hg; have cL := kG HB hg; replace HB := kH HB hb; clear hb hbox hg) | ((with_reducible refine gate_dst (N := 2) rfl ?_); refine box_event ?hg (N := 2) ?hd (cs := #[.slice none 0 0, .slice none 0 0, .slice none 0 0]) (t := 26) ?hr ?_; (case hd => rfl); (case hg => rfl); (case hr => first | (go_simp; done) | (go_simp; rfl)); intro aC hg w5 hbox hb; have af := am hbox; have cM := kG HB hg; have cN := kG HB hg; replace HB := kH HB hb; have aZ := kP aa hg; have ba := kQ aa hg; replace aa := kU aa hb; clear hb hbox hg)));replace aa := kD aa; replace af := kD af; replace HB := kE HB;refine start_ (n := 9) (S := fun w' => w'.cell? ⟨aD, 0, none⟩ = some (.slice aQ aJ.length aT) ∧ w'.cell? ⟨aD, 1, none⟩ = some (.slice aK aH.length aM) ∧ w'.cell? ⟨aD, 2, none⟩ = some (.slice bf aj.length aY)) (ds := []) (bs 9 0) (by kernel_rfl) rfl rfl ⟨kk aa 0, kk aa 1, kk aa 2⟩ (fun hHeld => ?_); refine with_tabW tune_Own.tab1 tune_Own.bits1 (fun HT_ HW_ => ?_);generalize w5.drew = w6 at aa af HB hHeld ⊢;refine pu 0 (some 6) (bs 9 1) HT_ ?_;refine pu 3 (some 9) (bs 9 9) HT_ ?_;refine ta 1 (some 7) (bs 9 11) HT_ HW_ hHeld ?_;refine ta 4 (some 10) (bs 9 27) HT_ HW_ hHeld ?_;refine join_ (σ := Value × Value × Nat) 1 (bs 9 255) (fun s_ => [(8, s_.1), (11, s_.2.1), (3, .pointer (some ⟨s_.2.2, 0, none⟩)), (12, .agg #[s_.1, s_.2.1, .slice none 0 0])]) (fun s_ w' => (w'.cell? ⟨aD, 0, none⟩ = some (.slice aQ aJ.length aT) ∧ w'.cell? ⟨aD, 1, none⟩ = some (.slice aK aH.length aM) ∧ w'.cell? ⟨aD, 2, none⟩ = some (.slice bf aj.length aY)) ∧ (Kd.R k64 64 w' w.heap.size (fun _ => True) s_.1 aG) ∧ (Kd.R k61 61 w' w.heap.size (fun _ => True) s_.2.1 aE) ∧ (w'.heap[aD]? = some (.cells #[.slice aQ aJ.length aT, .slice aK aH.length aM, .slice bf aj.length aY] 26 (0, 0))) ∧ (w'.heap[aC]? = some (.cells #[.slice none 0 0, .slice none 0 0, .slice none 0 0] 26 (0, 0))) ∧ (w'.heap[s_.2.2]? = some (.cells #[.slice none 0 0, .slice none 0 0, .slice none 0 0] 26 (0, 0))) ∧ (w.heap.size ≤ s_.2.2) ∧ (w.heap.size ≤ s_.2.2) ∧ (aD ≠ s_.2.2) ∧ (s_.2.2 ≠ aD) ∧ (aC ≠ s_.2.2) ∧ (s_.2.2 ≠ aC) ∧ (Below w.heap.size w w')) ?_ ?_
 rotate_left
 ·intro hCont
  refine two_ (i := 2) (j := 7) (Ni := some 8) (Nj := some 3) (bs 9 31) (bs 9 155) rfl rfl rfl rfl (two_of HT_.out (by kernel_rfl)) (by decide) (by decide) (fun K hK => ?_) (fun K hK => ?_)
  ·skip
   refine goes_ Try.func64 (by kernel_rfl) rfl #[.slice aQ aJ.length aT] (by rfl) rfl rfl (by (try simp only [qM1, qM2, qM3]); first | done | rfl) ?_;(with_reducible refine (api_Slot_64.calls _ _ aJ aG _ ?side1 ?side2 A2.out).mono ?_);(case side1 => repeat (first | exact (Kd.C_below bQ.out HB.out) | (with_reducible first | refine Kd.C_alloc ?_ _ | refine Kd.C_drewN ?_ _ | refine Kd.C_drew ?_)));(case side2 => exact bR.out);rintro e w7 ⟨bT, rfl, ho0, hb⟩;refine ⟨_, rfl, ?_⟩;have aA := kLR ho0 HB; replace aa := kU aa hb; replace af := kU af hb; replace HB := kH HB hb;(try clear hb ho0);refine hK.out _ _ ⟨kk aa 0, kk aa 1, kk aa 2⟩ (fun hHeld => ?_);clear hK K;refine no (some 8) ?_;refine two_ (i := 5) (j := 7) (Ni := some 11) (Nj := some 3) (bs 9 63) (bs 9 159) rfl rfl rfl rfl (two_of HT_.out (by kernel_rfl)) (by decide) (by decide) (fun K hK => ?_) (fun K hK => ?_)
   ·skip
    refine goes_ Try.func65 (by kernel_rfl) rfl #[.slice aK aH.length aM] (by rfl) rfl rfl (by (try simp only [qM1, qM2, qM3]); first | done | rfl) ?_;(with_reducible refine (api_Gate_65.calls _ _ aH aE _ ?side1 ?side2 A3.out).mono ?_);(case side1 => repeat (first | exact (Kd.C_below bv.out HB.out) | (with_reducible first | refine Kd.C_alloc ?_ _ | refine Kd.C_drewN ?_ _ | refine Kd.C_drew ?_)));(case side2 => exact bw.out);rintro e w8 ⟨bB, rfl, ho0, hb⟩;refine ⟨_, rfl, ?_⟩;replace aA := kR aA hb; have aI := kLR ho0 HB; replace aa := kU aa hb; replace af := kU af hb; replace HB := kH HB hb;(try clear hb ho0);obtain ⟨Ao9, co9, eo9⟩ := Kd.R_slice aI.out;(first | subst eo9 | (injection eo9 with f1_ f2_ f3_; have f4_ := f1_.symm; have f5_ := f3_.symm; clear f1_ f2_ f3_; subst f4_; subst f5_));obtain ⟨bx, bz, bi⟩ := Kd.R_slice aA.out;(first | subst bi | (injection bi with f1_ f2_ f3_; have f4_ := f1_.symm; have f5_ := f3_.symm; clear f1_ f2_ f3_; subst f4_; subst f5_));refine hK.out _ _ ⟨kk aa 0, kk aa 1, kk aa 2⟩ (fun hHeld => ?_);clear hK K;refine no (some 11) ?_;refine pu 6 (some 12) (bs 9 127) HT_ ?_;refine one_ (i := 7) (N := some 3) (bs 9 255) rfl rfl (one_of HT_.out (by kernel_rfl)) (by decide) (fun K hK => ?_);refine box_step ?hg (N := 3) ?hd (cs := #[.slice none 0 0, .slice none 0 0, .slice none 0 0]) (t := 26) ?hr ?_; (case hd => rfl); (case hg => rfl); (case hr => first | (go_simp; done) | (go_simp; rfl));intro al hg w11 hbox hb;replace aA := kR aA hb; replace aI := kR aI hb; have ae := am hbox; have bb := kG HB hg; have bc := kG HB hg; replace HB := kH HB hb; have ao := kP aa hg; have ap := kQ aa hg; replace aa := kU aa hb; have aq := kP af hg; have ar := kQ af hg; replace af := kU af hb;clear hb hbox hg;refine hK.out _ _ ⟨kk aa 0, kk aa 1, kk aa 2⟩ (fun hHeld => ?_);clear hK K;refine no (some 3) ?_;exact norm_ (by simp only [putAll, Act.put, qS1, qS2, qS3]) (hCont (.slice bx aG.length bz, .slice Ao9 aE.length co9, al) _ ⟨hHeld, (krR aA), (krR aI), (kb aa), (kb af), (kb ae), bb.out, bc.out, ao.out, ap.out, aq.out, ar.out, (kh HB)⟩)
   ·skip
    refine box_step ?hg (N := 3) ?hd (cs := #[.slice none 0 0, .slice none 0 0, .slice none 0 0]) (t := 26) ?hr ?_; (case hd => rfl); (case hg => rfl); (case hr => first | (go_simp; done) | (go_simp; rfl));intro al hg w8 hbox hb;replace aA := kR aA hb; have ae := am hbox; have bb := kG HB hg; have bc := kG HB hg; replace HB := kH HB hb; have ao := kP aa hg; have ap := kQ aa hg; replace aa := kU aa hb; have aq := kP af hg; have ar := kQ af hg; replace af := kU af hb;clear hb hbox hg;refine hK.out _ _ ⟨kk aa 0, kk aa 1, kk aa 2⟩ (fun hHeld => ?_);clear hK K;refine no (some 3) ?_;refine one_ (i := 5) (N := some 11) (bs 9 191) rfl rfl (one_of HT_.out (by kernel_rfl)) (by decide) (fun K hK => ?_);refine goes_ Try.func65 (by kernel_rfl) rfl #[.slice aK aH.length aM] (by rfl) rfl rfl (by (try simp only [qM1, qM2, qM3]); first | done | rfl) ?_;(with_reducible refine (api_Gate_65.calls _ _ aH aE _ ?side1 ?side2 A3.out).mono ?_);(case side1 => repeat (first | exact (Kd.C_below bv.out HB.out) | (with_reducible first | refine Kd.C_alloc ?_ _ | refine Kd.C_drewN ?_ _ | refine Kd.C_drew ?_)));(case side2 => exact bw.out);rintro e w9 ⟨bB, rfl, ho0, hb⟩;refine ⟨_, rfl, ?_⟩;replace aA := kR aA hb; have aI := kLR ho0 HB; replace aa := kU aa hb; replace af := kU af hb; replace ae := kU ae hb; replace HB := kH HB hb;(try clear hb ho0);obtain ⟨bx, bz, bi⟩ := Kd.R_slice aI.out;(first | subst bi | (injection bi with f1_ f2_ f3_; have f4_ := f1_.symm; have f5_ := f3_.symm; clear f1_ f2_ f3_; subst f4_; subst f5_));obtain ⟨bU, bV, bA⟩ := Kd.R_slice aA.out;(first | subst bA | (injection bA with f1_ f2_ f3_; have f4_ := f1_.symm; have f5_ := f3_.symm; clear f1_ f2_ f3_; subst f4_; subst f5_));refine hK.out _ _ ⟨kk aa 0, kk aa 1, kk aa 2⟩ (fun hHeld => ?_);clear hK K;refine no (some 11) ?_;refine pu 6 (some 12) (bs 9 255) HT_ ?_;exact norm_ (by simp only [putAll, Act.put, qS1, qS2, qS3]) (hCont (.slice bU aG.length bV, .slice bx aE.length bz, al) _ ⟨hHeld, (krR aA), (krR aI), (kb aa), (kb af), (kb ae), bb.out, bc.out, ao.out, ap.out, aq.out, ar.out, (kh HB)⟩)
  ·skip
   refine box_step ?hg (N := 3) ?hd (cs := #[.slice none 0 0, .slice none 0 0, .slice none 0 0]) (t := 26) ?hr ?_; (case hd => rfl); (case hg => rfl); (case hr => first | (go_simp; done) | (go_simp; rfl));intro al hg w7 hbox hb;have ae := am hbox; have bb := kG HB hg; have bc := kG HB hg; replace HB := kH HB hb; have ao := kP aa hg; have ap := kQ aa hg; replace aa := kU aa hb; have aq := kP af hg; have ar := kQ af hg; replace af := kU af hb;clear hb hbox hg;refine hK.out _ _ ⟨kk aa 0, kk aa 1, kk aa 2⟩ (fun hHeld => ?_);clear hK K;refine no (some 3) ?_;refine one_ (i := 2) (N := some 8) (bs 9 159) rfl rfl (one_of HT_.out (by kernel_rfl)) (by decide) (fun K hK => ?_);refine goes_ Try.func64 (by kernel_rfl) rfl #[.slice aQ aJ.length aT] (by rfl) rfl rfl (by (try simp only [qM1, qM2, qM3]); first | done | rfl) ?_;(with_reducible refine (api_Slot_64.calls _ _ aJ aG _ ?side1 ?side2 A2.out).mono ?_);(case side1 => repeat (first | exact (Kd.C_below bQ.out HB.out) | (with_reducible first | refine Kd.C_alloc ?_ _ | refine Kd.C_drewN ?_ _ | refine Kd.C_drew ?_)));(case side2 => exact bR.out);rintro e w8 ⟨bT, rfl, ho0, hb⟩;refine ⟨_, rfl, ?_⟩;have aA := kLR ho0 HB; replace aa := kU aa hb; replace af := kU af hb; replace ae := kU ae hb; replace HB := kH HB hb;(try clear hb ho0);refine hK.out _ _ ⟨kk aa 0, kk aa 1, kk aa 2⟩ (fun hHeld => ?_);clear hK K;refine no (some 8) ?_;refine one_ (i := 5) (N := some 11) (bs 9 191) rfl rfl (one_of HT_.out (by kernel_rfl)) (by decide) (fun K hK => ?_);refine goes_ Try.func65 (by kernel_rfl) rfl #[.slice aK aH.length aM] (by rfl) rfl rfl (by (try simp only [qM1, qM2, qM3]); first | done | rfl) ?_;(with_reducible refine (api_Gate_65.calls _ _ aH aE _ ?side1 ?side2 A3.out).mono ?_);(case side1 => repeat (first | exact (Kd.C_below bv.out HB.out) | (with_reducible first | refine Kd.C_alloc ?_ _ | refine Kd.C_drewN ?_ _ | refine Kd.C_drew ?_)));(case side2 => exact bw.out);rintro e w9 ⟨bB, rfl, ho0, hb⟩;refine ⟨_, rfl, ?_⟩;replace aA := kR aA hb; have aI := kLR ho0 HB; replace aa := kU aa hb; replace af := kU af hb; replace ae := kU ae hb; replace HB := kH HB hb;(try clear hb ho0);obtain ⟨bx, bz, bi⟩ := Kd.R_slice aI.out;(first | subst bi | (injection bi with f1_ f2_ f3_; have f4_ := f1_.symm; have f5_ := f3_.symm; clear f1_ f2_ f3_; subst f4_; subst f5_));obtain ⟨bU, bV, bA⟩ := Kd.R_slice aA.out;(first | subst bA | (injection bA with f1_ f2_ f3_; have f4_ := f1_.symm; have f5_ := f3_.symm; clear f1_ f2_ f3_; subst f4_; subst f5_));refine hK.out _ _ ⟨kk aa 0, kk aa 1, kk aa 2⟩ (fun hHeld => ?_);clear hK K;refine no (some 11) ?_;refine pu 6 (some 12) (bs 9 255) HT_ ?_;exact norm_ (by simp only [putAll, Act.put, qS1, qS2, qS3]) (hCont (.slice bU aG.length bV, .slice bx aE.length bz, al) _ ⟨hHeld, (krR aA), (krR aI), (kb aa), (kb af), (kb ae), bb.out, bc.out, ao.out, ap.out, aq.out, ar.out, (kh HB)⟩)
 rintro ⟨bT, bB, al⟩ w12 ⟨hS_, h0_, h1_, h2_, h3_, h4_, h5_, h6_, h7_, h8_, h9_, h10_, h11_⟩;have aA : Aside0 (Kd.R k64 64 w12 w.heap.size (fun _ => True) bT aG) := ⟨h0_⟩; have aI : Aside0 (Kd.R k61 61 w12 w.heap.size (fun _ => True) bB aE) := ⟨h1_⟩; replace aa : Aside0 (w12.heap[aD]? = some (.cells #[.slice aQ aJ.length aT, .slice aK aH.length aM, .slice bf aj.length aY] 26 (0, 0))) := ⟨h2_⟩; replace af : Aside0 (w12.heap[aC]? = some (.cells #[.slice none 0 0, .slice none 0 0, .slice none 0 0] 26 (0, 0))) := ⟨h3_⟩; have ae : Aside0 (w12.heap[al]? = some (.cells #[.slice none 0 0, .slice none 0 0, .slice none 0 0] 26 (0, 0))) := ⟨h4_⟩; have bb : Aside0 (w.heap.size ≤ al) := ⟨h5_⟩; have bc : Aside0 (w.heap.size ≤ al) := ⟨h6_⟩; have ao : Aside0 (aD ≠ al) := ⟨h7_⟩; have ap : Aside0 (al ≠ aD) := ⟨h8_⟩; have aq : Aside0 (aC ≠ al) := ⟨h9_⟩; have ar : Aside0 (al ≠ aC) := ⟨h10_⟩; replace HB : Aside0 (Below w.heap.size w w12) := ⟨h11_⟩; clear h0_ h10_ h11_ h1_ h2_ h3_ h4_ h5_ h6_ h7_ h8_ h9_;have hHeld : w12.cell? ⟨aD, 0, none⟩ = some (.slice aQ aJ.length aT) ∧ w12.cell? ⟨aD, 1, none⟩ = some (.slice aK aH.length aM) ∧ w12.cell? ⟨aD, 2, none⟩ = some (.slice bf aj.length aY) := hS_;obtain ⟨aU, aV, bZ⟩ := Kd.R_slice aI.out;(first | subst bZ | (injection bZ with f1_ f2_ f3_; have f4_ := f1_.symm; have f5_ := f3_.symm; clear f1_ f2_ f3_; subst f4_; subst f5_));obtain ⟨aW, aX, ca⟩ := Kd.R_slice aA.out;(first | subst ca | (injection ca with f1_ f2_ f3_; have f4_ := f1_.symm; have f5_ := f3_.symm; clear f1_ f2_ f3_; subst f4_; subst f5_));refine norm_ (a' := ?_) ?_ ?_
 rotate_left
 ·simp only [putAll, Act.put, qS1, qS2, qS3]
  rfl
 refine one_ (i := 8) (N := none) (bs 9 511) rfl rfl (one_of HT_.out (by kernel_rfl)) (by decide) (fun K hK => ?_);have dm : w12.cell? ⟨al, 0, none⟩ = some (.slice none 0 0) := kk ae 0;have cO := blk_frozen ae.out 0;have co := ao.out;have cp := aq.out;have cq := ap.out;have cr := ar.out;have dn : w12.cell? ⟨al, 1, none⟩ = some (.slice none 0 0) := kk ae 1;have cP := blk_frozen ae.out 1;have ct := ao.out;have cu := aq.out;have cv := ap.out;have cw := ar.out;have dp : w12.cell? ⟨al, 2, none⟩ = some (.slice none 0 0) := kk ae 2;have cQ := blk_frozen ae.out 2;have cx := ao.out;have cy := aq.out;have cz := ap.out;have cA := ar.out;refine skip_ (w1 := ?_) (by rfl) rfl ?_ ?_
 rotate_left
 ·go_simp
  rfl
 refine hK.out _ _ ⟨(kf hHeld.1), (kf hHeld.2.1), (kf hHeld.2.2)⟩ (fun hHeld => ?_);clear hK K;refine done_ (done_of HT_.out (by kernel_rfl)) ?_;have cR := aZ.out;have cS := ba.out;have cT := ao.out;have cU := ap.out;have Z20 := kz3 aa;(try go_wp2);go_loopg [16] k (fun kq v16 w' => ∃ (ag : Int) (au : List (S66)) (az : Value), v16 = .int .i64 ag ∧ Aside0 (tune_Own.l0 kq aj (aj.length : Int) ag aG aE au = some (r1, r2, r3)) ∧ Aside0 (kq ≤ k) ∧ Aside0 (Kd.R k64 64 w' w.heap.size (fun _ => True) (.slice aW aG.length aX) aG) ∧ Aside0 (Kd.R k61 61 w' w.heap.size (fun _ => True) (.slice aU aE.length aV) aE) ∧ Aside0 (Kd.S k66t 66 w' w.heap.size (fun _ => True) az au) ∧ Aside0 (w'.heap[aD]? = some (.cells #[(.slice aQ aJ.length aT), (.slice aK aH.length aM), (.slice bf aj.length aY)] 26 (0, 0))) ∧ Aside0 (w'.heap[aC]? = some (.cells #[(.slice none 0 0), (.slice none 0 0), (.slice none 0 0)] 26 (0, 0))) ∧ Aside0 (w'.heap[al]? = some (.cells #[(.slice aW aG.length aX), (.slice aU aE.length aV), az] 26 (0, 0))) ∧ Aside0 (Below w.heap.size w w'))
 case atStart => exact ⟨(0), (([] : List (S66))), (.slice none 0 0), et, H', ⟨Nat.le_refl _⟩, ⟨by (with_reducible repeat first | apply Kd.R_alloc | apply Kd.R_drewN | apply Kd.R_drew); exact Kd.R_mono (Kd.R_far (p := ⟨al, 2, none⟩) (Kd.R_far (p := ⟨al, 1, none⟩) (Kd.R_far (p := ⟨al, 0, none⟩) (Kd.R_types aA.out ae.out (by decide)) (fun _ hk => hk.2) (.slice aW aG.length aX)) (fun _ hk => hk.2) (.slice aU aE.length aV)) (fun _ hk => hk.2) (.slice none 0 0)) (fun _ hk => trivial)⟩, ⟨by (with_reducible repeat first | apply Kd.R_alloc | apply Kd.R_drewN | apply Kd.R_drew); exact Kd.R_mono (Kd.R_far (p := ⟨al, 2, none⟩) (Kd.R_far (p := ⟨al, 1, none⟩) (Kd.R_far (p := ⟨al, 0, none⟩) (Kd.R_types aI.out ae.out (by decide)) (fun _ hk => hk.2) (.slice aW aG.length aX)) (fun _ hk => hk.2) (.slice aU aE.length aV)) (fun _ hk => hk.2) (.slice none 0 0)) (fun _ hk => trivial)⟩, ⟨by first | exact Kd.S_nil _ _ _ _ _ | exact Kd.N_nil _ _ _ _ _ | exact Kd.V_nil _ _ _ _ _ | exact Kd.Q_nil _ _ _ _ _ | exact Kd.R_nil _ _ _ _ _⟩, ⟨kg aa⟩, ⟨kg af⟩, ⟨kg ae⟩, ⟨kh HB⟩⟩
 case round =>
  clear H'; (try clear Z20);obtain ⟨ag, au, az, rfl, HA, HK1, ah, ai, ab, aa, af, ae, HB⟩ := hrel
  cases gk with
  | zero => exact absurd HA.out (by simp [tune_Own.l0])
  | succ k1 =>
   have H := HA.out;clear HA;simp only [tune_Own.l0] at H
   by_cases c21 : ag < (aj.length : Int)
   rotate_left
   ·rw [if_neg c21] at H
    have cb := decide_eq_false c21;clear c21;simp only [Option.some.injEq, Prod.mk.injEq] at H;obtain ⟨rfl, rfl, rfl⟩ := H;have cV := ap.out;have cW := ao.out;have cX := ar.out;have cY := aq.out;have Z43 := kz3 ae;have cZ := ba.out;have da := aZ.out;have Z45 := kz3 af;obtain ⟨bC, bD, cH⟩ := Kd.S_slice ab.out;subst cH;go_wp2;refine bodyPost_ret (results_cell_row rfl _ _ aC 26 #[.slice aW aG.length aX, .slice aU aE.length aV, .slice bC au.length bD] (0, 0) _ rfl (kg af) Try.underlying26 rfl (by kernel_rfl)) rfl ?_;exact ⟨_, _, _, er, by (with_reducible repeat first | apply Kd.R_alloc | apply Kd.R_drewN | apply Kd.R_drew); exact Kd.R_mono (Kd.R_far (p := ⟨aC, 2, none⟩) (Kd.R_far (p := ⟨aC, 1, none⟩) (Kd.R_far (p := ⟨aC, 0, none⟩) (Kd.R_types ah.out af.out (by decide)) (fun _ hk => hk.2) (.slice aW aG.length aX)) (fun _ hk => hk.2) (.slice aU aE.length aV)) (fun _ hk => hk.2) (.slice bC au.length bD)) (fun _ hk => trivial), by (with_reducible repeat first | apply Kd.R_alloc | apply Kd.R_drewN | apply Kd.R_drew); exact Kd.R_mono (Kd.R_far (p := ⟨aC, 2, none⟩) (Kd.R_far (p := ⟨aC, 1, none⟩) (Kd.R_far (p := ⟨aC, 0, none⟩) (Kd.R_types ai.out af.out (by decide)) (fun _ hk => hk.2) (.slice aW aG.length aX)) (fun _ hk => hk.2) (.slice aU aE.length aV)) (fun _ hk => hk.2) (.slice bC au.length bD)) (fun _ hk => trivial), by (with_reducible repeat first | apply Kd.S_alloc | apply Kd.S_drewN | apply Kd.S_drew); exact Kd.S_mono (Kd.S_far (p := ⟨aC, 2, none⟩) (Kd.S_far (p := ⟨aC, 1, none⟩) (Kd.S_far (p := ⟨aC, 0, none⟩) (Kd.S_types ab.out af.out (by decide)) (fun _ hk => hk.2) (.slice aW aG.length aX)) (fun _ hk => hk.2) (.slice aU aE.length aV)) (fun _ hk => hk.2) (.slice bC au.length bD)) (fun _ hk => trivial), kh HB⟩
   rw [if_pos c21] at H;have cb := decide_eq_true c21;clear c21
   by_cases c22 : 0 ≤ ag
   rotate_left
   ·rw [if_neg c22] at H
    exact absurd H (by simp)
   rw [if_pos c22] at H;have db := decide_eq_true c22;clear c22
   by_cases c23 : ag < (aj.length : Int)
   rotate_left
   ·rw [if_neg c23] at H
    exact absurd H (by simp)
   rw [if_pos c23] at H;have dc := decide_eq_true c23;clear c23;replace H := Option.bind_eq_some_iff.mp H;obtain ⟨bn, cc, H⟩ := H;(try dsimp only at H);have A24 := Aside0.mk cc;clear cc;replace H := Option.bind_eq_some_iff.mp H;obtain ⟨bo, cd, H⟩ := H;(try dsimp only at H);have A25 := Aside0.mk cd;clear cd
   by_cases c26 : au.length < 2932031007402
   rotate_left
   ·rw [if_neg c26] at H
    exact absurd H (by simp)
   rw [if_pos c26] at H;have ce := Aside0.mk c26;clear c26;obtain ⟨bp, bj⟩ : ∃ y_ : List (S66), y_ = (au ++ [(⟨bn, bo⟩ : S66)]) := ⟨_, rfl⟩
   replace H : (tune_Own.l0 k1 aj (aj.length : Int) (wrap64 (ag + 1)) aG aE bp) = some (r1, r2, r3) := by first | (rw [bj]; with_reducible exact H) | (have H2_ := (Option.bind_some _ _).symm.trans H; rw [bj]; with_reducible exact H2_) | (have H2_ := (Option.bind_some _ _).symm.trans H; with_reducible exact H2_) | with_reducible exact H | (rw [bj]; exact H) | exact H
   have cf := Aside0.mk bj;clear bj;have H' := Aside0.mk H;clear H;have bW : 0 ≤ (ag : Int) := od;have bX : ag < (aj.length : Int) := od;obtain ⟨cg, av, aw, ax, ay, cI, bg, bh, bk, hi183_0, bl, hi183_1⟩ := at_T66 bY.out ag bW bX;cases cI;replace bg := (HB.out.cell (World.block_lt_of_cell? w _ bg)).trans bg;replace bh := (HB.out.cell (World.block_lt_of_cell? w _ bh)).trans bh;have bE := Aside0.mk hi183_0;have bF := Aside0.mk bk;clear hi183_0 bk;have bG := Aside0.mk hi183_1;have bH := Aside0.mk bl;clear hi183_1 bl; replace bW := eq_true bW; replace bX := eq_true bX;(try go_wp2_with (first | ((with_reducible refine gate_dst (N := 5) rfl ?_); refine box_event ?hg (N := 5) ?hd (cs := #[.slice none 0 0, .slice none 0 0]) (t := 66) ?hr ?_; (case hd => rfl); (case hg => rfl); (case hr => first | (go_simp; done) | (go_simp; rfl)); intro ak hg w27 hbox hb; replace ah := kR ah hb; replace ai := kR ai hb; replace ab := Aside0.mk (Kd.S_below (Kd.S_elderB (krS ab) ak (Nat.le_of_eq hg.symm)) hb); have an := am hbox; have dd := kG HB hg; have de := kG HB hg; replace HB := kH HB hb; have bq := kP aa hg; have br := kQ aa hg; replace aa := kU aa hb; have bt := kP af hg; have bu := kQ af hg; replace af := kU af hb; have bd := kP ae hg; have be := kQ ae hg; replace ae := kU ae hb; clear hb hbox hg; have df := br.out; have dg := bq.out; have dh := bu.out; have di := bt.out; have dj := be.out; have dk := bd.out; have Z31 := kz2 an)));have n0_ : Aside0 (Kd.R k64 64 ((w27.setCell ⟨ak, 0, none⟩ (.slice av ((rd_T66 aj ag).f0).length aw)).setCell ⟨ak, 1, none⟩ (.slice ax ((rd_T66 aj ag).f1).length ay)) w.heap.size (fun _ => True) (.slice aW aG.length aX) aG) := ⟨by (with_reducible repeat first | apply Kd.R_alloc | apply Kd.R_drewN | apply Kd.R_drew); exact Kd.R_mono (Kd.R_far (p := ⟨ak, 1, none⟩) (Kd.R_far (p := ⟨ak, 0, none⟩) (Kd.R_types ah.out an.out (by decide)) (fun _ hk => hk.2) (.slice av ((rd_T66 aj ag).f0).length aw)) (fun _ hk => hk.2) (.slice ax ((rd_T66 aj ag).f1).length ay)) (fun _ hk => trivial)⟩;have n1_ : Aside0 (Kd.R k61 61 ((w27.setCell ⟨ak, 0, none⟩ (.slice av ((rd_T66 aj ag).f0).length aw)).setCell ⟨ak, 1, none⟩ (.slice ax ((rd_T66 aj ag).f1).length ay)) w.heap.size (fun _ => True) (.slice aU aE.length aV) aE) := ⟨by (with_reducible repeat first | apply Kd.R_alloc | apply Kd.R_drewN | apply Kd.R_drew); exact Kd.R_mono (Kd.R_far (p := ⟨ak, 1, none⟩) (Kd.R_far (p := ⟨ak, 0, none⟩) (Kd.R_types ai.out an.out (by decide)) (fun _ hk => hk.2) (.slice av ((rd_T66 aj ag).f0).length aw)) (fun _ hk => hk.2) (.slice ax ((rd_T66 aj ag).f1).length ay)) (fun _ hk => trivial)⟩;have n2_ : Aside0 (Kd.S k66t 66 ((w27.setCell ⟨ak, 0, none⟩ (.slice av ((rd_T66 aj ag).f0).length aw)).setCell ⟨ak, 1, none⟩ (.slice ax ((rd_T66 aj ag).f1).length ay)) w.heap.size (fun k_ => k_ ≠ ak) az au) := ⟨by (with_reducible repeat first | apply Kd.S_alloc | apply Kd.S_drewN | apply Kd.S_drew); exact Kd.S_mono (Kd.S_far (p := ⟨ak, 1, none⟩) (Kd.S_far (p := ⟨ak, 0, none⟩) (Kd.S_mono ab.out (fun k_ hk => (⟨hk, hk.2⟩ : _ ∧ k_ ≠ ak))) (fun _ hk => hk.2) (.slice av ((rd_T66 aj ag).f0).length aw)) (fun _ hk => hk.2) (.slice ax ((rd_T66 aj ag).f1).length ay)) (fun _ hk => hk.1.2)⟩;have n3_ : Aside0 (((w27.setCell ⟨ak, 0, none⟩ (.slice av ((rd_T66 aj ag).f0).length aw)).setCell ⟨ak, 1, none⟩ (.slice ax ((rd_T66 aj ag).f1).length ay)).heap[aD]? = some (.cells #[.slice aQ aJ.length aT, .slice aK aH.length aM, .slice (some cg) aj.length aY] 26 (0, 0))) := ⟨kg aa⟩;have n4_ : Aside0 (((w27.setCell ⟨ak, 0, none⟩ (.slice av ((rd_T66 aj ag).f0).length aw)).setCell ⟨ak, 1, none⟩ (.slice ax ((rd_T66 aj ag).f1).length ay)).heap[aC]? = some (.cells #[.slice none 0 0, .slice none 0 0, .slice none 0 0] 26 (0, 0))) := ⟨kg af⟩;have n5_ : Aside0 (((w27.setCell ⟨ak, 0, none⟩ (.slice av ((rd_T66 aj ag).f0).length aw)).setCell ⟨ak, 1, none⟩ (.slice ax ((rd_T66 aj ag).f1).length ay)).heap[al]? = some (.cells #[.slice aW aG.length aX, .slice aU aE.length aV, az] 26 (0, 0))) := ⟨kg ae⟩;have n6_ : Aside0 (((w27.setCell ⟨ak, 0, none⟩ (.slice av ((rd_T66 aj ag).f0).length aw)).setCell ⟨ak, 1, none⟩ (.slice ax ((rd_T66 aj ag).f1).length ay)).heap[ak]? = some (.cells #[.slice av ((rd_T66 aj ag).f0).length aw, .slice ax ((rd_T66 aj ag).f1).length ay] 66 (0, 0))) := ⟨kg an⟩;have n7_ : Aside0 (Below w.heap.size w ((w27.setCell ⟨ak, 0, none⟩ (.slice av ((rd_T66 aj ag).f0).length aw)).setCell ⟨ak, 1, none⟩ (.slice ax ((rd_T66 aj ag).f1).length ay))) := ⟨kh HB⟩;(try clear ah ai ab aa af ae an HB);generalize ((w27.setCell ⟨ak, 0, none⟩ (.slice av ((rd_T66 aj ag).f0).length aw)).setCell ⟨ak, 1, none⟩ (.slice ax ((rd_T66 aj ag).f1).length ay)) = w32 at n0_ n1_ n2_ n3_ n4_ n5_ n6_ n7_ ⊢;have ah := n0_; have ai := n1_; have ab := n2_; have aa := n3_; have af := n4_; have ae := n5_; have an := n6_; have HB := n7_; clear n0_ n1_ n2_ n3_ n4_ n5_ n6_ n7_;replace ah := kFR ah; replace ai := kFR ai; replace ab := kFS ab; replace aa := kD aa; replace af := kD af; replace ae := kD ae; replace an := kD an; replace HB := kE HB;refine start_ (n := 13) (S := fun w' => w'.cell? ⟨al, 0, none⟩ = some (.slice aW aG.length aX) ∧ w'.cell? ⟨al, 1, none⟩ = some (.slice aU aE.length aV) ∧ w'.cell? ⟨al, 2, none⟩ = some (az) ∧ w'.cell? ⟨ak, 0, none⟩ = some (.slice av ((rd_T66 aj ag).f0).length aw) ∧ w'.cell? ⟨ak, 1, none⟩ = some (.slice ax ((rd_T66 aj ag).f1).length ay)) (ds := [12]) (bs 13 0) (by kernel_rfl) rfl rfl ⟨kk ae 0, kk ae 1, kk ae 2, kk an 0, kk an 1⟩ (fun hHeld => ?_); refine with_tabW tune_Own.tab5 tune_Own.bits5 (fun HT_ HW_ => ?_);generalize w32.drew = w33 at ah ai ab aa af ae an HB hHeld ⊢;refine pu 0 (some 20) (bs 13 1) HT_ ?_;refine pu 2 (some 22) (bs 13 5) HT_ ?_;refine pu 5 (some 25) (bs 13 37) HT_ ?_;refine ta 1 (some 21) (bs 13 39) HT_ HW_ hHeld ?_;refine ta 3 (some 23) (bs 13 47) HT_ HW_ hHeld ?_;refine ta 6 (some 26) (bs 13 111) HT_ HW_ hHeld ?_;refine one_ (i := 4) (N := some 24) (bs 13 127) rfl rfl (one_of HT_.out (by kernel_rfl)) (by decide) (fun K hK => ?_);refine goes_ Try.func66 (by kernel_rfl) rfl #[.slice av ((rd_T66 aj ag).f0).length aw] (by rfl) rfl rfl (by (try simp only [qM1, qM2, qM3]); first | done | rfl) ?_;(with_reducible refine (qla.calls _ _ ((rd_T66 aj ag).f0) bn _ ?side1 ?side2 A24.out).mono ?_);(case side1 => repeat (first | exact (Kd.C_below bE.out HB.out) | (with_reducible first | refine Kd.C_alloc ?_ _ | refine Kd.C_drewN ?_ _ | refine Kd.C_drew ?_)));(case side2 => exact bF.out);rintro e w34 ⟨dq, rfl, ho0, hb⟩;refine ⟨_, rfl, ?_⟩;replace ah := kR ah hb; replace ai := kR ai hb; replace ab := Aside0.mk (Kd.S_elder' (krS ab) (Kd.R_base ho0) hb); have aN := kLR ho0 HB; replace aa := kU aa hb; replace af := kU af hb; replace ae := kU ae hb; replace an := kU an hb; replace HB := kH HB hb;(try clear hb ho0);refine hK.out _ _ ⟨kk ae 0, kk ae 1, kk ae 2, kk an 0, kk an 1⟩ (fun hHeld => ?_);clear hK K;refine no (some 24) ?_;refine one_ (i := 7) (N := some 27) (bs 13 255) rfl rfl (one_of HT_.out (by kernel_rfl)) (by decide) (fun K hK => ?_);refine goes_ Try.func66 (by kernel_rfl) rfl #[.slice ax ((rd_T66 aj ag).f1).length ay] (by rfl) rfl rfl (by (try simp only [qM1, qM2, qM3]); first | done | rfl) ?_;(with_reducible refine (qla.calls _ _ ((rd_T66 aj ag).f1) bo _ ?side1 ?side2 A25.out).mono ?_);(case side1 => repeat (first | exact (Kd.C_below bG.out HB.out) | (with_reducible first | refine Kd.C_alloc ?_ _ | refine Kd.C_drewN ?_ _ | refine Kd.C_drew ?_)));(case side2 => exact bH.out);rintro e w35 ⟨dr, rfl, ho0, hb⟩;refine ⟨_, rfl, ?_⟩;replace ah := kR ah hb; replace ai := kR ai hb; replace ab := Aside0.mk (Kd.S_elder' (krS ab) (Kd.R_base ho0) hb); have bm := Aside0.mk (Kd.R_lower (Kd.R_new' ho0 (Kd.R_lt (krR aN))) (below_size (kh HB))); replace aN := Aside0.mk (Kd.R_elder' (krR aN) (Kd.R_base ho0) hb); replace aa := kU aa hb; replace af := kU af hb; replace ae := kU ae hb; replace an := kU an hb; replace HB := kH HB hb;(try clear hb ho0);obtain ⟨ch, ci, cj⟩ := Kd.R_slice bm.out;(first | subst cj | (injection cj with f1_ f2_ f3_; have f4_ := f1_.symm; have f5_ := f3_.symm; clear f1_ f2_ f3_; subst f4_; subst f5_));obtain ⟨ck, cl, cm⟩ := Kd.R_slice aN.out;(first | subst cm | (injection cm with f1_ f2_ f3_; have f4_ := f1_.symm; have f5_ := f3_.symm; clear f1_ f2_ f3_; subst f4_; subst f5_));refine hK.out _ _ ⟨kk ae 0, kk ae 1, kk ae 2, kk an 0, kk an 1⟩ (fun hHeld => ?_);clear hK K;refine no (some 27) ?_;refine pu 8 (some 28) (bs 13 511) HT_ ?_;refine one_ (i := 9) (N := some 29) (bs 13 1023) rfl rfl (one_of HT_.out (by kernel_rfl)) (by decide) (fun K hK => ?_);refine value_ (w1 := ?_) (v := ?_) (by rfl) rfl ?_ ?_
   rotate_left 2
   ·go_simp
    constructor
    ·rfl
    ·rfl
   refine hK.out _ _ ⟨(blk_cell (blk_alloc ae.out _) 0).trans rfl, (blk_cell (blk_alloc ae.out _) 1).trans rfl, (blk_cell (blk_alloc ae.out _) 2).trans rfl, (blk_cell (blk_alloc an.out _) 0).trans rfl, (blk_cell (blk_alloc an.out _) 1).trans rfl⟩ (fun hHeld => ?_);clear hK K;refine no (some 29) ?_;refine one_ (i := 10) (N := some 30) (bs 13 2047) rfl rfl (one_of HT_.out (by kernel_rfl)) (by decide) (fun K hK => ?_);refine Kd.S_append_step k66t (w0 := w) w.heap.size (by rfl) (.tmp 21) (.tmp 29) 24 66 (.agg #[(.slice none 0 0), (.slice none 0 0)]) 48 rfl Try.underlying24 info66 rfl (by decide) (by omega) az au (⟨bn, bo⟩ : S66) [.slice ck bn.length cl, .slice ch bo.length ci] (fun k_ => k_ ≠ ak) (fun k_ => some k_ = (.slice ck bn.length cl : Value).ownBlock ∨ some k_ = (.slice ch bo.length ci : Value).ownBlock) rfl rfl ?aP (fun k_ hk_ => hk_.elim (fun h_ => ((Kd.R_mono (ok' := fun k_ => ((fun k_ => k_ ≠ ak)) k_ ∧ some k_ ≠ (az : Value).ownBlock) (Kd.R_types (Kd.R_apart' (aN.out) (Kd.S_typed ab.out) (by decide)) an.out (by decide)) (fun k_ hk => ⟨hk.2, hk.1.2⟩))).1 k_ h_.symm) (fun h_ => ((Kd.R_mono (ok' := fun k_ => ((fun k_ => k_ ≠ ak)) k_ ∧ some k_ ≠ (az : Value).ownBlock) (Kd.R_types (Kd.R_apart' (bm.out) (Kd.S_typed ab.out) (by decide)) an.out (by decide)) (fun k_ hk => ⟨hk.2, hk.1.2⟩))).1 k_ h_.symm)) ?aF ?aO ?aB ?aS ?aL ?_;(case aP => exact k66t_mkM _ _ _ (⟨bn, bo⟩ : S66) (fun k_ h_ h2_ => (aN.out.1 k_ h_).2 h2_.symm) (Kd.R_mono (Kd.R_tight rfl (Kd.R_mono (ok' := fun k_ => ((fun k_ => k_ ≠ ak)) k_ ∧ some k_ ≠ (az : Value).ownBlock) (Kd.R_types (Kd.R_apart' (aN.out) (Kd.S_typed ab.out) (by decide)) an.out (by decide)) (fun k_ hk => ⟨hk.2, hk.1.2⟩))) (fun _ h_ => Or.inl h_)) (Kd.R_mono (Kd.R_tight rfl (Kd.R_mono (ok' := fun k_ => ((fun k_ => k_ ≠ ak)) k_ ∧ some k_ ≠ (az : Value).ownBlock) (Kd.R_types (Kd.R_apart' (bm.out) (Kd.S_typed ab.out) (by decide)) an.out (by decide)) (fun k_ hk => ⟨hk.2, hk.1.2⟩))) (fun _ h_ => Or.inr (h_))));(case aB => exact (kh HB));(case aF => exact (fun k_ hk => Kd.freshB (g := ak) (o := .cells #[.slice av ((rd_T66 aj ag).f0).length aw, .slice ax ((rd_T66 aj ag).f1).length ay] 66 (0, 0)) (kb an) k_ hk));(case aO => exact (by (with_reducible repeat first | apply Kd.S_alloc | apply Kd.S_drewN | apply Kd.S_drew); exact Kd.S_mono ab.out (fun k_ hk => ⟨hk.1.1, fun e_ => e_.elim (fun h_ => hk.1.2 h_) (fun h_ => hk.2 h_)⟩)));(case aS => exact (below_size (kh HB)));(case aL => have := ce.out; omega);intro dt w38 ho hb hg hat;rw [← cf.out] at ho;replace ah := Aside0.mk (Kd.R_over' (krR ah) (Kd.S_typed (krS ab)) (by decide) hg); replace ai := Aside0.mk (Kd.R_over' (krR ai) (Kd.S_typed (krS ab)) (by decide) hg); replace aa := kXS aa ab hg; replace af := kXS af ab hg; replace ae := kXS ae ab hg; replace an := Aside0.mk (blk_grown (g := ak) (o := .cells #[.slice av ((rd_T66 aj ag).f0).length aw, .slice ax ((rd_T66 aj ag).f1).length ay] 66 (0, 0)) (kb an) hg (Kd.S_away ab.out (fun _ hk => hk.1.1))); replace HB := Aside0.mk (hb); have bS := Aside0.mk (ho); clear aN bm ab;clear ho hb hg hat;obtain ⟨bI, bJ, cn⟩ := Kd.S_slice bS.out;(first | subst cn | (injection cn with f1_ f2_ f3_; have f4_ := f1_.symm; have f5_ := f3_.symm; clear f1_ f2_ f3_; subst f4_; subst f5_));refine hK.out _ _ ⟨kk ae 0, kk ae 1, kk ae 2, kk an 0, kk an 1⟩ (fun hHeld => ?_);clear hK K;refine no (some 30) ?_;refine pu 11 (some 31) (bs 13 4095) HT_ ?_;refine last_ (i := 12) (N := none) (bs 13 8191) rfl rfl (one_of HT_.out (by kernel_rfl)) (by decide) (fun K hK => ?_);have du : w38.cell? ⟨al, 2, none⟩ = some (az) := kk ae 2;have dl := blk_frozen ae.out 2;have cB := ao.out;have cC := aq.out;have cD := be.out;have cE := ap.out;have cF := ar.out;have cG := bd.out;refine skip_ (w1 := ?_) (by rfl) rfl ?_ ?_
   rotate_left
   ·go_simp
    rfl
   refine hK.out _ _ ?_;clear hK K;refine done_ (done_of HT_.out (by kernel_rfl)) ?_;(try go_wp2);go_roundg k1
   case measure => have := HK1.out; omega
   case rel => exact ⟨(wrap64 (ag + 1)), (bp), (.slice bI bp.length bJ), et, H', ⟨by have := HK1.out; omega⟩, ⟨by (with_reducible repeat first | apply Kd.R_alloc | apply Kd.R_drewN | apply Kd.R_drew); exact Kd.R_mono (Kd.R_far (p := ⟨al, 2, none⟩) (Kd.R_types ah.out ae.out (by decide)) (fun _ hk => hk.2) (.slice bI bp.length bJ)) (fun _ hk => trivial)⟩, ⟨by (with_reducible repeat first | apply Kd.R_alloc | apply Kd.R_drewN | apply Kd.R_drew); exact Kd.R_mono (Kd.R_far (p := ⟨al, 2, none⟩) (Kd.R_types ai.out ae.out (by decide)) (fun _ hk => hk.2) (.slice bI bp.length bJ)) (fun _ hk => trivial)⟩, ⟨by (with_reducible repeat first | apply Kd.S_alloc | apply Kd.S_drewN | apply Kd.S_drew); exact Kd.S_mono (Kd.S_far (p := ⟨al, 2, none⟩) (Kd.S_types bS.out ae.out (by decide)) (fun _ hk => hk.2) (.slice bI bp.length bJ)) (fun _ hk => trivial)⟩, ⟨kg aa⟩, ⟨kg af⟩, ⟨kg ae⟩, ⟨kh HB⟩⟩
theorem tune_Own.calls (k : Nat) (af : Option Addr) (ag : Nat) (aa : List (S64)) (ah : Option Addr) (ai : Nat) (ab : List (S61)) (aj : Option Addr) (ak : Nat) (ae : List (S66)) (r1 : List (S64)) (r2 : List (S61)) (r3 : List (S66)) (w : World) (al : Kd.C k64 w af aa.length aa) (an : aa.length ≤ ag) (ao : Kd.C k61 w ah ab.length ab) (ap : ab.length ≤ ai) (aq : Kd.C k66 w aj ae.length ae) (ar : ae.length ≤ ak) (h : tune_Own.f k aa ab ae = some (r1, r2, r3)) :
  Calls Try.prog 38 #[.agg #[.slice af aa.length ag, .slice ah ab.length ai, .slice aj ae.length ak]] w fun e w' => ∃ v0_ v1_ v2_ : Value, e = .returned (.agg #[v0_, v1_, v2_]) ∧ Kd.R k64 64 w' w.heap.size (fun _ => True) v0_ r1 ∧ Kd.R k61 61 w' w.heap.size (fun _ => True) v1_ r2 ∧ Kd.S k66 66 w' w.heap.size (fun _ => True) v2_ r3 ∧ Below w.heap.size w w' := (tune_Own.callsT k af ag aa ah ai ab aj ak ae r1 r2 r3 w al an ao ap aq ar h).mono fun _ _ ⟨v0_, v1_, v2_, he_, h0_, h1_, h2_, hb_⟩ => ⟨v0_, v1_, v2_, he_, h0_, h1_, k66t_S h2_, hb_⟩
def tune_folded_1.f (a0 : Int) : Option (Int × Int × Int × Int × Bool) := some (2, 0, 0, a0, true)
theorem tune_folded_1.calls (a0 : Int) (r1 : Int) (r2 : Int) (r3 : Int) (r4 : Int) (r5 : Bool) (w : World) (h : tune_folded_1.f a0 = some (r1, r2, r3, r4, r5)) :
  Calls Try.prog 67 #[.int .u64 a0] w fun e w' => e = .returned (.tuple #[.agg #[.int .i64 r1, .int .i64 r2, .int .i64 r3, .int .u64 r4], .bool r5]) ∧ Below w.heap.size w w' := by
 have hu61 := Try.underlying61;have HB := Aside0.mk (Below.refl w.heap.size w);have H : (some (2, 0, 0, a0, true)) = some (r1, r2, r3, r4, r5) := h;clear h;simp only [Option.some.injEq, Prod.mk.injEq] at H;obtain ⟨rfl, rfl, rfl, rfl, rfl⟩ := H;go_enter Try.func67, Try.ntmps67;go_wp2_with (first | ((with_reducible refine gate_dst (N := 2) rfl ?_); refine box_event ?hg (N := 2) ?hd (cs := #[.int .i64 0, .int .i64 0, .int .i64 0, .int .u64 0]) (t := 61) ?hr ?_; (case hd => rfl); (case hg => rfl); (case hr => first | (go_simp; done) | (go_simp; rfl)); intro ab hg w2 hbox hb; have aa := am hbox; have ae := kG HB hg; have af := kG HB hg; replace HB := kH HB hb; clear hb hbox hg; have Z3 := kz4 aa));refine bodyPost_ret (results_ct rfl _ _ ab 61 #[.int .i64 2, .int .i64 0, .int .i64 0, .int .u64 a0] (0, 0) _ rfl (kg aa) Try.underlying61 rfl (by kernel_rfl)) rfl ?_;exact ⟨er, kh HB⟩
def tune_folded_2.f (a0 : Int) (a1 : Int) : Option (Int × Int × Int × Int × Bool) := some (6, a0, 0, a1, true)
theorem tune_folded_2.calls (a0 : Int) (a1 : Int) (r1 : Int) (r2 : Int) (r3 : Int) (r4 : Int) (r5 : Bool) (w : World) (h : tune_folded_2.f a0 a1 = some (r1, r2, r3, r4, r5)) :
  Calls Try.prog 68 #[.int .i64 a0, .int .u64 a1] w fun e w' => e = .returned (.tuple #[.agg #[.int .i64 r1, .int .i64 r2, .int .i64 r3, .int .u64 r4], .bool r5]) ∧ Below w.heap.size w w' := by
 have hu61 := Try.underlying61;have HB := Aside0.mk (Below.refl w.heap.size w);have H : (some (6, a0, 0, a1, true)) = some (r1, r2, r3, r4, r5) := h;clear h;simp only [Option.some.injEq, Prod.mk.injEq] at H;obtain ⟨rfl, rfl, rfl, rfl, rfl⟩ := H;go_enter Try.func68, Try.ntmps68;go_wp2_with (first | ((with_reducible refine gate_dst (N := 4) rfl ?_); refine box_event ?hg (N := 4) ?hd (cs := #[.int .i64 0, .int .i64 0, .int .i64 0, .int .u64 0]) (t := 61) ?hr ?_; (case hd => rfl); (case hg => rfl); (case hr => first | (go_simp; done) | (go_simp; rfl)); intro ab hg w3 hbox hb; have aa := am hbox; have ae := kG HB hg; have af := kG HB hg; replace HB := kH HB hb; clear hb hbox hg; have Z4 := kz4 aa));refine bodyPost_ret (results_ct rfl _ _ ab 61 #[.int .i64 6, .int .i64 a0, .int .i64 0, .int .u64 a1] (0, 0) _ rfl (kg aa) Try.underlying61 rfl (by kernel_rfl)) rfl ?_;exact ⟨er, kh HB⟩
def field_mul.f (a0 : Int) (a1 : Int) (a2 : Int) : Option (Int) := if a0 = 0 then (none) else (some (Int.tmod (IntKind.u64.wrap (a1 * a2)) a0))
theorem field_mul.calls (a0 : Int) (a1 : Int) (a2 : Int) (r : Int) (w : World) (h : field_mul.f a0 a1 a2 = some r) :
  Calls Try.prog 85 #[.int .u64 a0, .int .u64 a1, .int .u64 a2] w fun e w' => e = .returned (.int .u64 r) ∧ Drawn0 w w' := by
 have H : (if a0 = 0 then (none) else (some (Int.tmod (IntKind.u64.wrap (a1 * a2)) a0))) = some r := h;clear h
 by_cases c4 : a0 = 0
 ·rw [if_pos c4] at H
  exact absurd H (by simp)
 rw [if_neg c4] at H;have aa := beq_eq_false_iff_ne.mpr c4;have ab := bne_iff_ne.mpr c4;obtain rfl := Option.some.inj H;go_enter Try.func85, Try.ntmps85;go_wp2;go_ret;exact ⟨et, by repeat (first | exact Drawn0.refl _ | apply Drawn0.step)⟩
def qma.f (a0 : Int) (a1 : Int) (a2 : Int) : Option (Int) := (field_mul.f a0 a1 a2).bind fun aa => (some aa)
theorem qma.calls (a0 : Int) (a1 : Int) (a2 : Int) (r : Int) (w : World) (h : qma.f a0 a1 a2 = some r) :
  Calls Try.prog 70 #[.int .u64 a0, .int .u64 a1, .int .u64 a2] w fun e w' => e = .returned (.int .u64 r) ∧ Drawn0 w w' := by
 have H : ((field_mul.f a0 a1 a2).bind fun aa => (some aa)) = some r := h;clear h;replace H := Option.bind_eq_some_iff.mp H;obtain ⟨aa, A40, H⟩ := H;(try dsimp only at H);have A4 := Aside0.mk A40;clear A40;obtain rfl := Option.some.inj H;go_enter Try.func70, Try.ntmps70;go_wp2_with (first | ((with_reducible refine gate_callee (f := 85) rfl ?_); refine goesL_ (some 10) rfl rfl Try.func85 (by kernel_rfl) rfl #[.int .u64 a0, .int .u64 a1, .int .u64 a2] rfl (by (try simp only [qM1, qM2, qM3]); first | done | rfl) ?_; (with_reducible refine (field_mul.calls a0 a1 a2 aa _ A4.out).mono ?_); rintro e w' ⟨rfl, ⟨nd, rfl⟩⟩; refine ⟨_, rfl, ?_⟩));go_ret;exact ⟨et, by repeat (first | exact Drawn0.refl _ | apply Drawn0.step)⟩
def qpa.f (a0 : Int) (a1 : Int) (a2 : Int) : Option (Int) := if (IntKind.u64.wrap (a1 + a2)) ≥ a0 then (some (IntKind.u64.wrap ((IntKind.u64.wrap (a1 + a2)) - a0))) else (some (IntKind.u64.wrap (a1 + a2)))
theorem qpa.calls (a0 : Int) (a1 : Int) (a2 : Int) (r : Int) (w : World) (h : qpa.f a0 a1 a2 = some r) :
  Calls Try.prog 83 #[.int .u64 a0, .int .u64 a1, .int .u64 a2] w fun e w' => e = .returned (.int .u64 r) ∧ Drawn0 w w' := by
 have H : (if (IntKind.u64.wrap (a1 + a2)) ≥ a0 then (some (IntKind.u64.wrap ((IntKind.u64.wrap (a1 + a2)) - a0))) else (some (IntKind.u64.wrap (a1 + a2)))) = some r := h;clear h
 by_cases c4 : (IntKind.u64.wrap (a1 + a2)) ≥ a0
 ·rw [if_pos c4] at H
  have aa := decide_eq_true c4;clear c4;obtain rfl := Option.some.inj H;go_enter Try.func83, Try.ntmps83;go_wp2;go_ret;exact ⟨et, by repeat (first | exact Drawn0.refl _ | apply Drawn0.step)⟩
 rw [if_neg c4] at H;have aa := decide_eq_false c4;clear c4;obtain rfl := Option.some.inj H;go_enter Try.func83, Try.ntmps83;go_wp2;go_ret;exact ⟨et, by repeat (first | exact Drawn0.refl _ | apply Drawn0.step)⟩
def qoa.f (a0 : Int) (a1 : Int) (a2 : Int) : Option (Int) := if a0 = 0 then (none) else ((qpa.f a0 a1 (Int.tmod (IntKind.u64.wrap (a0 - a2)) a0)).bind fun aa => (some aa))
theorem qoa.calls (a0 : Int) (a1 : Int) (a2 : Int) (r : Int) (w : World) (h : qoa.f a0 a1 a2 = some r) :
  Calls Try.prog 84 #[.int .u64 a0, .int .u64 a1, .int .u64 a2] w fun e w' => e = .returned (.int .u64 r) ∧ Drawn0 w w' := by
 have H : (if a0 = 0 then (none) else ((qpa.f a0 a1 (Int.tmod (IntKind.u64.wrap (a0 - a2)) a0)).bind fun aa => (some aa))) = some r := h;clear h
 by_cases c4 : a0 = 0
 ·rw [if_pos c4] at H
  exact absurd H (by simp)
 rw [if_neg c4] at H;have ab := beq_eq_false_iff_ne.mpr c4;have ae := bne_iff_ne.mpr c4;replace H := Option.bind_eq_some_iff.mp H;obtain ⟨aa, A50, H⟩ := H;(try dsimp only at H);have A5 := Aside0.mk A50;clear A50;obtain rfl := Option.some.inj H;go_enter Try.func84, Try.ntmps84;go_wp2_with (first | ((with_reducible refine gate_callee (f := 83) rfl ?_); refine goesL_ (some 14) rfl rfl Try.func83 (by kernel_rfl) rfl #[.int .u64 a0, .int .u64 a1, .int .u64 (Int.tmod (IntKind.u64.wrap (a0 - a2)) a0)] rfl (by (try simp only [qM1, qM2, qM3]); first | done | rfl) ?_; (with_reducible refine (qpa.calls a0 a1 (Int.tmod (IntKind.u64.wrap (a0 - a2)) a0) aa _ A5.out).mono ?_); rintro e w' ⟨rfl, ⟨nd, rfl⟩⟩; refine ⟨_, rfl, ?_⟩));go_ret;exact ⟨et, by repeat (first | exact Drawn0.refl _ | apply Drawn0.step)⟩
theorem qoa.callsB (a0 : Int) (a1 : Int) (a2 : Int) (r : Int) (w : World) (h : qoa.f a0 a1 a2 = some r) :
  Calls Try.prog 84 #[.int .u64 a0, .int .u64 a1, .int .u64 a2] w fun e w' => e = .returned (.int .u64 r) ∧ Below w.heap.size w w' := (qoa.calls a0 a1 a2 r w h).mono fun _ _ h_ => ⟨h_.1, h_.2.below⟩
def circ_Of.f (a0 : Int) (ae : Int) (aa : Int) (ab : Int) (af : Int) (l2 : List Int) (l3 : List Int) : Option (Int) := if ae = 1 then (if 0 ≤ aa then (if aa < (l2.length : Int) then (some (rd l2 aa)) else (none)) else (none)) else (if ae = 2 then (some af) else (if ae = 3 then (if 0 ≤ aa then (if aa < (l3.length : Int) then (if 0 ≤ ab then (if ab < (l3.length : Int) then ((qpa.f a0 (rd l3 aa) (rd l3 ab)).bind fun ag => (some ag)) else (none)) else (none)) else (none)) else (none)) else (if ae = 4 then (if 0 ≤ aa then (if aa < (l3.length : Int) then (if 0 ≤ ab then (if ab < (l3.length : Int) then ((qoa.f a0 (rd l3 aa) (rd l3 ab)).bind fun ah => (some ah)) else (none)) else (none)) else (none)) else (none)) else (if ae = 5 then (if 0 ≤ aa then (if aa < (l3.length : Int) then (if 0 ≤ ab then (if ab < (l3.length : Int) then ((qma.f a0 (rd l3 aa) (rd l3 ab)).bind fun ai => (some ai)) else (none)) else (none)) else (none)) else (none)) else (if 0 ≤ aa then (if aa < (l3.length : Int) then ((qma.f a0 (rd l3 aa) af).bind fun aj => (some aj)) else (none)) else (none))))))
theorem circ_Of.calls (a0 : Int) (af : Int) (aa : Int) (ab : Int) (au : Int) (A2 : Option Addr) (c2 : Nat) (l2 : List Int) (A3 : Option Addr) (c3 : Nat) (l3 : List Int) (r : Int) (w : World) (hr2 : Kd.C (Kd.int .u64) w A2 l2.length l2) (hc2 : l2.length ≤ c2) (hr3 : Kd.C (Kd.int .u64) w A3 l3.length l3) (hc3 : l3.length ≤ c3) (h : circ_Of.f a0 af aa ab au l2 l3 = some r) :
  Calls Try.prog 69 #[.int .u64 a0, .agg #[.int .i64 af, .int .i64 aa, .int .i64 ab, .int .u64 au], .slice A2 l2.length c2, .slice A3 l3.length c3] w fun e w' => e = .returned (.int .u64 r) ∧ Below w.heap.size w w' := by
 have hu61 := Try.underlying61;have HR2 := Aside0.mk hr2;have HC2 := Aside0.mk hc2;clear hr2 hc2;have HR3 := Aside0.mk hr3;have HC3 := Aside0.mk hc3;clear hr3 hc3;have HB := Aside0.mk (Below.refl w.heap.size w);have H : (if af = 1 then (if 0 ≤ aa then (if aa < (l2.length : Int) then (some (rd l2 aa)) else (none)) else (none)) else (if af = 2 then (some au) else (if af = 3 then (if 0 ≤ aa then (if aa < (l3.length : Int) then (if 0 ≤ ab then (if ab < (l3.length : Int) then ((qpa.f a0 (rd l3 aa) (rd l3 ab)).bind fun aY => (some aY)) else (none)) else (none)) else (none)) else (none)) else (if af = 4 then (if 0 ≤ aa then (if aa < (l3.length : Int) then (if 0 ≤ ab then (if ab < (l3.length : Int) then ((qoa.f a0 (rd l3 aa) (rd l3 ab)).bind fun aZ => (some aZ)) else (none)) else (none)) else (none)) else (none)) else (if af = 5 then (if 0 ≤ aa then (if aa < (l3.length : Int) then (if 0 ≤ ab then (if ab < (l3.length : Int) then ((qma.f a0 (rd l3 aa) (rd l3 ab)).bind fun ba => (some ba)) else (none)) else (none)) else (none)) else (none)) else (if 0 ≤ aa then (if aa < (l3.length : Int) then ((qma.f a0 (rd l3 aa) au).bind fun bb => (some bb)) else (none)) else (none))))))) = some r := h;clear h
 by_cases c5 : af = 1
 ·rw [if_pos c5] at H
  have bA := beq_iff_eq.mpr c5;have bB := bne_eq_false_iff_eq.mpr c5;clear c5
  by_cases c6 : 0 ≤ aa
  rotate_left
  ·rw [if_neg c6] at H
   exact absurd H (by simp)
  rw [if_pos c6] at H;have bQ := decide_eq_true c6;clear c6
  by_cases c7 : aa < (l2.length : Int)
  rotate_left
  ·rw [if_neg c7] at H
   exact absurd H (by simp)
  rw [if_pos c7] at H;have bR := decide_eq_true c7;clear c7;obtain rfl := Option.some.inj H;go_enter Try.func69, Try.ntmps69;go_wp2_with (first | ((with_reducible refine gate_dst (N := 5) rfl ?_); refine box_event ?hg (N := 5) ?hd (cs := #[.int .i64 af, .int .i64 aa, .int .i64 ab, .int .u64 au]) (t := 61) ?hr ?_; (case hd => rfl); (case hg => rfl); (case hr => first | (go_simp; done) | (go_simp; rfl)); intro ap hg w8 hbox hb; have ae := am hbox; have aq := kG HB hg; have ar := kG HB hg; replace HB := kH HB hb; clear hb hbox hg; have Z9 := kz4 ae; have av : 0 ≤ (aa : Int) := od; have aw : aa < (l2.length : Int) := od; obtain ⟨bk, bc, ag⟩ := Kd.at_int HR2.out aa av aw; cases bc; replace ag := (HB.out.cell (World.block_lt_of_cell? w _ ag)).trans ag; replace av := eq_true av; replace aw := eq_true aw))
  repeat (go_quiet (first | ((with_reducible refine gate_dst (N := 5) rfl ?_); refine box_event ?hg (N := 5) ?hd (cs := #[.int .i64 af, .int .i64 aa, .int .i64 ab, .int .u64 au]) (t := 61) ?hr ?_; (case hd => rfl); (case hg => rfl); (case hr => first | (go_simp; done) | (go_simp; rfl)); intro ap hg w8 hbox hb; have ae := am hbox; have aq := kG HB hg; have ar := kG HB hg; replace HB := kH HB hb; clear hb hbox hg; have Z9 := kz4 ae; have av : 0 ≤ (aa : Int) := od; have aw : aa < (l2.length : Int) := od; obtain ⟨bk, bc, ag⟩ := Kd.at_int HR2.out aa av aw; cases bc; replace ag := (HB.out.cell (World.block_lt_of_cell? w _ ag)).trans ag; replace av := eq_true av; replace aw := eq_true aw)); try go_wp2_with (first | ((with_reducible refine gate_dst (N := 5) rfl ?_); refine box_event ?hg (N := 5) ?hd (cs := #[.int .i64 af, .int .i64 aa, .int .i64 ab, .int .u64 au]) (t := 61) ?hr ?_; (case hd => rfl); (case hg => rfl); (case hr => first | (go_simp; done) | (go_simp; rfl)); intro ap hg w8 hbox hb; have ae := am hbox; have aq := kG HB hg; have ar := kG HB hg; replace HB := kH HB hb; clear hb hbox hg; have Z9 := kz4 ae; have av : 0 ≤ (aa : Int) := od; have aw : aa < (l2.length : Int) := od; obtain ⟨bk, bc, ag⟩ := Kd.at_int HR2.out aa av aw; cases bc; replace ag := (HB.out.cell (World.block_lt_of_cell? w _ ag)).trans ag; replace av := eq_true av; replace aw := eq_true aw)))
  go_ret;exact ⟨er, kh HB⟩
 rw [if_neg c5] at H;have bA := beq_eq_false_iff_ne.mpr c5;have bB := bne_iff_ne.mpr c5
 by_cases c10 : af = 2
 ·rw [if_pos c10] at H
  have bm := beq_iff_eq.mpr c10;have bn := bne_eq_false_iff_eq.mpr c10;clear c10;obtain rfl := Option.some.inj H;go_enter Try.func69, Try.ntmps69;go_wp2_with (first | ((with_reducible refine gate_dst (N := 5) rfl ?_); refine box_event ?hg (N := 5) ?hd (cs := #[.int .i64 af, .int .i64 aa, .int .i64 ab, .int .u64 au]) (t := 61) ?hr ?_; (case hd => rfl); (case hg => rfl); (case hr => first | (go_simp; done) | (go_simp; rfl)); intro ap hg w11 hbox hb; have ae := am hbox; have aq := kG HB hg; have ar := kG HB hg; replace HB := kH HB hb; clear hb hbox hg; have Z12 := kz4 ae))
  repeat (go_quiet (first | ((with_reducible refine gate_dst (N := 5) rfl ?_); refine box_event ?hg (N := 5) ?hd (cs := #[.int .i64 af, .int .i64 aa, .int .i64 ab, .int .u64 au]) (t := 61) ?hr ?_; (case hd => rfl); (case hg => rfl); (case hr => first | (go_simp; done) | (go_simp; rfl)); intro ap hg w11 hbox hb; have ae := am hbox; have aq := kG HB hg; have ar := kG HB hg; replace HB := kH HB hb; clear hb hbox hg; have Z12 := kz4 ae)); try go_wp2_with (first | ((with_reducible refine gate_dst (N := 5) rfl ?_); refine box_event ?hg (N := 5) ?hd (cs := #[.int .i64 af, .int .i64 aa, .int .i64 ab, .int .u64 au]) (t := 61) ?hr ?_; (case hd => rfl); (case hg => rfl); (case hr => first | (go_simp; done) | (go_simp; rfl)); intro ap hg w11 hbox hb; have ae := am hbox; have aq := kG HB hg; have ar := kG HB hg; replace HB := kH HB hb; clear hb hbox hg; have Z12 := kz4 ae)))
  go_ret;exact ⟨er, kh HB⟩
 rw [if_neg c10] at H;have bm := beq_eq_false_iff_ne.mpr c10;have bn := bne_iff_ne.mpr c10
 by_cases c13 : af = 3
 ·rw [if_pos c13] at H
  have bo := beq_iff_eq.mpr c13;have bp := bne_eq_false_iff_eq.mpr c13;clear c13
  by_cases c14 : 0 ≤ aa
  rotate_left
  ·rw [if_neg c14] at H
   exact absurd H (by simp)
  rw [if_pos c14] at H;have bC := decide_eq_true c14;clear c14
  by_cases c15 : aa < (l3.length : Int)
  rotate_left
  ·rw [if_neg c15] at H
   exact absurd H (by simp)
  rw [if_pos c15] at H;have bD := decide_eq_true c15;clear c15
  by_cases c16 : 0 ≤ ab
  rotate_left
  ·rw [if_neg c16] at H
   exact absurd H (by simp)
  rw [if_pos c16] at H;have bE := decide_eq_true c16;clear c16
  by_cases c17 : ab < (l3.length : Int)
  rotate_left
  ·rw [if_neg c17] at H
   exact absurd H (by simp)
  rw [if_pos c17] at H;have bF := decide_eq_true c17;clear c17;replace H := Option.bind_eq_some_iff.mp H;obtain ⟨aY, bq, H⟩ := H;(try dsimp only at H);have A18 := Aside0.mk bq;clear bq;obtain rfl := Option.some.inj H;go_enter Try.func69, Try.ntmps69;go_wp2_with (first | ((with_reducible refine gate_dst (N := 5) rfl ?_); refine box_event ?hg (N := 5) ?hd (cs := #[.int .i64 af, .int .i64 aa, .int .i64 ab, .int .u64 au]) (t := 61) ?hr ?_; (case hd => rfl); (case hg => rfl); (case hr => first | (go_simp; done) | (go_simp; rfl)); intro ap hg w19 hbox hb; have ae := am hbox; have aq := kG HB hg; have ar := kG HB hg; replace HB := kH HB hb; clear hb hbox hg; have Z20 := kz4 ae; have ax : 0 ≤ (aa : Int) := od; have ay : aa < (l3.length : Int) := od; obtain ⟨aQ, bd, ah⟩ := Kd.at_int HR3.out aa ax ay; cases bd; replace ah := (HB.out.cell (World.block_lt_of_cell? w _ ah)).trans ah; replace ax := eq_true ax; replace ay := eq_true ay; have az : 0 ≤ (ab : Int) := od; have aA : ab < (l3.length : Int) := od; obtain ⟨aT, be, ai⟩ := Kd.at_int HR3.out ab az aA; obtain rfl : aQ = aT := (by injection be); replace ai := (HB.out.cell (World.block_lt_of_cell? w _ ai)).trans ai; replace az := eq_true az; replace aA := eq_true aA) | (go_at_call 83; (with_reducible refine (qpa.calls a0 (rd l3 aa) (rd l3 ab) aY _ A18.out).mono ?_); rintro e w' ⟨rfl, ⟨nd, rfl⟩⟩; (try first | exact ⟨rfl, _, World.drewN_drewN _ _ _⟩ | exact ⟨rfl, _, Eq.trans (World.drewN_drewN _ _ _) (congrArg (World.drewN _) (Nat.add_assoc _ _ _))⟩)))
  repeat (go_quiet (first | ((with_reducible refine gate_dst (N := 5) rfl ?_); refine box_event ?hg (N := 5) ?hd (cs := #[.int .i64 af, .int .i64 aa, .int .i64 ab, .int .u64 au]) (t := 61) ?hr ?_; (case hd => rfl); (case hg => rfl); (case hr => first | (go_simp; done) | (go_simp; rfl)); intro ap hg w19 hbox hb; have ae := am hbox; have aq := kG HB hg; have ar := kG HB hg; replace HB := kH HB hb; clear hb hbox hg; have Z20 := kz4 ae; have ax : 0 ≤ (aa : Int) := od; have ay : aa < (l3.length : Int) := od; obtain ⟨aQ, bd, ah⟩ := Kd.at_int HR3.out aa ax ay; cases bd; replace ah := (HB.out.cell (World.block_lt_of_cell? w _ ah)).trans ah; replace ax := eq_true ax; replace ay := eq_true ay; have az : 0 ≤ (ab : Int) := od; have aA : ab < (l3.length : Int) := od; obtain ⟨aT, be, ai⟩ := Kd.at_int HR3.out ab az aA; obtain rfl : aQ = aT := (by injection be); replace ai := (HB.out.cell (World.block_lt_of_cell? w _ ai)).trans ai; replace az := eq_true az; replace aA := eq_true aA) | (go_at_call 83; (with_reducible refine (qpa.calls a0 (rd l3 aa) (rd l3 ab) aY _ A18.out).mono ?_); rintro e w' ⟨rfl, ⟨nd, rfl⟩⟩; (try first | exact ⟨rfl, _, World.drewN_drewN _ _ _⟩ | exact ⟨rfl, _, Eq.trans (World.drewN_drewN _ _ _) (congrArg (World.drewN _) (Nat.add_assoc _ _ _))⟩))); try go_wp2_with (first | ((with_reducible refine gate_dst (N := 5) rfl ?_); refine box_event ?hg (N := 5) ?hd (cs := #[.int .i64 af, .int .i64 aa, .int .i64 ab, .int .u64 au]) (t := 61) ?hr ?_; (case hd => rfl); (case hg => rfl); (case hr => first | (go_simp; done) | (go_simp; rfl)); intro ap hg w19 hbox hb; have ae := am hbox; have aq := kG HB hg; have ar := kG HB hg; replace HB := kH HB hb; clear hb hbox hg; have Z20 := kz4 ae; have ax : 0 ≤ (aa : Int) := od; have ay : aa < (l3.length : Int) := od; obtain ⟨aQ, bd, ah⟩ := Kd.at_int HR3.out aa ax ay; cases bd; replace ah := (HB.out.cell (World.block_lt_of_cell? w _ ah)).trans ah; replace ax := eq_true ax; replace ay := eq_true ay; have az : 0 ≤ (ab : Int) := od; have aA : ab < (l3.length : Int) := od; obtain ⟨aT, be, ai⟩ := Kd.at_int HR3.out ab az aA; obtain rfl : aQ = aT := (by injection be); replace ai := (HB.out.cell (World.block_lt_of_cell? w _ ai)).trans ai; replace az := eq_true az; replace aA := eq_true aA) | (go_at_call 83; (with_reducible refine (qpa.calls a0 (rd l3 aa) (rd l3 ab) aY _ A18.out).mono ?_); rintro e w' ⟨rfl, ⟨nd, rfl⟩⟩; (try first | exact ⟨rfl, _, World.drewN_drewN _ _ _⟩ | exact ⟨rfl, _, Eq.trans (World.drewN_drewN _ _ _) (congrArg (World.drewN _) (Nat.add_assoc _ _ _))⟩))))
  go_ret;exact ⟨er, kh HB⟩
 rw [if_neg c13] at H;have bo := beq_eq_false_iff_ne.mpr c13;have bp := bne_iff_ne.mpr c13
 by_cases c21 : af = 4
 ·rw [if_pos c21] at H
  have br := beq_iff_eq.mpr c21;have bt := bne_eq_false_iff_eq.mpr c21;clear c21
  by_cases c22 : 0 ≤ aa
  rotate_left
  ·rw [if_neg c22] at H
   exact absurd H (by simp)
  rw [if_pos c22] at H;have bG := decide_eq_true c22;clear c22
  by_cases c23 : aa < (l3.length : Int)
  rotate_left
  ·rw [if_neg c23] at H
   exact absurd H (by simp)
  rw [if_pos c23] at H;have bH := decide_eq_true c23;clear c23
  by_cases c24 : 0 ≤ ab
  rotate_left
  ·rw [if_neg c24] at H
   exact absurd H (by simp)
  rw [if_pos c24] at H;have bI := decide_eq_true c24;clear c24
  by_cases c25 : ab < (l3.length : Int)
  rotate_left
  ·rw [if_neg c25] at H
   exact absurd H (by simp)
  rw [if_pos c25] at H;have bJ := decide_eq_true c25;clear c25;replace H := Option.bind_eq_some_iff.mp H;obtain ⟨aZ, bu, H⟩ := H;(try dsimp only at H);have A26 := Aside0.mk bu;clear bu;obtain rfl := Option.some.inj H;go_enter Try.func69, Try.ntmps69;go_wp2_with (first | ((with_reducible refine gate_dst (N := 5) rfl ?_); refine box_event ?hg (N := 5) ?hd (cs := #[.int .i64 af, .int .i64 aa, .int .i64 ab, .int .u64 au]) (t := 61) ?hr ?_; (case hd => rfl); (case hg => rfl); (case hr => first | (go_simp; done) | (go_simp; rfl)); intro ap hg w27 hbox hb; have ae := am hbox; have aq := kG HB hg; have ar := kG HB hg; replace HB := kH HB hb; clear hb hbox hg; have Z28 := kz4 ae; have aC : 0 ≤ (aa : Int) := od; have aD : aa < (l3.length : Int) := od; obtain ⟨aU, bf, aj⟩ := Kd.at_int HR3.out aa aC aD; cases bf; replace aj := (HB.out.cell (World.block_lt_of_cell? w _ aj)).trans aj; replace aC := eq_true aC; replace aD := eq_true aD; have aE : 0 ≤ (ab : Int) := od; have aG : ab < (l3.length : Int) := od; obtain ⟨aV, bg, ak⟩ := Kd.at_int HR3.out ab aE aG; obtain rfl : aU = aV := (by injection bg); replace ak := (HB.out.cell (World.block_lt_of_cell? w _ ak)).trans ak; replace aE := eq_true aE; replace aG := eq_true aG) | (go_at_call 84; (with_reducible refine (qoa.calls a0 (rd l3 aa) (rd l3 ab) aZ _ A26.out).mono ?_); rintro e w' ⟨rfl, ⟨nd, rfl⟩⟩; (try first | exact ⟨rfl, _, World.drewN_drewN _ _ _⟩ | exact ⟨rfl, _, Eq.trans (World.drewN_drewN _ _ _) (congrArg (World.drewN _) (Nat.add_assoc _ _ _))⟩)))
  repeat (go_quiet (first | ((with_reducible refine gate_dst (N := 5) rfl ?_); refine box_event ?hg (N := 5) ?hd (cs := #[.int .i64 af, .int .i64 aa, .int .i64 ab, .int .u64 au]) (t := 61) ?hr ?_; (case hd => rfl); (case hg => rfl); (case hr => first | (go_simp; done) | (go_simp; rfl)); intro ap hg w27 hbox hb; have ae := am hbox; have aq := kG HB hg; have ar := kG HB hg; replace HB := kH HB hb; clear hb hbox hg; have Z28 := kz4 ae; have aC : 0 ≤ (aa : Int) := od; have aD : aa < (l3.length : Int) := od; obtain ⟨aU, bf, aj⟩ := Kd.at_int HR3.out aa aC aD; cases bf; replace aj := (HB.out.cell (World.block_lt_of_cell? w _ aj)).trans aj; replace aC := eq_true aC; replace aD := eq_true aD; have aE : 0 ≤ (ab : Int) := od; have aG : ab < (l3.length : Int) := od; obtain ⟨aV, bg, ak⟩ := Kd.at_int HR3.out ab aE aG; obtain rfl : aU = aV := (by injection bg); replace ak := (HB.out.cell (World.block_lt_of_cell? w _ ak)).trans ak; replace aE := eq_true aE; replace aG := eq_true aG) | (go_at_call 84; (with_reducible refine (qoa.calls a0 (rd l3 aa) (rd l3 ab) aZ _ A26.out).mono ?_); rintro e w' ⟨rfl, ⟨nd, rfl⟩⟩; (try first | exact ⟨rfl, _, World.drewN_drewN _ _ _⟩ | exact ⟨rfl, _, Eq.trans (World.drewN_drewN _ _ _) (congrArg (World.drewN _) (Nat.add_assoc _ _ _))⟩))); try go_wp2_with (first | ((with_reducible refine gate_dst (N := 5) rfl ?_); refine box_event ?hg (N := 5) ?hd (cs := #[.int .i64 af, .int .i64 aa, .int .i64 ab, .int .u64 au]) (t := 61) ?hr ?_; (case hd => rfl); (case hg => rfl); (case hr => first | (go_simp; done) | (go_simp; rfl)); intro ap hg w27 hbox hb; have ae := am hbox; have aq := kG HB hg; have ar := kG HB hg; replace HB := kH HB hb; clear hb hbox hg; have Z28 := kz4 ae; have aC : 0 ≤ (aa : Int) := od; have aD : aa < (l3.length : Int) := od; obtain ⟨aU, bf, aj⟩ := Kd.at_int HR3.out aa aC aD; cases bf; replace aj := (HB.out.cell (World.block_lt_of_cell? w _ aj)).trans aj; replace aC := eq_true aC; replace aD := eq_true aD; have aE : 0 ≤ (ab : Int) := od; have aG : ab < (l3.length : Int) := od; obtain ⟨aV, bg, ak⟩ := Kd.at_int HR3.out ab aE aG; obtain rfl : aU = aV := (by injection bg); replace ak := (HB.out.cell (World.block_lt_of_cell? w _ ak)).trans ak; replace aE := eq_true aE; replace aG := eq_true aG) | (go_at_call 84; (with_reducible refine (qoa.calls a0 (rd l3 aa) (rd l3 ab) aZ _ A26.out).mono ?_); rintro e w' ⟨rfl, ⟨nd, rfl⟩⟩; (try first | exact ⟨rfl, _, World.drewN_drewN _ _ _⟩ | exact ⟨rfl, _, Eq.trans (World.drewN_drewN _ _ _) (congrArg (World.drewN _) (Nat.add_assoc _ _ _))⟩))))
  go_ret;exact ⟨er, kh HB⟩
 rw [if_neg c21] at H;have br := beq_eq_false_iff_ne.mpr c21;have bt := bne_iff_ne.mpr c21
 by_cases c29 : af = 5
 rotate_left
 ·rw [if_neg c29] at H
  have bv := beq_eq_false_iff_ne.mpr c29;have bw := bne_iff_ne.mpr c29
  by_cases c37 : 0 ≤ aa
  rotate_left
  ·rw [if_neg c37] at H
   exact absurd H (by simp)
  rw [if_pos c37] at H;have bK := decide_eq_true c37;clear c37
  by_cases c38 : aa < (l3.length : Int)
  rotate_left
  ·rw [if_neg c38] at H
   exact absurd H (by simp)
  rw [if_pos c38] at H;have bL := decide_eq_true c38;clear c38;replace H := Option.bind_eq_some_iff.mp H;obtain ⟨bb, bx, H⟩ := H;(try dsimp only at H);have A39 := Aside0.mk bx;clear bx;obtain rfl := Option.some.inj H;go_enter Try.func69, Try.ntmps69;go_wp2_with (first | ((with_reducible refine gate_dst (N := 5) rfl ?_); refine box_event ?hg (N := 5) ?hd (cs := #[.int .i64 af, .int .i64 aa, .int .i64 ab, .int .u64 au]) (t := 61) ?hr ?_; (case hd => rfl); (case hg => rfl); (case hr => first | (go_simp; done) | (go_simp; rfl)); intro ap hg w40 hbox hb; have ae := am hbox; have aq := kG HB hg; have ar := kG HB hg; replace HB := kH HB hb; clear hb hbox hg; have Z41 := kz4 ae; have aH : 0 ≤ (aa : Int) := od; have aI : aa < (l3.length : Int) := od; obtain ⟨bl, bh, al⟩ := Kd.at_int HR3.out aa aH aI; cases bh; replace al := (HB.out.cell (World.block_lt_of_cell? w _ al)).trans al; replace aH := eq_true aH; replace aI := eq_true aI) | (go_at_call 70; (with_reducible refine (qma.calls a0 (rd l3 aa) au bb _ A39.out).mono ?_); rintro e w' ⟨rfl, ⟨nd, rfl⟩⟩; (try first | exact ⟨rfl, _, World.drewN_drewN _ _ _⟩ | exact ⟨rfl, _, Eq.trans (World.drewN_drewN _ _ _) (congrArg (World.drewN _) (Nat.add_assoc _ _ _))⟩)))
  repeat (go_quiet (first | ((with_reducible refine gate_dst (N := 5) rfl ?_); refine box_event ?hg (N := 5) ?hd (cs := #[.int .i64 af, .int .i64 aa, .int .i64 ab, .int .u64 au]) (t := 61) ?hr ?_; (case hd => rfl); (case hg => rfl); (case hr => first | (go_simp; done) | (go_simp; rfl)); intro ap hg w40 hbox hb; have ae := am hbox; have aq := kG HB hg; have ar := kG HB hg; replace HB := kH HB hb; clear hb hbox hg; have Z41 := kz4 ae; have aH : 0 ≤ (aa : Int) := od; have aI : aa < (l3.length : Int) := od; obtain ⟨bl, bh, al⟩ := Kd.at_int HR3.out aa aH aI; cases bh; replace al := (HB.out.cell (World.block_lt_of_cell? w _ al)).trans al; replace aH := eq_true aH; replace aI := eq_true aI) | (go_at_call 70; (with_reducible refine (qma.calls a0 (rd l3 aa) au bb _ A39.out).mono ?_); rintro e w' ⟨rfl, ⟨nd, rfl⟩⟩; (try first | exact ⟨rfl, _, World.drewN_drewN _ _ _⟩ | exact ⟨rfl, _, Eq.trans (World.drewN_drewN _ _ _) (congrArg (World.drewN _) (Nat.add_assoc _ _ _))⟩))); try go_wp2_with (first | ((with_reducible refine gate_dst (N := 5) rfl ?_); refine box_event ?hg (N := 5) ?hd (cs := #[.int .i64 af, .int .i64 aa, .int .i64 ab, .int .u64 au]) (t := 61) ?hr ?_; (case hd => rfl); (case hg => rfl); (case hr => first | (go_simp; done) | (go_simp; rfl)); intro ap hg w40 hbox hb; have ae := am hbox; have aq := kG HB hg; have ar := kG HB hg; replace HB := kH HB hb; clear hb hbox hg; have Z41 := kz4 ae; have aH : 0 ≤ (aa : Int) := od; have aI : aa < (l3.length : Int) := od; obtain ⟨bl, bh, al⟩ := Kd.at_int HR3.out aa aH aI; cases bh; replace al := (HB.out.cell (World.block_lt_of_cell? w _ al)).trans al; replace aH := eq_true aH; replace aI := eq_true aI) | (go_at_call 70; (with_reducible refine (qma.calls a0 (rd l3 aa) au bb _ A39.out).mono ?_); rintro e w' ⟨rfl, ⟨nd, rfl⟩⟩; (try first | exact ⟨rfl, _, World.drewN_drewN _ _ _⟩ | exact ⟨rfl, _, Eq.trans (World.drewN_drewN _ _ _) (congrArg (World.drewN _) (Nat.add_assoc _ _ _))⟩))))
  go_ret;exact ⟨er, kh HB⟩
 rw [if_pos c29] at H;have bv := beq_iff_eq.mpr c29;have bw := bne_eq_false_iff_eq.mpr c29;clear c29
 by_cases c30 : 0 ≤ aa
 rotate_left
 ·rw [if_neg c30] at H
  exact absurd H (by simp)
 rw [if_pos c30] at H;have bM := decide_eq_true c30;clear c30
 by_cases c31 : aa < (l3.length : Int)
 rotate_left
 ·rw [if_neg c31] at H
  exact absurd H (by simp)
 rw [if_pos c31] at H;have bN := decide_eq_true c31;clear c31
 by_cases c32 : 0 ≤ ab
 rotate_left
 ·rw [if_neg c32] at H
  exact absurd H (by simp)
 rw [if_pos c32] at H;have bO := decide_eq_true c32;clear c32
 by_cases c33 : ab < (l3.length : Int)
 rotate_left
 ·rw [if_neg c33] at H
  exact absurd H (by simp)
 rw [if_pos c33] at H;have bP := decide_eq_true c33;clear c33;replace H := Option.bind_eq_some_iff.mp H;obtain ⟨ba, bz, H⟩ := H;(try dsimp only at H);have A34 := Aside0.mk bz;clear bz;obtain rfl := Option.some.inj H;go_enter Try.func69, Try.ntmps69;go_wp2_with (first | ((with_reducible refine gate_dst (N := 5) rfl ?_); refine box_event ?hg (N := 5) ?hd (cs := #[.int .i64 af, .int .i64 aa, .int .i64 ab, .int .u64 au]) (t := 61) ?hr ?_; (case hd => rfl); (case hg => rfl); (case hr => first | (go_simp; done) | (go_simp; rfl)); intro ap hg w35 hbox hb; have ae := am hbox; have aq := kG HB hg; have ar := kG HB hg; replace HB := kH HB hb; clear hb hbox hg; have Z36 := kz4 ae; have aJ : 0 ≤ (aa : Int) := od; have aK : aa < (l3.length : Int) := od; obtain ⟨aW, bi, an⟩ := Kd.at_int HR3.out aa aJ aK; cases bi; replace an := (HB.out.cell (World.block_lt_of_cell? w _ an)).trans an; replace aJ := eq_true aJ; replace aK := eq_true aK; have aM : 0 ≤ (ab : Int) := od; have aN : ab < (l3.length : Int) := od; obtain ⟨aX, bj, ao⟩ := Kd.at_int HR3.out ab aM aN; obtain rfl : aW = aX := (by injection bj); replace ao := (HB.out.cell (World.block_lt_of_cell? w _ ao)).trans ao; replace aM := eq_true aM; replace aN := eq_true aN) | (go_at_call 70; (with_reducible refine (qma.calls a0 (rd l3 aa) (rd l3 ab) ba _ A34.out).mono ?_); rintro e w' ⟨rfl, ⟨nd, rfl⟩⟩; (try first | exact ⟨rfl, _, World.drewN_drewN _ _ _⟩ | exact ⟨rfl, _, Eq.trans (World.drewN_drewN _ _ _) (congrArg (World.drewN _) (Nat.add_assoc _ _ _))⟩)))
 repeat (go_quiet (first | ((with_reducible refine gate_dst (N := 5) rfl ?_); refine box_event ?hg (N := 5) ?hd (cs := #[.int .i64 af, .int .i64 aa, .int .i64 ab, .int .u64 au]) (t := 61) ?hr ?_; (case hd => rfl); (case hg => rfl); (case hr => first | (go_simp; done) | (go_simp; rfl)); intro ap hg w35 hbox hb; have ae := am hbox; have aq := kG HB hg; have ar := kG HB hg; replace HB := kH HB hb; clear hb hbox hg; have Z36 := kz4 ae; have aJ : 0 ≤ (aa : Int) := od; have aK : aa < (l3.length : Int) := od; obtain ⟨aW, bi, an⟩ := Kd.at_int HR3.out aa aJ aK; cases bi; replace an := (HB.out.cell (World.block_lt_of_cell? w _ an)).trans an; replace aJ := eq_true aJ; replace aK := eq_true aK; have aM : 0 ≤ (ab : Int) := od; have aN : ab < (l3.length : Int) := od; obtain ⟨aX, bj, ao⟩ := Kd.at_int HR3.out ab aM aN; obtain rfl : aW = aX := (by injection bj); replace ao := (HB.out.cell (World.block_lt_of_cell? w _ ao)).trans ao; replace aM := eq_true aM; replace aN := eq_true aN) | (go_at_call 70; (with_reducible refine (qma.calls a0 (rd l3 aa) (rd l3 ab) ba _ A34.out).mono ?_); rintro e w' ⟨rfl, ⟨nd, rfl⟩⟩; (try first | exact ⟨rfl, _, World.drewN_drewN _ _ _⟩ | exact ⟨rfl, _, Eq.trans (World.drewN_drewN _ _ _) (congrArg (World.drewN _) (Nat.add_assoc _ _ _))⟩))); try go_wp2_with (first | ((with_reducible refine gate_dst (N := 5) rfl ?_); refine box_event ?hg (N := 5) ?hd (cs := #[.int .i64 af, .int .i64 aa, .int .i64 ab, .int .u64 au]) (t := 61) ?hr ?_; (case hd => rfl); (case hg => rfl); (case hr => first | (go_simp; done) | (go_simp; rfl)); intro ap hg w35 hbox hb; have ae := am hbox; have aq := kG HB hg; have ar := kG HB hg; replace HB := kH HB hb; clear hb hbox hg; have Z36 := kz4 ae; have aJ : 0 ≤ (aa : Int) := od; have aK : aa < (l3.length : Int) := od; obtain ⟨aW, bi, an⟩ := Kd.at_int HR3.out aa aJ aK; cases bi; replace an := (HB.out.cell (World.block_lt_of_cell? w _ an)).trans an; replace aJ := eq_true aJ; replace aK := eq_true aK; have aM : 0 ≤ (ab : Int) := od; have aN : ab < (l3.length : Int) := od; obtain ⟨aX, bj, ao⟩ := Kd.at_int HR3.out ab aM aN; obtain rfl : aW = aX := (by injection bj); replace ao := (HB.out.cell (World.block_lt_of_cell? w _ ao)).trans ao; replace aM := eq_true aM; replace aN := eq_true aN) | (go_at_call 70; (with_reducible refine (qma.calls a0 (rd l3 aa) (rd l3 ab) ba _ A34.out).mono ?_); rintro e w' ⟨rfl, ⟨nd, rfl⟩⟩; (try first | exact ⟨rfl, _, World.drewN_drewN _ _ _⟩ | exact ⟨rfl, _, Eq.trans (World.drewN_drewN _ _ _) (congrArg (World.drewN _) (Nat.add_assoc _ _ _))⟩))))
 go_ret;exact ⟨er, kh HB⟩
mutual
def tune_folded.j0 : Nat → Int → List (S61) → Bool → Int → Int → Int → Int → Option (Int × Int × Int × Int × Bool)
 | 0, _, _, _, _, _, _, _ => none
 | k + 1, x0, x1, x20, ae, aa, ab, af => if x20 = true then (some (ae, aa, ab, af, false)) else (if 0 ≤ aa then (if aa < (x1.length : Int) then (if 0 ≤ ab then (if ab < (x1.length : Int) then (if ae = 6 then (tune_folded.j1 k x0 (ae != 6) false ae aa ab af ((rd_T61 x1 aa).f0) ((rd_T61 x1 aa).f1) ((rd_T61 x1 aa).f2) ((rd_T61 x1 aa).f3) ((rd_T61 x1 ab).f0) ((rd_T61 x1 ab).f1) ((rd_T61 x1 ab).f2) ((rd_T61 x1 ab).f3)) else (if ((rd_T61 x1 aa).f0) = 2 then (tune_folded.j1 k x0 (ae != 6) (((rd_T61 x1 ab).f0) == 2) ae aa ab af ((rd_T61 x1 aa).f0) ((rd_T61 x1 aa).f1) ((rd_T61 x1 aa).f2) ((rd_T61 x1 aa).f3) ((rd_T61 x1 ab).f0) ((rd_T61 x1 ab).f1) ((rd_T61 x1 ab).f2) ((rd_T61 x1 ab).f3)) else (tune_folded.j1 k x0 (ae != 6) false ae aa ab af ((rd_T61 x1 aa).f0) ((rd_T61 x1 aa).f1) ((rd_T61 x1 aa).f2) ((rd_T61 x1 aa).f3) ((rd_T61 x1 ab).f0) ((rd_T61 x1 ab).f1) ((rd_T61 x1 ab).f2) ((rd_T61 x1 ab).f3)))) else (none)) else (none)) else (none)) else (none))
def tune_folded.j1 : Nat → Int → Bool → Bool → Int → Int → Int → Int → Int → Int → Int → Int → Int → Int → Int → Int → Option (Int × Int × Int × Int × Bool)
 | 0, _, _, _, _, _, _, _, _, _, _, _, _, _, _, _ => none
 | k + 1, x0, x12, x35, ae, aa, ab, af, ah, ai, aj, ag, al, an, ao, ak => if x35 = true then ((circ_Of.f x0 ae 0 1 0 ([] : List Int) (([ag, ak] : List Int))).bind fun ay => ((tune_folded_1.f ay).bind fun ap => (some (ap.1, ap.2.1, ap.2.2.1, ap.2.2.2.1, ap.2.2.2.2)))) else (if x12 = true then (tune_folded.j2 k x0 x12 false ae aa ab af ah ai aj ag al an ao ak) else (tune_folded.j2 k x0 x12 (ah == 2) ae aa ab af ah ai aj ag al an ao ak))
def tune_folded.j2 : Nat → Int → Bool → Bool → Int → Int → Int → Int → Int → Int → Int → Int → Int → Int → Int → Int → Option (Int × Int × Int × Int × Bool)
 | 0, _, _, _, _, _, _, _, _, _, _, _, _, _, _, _ => none
 | k + 1, x0, x12, x61, ae, aa, ab, af, ah, ai, aj, ag, al, an, ao, ak => if x61 = true then ((qma.f x0 ag af).bind fun az => ((tune_folded_1.f az).bind fun aq => (some (aq.1, aq.2.1, aq.2.2.1, aq.2.2.2.1, aq.2.2.2.2)))) else (if ae = 5 then (tune_folded.j3 k x0 x12 (ah == 2) ae aa ab af ah ai aj ag al an ao ak) else (tune_folded.j3 k x0 x12 false ae aa ab af ah ai aj ag al an ao ak))
def tune_folded.j3 : Nat → Int → Bool → Bool → Int → Int → Int → Int → Int → Int → Int → Int → Int → Int → Int → Int → Option (Int × Int × Int × Int × Bool)
 | 0, _, _, _, _, _, _, _, _, _, _, _, _, _, _, _ => none
 | k + 1, x0, x12, x79, ae, aa, ab, af, ah, ai, aj, ag, al, an, ao, ak => if x79 = true then ((tune_folded_2.f ab ag).bind fun ar => (some (ar.1, ar.2.1, ar.2.2.1, ar.2.2.2.1, ar.2.2.2.2))) else (if ae = 5 then (tune_folded.j4 k x0 x12 (al == 2) ae aa ab af ah ai aj ag al an ao ak) else (tune_folded.j4 k x0 x12 false ae aa ab af ah ai aj ag al an ao ak))
def tune_folded.j4 : Nat → Int → Bool → Bool → Int → Int → Int → Int → Int → Int → Int → Int → Int → Int → Int → Int → Option (Int × Int × Int × Int × Bool)
 | 0, _, _, _, _, _, _, _, _, _, _, _, _, _, _, _ => none
 | k + 1, x0, x12, x96, ae, aa, ab, af, ah, ai, aj, ag, al, an, ao, ak => if x96 = true then ((tune_folded_2.f aa ak).bind fun au => (some (au.1, au.2.1, au.2.2.1, au.2.2.2.1, au.2.2.2.2))) else (if x12 = true then (tune_folded.j5 k x0 x12 false ae aa ab af ah ai aj ag) else (tune_folded.j5 k x0 x12 (af == 0) ae aa ab af ah ai aj ag))
def tune_folded.j5 : Nat → Int → Bool → Bool → Int → Int → Int → Int → Int → Int → Int → Int → Option (Int × Int × Int × Int × Bool)
 | 0, _, _, _, _, _, _, _, _, _, _, _ => none
 | k + 1, x0, x12, aA, ae, aa, ab, af, ah, ai, aj, ag => if aA = true then ((tune_folded_1.f 0).bind fun av => (some (av.1, av.2.1, av.2.2.1, av.2.2.2.1, av.2.2.2.2))) else (if x12 = true then (tune_folded.j6 k x0 false ae aa ab af ah ai aj ag) else (tune_folded.j6 k x0 (ah == 6) ae aa ab af ah ai aj ag))
def tune_folded.j6 : Nat → Int → Bool → Int → Int → Int → Int → Int → Int → Int → Int → Option (Int × Int × Int × Int × Bool)
 | 0, _, _, _, _, _, _, _, _, _, _ => none
 | k + 1, x0, aC, ae, aa, ab, af, ah, ai, aj, ag => if aC = true then ((qma.f x0 ag af).bind fun aD => ((tune_folded_2.f ai aD).bind fun aw => (some (aw.1, aw.2.1, aw.2.2.1, aw.2.2.2.1, aw.2.2.2.2)))) else (if ae = 4 then (if aa = ab then ((tune_folded_1.f 0).bind fun ax => (some (ax.1, ax.2.1, ax.2.2.1, ax.2.2.2.1, ax.2.2.2.2))) else (some (ae, aa, ab, af, false))) else (some (ae, aa, ab, af, false)))
end
def tune_folded.f (k : Nat) (a0 : Int) (l1 : List (S61)) (aa : Int) (ab : Int) (ae : Int) (af : Int) : Option (Int × Int × Int × Int × Bool) := if aa = 1 then (tune_folded.j0 k a0 l1 true aa ab ae af) else (tune_folded.j0 k a0 l1 (aa == 2) aa ab ae af)
theorem tune_folded.mono_l : ∀ k, (∀ y0 y1 y2 y3 y4 y5 y6, LeO (tune_folded.j0 k y0 y1 y2 y3 y4 y5 y6) (tune_folded.j0 (k + 1) y0 y1 y2 y3 y4 y5 y6)) ∧ (∀ y0 y1 y2 y3 y4 y5 y6 y7 y8 y9 y10 y11 y12 y13 y14, LeO (tune_folded.j1 k y0 y1 y2 y3 y4 y5 y6 y7 y8 y9 y10 y11 y12 y13 y14) (tune_folded.j1 (k + 1) y0 y1 y2 y3 y4 y5 y6 y7 y8 y9 y10 y11 y12 y13 y14)) ∧ (∀ y0 y1 y2 y3 y4 y5 y6 y7 y8 y9 y10 y11 y12 y13 y14, LeO (tune_folded.j2 k y0 y1 y2 y3 y4 y5 y6 y7 y8 y9 y10 y11 y12 y13 y14) (tune_folded.j2 (k + 1) y0 y1 y2 y3 y4 y5 y6 y7 y8 y9 y10 y11 y12 y13 y14)) ∧ (∀ y0 y1 y2 y3 y4 y5 y6 y7 y8 y9 y10 y11 y12 y13 y14, LeO (tune_folded.j3 k y0 y1 y2 y3 y4 y5 y6 y7 y8 y9 y10 y11 y12 y13 y14) (tune_folded.j3 (k + 1) y0 y1 y2 y3 y4 y5 y6 y7 y8 y9 y10 y11 y12 y13 y14)) ∧ (∀ y0 y1 y2 y3 y4 y5 y6 y7 y8 y9 y10 y11 y12 y13 y14, LeO (tune_folded.j4 k y0 y1 y2 y3 y4 y5 y6 y7 y8 y9 y10 y11 y12 y13 y14) (tune_folded.j4 (k + 1) y0 y1 y2 y3 y4 y5 y6 y7 y8 y9 y10 y11 y12 y13 y14)) ∧ (∀ y0 y1 y2 y3 y4 y5 y6 y7 y8 y9 y10, LeO (tune_folded.j5 k y0 y1 y2 y3 y4 y5 y6 y7 y8 y9 y10) (tune_folded.j5 (k + 1) y0 y1 y2 y3 y4 y5 y6 y7 y8 y9 y10)) ∧ (∀ y0 y1 y2 y3 y4 y5 y6 y7 y8 y9, LeO (tune_folded.j6 k y0 y1 y2 y3 y4 y5 y6 y7 y8 y9) (tune_folded.j6 (k + 1) y0 y1 y2 y3 y4 y5 y6 y7 y8 y9))
 | 0 => ⟨fun _ _ _ _ _ _ _ r h => by simp [tune_folded.j0] at h, fun _ _ _ _ _ _ _ _ _ _ _ _ _ _ _ r h => by simp [tune_folded.j1] at h, fun _ _ _ _ _ _ _ _ _ _ _ _ _ _ _ r h => by simp [tune_folded.j2] at h, fun _ _ _ _ _ _ _ _ _ _ _ _ _ _ _ r h => by simp [tune_folded.j3] at h, fun _ _ _ _ _ _ _ _ _ _ _ _ _ _ _ r h => by simp [tune_folded.j4] at h, fun _ _ _ _ _ _ _ _ _ _ _ r h => by simp [tune_folded.j5] at h, fun _ _ _ _ _ _ _ _ _ _ r h => by simp [tune_folded.j6] at h⟩
 | k + 1 => by
  obtain ⟨ih0, ih1, ih2, ih3, ih4, ih5, ih6⟩ := tune_folded.mono_l k;refine ⟨?_, ?_, ?_, ?_, ?_, ?_, ?_⟩
  ·intro y0 y1 y2 y3 y4 y5 y6
   unfold tune_folded.j0
   repeat' first
   | (with_reducible exact ih0 _ _ _ _ _ _ _)
   | (with_reducible exact ih1 _ _ _ _ _ _ _ _ _ _ _ _ _ _ _)
   | (with_reducible exact ih2 _ _ _ _ _ _ _ _ _ _ _ _ _ _ _)
   | (with_reducible exact ih3 _ _ _ _ _ _ _ _ _ _ _ _ _ _ _)
   | (with_reducible exact ih4 _ _ _ _ _ _ _ _ _ _ _ _ _ _ _)
   | (with_reducible exact ih5 _ _ _ _ _ _ _ _ _ _ _)
   | (with_reducible exact ih6 _ _ _ _ _ _ _ _ _ _)
   | (with_reducible exact LeO.refl _)
   | (with_reducible exact LeO.none _)
   | (with_reducible refine LeO.ite ?_ ?_)
   | (with_reducible refine LeO.bind ?_ (fun _ => ?_))
   | exact ih0 _ _ _ _ _ _ _
   | exact ih1 _ _ _ _ _ _ _ _ _ _ _ _ _ _ _
   | exact ih2 _ _ _ _ _ _ _ _ _ _ _ _ _ _ _
   | exact ih3 _ _ _ _ _ _ _ _ _ _ _ _ _ _ _
   | exact ih4 _ _ _ _ _ _ _ _ _ _ _ _ _ _ _
   | exact ih5 _ _ _ _ _ _ _ _ _ _ _
   | exact ih6 _ _ _ _ _ _ _ _ _ _
   | exact LeO.none _
   | refine LeO.ite ?_ ?_
   | refine LeO.bind ?_ (fun _ => ?_)
  ·intro y0 y1 y2 y3 y4 y5 y6 y7 y8 y9 y10 y11 y12 y13 y14
   unfold tune_folded.j1
   repeat' first
   | (with_reducible exact ih0 _ _ _ _ _ _ _)
   | (with_reducible exact ih1 _ _ _ _ _ _ _ _ _ _ _ _ _ _ _)
   | (with_reducible exact ih2 _ _ _ _ _ _ _ _ _ _ _ _ _ _ _)
   | (with_reducible exact ih3 _ _ _ _ _ _ _ _ _ _ _ _ _ _ _)
   | (with_reducible exact ih4 _ _ _ _ _ _ _ _ _ _ _ _ _ _ _)
   | (with_reducible exact ih5 _ _ _ _ _ _ _ _ _ _ _)
   | (with_reducible exact ih6 _ _ _ _ _ _ _ _ _ _)
   | (with_reducible exact LeO.refl _)
   | (with_reducible exact LeO.none _)
   | (with_reducible refine LeO.ite ?_ ?_)
   | (with_reducible refine LeO.bind ?_ (fun _ => ?_))
   | exact ih0 _ _ _ _ _ _ _
   | exact ih1 _ _ _ _ _ _ _ _ _ _ _ _ _ _ _
   | exact ih2 _ _ _ _ _ _ _ _ _ _ _ _ _ _ _
   | exact ih3 _ _ _ _ _ _ _ _ _ _ _ _ _ _ _
   | exact ih4 _ _ _ _ _ _ _ _ _ _ _ _ _ _ _
   | exact ih5 _ _ _ _ _ _ _ _ _ _ _
   | exact ih6 _ _ _ _ _ _ _ _ _ _
   | exact LeO.none _
   | refine LeO.ite ?_ ?_
   | refine LeO.bind ?_ (fun _ => ?_)
  ·intro y0 y1 y2 y3 y4 y5 y6 y7 y8 y9 y10 y11 y12 y13 y14
   unfold tune_folded.j2
   repeat' first
   | (with_reducible exact ih0 _ _ _ _ _ _ _)
   | (with_reducible exact ih1 _ _ _ _ _ _ _ _ _ _ _ _ _ _ _)
   | (with_reducible exact ih2 _ _ _ _ _ _ _ _ _ _ _ _ _ _ _)
   | (with_reducible exact ih3 _ _ _ _ _ _ _ _ _ _ _ _ _ _ _)
   | (with_reducible exact ih4 _ _ _ _ _ _ _ _ _ _ _ _ _ _ _)
   | (with_reducible exact ih5 _ _ _ _ _ _ _ _ _ _ _)
   | (with_reducible exact ih6 _ _ _ _ _ _ _ _ _ _)
   | (with_reducible exact LeO.refl _)
   | (with_reducible exact LeO.none _)
   | (with_reducible refine LeO.ite ?_ ?_)
   | (with_reducible refine LeO.bind ?_ (fun _ => ?_))
   | exact ih0 _ _ _ _ _ _ _
   | exact ih1 _ _ _ _ _ _ _ _ _ _ _ _ _ _ _
   | exact ih2 _ _ _ _ _ _ _ _ _ _ _ _ _ _ _
   | exact ih3 _ _ _ _ _ _ _ _ _ _ _ _ _ _ _
   | exact ih4 _ _ _ _ _ _ _ _ _ _ _ _ _ _ _
   | exact ih5 _ _ _ _ _ _ _ _ _ _ _
   | exact ih6 _ _ _ _ _ _ _ _ _ _
   | exact LeO.none _
   | refine LeO.ite ?_ ?_
   | refine LeO.bind ?_ (fun _ => ?_)
  ·intro y0 y1 y2 y3 y4 y5 y6 y7 y8 y9 y10 y11 y12 y13 y14
   unfold tune_folded.j3
   repeat' first
   | (with_reducible exact ih0 _ _ _ _ _ _ _)
   | (with_reducible exact ih1 _ _ _ _ _ _ _ _ _ _ _ _ _ _ _)
   | (with_reducible exact ih2 _ _ _ _ _ _ _ _ _ _ _ _ _ _ _)
   | (with_reducible exact ih3 _ _ _ _ _ _ _ _ _ _ _ _ _ _ _)
   | (with_reducible exact ih4 _ _ _ _ _ _ _ _ _ _ _ _ _ _ _)
   | (with_reducible exact ih5 _ _ _ _ _ _ _ _ _ _ _)
   | (with_reducible exact ih6 _ _ _ _ _ _ _ _ _ _)
   | (with_reducible exact LeO.refl _)
   | (with_reducible exact LeO.none _)
   | (with_reducible refine LeO.ite ?_ ?_)
   | (with_reducible refine LeO.bind ?_ (fun _ => ?_))
   | exact ih0 _ _ _ _ _ _ _
   | exact ih1 _ _ _ _ _ _ _ _ _ _ _ _ _ _ _
   | exact ih2 _ _ _ _ _ _ _ _ _ _ _ _ _ _ _
   | exact ih3 _ _ _ _ _ _ _ _ _ _ _ _ _ _ _
   | exact ih4 _ _ _ _ _ _ _ _ _ _ _ _ _ _ _
   | exact ih5 _ _ _ _ _ _ _ _ _ _ _
   | exact ih6 _ _ _ _ _ _ _ _ _ _
   | exact LeO.none _
   | refine LeO.ite ?_ ?_
   | refine LeO.bind ?_ (fun _ => ?_)
  ·intro y0 y1 y2 y3 y4 y5 y6 y7 y8 y9 y10 y11 y12 y13 y14
   unfold tune_folded.j4
   repeat' first
   | (with_reducible exact ih0 _ _ _ _ _ _ _)
   | (with_reducible exact ih1 _ _ _ _ _ _ _ _ _ _ _ _ _ _ _)
   | (with_reducible exact ih2 _ _ _ _ _ _ _ _ _ _ _ _ _ _ _)
   | (with_reducible exact ih3 _ _ _ _ _ _ _ _ _ _ _ _ _ _ _)
   | (with_reducible exact ih4 _ _ _ _ _ _ _ _ _ _ _ _ _ _ _)
   | (with_reducible exact ih5 _ _ _ _ _ _ _ _ _ _ _)
   | (with_reducible exact ih6 _ _ _ _ _ _ _ _ _ _)
   | (with_reducible exact LeO.refl _)
   | (with_reducible exact LeO.none _)
   | (with_reducible refine LeO.ite ?_ ?_)
   | (with_reducible refine LeO.bind ?_ (fun _ => ?_))
   | exact ih0 _ _ _ _ _ _ _
   | exact ih1 _ _ _ _ _ _ _ _ _ _ _ _ _ _ _
   | exact ih2 _ _ _ _ _ _ _ _ _ _ _ _ _ _ _
   | exact ih3 _ _ _ _ _ _ _ _ _ _ _ _ _ _ _
   | exact ih4 _ _ _ _ _ _ _ _ _ _ _ _ _ _ _
   | exact ih5 _ _ _ _ _ _ _ _ _ _ _
   | exact ih6 _ _ _ _ _ _ _ _ _ _
   | exact LeO.none _
   | refine LeO.ite ?_ ?_
   | refine LeO.bind ?_ (fun _ => ?_)
  ·intro y0 y1 y2 y3 y4 y5 y6 y7 y8 y9 y10
   unfold tune_folded.j5
   repeat' first
   | (with_reducible exact ih0 _ _ _ _ _ _ _)
   | (with_reducible exact ih1 _ _ _ _ _ _ _ _ _ _ _ _ _ _ _)
   | (with_reducible exact ih2 _ _ _ _ _ _ _ _ _ _ _ _ _ _ _)
   | (with_reducible exact ih3 _ _ _ _ _ _ _ _ _ _ _ _ _ _ _)
   | (with_reducible exact ih4 _ _ _ _ _ _ _ _ _ _ _ _ _ _ _)
   | (with_reducible exact ih5 _ _ _ _ _ _ _ _ _ _ _)
   | (with_reducible exact ih6 _ _ _ _ _ _ _ _ _ _)
   | (with_reducible exact LeO.refl _)
   | (with_reducible exact LeO.none _)
   | (with_reducible refine LeO.ite ?_ ?_)
   | (with_reducible refine LeO.bind ?_ (fun _ => ?_))
   | exact ih0 _ _ _ _ _ _ _
   | exact ih1 _ _ _ _ _ _ _ _ _ _ _ _ _ _ _
   | exact ih2 _ _ _ _ _ _ _ _ _ _ _ _ _ _ _
   | exact ih3 _ _ _ _ _ _ _ _ _ _ _ _ _ _ _
   | exact ih4 _ _ _ _ _ _ _ _ _ _ _ _ _ _ _
   | exact ih5 _ _ _ _ _ _ _ _ _ _ _
   | exact ih6 _ _ _ _ _ _ _ _ _ _
   | exact LeO.none _
   | refine LeO.ite ?_ ?_
   | refine LeO.bind ?_ (fun _ => ?_)
  ·intro y0 y1 y2 y3 y4 y5 y6 y7 y8 y9
   unfold tune_folded.j6
   repeat' first
   | (with_reducible exact ih0 _ _ _ _ _ _ _)
   | (with_reducible exact ih1 _ _ _ _ _ _ _ _ _ _ _ _ _ _ _)
   | (with_reducible exact ih2 _ _ _ _ _ _ _ _ _ _ _ _ _ _ _)
   | (with_reducible exact ih3 _ _ _ _ _ _ _ _ _ _ _ _ _ _ _)
   | (with_reducible exact ih4 _ _ _ _ _ _ _ _ _ _ _ _ _ _ _)
   | (with_reducible exact ih5 _ _ _ _ _ _ _ _ _ _ _)
   | (with_reducible exact ih6 _ _ _ _ _ _ _ _ _ _)
   | (with_reducible exact LeO.refl _)
   | (with_reducible exact LeO.none _)
   | (with_reducible refine LeO.ite ?_ ?_)
   | (with_reducible refine LeO.bind ?_ (fun _ => ?_))
   | exact ih0 _ _ _ _ _ _ _
   | exact ih1 _ _ _ _ _ _ _ _ _ _ _ _ _ _ _
   | exact ih2 _ _ _ _ _ _ _ _ _ _ _ _ _ _ _
   | exact ih3 _ _ _ _ _ _ _ _ _ _ _ _ _ _ _
   | exact ih4 _ _ _ _ _ _ _ _ _ _ _ _ _ _ _
   | exact ih5 _ _ _ _ _ _ _ _ _ _ _
   | exact ih6 _ _ _ _ _ _ _ _ _ _
   | exact LeO.none _
   | refine LeO.ite ?_ ?_
   | refine LeO.bind ?_ (fun _ => ?_)
theorem tune_folded.mono : ∀ a0 a1 a2 a3 a4 a5 k, LeO (tune_folded.f k a0 a1 a2 a3 a4 a5) (tune_folded.f (k + 1) a0 a1 a2 a3 a4 a5) := by
 intro a0 a1 a2 a3 a4 a5 k;obtain ⟨ih0, ih1, ih2, ih3, ih4, ih5, ih6⟩ := tune_folded.mono_l k;unfold tune_folded.f
 repeat' first
   | (with_reducible exact ih0 _ _ _ _ _ _ _)
   | (with_reducible exact ih1 _ _ _ _ _ _ _ _ _ _ _ _ _ _ _)
   | (with_reducible exact ih2 _ _ _ _ _ _ _ _ _ _ _ _ _ _ _)
   | (with_reducible exact ih3 _ _ _ _ _ _ _ _ _ _ _ _ _ _ _)
   | (with_reducible exact ih4 _ _ _ _ _ _ _ _ _ _ _ _ _ _ _)
   | (with_reducible exact ih5 _ _ _ _ _ _ _ _ _ _ _)
   | (with_reducible exact ih6 _ _ _ _ _ _ _ _ _ _)
   | (with_reducible exact LeO.refl _)
   | (with_reducible exact LeO.none _)
   | (with_reducible refine LeO.ite ?_ ?_)
   | (with_reducible refine LeO.bind ?_ (fun _ => ?_))
   | exact ih0 _ _ _ _ _ _ _
   | exact ih1 _ _ _ _ _ _ _ _ _ _ _ _ _ _ _
   | exact ih2 _ _ _ _ _ _ _ _ _ _ _ _ _ _ _
   | exact ih3 _ _ _ _ _ _ _ _ _ _ _ _ _ _ _
   | exact ih4 _ _ _ _ _ _ _ _ _ _ _ _ _ _ _
   | exact ih5 _ _ _ _ _ _ _ _ _ _ _
   | exact ih6 _ _ _ _ _ _ _ _ _ _
   | exact LeO.none _
   | refine LeO.ite ?_ ?_
   | refine LeO.bind ?_ (fun _ => ?_)
def tune_folded.T5 : Bool × List (List Nat × List Nat) := (true, [([], []), ([], []), ([1], [1]), ([0, 2], [0, 2]), ([3], [3]), ([], []), ([], []), ([6], [6]), ([5, 7], [5, 7]), ([8], [8]), ([], []), ([], []), ([10, 4, 0, 1, 2, 3, 4, 10, 11], [4, 10]), ([11, 9, 12, 0, 1, 2, 3, 4, 5, 6, 7, 8, 9, 10, 11, 12], [9, 11])])
def tune_folded.B5 : List Nat := [0, 0, 2, 7, 15, 0, 0, 64, 224, 480, 0, 0, 3103, 8191]
theorem tune_folded.tab5 : rtab .any (opsOf Try.f39 5) = tune_folded.T5 := by kernel_rfl
theorem tune_folded.bits5 : waitsOk tune_folded.T5.2 tune_folded.B5 = true := by kernel_rfl
def tune_folded.T18 : Bool × List (List Nat × List Nat) := (true, [([], []), ([], []), ([1], [1]), ([], []), ([], []), ([4], [4]), ([], []), ([6], [6]), ([3, 5, 7], [3, 5, 7]), ([0, 2, 8, 8], [0, 2, 8]), ([9], [9]), ([9], [9]), ([10, 9, 0, 1, 2, 3, 4, 5, 6, 7, 8, 9, 10, 11], [10]), ([11, 12, 0, 1, 2, 3, 4, 5, 6, 7, 8, 9, 10, 11, 12], [11])])
def tune_folded.B18 : List Nat := [0, 0, 2, 0, 0, 16, 0, 64, 248, 511, 1023, 1023, 4095, 8191]
theorem tune_folded.tab18 : rtab .any (opsOf Try.f39 18) = tune_folded.T18 := by kernel_rfl
theorem tune_folded.bits18 : waitsOk tune_folded.T18.2 tune_folded.B18 = true := by kernel_rfl
theorem tune_folded.calls (k : Nat) (a0 : Int) (A1 : Option Addr) (c1 : Nat) (l1 : List (S61)) (aw : Int) (ab : Int) (ae : Int) (aE : Int) (r1 : Int) (r2 : Int) (r3 : Int) (r4 : Int) (r5 : Bool) (w : World) (hr1 : Kd.C k61 w A1 l1.length l1) (hc1 : l1.length ≤ c1) (h : tune_folded.f k a0 l1 aw ab ae aE = some (r1, r2, r3, r4, r5)) :
  Calls Try.prog 39 #[.int .u64 a0, .slice A1 l1.length c1, .agg #[.int .i64 aw, .int .i64 ab, .int .i64 ae, .int .u64 aE]] w fun e w' => e = .returned (.tuple #[.agg #[.int .i64 r1, .int .i64 r2, .int .i64 r3, .int .u64 r4], .bool r5]) ∧ Below w.heap.size w w' := by
 have hu61 := Try.underlying61;have HR1 := Aside0.mk hr1;have HC1 := Aside0.mk hc1;clear hr1 hc1;have HB := Aside0.mk (Below.refl w.heap.size w);have H : (if aw = 1 then (tune_folded.j0 k a0 l1 true aw ab ae aE) else (tune_folded.j0 k a0 l1 (aw == 2) aw ab ae aE)) = some (r1, r2, r3, r4, r5) := h;clear h;have HC4 := Aside0.mk H;clear H;go_enter Try.func39, Try.ntmps39;go_upto_region 3 with (first | ((with_reducible refine gate_dst (N := 5) rfl ?_); refine box_event ?hg (N := 5) ?hd (cs := #[.int .i64 aw, .int .i64 ab, .int .i64 ae, .int .u64 aE]) (t := 61) ?hr ?_; (case hd => rfl); (case hg => rfl); (case hr => first | (go_simp; done) | (go_simp; rfl)); intro aC hg w5 hbox hb; have aa := am hbox; have hw := kG HB hg; have hx := kG HB hg; replace HB := kH HB hb; clear hb hbox hg) | ((with_reducible refine gate_dst (N := 6) rfl ?_); refine box_event ?hg (N := 6) ?hd (cs := #[.int .i64 0, .int .i64 0, .int .i64 0, .int .u64 0]) (t := 61) ?hr ?_; (case hd => rfl); (case hg => rfl); (case hr => first | (go_simp; done) | (go_simp; rfl)); intro aD hg w6 hbox hb; have af := am hbox; have hy := kG HB hg; have hA := kG HB hg; replace HB := kH HB hb; have ax := kP aa hg; have ay := kQ aa hg; replace aa := kU aa hb; clear hb hbox hg));(try simp only [Act.put, qS1, qS2, qS3]);go_cut [20] (fun v20 wc => ∃ (kq : Nat) (bz : Bool), v20 = .bool bz ∧ Aside0 (tune_folded.j0 kq a0 l1 bz aw ab ae aE = some (r1, r2, r3, r4, r5)) ∧ Aside0 (kq ≤ k) ∧ Aside0 (wc.heap[aC]? = some (.cells #[.int .i64 aw, .int .i64 ab, .int .i64 ae, .int .u64 aE] 61 (0, 0))) ∧ Aside0 (wc.heap[aD]? = some (.cells #[.int .i64 0, .int .i64 0, .int .i64 0, .int .u64 0] 61 (0, 0))) ∧ Aside0 (Below w.heap.size w wc))
 case first =>
  have H := HC4.out;clear HC4
  by_cases c7 : aw = 1
  rotate_left
  ·rw [if_neg c7] at H
   have bG := beq_eq_false_iff_ne.mpr c7;have eJ := bne_iff_ne.mpr c7;(first | rw [bG] | (simp only [i64_w, i32_w]; rw [bG]) | skip);have H' := Aside0.mk H;clear H;have hB := ax.out;have hC := ay.out;have Z11 := kz4 aa;go_wp2;go_meet
   case rel => exact ⟨_, ((aw == 2)), et, H', ⟨by first | omega | exact Nat.le_refl _⟩, ⟨kg aa⟩, ⟨kg af⟩, ⟨kh HB⟩⟩
  rw [if_pos c7] at H;have bG := beq_iff_eq.mpr c7;have eJ := bne_eq_false_iff_eq.mpr c7;clear c7;(first | rw [bG] | (simp only [i64_w, i32_w]; rw [bG]) | skip);have H' := Aside0.mk H;clear H;have jq := ax.out;have jr := ay.out;have Z9 := kz4 aa;go_wp2;go_meet
  case rel => exact ⟨_, (true), et, H', ⟨by first | omega | exact Nat.le_refl _⟩, ⟨kg aa⟩, ⟨kg af⟩, ⟨kh HB⟩⟩
 clear HC4;obtain ⟨kq, bz, rfl, HA, HJ3, aa, af, HB⟩ := hcut
 cases kq with
 | zero => exact absurd HA.out (by simp [tune_folded.j0])
 | succ kj3 =>
  have H := HA.out;clear HA;simp only [tune_folded.j0] at H
  by_cases c12 : bz = true
  ·subst c12
   replace H := ifT H;simp only [Option.some.injEq, Prod.mk.injEq] at H;obtain ⟨rfl, rfl, rfl, rfl, rfl⟩ := H;have hD := ax.out;have hE := ay.out;have Z14 := kz4 aa;have Z15 := kz4 af;go_wp2;refine bodyPost_ret (results_ct rfl _ _ aD 61 #[.int .i64 aw, .int .i64 ab, .int .i64 ae, .int .u64 aE] (0, 0) _ rfl (kg af) Try.underlying61 rfl (by kernel_rfl)) rfl ?_;exact ⟨er, kh HB⟩
  replace c12 := Bool.eq_false_iff.mpr c12;subst c12;replace H := ifF H
  by_cases c16 : 0 ≤ ab
  rotate_left
  ·rw [if_neg c16] at H
   exact absurd H (by simp)
  rw [if_pos c16] at H;have cr := decide_eq_true c16;clear c16
  by_cases c17 : ab < (l1.length : Int)
  rotate_left
  ·rw [if_neg c17] at H
   exact absurd H (by simp)
  rw [if_pos c17] at H;have ct := decide_eq_true c17;clear c17
  by_cases c18 : 0 ≤ ae
  rotate_left
  ·rw [if_neg c18] at H
   exact absurd H (by simp)
  rw [if_pos c18] at H;have cu := decide_eq_true c18;clear c18
  by_cases c19 : ae < (l1.length : Int)
  rotate_left
  ·rw [if_neg c19] at H
   exact absurd H (by simp)
  rw [if_pos c19] at H;have cv := decide_eq_true c19;clear c19;have cc := Aside0.mk H;clear H;(try go_wp2);replace aa := kD aa; replace af := kD af; replace HB := kE HB;have bO : 0 ≤ (ab : Int) := od;have bP : ab < (l1.length : Int) := od;obtain ⟨aA, eK, aG, aH, aI, aJ⟩ := at_T61 HR1.out ab bO bP;have aT := aJ; have aU := aI; have aV := aH; have aW := aG;cases eK;replace aG := (HB.out.cell (World.block_lt_of_cell? w _ aG)).trans aG;replace aH := (HB.out.cell (World.block_lt_of_cell? w _ aH)).trans aH;replace aI := (HB.out.cell (World.block_lt_of_cell? w _ aI)).trans aI;replace aJ := (HB.out.cell (World.block_lt_of_cell? w _ aJ)).trans aJ;replace bO := eq_true bO; replace bP := eq_true bP;have bQ : 0 ≤ (ae : Int) := od;have bR : ae < (l1.length : Int) := od;obtain ⟨cw, eL, aK, aM, aN, aQ⟩ := at_T61 HR1.out ae bQ bR;have aX := aQ; have aY := aN; have aZ := aM; have ba := aK;obtain rfl : aA = cw := (by injection eL);replace aK := (HB.out.cell (World.block_lt_of_cell? w _ aK)).trans aK;replace aM := (HB.out.cell (World.block_lt_of_cell? w _ aM)).trans aM;replace aN := (HB.out.cell (World.block_lt_of_cell? w _ aN)).trans aN;replace aQ := (HB.out.cell (World.block_lt_of_cell? w _ aQ)).trans aQ;replace bQ := eq_true bQ; replace bR := eq_true bR;refine start_ (n := 14) (S := fun w' => w'.cell? ⟨aC, 0, none⟩ = some (.int .i64 aw) ∧ w'.cell? ⟨aC, 1, none⟩ = some (.int .i64 ab) ∧ w'.cell? ⟨aC, 2, none⟩ = some (.int .i64 ae) ∧ w'.cell? ⟨aC, 3, none⟩ = some (.int .u64 aE) ∧ w'.cell? (aA.add ((ab).toNat * 4)) = some (.int .i64 ((rd_T61 l1 ab).f0)) ∧ w'.cell? ⟨(aA.add ((ab).toNat * 4)).block, (aA.add ((ab).toNat * 4)).off + 1, none⟩ = some (.int .i64 ((rd_T61 l1 ab).f1)) ∧ w'.cell? ⟨(aA.add ((ab).toNat * 4)).block, (aA.add ((ab).toNat * 4)).off + 2, none⟩ = some (.int .i64 ((rd_T61 l1 ab).f2)) ∧ w'.cell? ⟨(aA.add ((ab).toNat * 4)).block, (aA.add ((ab).toNat * 4)).off + 3, none⟩ = some (.int .u64 ((rd_T61 l1 ab).f3)) ∧ w'.cell? (aA.add ((ae).toNat * 4)) = some (.int .i64 ((rd_T61 l1 ae).f0)) ∧ w'.cell? ⟨(aA.add ((ae).toNat * 4)).block, (aA.add ((ae).toNat * 4)).off + 1, none⟩ = some (.int .i64 ((rd_T61 l1 ae).f1)) ∧ w'.cell? ⟨(aA.add ((ae).toNat * 4)).block, (aA.add ((ae).toNat * 4)).off + 2, none⟩ = some (.int .i64 ((rd_T61 l1 ae).f2)) ∧ w'.cell? ⟨(aA.add ((ae).toNat * 4)).block, (aA.add ((ae).toNat * 4)).off + 3, none⟩ = some (.int .u64 ((rd_T61 l1 ae).f3))) (ds := []) (bs 14 0) (by kernel_rfl) rfl rfl ⟨kk aa 0, kk aa 1, kk aa 2, kk aa 3, (kq HB aW), (kq HB aV), (kq HB aU), (kq HB aT), (kq HB ba), (kq HB aZ), (kq HB aY), (kq HB aX)⟩ (fun hHeld => ?_); refine with_tabW tune_folded.tab5 tune_folded.bits5 (fun HT_ HW_ => ?_);generalize wc.drew = w21 at aa af HB aG aH aI aJ aK aM aN aQ hHeld ⊢;refine pu 0 (some 22) (bs 14 1) HT_ ?_;refine pu 1 (some 23) (bs 14 3) HT_ ?_;refine pu 5 (some 27) (bs 14 35) HT_ ?_;refine pu 6 (some 28) (bs 14 99) HT_ ?_;refine ta 2 (some 24) (bs 14 103) HT_ HW_ hHeld ?_;refine pu 3 (some 25) (bs 14 111) HT_ ?_;refine ta 4 (some 26) (bs 14 127) HT_ HW_ hHeld ?_;refine ta 7 (some 29) (bs 14 255) HT_ HW_ hHeld ?_;refine pu 8 (some 30) (bs 14 511) HT_ ?_;refine ta 9 (some 31) (bs 14 1023) HT_ HW_ hHeld ?_;refine join_ (σ := Nat × Nat) 2 (bs 14 4095) (fun s_ => [(10, .pointer (some ⟨s_.1, 0, none⟩)), (11, .pointer (some ⟨s_.2, 0, none⟩))]) (fun s_ w' => (w'.cell? ⟨aC, 0, none⟩ = some (.int .i64 aw) ∧ w'.cell? ⟨aC, 1, none⟩ = some (.int .i64 ab) ∧ w'.cell? ⟨aC, 2, none⟩ = some (.int .i64 ae) ∧ w'.cell? ⟨aC, 3, none⟩ = some (.int .u64 aE) ∧ w'.cell? (aA.add ((ab).toNat * 4)) = some (.int .i64 ((rd_T61 l1 ab).f0)) ∧ w'.cell? ⟨(aA.add ((ab).toNat * 4)).block, (aA.add ((ab).toNat * 4)).off + 1, none⟩ = some (.int .i64 ((rd_T61 l1 ab).f1)) ∧ w'.cell? ⟨(aA.add ((ab).toNat * 4)).block, (aA.add ((ab).toNat * 4)).off + 2, none⟩ = some (.int .i64 ((rd_T61 l1 ab).f2)) ∧ w'.cell? ⟨(aA.add ((ab).toNat * 4)).block, (aA.add ((ab).toNat * 4)).off + 3, none⟩ = some (.int .u64 ((rd_T61 l1 ab).f3)) ∧ w'.cell? (aA.add ((ae).toNat * 4)) = some (.int .i64 ((rd_T61 l1 ae).f0)) ∧ w'.cell? ⟨(aA.add ((ae).toNat * 4)).block, (aA.add ((ae).toNat * 4)).off + 1, none⟩ = some (.int .i64 ((rd_T61 l1 ae).f1)) ∧ w'.cell? ⟨(aA.add ((ae).toNat * 4)).block, (aA.add ((ae).toNat * 4)).off + 2, none⟩ = some (.int .i64 ((rd_T61 l1 ae).f2)) ∧ w'.cell? ⟨(aA.add ((ae).toNat * 4)).block, (aA.add ((ae).toNat * 4)).off + 3, none⟩ = some (.int .u64 ((rd_T61 l1 ae).f3))) ∧ (w'.heap[aC]? = some (.cells #[.int .i64 aw, .int .i64 ab, .int .i64 ae, .int .u64 aE] 61 (0, 0))) ∧ (w'.heap[aD]? = some (.cells #[.int .i64 0, .int .i64 0, .int .i64 0, .int .u64 0] 61 (0, 0))) ∧ (w'.heap[s_.1]? = some (.cells #[.int .i64 0, .int .i64 0, .int .i64 0, .int .u64 0] 61 (0, 0))) ∧ (w'.heap[s_.2]? = some (.cells #[.int .i64 0, .int .i64 0, .int .i64 0, .int .u64 0] 61 (0, 0))) ∧ (w.heap.size ≤ s_.1) ∧ (w.heap.size ≤ s_.1) ∧ (aC ≠ s_.1) ∧ (s_.1 ≠ aC) ∧ (aD ≠ s_.1) ∧ (s_.1 ≠ aD) ∧ (s_.2 ≠ s_.1) ∧ (s_.1 ≠ s_.2) ∧ (w.heap.size ≤ s_.2) ∧ (w.heap.size ≤ s_.2) ∧ (aC ≠ s_.2) ∧ (s_.2 ≠ aC) ∧ (aD ≠ s_.2) ∧ (s_.2 ≠ aD) ∧ (Below w.heap.size w w')) ?_ ?_
  rotate_left
  ·intro hCont
   refine two_ (i := 10) (j := 11) (Ni := some 10) (Nj := some 11) (bs 14 2047) (bs 14 3071) rfl rfl rfl rfl (two_of HT_.out (by kernel_rfl)) (by decide) (by decide) (fun K hK => ?_) (fun K hK => ?_)
   ·skip
    refine box_step ?hg (N := 10) ?hd (cs := #[.int .i64 0, .int .i64 0, .int .i64 0, .int .u64 0]) (t := 61) ?hr ?_; (case hd => rfl); (case hg => rfl); (case hr => first | (go_simp; done) | (go_simp; rfl));intro an hg w22 hbox hb;have ag := am hbox; have bA := kG HB hg; have bB := kG HB hg; replace HB := kH HB hb; have ai := kP aa hg; have aj := kQ aa hg; replace aa := kU aa hb; have ak := kP af hg; have al := kQ af hg; replace af := kU af hb;clear hb hbox hg;refine hK.out _ _ ⟨kk aa 0, kk aa 1, kk aa 2, kk aa 3, (kq HB aW), (kq HB aV), (kq HB aU), (kq HB aT), (kq HB ba), (kq HB aZ), (kq HB aY), (kq HB aX)⟩ (fun hHeld => ?_);clear hK K;refine no (some 10) ?_;refine one_ (i := 11) (N := some 11) (bs 14 4095) rfl rfl (one_of HT_.out (by kernel_rfl)) (by decide) (fun K hK => ?_);refine box_step ?hg (N := 11) ?hd (cs := #[.int .i64 0, .int .i64 0, .int .i64 0, .int .u64 0]) (t := 61) ?hr ?_; (case hd => rfl); (case hg => rfl); (case hr => first | (go_simp; done) | (go_simp; rfl));intro az hg w23 hbox hb;have ah := am hbox; have bC := kG HB hg; have bD := kG HB hg; replace HB := kH HB hb; have ao := kP aa hg; have ap := kQ aa hg; replace aa := kU aa hb; have aq := kP af hg; have ar := kQ af hg; replace af := kU af hb; have au := kP ag hg; have av := kQ ag hg; replace ag := kU ag hb;clear hb hbox hg;refine hK.out _ _ ⟨kk aa 0, kk aa 1, kk aa 2, kk aa 3, (kq HB aW), (kq HB aV), (kq HB aU), (kq HB aT), (kq HB ba), (kq HB aZ), (kq HB aY), (kq HB aX)⟩ (fun hHeld => ?_);clear hK K;refine no (some 11) ?_;exact norm_ (by simp only [putAll, Act.put, qS1, qS2, qS3]) (hCont (an, az) _ ⟨hHeld, (kb aa), (kb af), (kb ag), (kb ah), bA.out, bB.out, ai.out, aj.out, ak.out, al.out, av.out, au.out, bC.out, bD.out, ao.out, ap.out, aq.out, ar.out, (kh HB)⟩)
   ·skip
    refine box_step ?hg (N := 11) ?hd (cs := #[.int .i64 0, .int .i64 0, .int .i64 0, .int .u64 0]) (t := 61) ?hr ?_; (case hd => rfl); (case hg => rfl); (case hr => first | (go_simp; done) | (go_simp; rfl));intro az hg w22 hbox hb;have ah := am hbox; have bC := kG HB hg; have bD := kG HB hg; replace HB := kH HB hb; have ao := kP aa hg; have ap := kQ aa hg; replace aa := kU aa hb; have aq := kP af hg; have ar := kQ af hg; replace af := kU af hb;clear hb hbox hg;refine hK.out _ _ ⟨kk aa 0, kk aa 1, kk aa 2, kk aa 3, (kq HB aW), (kq HB aV), (kq HB aU), (kq HB aT), (kq HB ba), (kq HB aZ), (kq HB aY), (kq HB aX)⟩ (fun hHeld => ?_);clear hK K;refine no (some 11) ?_;refine one_ (i := 10) (N := some 10) (bs 14 4095) rfl rfl (one_of HT_.out (by kernel_rfl)) (by decide) (fun K hK => ?_);refine box_step ?hg (N := 10) ?hd (cs := #[.int .i64 0, .int .i64 0, .int .i64 0, .int .u64 0]) (t := 61) ?hr ?_; (case hd => rfl); (case hg => rfl); (case hr => first | (go_simp; done) | (go_simp; rfl));intro an hg w23 hbox hb;have ag := am hbox; have bA := kG HB hg; have bB := kG HB hg; replace HB := kH HB hb; have ai := kP aa hg; have aj := kQ aa hg; replace aa := kU aa hb; have ak := kP af hg; have al := kQ af hg; replace af := kU af hb; have av := kP ah hg; have au := kQ ah hg; replace ah := kU ah hb;clear hb hbox hg;refine hK.out _ _ ⟨kk aa 0, kk aa 1, kk aa 2, kk aa 3, (kq HB aW), (kq HB aV), (kq HB aU), (kq HB aT), (kq HB ba), (kq HB aZ), (kq HB aY), (kq HB aX)⟩ (fun hHeld => ?_);clear hK K;refine no (some 10) ?_;exact norm_ (by simp only [putAll, Act.put, qS1, qS2, qS3]) (hCont (an, az) _ ⟨hHeld, (kb aa), (kb af), (kb ag), (kb ah), bA.out, bB.out, ai.out, aj.out, ak.out, al.out, av.out, au.out, bC.out, bD.out, ao.out, ap.out, aq.out, ar.out, (kh HB)⟩)
  rintro ⟨an, az⟩ w24 ⟨hS_, h0_, h1_, h2_, h3_, h4_, h5_, h6_, h7_, h8_, h9_, h10_, h11_, h12_, h13_, h14_, h15_, h16_, h17_, h18_⟩;replace aa : Aside0 (w24.heap[aC]? = some (.cells #[.int .i64 aw, .int .i64 ab, .int .i64 ae, .int .u64 aE] 61 (0, 0))) := ⟨h0_⟩; replace af : Aside0 (w24.heap[aD]? = some (.cells #[.int .i64 0, .int .i64 0, .int .i64 0, .int .u64 0] 61 (0, 0))) := ⟨h1_⟩; have ag : Aside0 (w24.heap[an]? = some (.cells #[.int .i64 0, .int .i64 0, .int .i64 0, .int .u64 0] 61 (0, 0))) := ⟨h2_⟩; have ah : Aside0 (w24.heap[az]? = some (.cells #[.int .i64 0, .int .i64 0, .int .i64 0, .int .u64 0] 61 (0, 0))) := ⟨h3_⟩; have bA : Aside0 (w.heap.size ≤ an) := ⟨h4_⟩; have bB : Aside0 (w.heap.size ≤ an) := ⟨h5_⟩; have ai : Aside0 (aC ≠ an) := ⟨h6_⟩; have aj : Aside0 (an ≠ aC) := ⟨h7_⟩; have ak : Aside0 (aD ≠ an) := ⟨h8_⟩; have al : Aside0 (an ≠ aD) := ⟨h9_⟩; have av : Aside0 (az ≠ an) := ⟨h10_⟩; have au : Aside0 (an ≠ az) := ⟨h11_⟩; have bC : Aside0 (w.heap.size ≤ az) := ⟨h12_⟩; have bD : Aside0 (w.heap.size ≤ az) := ⟨h13_⟩; have ao : Aside0 (aC ≠ az) := ⟨h14_⟩; have ap : Aside0 (az ≠ aC) := ⟨h15_⟩; have aq : Aside0 (aD ≠ az) := ⟨h16_⟩; have ar : Aside0 (az ≠ aD) := ⟨h17_⟩; replace HB : Aside0 (Below w.heap.size w w24) := ⟨h18_⟩; clear h0_ h10_ h11_ h12_ h13_ h14_ h15_ h16_ h17_ h18_ h1_ h2_ h3_ h4_ h5_ h6_ h7_ h8_ h9_;have hHeld : w24.cell? ⟨aC, 0, none⟩ = some (.int .i64 aw) ∧ w24.cell? ⟨aC, 1, none⟩ = some (.int .i64 ab) ∧ w24.cell? ⟨aC, 2, none⟩ = some (.int .i64 ae) ∧ w24.cell? ⟨aC, 3, none⟩ = some (.int .u64 aE) ∧ w24.cell? (aA.add ((ab).toNat * 4)) = some (.int .i64 ((rd_T61 l1 ab).f0)) ∧ w24.cell? ⟨(aA.add ((ab).toNat * 4)).block, (aA.add ((ab).toNat * 4)).off + 1, none⟩ = some (.int .i64 ((rd_T61 l1 ab).f1)) ∧ w24.cell? ⟨(aA.add ((ab).toNat * 4)).block, (aA.add ((ab).toNat * 4)).off + 2, none⟩ = some (.int .i64 ((rd_T61 l1 ab).f2)) ∧ w24.cell? ⟨(aA.add ((ab).toNat * 4)).block, (aA.add ((ab).toNat * 4)).off + 3, none⟩ = some (.int .u64 ((rd_T61 l1 ab).f3)) ∧ w24.cell? (aA.add ((ae).toNat * 4)) = some (.int .i64 ((rd_T61 l1 ae).f0)) ∧ w24.cell? ⟨(aA.add ((ae).toNat * 4)).block, (aA.add ((ae).toNat * 4)).off + 1, none⟩ = some (.int .i64 ((rd_T61 l1 ae).f1)) ∧ w24.cell? ⟨(aA.add ((ae).toNat * 4)).block, (aA.add ((ae).toNat * 4)).off + 2, none⟩ = some (.int .i64 ((rd_T61 l1 ae).f2)) ∧ w24.cell? ⟨(aA.add ((ae).toNat * 4)).block, (aA.add ((ae).toNat * 4)).off + 3, none⟩ = some (.int .u64 ((rd_T61 l1 ae).f3)) := hS_;refine norm_ (a' := ?_) ?_ ?_
  rotate_left
  ·simp only [putAll, Act.put, qS1, qS2, qS3]
   rfl
  refine one_ (i := 12) (N := none) (bs 14 8191) rfl rfl (one_of HT_.out (by kernel_rfl)) (by decide) (fun K hK => ?_);have js : w24.cell? ⟨an, 0, none⟩ = some (.int .i64 0) := kk ag 0;have hF := blk_frozen ag.out 0;have dL := ai.out;have dM := ak.out;have dN := av.out;have dO := aj.out;have dP := al.out;have dQ := au.out;have jt : w24.cell? ⟨an, 1, none⟩ = some (.int .i64 0) := kk ag 1;have hG := blk_frozen ag.out 1;have dR := ai.out;have dS := ak.out;have dT := av.out;have dU := aj.out;have dV := al.out;have dW := au.out;have ju : w24.cell? ⟨an, 2, none⟩ = some (.int .i64 0) := kk ag 2;have hH := blk_frozen ag.out 2;have dX := ai.out;have dY := ak.out;have dZ := av.out;have ea := aj.out;have eb := al.out;have ec := au.out;have jv : w24.cell? ⟨an, 3, none⟩ = some (.int .u64 0) := kk ag 3;have hI := blk_frozen ag.out 3;have ed := ai.out;have ee := ak.out;have ef := av.out;have eg := aj.out;have eh := al.out;have ei := au.out;refine skip_ (w1 := ?_) (by rfl) rfl ?_ ?_
  rotate_left
  ·go_simp
   rfl
  refine hK.out _ _ ⟨(kf hHeld.1), (kf hHeld.2.1), (kf hHeld.2.2.1), (kf hHeld.2.2.2.1), (kf hHeld.2.2.2.2.1), (kf hHeld.2.2.2.2.2.1), (kf hHeld.2.2.2.2.2.2.1), (kf hHeld.2.2.2.2.2.2.2.1), (kf hHeld.2.2.2.2.2.2.2.2.1), (kf hHeld.2.2.2.2.2.2.2.2.2.1), (kf hHeld.2.2.2.2.2.2.2.2.2.2.1), (kf hHeld.2.2.2.2.2.2.2.2.2.2.2)⟩ (fun hHeld => ?_);clear hK K;refine one_ (i := 13) (N := none) (bs 14 16383) rfl rfl (one_of HT_.out (by kernel_rfl)) (by decide) (fun K hK => ?_);have jw : w24.cell? ⟨az, 0, none⟩ = some (.int .i64 0) := kk ah 0;have hJ := blk_frozen ah.out 0;have ej := ao.out;have ek := aq.out;have el := au.out;have em := ap.out;have en := ar.out;have eo := av.out;have jx : w24.cell? ⟨az, 1, none⟩ = some (.int .i64 0) := kk ah 1;have hL := blk_frozen ah.out 1;have ep := ao.out;have eq := aq.out;have es := au.out;have eu := ap.out;have ev := ar.out;have ew := av.out;have jy : w24.cell? ⟨az, 2, none⟩ = some (.int .i64 0) := kk ah 2;have hN := blk_frozen ah.out 2;have ex := ao.out;have ey := aq.out;have ez := au.out;have eA := ap.out;have eB := ar.out;have eC := av.out;have jz : w24.cell? ⟨az, 3, none⟩ = some (.int .u64 0) := kk ah 3;have hO := blk_frozen ah.out 3;have eD := ao.out;have eE := aq.out;have eF := au.out;have eG := ap.out;have eH := ar.out;have eI := av.out;refine skip_ (w1 := ?_) (by rfl) rfl ?_ ?_
  rotate_left
  ·go_simp
   rfl
  refine hK.out _ _ ⟨(kf hHeld.1), (kf hHeld.2.1), (kf hHeld.2.2.1), (kf hHeld.2.2.2.1), (kf hHeld.2.2.2.2.1), (kf hHeld.2.2.2.2.2.1), (kf hHeld.2.2.2.2.2.2.1), (kf hHeld.2.2.2.2.2.2.2.1), (kf hHeld.2.2.2.2.2.2.2.2.1), (kf hHeld.2.2.2.2.2.2.2.2.2.1), (kf hHeld.2.2.2.2.2.2.2.2.2.2.1), (kf hHeld.2.2.2.2.2.2.2.2.2.2.2)⟩ (fun hHeld => ?_);clear hK K;refine done_ (done_of HT_.out (by kernel_rfl)) ?_;have n0_ : Aside0 (((((((((w24.setCell ⟨an, 0, none⟩ (.int .i64 ((rd_T61 l1 ab).f0))).setCell ⟨an, 1, none⟩ (.int .i64 ((rd_T61 l1 ab).f1))).setCell ⟨an, 2, none⟩ (.int .i64 ((rd_T61 l1 ab).f2))).setCell ⟨an, 3, none⟩ (.int .u64 ((rd_T61 l1 ab).f3))).setCell ⟨az, 0, none⟩ (.int .i64 ((rd_T61 l1 ae).f0))).setCell ⟨az, 1, none⟩ (.int .i64 ((rd_T61 l1 ae).f1))).setCell ⟨az, 2, none⟩ (.int .i64 ((rd_T61 l1 ae).f2))).setCell ⟨az, 3, none⟩ (.int .u64 ((rd_T61 l1 ae).f3))).heap[aC]? = some (.cells #[.int .i64 aw, .int .i64 ab, .int .i64 ae, .int .u64 aE] 61 (0, 0))) := ⟨kg aa⟩;have n1_ : Aside0 (((((((((w24.setCell ⟨an, 0, none⟩ (.int .i64 ((rd_T61 l1 ab).f0))).setCell ⟨an, 1, none⟩ (.int .i64 ((rd_T61 l1 ab).f1))).setCell ⟨an, 2, none⟩ (.int .i64 ((rd_T61 l1 ab).f2))).setCell ⟨an, 3, none⟩ (.int .u64 ((rd_T61 l1 ab).f3))).setCell ⟨az, 0, none⟩ (.int .i64 ((rd_T61 l1 ae).f0))).setCell ⟨az, 1, none⟩ (.int .i64 ((rd_T61 l1 ae).f1))).setCell ⟨az, 2, none⟩ (.int .i64 ((rd_T61 l1 ae).f2))).setCell ⟨az, 3, none⟩ (.int .u64 ((rd_T61 l1 ae).f3))).heap[aD]? = some (.cells #[.int .i64 0, .int .i64 0, .int .i64 0, .int .u64 0] 61 (0, 0))) := ⟨kg af⟩;have n2_ : Aside0 (((((((((w24.setCell ⟨an, 0, none⟩ (.int .i64 ((rd_T61 l1 ab).f0))).setCell ⟨an, 1, none⟩ (.int .i64 ((rd_T61 l1 ab).f1))).setCell ⟨an, 2, none⟩ (.int .i64 ((rd_T61 l1 ab).f2))).setCell ⟨an, 3, none⟩ (.int .u64 ((rd_T61 l1 ab).f3))).setCell ⟨az, 0, none⟩ (.int .i64 ((rd_T61 l1 ae).f0))).setCell ⟨az, 1, none⟩ (.int .i64 ((rd_T61 l1 ae).f1))).setCell ⟨az, 2, none⟩ (.int .i64 ((rd_T61 l1 ae).f2))).setCell ⟨az, 3, none⟩ (.int .u64 ((rd_T61 l1 ae).f3))).heap[an]? = some (.cells #[.int .i64 ((rd_T61 l1 ab).f0), .int .i64 ((rd_T61 l1 ab).f1), .int .i64 ((rd_T61 l1 ab).f2), .int .u64 ((rd_T61 l1 ab).f3)] 61 (0, 0))) := ⟨kg ag⟩;have n3_ : Aside0 (((((((((w24.setCell ⟨an, 0, none⟩ (.int .i64 ((rd_T61 l1 ab).f0))).setCell ⟨an, 1, none⟩ (.int .i64 ((rd_T61 l1 ab).f1))).setCell ⟨an, 2, none⟩ (.int .i64 ((rd_T61 l1 ab).f2))).setCell ⟨an, 3, none⟩ (.int .u64 ((rd_T61 l1 ab).f3))).setCell ⟨az, 0, none⟩ (.int .i64 ((rd_T61 l1 ae).f0))).setCell ⟨az, 1, none⟩ (.int .i64 ((rd_T61 l1 ae).f1))).setCell ⟨az, 2, none⟩ (.int .i64 ((rd_T61 l1 ae).f2))).setCell ⟨az, 3, none⟩ (.int .u64 ((rd_T61 l1 ae).f3))).heap[az]? = some (.cells #[.int .i64 ((rd_T61 l1 ae).f0), .int .i64 ((rd_T61 l1 ae).f1), .int .i64 ((rd_T61 l1 ae).f2), .int .u64 ((rd_T61 l1 ae).f3)] 61 (0, 0))) := ⟨kg ah⟩;have n4_ : Aside0 (Below w.heap.size w ((((((((w24.setCell ⟨an, 0, none⟩ (.int .i64 ((rd_T61 l1 ab).f0))).setCell ⟨an, 1, none⟩ (.int .i64 ((rd_T61 l1 ab).f1))).setCell ⟨an, 2, none⟩ (.int .i64 ((rd_T61 l1 ab).f2))).setCell ⟨an, 3, none⟩ (.int .u64 ((rd_T61 l1 ab).f3))).setCell ⟨az, 0, none⟩ (.int .i64 ((rd_T61 l1 ae).f0))).setCell ⟨az, 1, none⟩ (.int .i64 ((rd_T61 l1 ae).f1))).setCell ⟨az, 2, none⟩ (.int .i64 ((rd_T61 l1 ae).f2))).setCell ⟨az, 3, none⟩ (.int .u64 ((rd_T61 l1 ae).f3)))) := ⟨kh HB⟩;(try clear aa af ag ah HB);generalize ((((((((w24.setCell ⟨an, 0, none⟩ (.int .i64 ((rd_T61 l1 ab).f0))).setCell ⟨an, 1, none⟩ (.int .i64 ((rd_T61 l1 ab).f1))).setCell ⟨an, 2, none⟩ (.int .i64 ((rd_T61 l1 ab).f2))).setCell ⟨an, 3, none⟩ (.int .u64 ((rd_T61 l1 ab).f3))).setCell ⟨az, 0, none⟩ (.int .i64 ((rd_T61 l1 ae).f0))).setCell ⟨az, 1, none⟩ (.int .i64 ((rd_T61 l1 ae).f1))).setCell ⟨az, 2, none⟩ (.int .i64 ((rd_T61 l1 ae).f2))).setCell ⟨az, 3, none⟩ (.int .u64 ((rd_T61 l1 ae).f3))) = w25a at n0_ n1_ n2_ n3_ n4_ ⊢;have aa := n0_; have af := n1_; have ag := n2_; have ah := n3_; have HB := n4_; clear n0_ n1_ n2_ n3_ n4_;have hP := ax.out;have hQ := ay.out;have hR := ai.out;have hS := aj.out;have hT := ao.out;have hU := ap.out;have Z36 := kz4 aa;go_upto_region 7 with (fail);go_cut [12, 35] (fun v12 v35 wc => ∃ (kq : Nat) (bl : Bool), v12 = .bool (aw != 6) ∧ v35 = .bool bl ∧ Aside0 (tune_folded.j1 kq a0 (aw != 6) bl aw ab ae aE ((rd_T61 l1 ab).f0) ((rd_T61 l1 ab).f1) ((rd_T61 l1 ab).f2) ((rd_T61 l1 ab).f3) ((rd_T61 l1 ae).f0) ((rd_T61 l1 ae).f1) ((rd_T61 l1 ae).f2) ((rd_T61 l1 ae).f3) = some (r1, r2, r3, r4, r5)) ∧ Aside0 (kq ≤ kj3) ∧ Aside0 (wc.heap[aC]? = some (.cells #[.int .i64 aw, .int .i64 ab, .int .i64 ae, .int .u64 aE] 61 (0, 0))) ∧ Aside0 (wc.heap[aD]? = some (.cells #[.int .i64 0, .int .i64 0, .int .i64 0, .int .u64 0] 61 (0, 0))) ∧ Aside0 (wc.heap[an]? = some (.cells #[.int .i64 ((rd_T61 l1 ab).f0), .int .i64 ((rd_T61 l1 ab).f1), .int .i64 ((rd_T61 l1 ab).f2), .int .u64 ((rd_T61 l1 ab).f3)] 61 (0, 0))) ∧ Aside0 (wc.heap[az]? = some (.cells #[.int .i64 ((rd_T61 l1 ae).f0), .int .i64 ((rd_T61 l1 ae).f1), .int .i64 ((rd_T61 l1 ae).f2), .int .u64 ((rd_T61 l1 ae).f3)] 61 (0, 0))) ∧ Aside0 (Below w.heap.size w wc))
  case first =>
   have H := cc.out;clear cc
   by_cases c37 : aw = 6
   ·rw [if_pos c37] at H
    have bo := beq_iff_eq.mpr c37;have cx := bne_eq_false_iff_eq.mpr c37;clear c37;(first | rw [bo] | (simp only [i64_w, i32_w]; rw [bo]) | skip);have H' := Aside0.mk H;clear H;go_wp2;go_meet
    case rel => exact ⟨_, (false), et, et, H', ⟨by have := HJ3.out; first | omega | exact Nat.le_refl _⟩, aa, af, ag, ah, HB⟩
   rw [if_neg c37] at H;have bo := beq_eq_false_iff_ne.mpr c37;have cx := bne_iff_ne.mpr c37;(first | rw [bo] | (simp only [i64_w, i32_w]; rw [bo]) | skip)
   by_cases c38 : ((rd_T61 l1 ab).f0) = 2
   rotate_left
   ·rw [if_neg c38] at H
    have cy := beq_eq_false_iff_ne.mpr c38;have cz := bne_iff_ne.mpr c38;have H' := Aside0.mk H;clear H;have hV := aj.out;have hW := ai.out;have hX := al.out;have hY := ak.out;have hZ := au.out;have ia := av.out;have Z49 := kz4 ag;go_wp2;go_meet
    case rel => exact ⟨_, (false), et, et, H', ⟨by have := HJ3.out; first | omega | exact Nat.le_refl _⟩, aa, af, ag, ah, HB⟩
   rw [if_pos c38] at H;have cy := beq_iff_eq.mpr c38;have cz := bne_eq_false_iff_eq.mpr c38;clear c38;have H' := Aside0.mk H;clear H;have ib := aj.out;have ic := ai.out;have ie := al.out;have ig := ak.out;have ih := au.out;have ii := av.out;have Z42 := kz4 ag;have ij := ap.out;have ik := ao.out;have il := ar.out;have im := aq.out;have Z45 := kz4 ah;go_wp2;go_meet
   case rel => exact ⟨_, ((((rd_T61 l1 ae).f0) == 2)), et, et, H', ⟨by have := HJ3.out; first | omega | exact Nat.le_refl _⟩, aa, af, ag, ah, HB⟩
  clear cc;(try clear c12 cr ct cu cv Z14 Z15 Z36 aG aH aI aJ aK aM aN aQ bO bQ bP bR);obtain ⟨kq, bl, rfl, rfl, HA, bk, aa, af, ag, ah, HB⟩ := hcut
  cases kq with
  | zero => exact absurd HA.out (by simp [tune_folded.j1])
  | succ eM =>
   have H := HA.out;clear HA;simp only [tune_folded.j1] at H
   by_cases c50 : bl = true
   ·subst c50
    replace H := ifT H;obtain ⟨cd, bp⟩ : ∃ y_ : List Int, y_ = (([((rd_T61 l1 ab).f3), ((rd_T61 l1 ae).f3)] : List Int)) := ⟨_, rfl⟩
    replace H : ((circ_Of.f a0 aw 0 1 0 ([] : List Int) cd).bind fun bH => ((tune_folded_1.f bH).bind fun bq => (some (bq.1, bq.2.1, bq.2.2.1, bq.2.2.2.1, bq.2.2.2.2)))) = some (r1, r2, r3, r4, r5) := by first | (rw [bp]; with_reducible exact H) | (have H2_ := (Option.bind_some _ _).symm.trans H; rw [bp]; with_reducible exact H2_) | (have H2_ := (Option.bind_some _ _).symm.trans H; with_reducible exact H2_) | with_reducible exact H | (rw [bp]; exact H) | exact H
    have bU := Aside0.mk bp;clear bp;replace H := Option.bind_eq_some_iff.mp H;obtain ⟨bH, cA, H⟩ := H;(try dsimp only at H);have A51 := Aside0.mk cA;clear cA;replace H := Option.bind_eq_some_iff.mp H;obtain ⟨⟨cB, cC, cD, cE, eN⟩, cF, H⟩ := H;(try dsimp only at H);have A52 := Aside0.mk cF;clear cF;simp only [Option.some.injEq, Prod.mk.injEq] at H;obtain ⟨rfl, rfl, rfl, rfl, rfl⟩ := H;have io := ax.out;have ip := ay.out;have iq := ai.out;have ir := aj.out;have it := ao.out;have iu := ap.out;have Z56 := kz4 aa;have iv := al.out;have iw := ak.out;have ix := au.out;have iy := av.out;have Z59 := kz4 ag;have iz := ar.out;have iA := aq.out;have Z61 := kz4 ah;go_wp2_with (first | ((with_reducible refine gate_dst (N := 56) rfl ?_); refine Kd.R_lit (Kd.int .u64) _ 34 ?hg (N := 56) ?hd (xs := ([((rd_T61 l1 ab).f3), ((rd_T61 l1 ae).f3)] : List Int)) (inner := [.int .u64 ((rd_T61 l1 ab).f3), .int .u64 ((rd_T61 l1 ae).f3)]) (ok := fun _ => True) (okp := fun _ => True) ?hr ?hp (fun _ hk => hk) trivial (Below.refl _ _) (Nat.le_refl _) (by simp) ?_; (case hd => rfl); (case hg => rfl); (case hr => first | (go_simp; done) | (go_simp; rfl)); (case hp => exact (Reps.one (show Kd.M (Kd.int .u64) _ _ _ ((rd_T61 l1 ab).f3) [.int .u64 ((rd_T61 l1 ab).f3)] from rfl) (Reps.one (show Kd.M (Kd.int .u64) _ _ _ ((rd_T61 l1 ae).f3) [.int .u64 ((rd_T61 l1 ae).f3)] from rfl) (Reps.none _ _)))); intro jA w62 ho63 hb hg_ hnew_; clear hg_ hnew_; (first | rw [← bU.out] at ho63 | (simp only [Int.reduceToNat] at ho63; rw [← bU.out] at ho63)); have be := kLR ho63 HB; replace aa := kU aa hb; replace af := kU af hb; replace ag := kU ag hb; replace ah := kU ah hb; replace HB := kH HB hb; clear hb ho63; obtain ⟨eO, eP, eQ⟩ := Kd.R_slice be.out; subst eQ) | ((with_reducible refine gate_callee (f := 69) rfl ?_); refine goesL_ (some 57) rfl rfl Try.func69 (by kernel_rfl) rfl #[.int .u64 a0, .agg #[.int .i64 aw, .int .i64 0, .int .i64 1, .int .u64 0], .slice none 0 0, .slice eO cd.length eP] rfl (by (try simp only [qM1, qM2, qM3]); first | done | rfl) ?_; (refine (circ_Of.calls a0 aw 0 1 0 _ _ ([] : List Int) _ _ cd bH _ ?side1 ?side2 ?side3 ?side4 A51.out).mono ?_); (case side1 => exact Kd.C_nil _ _); (case side2 => exact Nat.le_refl _); (case side3 => repeat (first | exact (Kd.R_reads' be.out).2.2 | (with_reducible first | refine Kd.C_alloc ?_ _ | refine Kd.C_drewN ?_ _ | refine Kd.C_drew ?_))); (case side4 => exact (Kd.R_reads' be.out).2.1); rintro e w65 ⟨rfl, hb⟩; refine ⟨_, rfl, ?_⟩; replace be := kR be hb; replace aa := kU aa hb; replace af := kU af hb; replace ag := kU ag hb; replace ah := kU ah hb; replace HB := kH HB hb; (try clear hb); (try clear hb2); (try clear hk); (try clear hi)) | ((with_reducible refine gate_dst (N := 58) rfl ?_); refine api_Slot_78.goesT0 (some 58) rfl rfl Try.func67 (by kernel_rfl) rfl #[.int .u64 bH] rfl rfl (by (try simp only [qM1, qM2, qM3]); first | done | rfl) ?_; (with_reducible refine (tune_folded_1.calls bH cB cC cD cE eN _ A52.out).mono ?_); rintro e w66 ⟨rfl, hb⟩; refine ⟨_, rfl, ?_⟩; replace be := kR be hb; replace aa := kU aa hb; replace af := kU af hb; replace ag := kU ag hb; replace ah := kU ah hb; replace HB := kH HB hb; (try clear hb); (try clear hb2); (try clear hk); (try clear hi); have Z67 := kz4 af));refine bodyPost_ret (results_ct rfl _ _ aD 61 #[.int .i64 cB, .int .i64 cC, .int .i64 cD, .int .u64 cE] (0, 0) _ rfl (kg af) Try.underlying61 rfl (by kernel_rfl)) rfl ?_;exact ⟨er, kh HB⟩
   replace c50 := Bool.eq_false_iff.mpr c50;subst c50;replace H := ifF H;have ce := Aside0.mk H;clear H;go_upto_region 9 with (fail);go_cut [12, 61] (fun v12 v61 wc => ∃ (kq : Nat) (bm : Bool), v12 = .bool (aw != 6) ∧ v61 = .bool bm ∧ Aside0 (tune_folded.j2 kq a0 (aw != 6) bm aw ab ae aE ((rd_T61 l1 ab).f0) ((rd_T61 l1 ab).f1) ((rd_T61 l1 ab).f2) ((rd_T61 l1 ab).f3) ((rd_T61 l1 ae).f0) ((rd_T61 l1 ae).f1) ((rd_T61 l1 ae).f2) ((rd_T61 l1 ae).f3) = some (r1, r2, r3, r4, r5)) ∧ Aside0 (kq ≤ eM) ∧ Aside0 (wc.heap[aC]? = some (.cells #[.int .i64 aw, .int .i64 ab, .int .i64 ae, .int .u64 aE] 61 (0, 0))) ∧ Aside0 (wc.heap[aD]? = some (.cells #[.int .i64 0, .int .i64 0, .int .i64 0, .int .u64 0] 61 (0, 0))) ∧ Aside0 (wc.heap[an]? = some (.cells #[.int .i64 ((rd_T61 l1 ab).f0), .int .i64 ((rd_T61 l1 ab).f1), .int .i64 ((rd_T61 l1 ab).f2), .int .u64 ((rd_T61 l1 ab).f3)] 61 (0, 0))) ∧ Aside0 (wc.heap[az]? = some (.cells #[.int .i64 ((rd_T61 l1 ae).f0), .int .i64 ((rd_T61 l1 ae).f1), .int .i64 ((rd_T61 l1 ae).f2), .int .u64 ((rd_T61 l1 ae).f3)] 61 (0, 0))) ∧ Aside0 (Below w.heap.size w wc))
   case first =>
    have H := ce.out;clear ce
    by_cases c69 : (aw != 6) = true
    ·rw [if_pos c69] at H
     have br : (aw != 6) = true := c69;(try (have cG : decide (aw = 6) = false := by simpa using c69));(try (have cH : (aw == 6) = false := by simpa using c69));(try (have iB : ¬ (aw = 6) := by simpa using c69));clear c69;(first | rw [br] | (simp only [i64_w, i32_w]; rw [br]) | skip);have H' := Aside0.mk H;clear H;go_wp2;go_meet
     case rel => exact ⟨_, (false), et, et, H', ⟨by have := HJ3.out; have := bk.out; first | omega | exact Nat.le_refl _⟩, ⟨kg aa⟩, ⟨kg af⟩, ⟨kg ag⟩, ⟨kg ah⟩, ⟨kh HB⟩⟩
    rw [if_neg c69] at H
    have br : (aw != 6) = false := by simpa using c69
    (try (have cG : decide (aw = 6) = true := by simpa using c69));(try (have cH : (aw == 6) = true := by simpa using c69));clear c69;(first | rw [br] | (simp only [i64_w, i32_w]; rw [br]) | skip);have H' := Aside0.mk H;clear H;have iC := aj.out;have iD := ai.out;have iE := al.out;have iF := ak.out;have iG := au.out;have iH := av.out;have Z73 := kz4 ag;go_wp2;go_meet
    case rel => exact ⟨_, ((((rd_T61 l1 ab).f0) == 2)), et, et, H', ⟨by have := HJ3.out; have := bk.out; first | omega | exact Nat.le_refl _⟩, ⟨kg aa⟩, ⟨kg af⟩, ⟨kg ag⟩, ⟨kg ah⟩, ⟨kh HB⟩⟩
   clear ce;(try clear c50 Z56 Z59 Z61 Z67);obtain ⟨kq, bm, rfl, rfl, HA, bt, aa, af, ag, ah, HB⟩ := hcut
   cases kq with
   | zero => exact absurd HA.out (by simp [tune_folded.j2])
   | succ eR =>
    have H := HA.out;clear HA;simp only [tune_folded.j2] at H
    by_cases c74 : bm = true
    ·subst c74
     replace H := ifT H;replace H := Option.bind_eq_some_iff.mp H;obtain ⟨cf, cI, H⟩ := H;(try dsimp only at H);have A75 := Aside0.mk cI;clear cI;replace H := Option.bind_eq_some_iff.mp H;obtain ⟨⟨cJ, cK, cL, cM, eS⟩, cN, H⟩ := H;(try dsimp only at H);have A76 := Aside0.mk cN;clear cN;simp only [Option.some.injEq, Prod.mk.injEq] at H;obtain ⟨rfl, rfl, rfl, rfl, rfl⟩ := H;have iI := aj.out;have iJ := ai.out;have iK := al.out;have iL := ak.out;have iM := au.out;have iN := av.out;have Z80 := kz4 ag;have iO := ax.out;have iP := ay.out;have iQ := ao.out;have iR := ap.out;have Z83 := kz4 aa;go_wp2_with (first | ((with_reducible refine gate_callee (f := 70) rfl ?_); refine goesL_ (some 75) rfl rfl Try.func70 (by kernel_rfl) rfl #[.int .u64 a0, .int .u64 ((rd_T61 l1 ab).f3), .int .u64 aE] rfl (by (try simp only [qM1, qM2, qM3]); first | done | rfl) ?_; (with_reducible refine (qma.calls a0 ((rd_T61 l1 ab).f3) aE cf _ A75.out).mono ?_); rintro e w' ⟨rfl, ⟨nd, rfl⟩⟩; refine ⟨_, rfl, ?_⟩; (try (rw [drewN_self wc]; generalize hq_ : World.drewN wc _ = wc; replace aa : Aside0 (wc.heap[aC]? = some (.cells #[.int .i64 aw, .int .i64 ab, .int .i64 ae, .int .u64 aE] 61 (0, 0))) := ⟨by rw [← hq_]; exact (kb aa)⟩; replace af : Aside0 (wc.heap[aD]? = some (.cells #[.int .i64 0, .int .i64 0, .int .i64 0, .int .u64 0] 61 (0, 0))) := ⟨by rw [← hq_]; exact (kb af)⟩; replace ag : Aside0 (wc.heap[an]? = some (.cells #[.int .i64 ((rd_T61 l1 ab).f0), .int .i64 ((rd_T61 l1 ab).f1), .int .i64 ((rd_T61 l1 ab).f2), .int .u64 ((rd_T61 l1 ab).f3)] 61 (0, 0))) := ⟨by rw [← hq_]; exact (kb ag)⟩; replace ah : Aside0 (wc.heap[az]? = some (.cells #[.int .i64 ((rd_T61 l1 ae).f0), .int .i64 ((rd_T61 l1 ae).f1), .int .i64 ((rd_T61 l1 ae).f2), .int .u64 ((rd_T61 l1 ae).f3)] 61 (0, 0))) := ⟨by rw [← hq_]; exact (kb ah)⟩; replace HB : Aside0 (Below w.heap.size w wc) := ⟨by rw [← hq_]; exact (kh HB)⟩; clear hq_))) | ((with_reducible refine gate_dst (N := 76) rfl ?_); refine api_Slot_78.goesT0 (some 76) rfl rfl Try.func67 (by kernel_rfl) rfl #[.int .u64 cf] rfl rfl (by (try simp only [qM1, qM2, qM3]); first | done | rfl) ?_; (with_reducible refine (tune_folded_1.calls cf cJ cK cL cM eS _ A76.out).mono ?_); rintro e w84 ⟨rfl, hb⟩; refine ⟨_, rfl, ?_⟩; replace aa := kU aa hb; replace af := kU af hb; replace ag := kU ag hb; replace ah := kU ah hb; replace HB := kH HB hb; (try clear hb); (try clear hb2); (try clear hk); (try clear hi); have iS := aq.out; have iT := ar.out; have Z86 := kz4 af));refine bodyPost_ret (results_ct rfl _ _ aD 61 #[.int .i64 cJ, .int .i64 cK, .int .i64 cL, .int .u64 cM] (0, 0) _ rfl (kg af) Try.underlying61 rfl (by kernel_rfl)) rfl ?_;exact ⟨er, kh HB⟩
    replace c74 := Bool.eq_false_iff.mpr c74;subst c74;replace H := ifF H;have cg := Aside0.mk H;clear H;go_upto_region 11 with (fail);go_cut [12, 79] (fun v12 v79 wc => ∃ (kq : Nat) (bn : Bool), v12 = .bool (aw != 6) ∧ v79 = .bool bn ∧ Aside0 (tune_folded.j3 kq a0 (aw != 6) bn aw ab ae aE ((rd_T61 l1 ab).f0) ((rd_T61 l1 ab).f1) ((rd_T61 l1 ab).f2) ((rd_T61 l1 ab).f3) ((rd_T61 l1 ae).f0) ((rd_T61 l1 ae).f1) ((rd_T61 l1 ae).f2) ((rd_T61 l1 ae).f3) = some (r1, r2, r3, r4, r5)) ∧ Aside0 (kq ≤ eR) ∧ Aside0 (wc.heap[aC]? = some (.cells #[.int .i64 aw, .int .i64 ab, .int .i64 ae, .int .u64 aE] 61 (0, 0))) ∧ Aside0 (wc.heap[aD]? = some (.cells #[.int .i64 0, .int .i64 0, .int .i64 0, .int .u64 0] 61 (0, 0))) ∧ Aside0 (wc.heap[an]? = some (.cells #[.int .i64 ((rd_T61 l1 ab).f0), .int .i64 ((rd_T61 l1 ab).f1), .int .i64 ((rd_T61 l1 ab).f2), .int .u64 ((rd_T61 l1 ab).f3)] 61 (0, 0))) ∧ Aside0 (wc.heap[az]? = some (.cells #[.int .i64 ((rd_T61 l1 ae).f0), .int .i64 ((rd_T61 l1 ae).f1), .int .i64 ((rd_T61 l1 ae).f2), .int .u64 ((rd_T61 l1 ae).f3)] 61 (0, 0))) ∧ Aside0 (Below w.heap.size w wc))
    case first =>
     have H := cg.out;clear cg
     by_cases c88 : aw = 5
     rotate_left
     ·rw [if_neg c88] at H
      have bu := beq_eq_false_iff_ne.mpr c88;have cO := bne_iff_ne.mpr c88;(first | rw [bu] | (simp only [i64_w, i32_w]; rw [bu]) | skip);have H' := Aside0.mk H;clear H;have iU := ax.out;have iV := ay.out;have iW := ai.out;have iX := aj.out;have iY := ao.out;have iZ := ap.out;have Z99 := kz4 aa;go_wp2;go_meet
      case rel => exact ⟨_, (false), et, et, H', ⟨by have := HJ3.out; have := bk.out; have := bt.out; first | omega | exact Nat.le_refl _⟩, ⟨kg aa⟩, ⟨kg af⟩, ⟨kg ag⟩, ⟨kg ah⟩, ⟨kh HB⟩⟩
     rw [if_pos c88] at H;have bu := beq_iff_eq.mpr c88;have cO := bne_eq_false_iff_eq.mpr c88;clear c88;(first | rw [bu] | (simp only [i64_w, i32_w]; rw [bu]) | skip);have H' := Aside0.mk H;clear H;have ja := ax.out;have jb := ay.out;have jc := ai.out;have jd := aj.out;have je := ao.out;have jf := ap.out;have Z92 := kz4 aa;have jg := al.out;have jh := ak.out;have ji := au.out;have jj := av.out;have Z95 := kz4 ag;go_wp2;go_meet
     case rel => exact ⟨_, ((((rd_T61 l1 ab).f0) == 2)), et, et, H', ⟨by have := HJ3.out; have := bk.out; have := bt.out; first | omega | exact Nat.le_refl _⟩, ⟨kg aa⟩, ⟨kg af⟩, ⟨kg ag⟩, ⟨kg ah⟩, ⟨kh HB⟩⟩
    clear cg;(try clear c74 Z80 Z83 Z86);obtain ⟨kq, bn, rfl, rfl, HA, bF, aa, af, ag, ah, HB⟩ := hcut
    cases kq with
    | zero => exact absurd HA.out (by simp [tune_folded.j3])
    | succ eT =>
     have H := HA.out;clear HA;simp only [tune_folded.j3] at H
     by_cases bI : bn = true
     ·subst bI
      replace H := ifT H;replace H := Option.bind_eq_some_iff.mp H;obtain ⟨⟨cP, cQ, cR, cS, eU⟩, bV, H⟩ := H;(try dsimp only at H);have eV := Aside0.mk bV;clear bV;simp only [Option.some.injEq, Prod.mk.injEq] at H;obtain ⟨rfl, rfl, rfl, rfl, rfl⟩ := H;have eW := ax.out;have eX := ay.out;have eY := ai.out;have eZ := aj.out;have fa := ao.out;have fb := ap.out;have fc := kz4 aa;have fd := al.out;have fe := ak.out;have ff := au.out;have fg := av.out;have fh := kz4 ag;go_wp2_with (first | ((with_reducible refine gate_dst (N := 93) rfl ?_); refine api_Slot_78.goesT0 (some 93) rfl rfl Try.func68 (by kernel_rfl) rfl #[.int .i64 ae, .int .u64 ((rd_T61 l1 ab).f3)] rfl rfl (by (try simp only [qM1, qM2, qM3]); first | done | rfl) ?_; (with_reducible refine (tune_folded_2.calls ae ((rd_T61 l1 ab).f3) cP cQ cR cS eU _ eV.out).mono ?_); rintro e jB ⟨rfl, hb⟩; refine ⟨_, rfl, ?_⟩; replace aa := kU aa hb; replace af := kU af hb; replace ag := kU ag hb; replace ah := kU ah hb; replace HB := kH HB hb; (try clear hb); (try clear hb2); (try clear hk); (try clear hi); have fi := aq.out; have fj := ar.out; have fk := kz4 af));refine bodyPost_ret (results_ct rfl _ _ aD 61 #[.int .i64 cP, .int .i64 cQ, .int .i64 cR, .int .u64 cS] (0, 0) _ rfl (kg af) Try.underlying61 rfl (by kernel_rfl)) rfl ?_;exact ⟨er, kh HB⟩
     replace bI := Bool.eq_false_iff.mpr bI;subst bI;replace H := ifF H;have bJ := Aside0.mk H;clear H;go_upto_region 13 with (fail);go_cut [12, 96] (fun v12 v96 wc => ∃ (kq : Nat) (bd : Bool), v12 = .bool (aw != 6) ∧ v96 = .bool bd ∧ Aside0 (tune_folded.j4 kq a0 (aw != 6) bd aw ab ae aE ((rd_T61 l1 ab).f0) ((rd_T61 l1 ab).f1) ((rd_T61 l1 ab).f2) ((rd_T61 l1 ab).f3) ((rd_T61 l1 ae).f0) ((rd_T61 l1 ae).f1) ((rd_T61 l1 ae).f2) ((rd_T61 l1 ae).f3) = some (r1, r2, r3, r4, r5)) ∧ Aside0 (kq ≤ eT) ∧ Aside0 (wc.heap[aC]? = some (.cells #[.int .i64 aw, .int .i64 ab, .int .i64 ae, .int .u64 aE] 61 (0, 0))) ∧ Aside0 (wc.heap[aD]? = some (.cells #[.int .i64 0, .int .i64 0, .int .i64 0, .int .u64 0] 61 (0, 0))) ∧ Aside0 (wc.heap[an]? = some (.cells #[.int .i64 ((rd_T61 l1 ab).f0), .int .i64 ((rd_T61 l1 ab).f1), .int .i64 ((rd_T61 l1 ab).f2), .int .u64 ((rd_T61 l1 ab).f3)] 61 (0, 0))) ∧ Aside0 (wc.heap[az]? = some (.cells #[.int .i64 ((rd_T61 l1 ae).f0), .int .i64 ((rd_T61 l1 ae).f1), .int .i64 ((rd_T61 l1 ae).f2), .int .u64 ((rd_T61 l1 ae).f3)] 61 (0, 0))) ∧ Aside0 (Below w.heap.size w wc))
     case first =>
      have H := bJ.out;clear bJ
      by_cases bv : aw = 5
      rotate_left
      ·rw [if_neg bv] at H
       have bf := beq_eq_false_iff_ne.mpr bv;have ch := bne_iff_ne.mpr bv;(first | rw [bf] | (simp only [i64_w, i32_w]; rw [bf]) | skip);have H' := Aside0.mk H;clear H;have fl := ax.out;have fm := ay.out;have fn := ai.out;have fo := aj.out;have fp := ao.out;have fq := ap.out;have jC := kz4 aa;go_wp2;go_meet
       case rel => exact ⟨_, (false), et, et, H', ⟨by have := HJ3.out; have := bk.out; have := bt.out; have := bF.out; first | omega | exact Nat.le_refl _⟩, ⟨kg aa⟩, ⟨kg af⟩, ⟨kg ag⟩, ⟨kg ah⟩, ⟨kh HB⟩⟩
      rw [if_pos bv] at H;have bf := beq_iff_eq.mpr bv;have ch := bne_eq_false_iff_eq.mpr bv;clear bv;(first | rw [bf] | (simp only [i64_w, i32_w]; rw [bf]) | skip);have H' := Aside0.mk H;clear H;have fr := ax.out;have fs := ay.out;have ft := ai.out;have fu := aj.out;have fv := ao.out;have fw := ap.out;have jD := kz4 aa;have fx := ar.out;have fy := aq.out;have fz := av.out;have fA := au.out;have jE := kz4 ah;go_wp2;go_meet
      case rel => exact ⟨_, ((((rd_T61 l1 ae).f0) == 2)), et, et, H', ⟨by have := HJ3.out; have := bk.out; have := bt.out; have := bF.out; first | omega | exact Nat.le_refl _⟩, ⟨kg aa⟩, ⟨kg af⟩, ⟨kg ag⟩, ⟨kg ah⟩, ⟨kh HB⟩⟩
     clear bJ;(try clear bI fc fh fk);obtain ⟨kq, bd, rfl, rfl, HA, bE, aa, af, ag, ah, HB⟩ := hcut
     cases kq with
     | zero => exact absurd HA.out (by simp [tune_folded.j4])
     | succ cT =>
      have H := HA.out;clear HA;simp only [tune_folded.j4] at H
      by_cases bK : bd = true
      ·subst bK
       replace H := ifT H;replace H := Option.bind_eq_some_iff.mp H;obtain ⟨⟨cU, cV, cW, cX, fB⟩, bW, H⟩ := H;(try dsimp only at H);have fC := Aside0.mk bW;clear bW;simp only [Option.some.injEq, Prod.mk.injEq] at H;obtain ⟨rfl, rfl, rfl, rfl, rfl⟩ := H;have fD := ax.out;have fE := ay.out;have fF := ai.out;have fG := aj.out;have fH := ao.out;have fI := ap.out;have fJ := kz4 aa;have fK := ar.out;have fL := aq.out;have fM := av.out;have fN := au.out;have fO := kz4 ah;go_wp2_with (first | ((with_reducible refine gate_dst (N := 110) rfl ?_); refine api_Slot_78.goesT0 (some 110) rfl rfl Try.func68 (by kernel_rfl) rfl #[.int .i64 ab, .int .u64 ((rd_T61 l1 ae).f3)] rfl rfl (by (try simp only [qM1, qM2, qM3]); first | done | rfl) ?_; (with_reducible refine (tune_folded_2.calls ab ((rd_T61 l1 ae).f3) cU cV cW cX fB _ fC.out).mono ?_); rintro e jF ⟨rfl, hb⟩; refine ⟨_, rfl, ?_⟩; replace aa := kU aa hb; replace af := kU af hb; replace ag := kU ag hb; replace ah := kU ah hb; replace HB := kH HB hb; (try clear hb); (try clear hb2); (try clear hk); (try clear hi); have fP := ak.out; have fQ := al.out; have fR := kz4 af));refine bodyPost_ret (results_ct rfl _ _ aD 61 #[.int .i64 cU, .int .i64 cV, .int .i64 cW, .int .u64 cX] (0, 0) _ rfl (kg af) Try.underlying61 rfl (by kernel_rfl)) rfl ?_;exact ⟨er, kh HB⟩
      replace bK := Bool.eq_false_iff.mpr bK;subst bK;replace H := ifF H;have bL := Aside0.mk H;clear H;go_upto_region 15 with (fail);go_cut [12, 113] (fun v12 fS wc => ∃ (kq : Nat) (bb : Bool), v12 = .bool (aw != 6) ∧ fS = .bool bb ∧ Aside0 (tune_folded.j5 kq a0 (aw != 6) bb aw ab ae aE ((rd_T61 l1 ab).f0) ((rd_T61 l1 ab).f1) ((rd_T61 l1 ab).f2) ((rd_T61 l1 ab).f3) = some (r1, r2, r3, r4, r5)) ∧ Aside0 (kq ≤ cT) ∧ Aside0 (wc.heap[aC]? = some (.cells #[.int .i64 aw, .int .i64 ab, .int .i64 ae, .int .u64 aE] 61 (0, 0))) ∧ Aside0 (wc.heap[aD]? = some (.cells #[.int .i64 0, .int .i64 0, .int .i64 0, .int .u64 0] 61 (0, 0))) ∧ Aside0 (wc.heap[an]? = some (.cells #[.int .i64 ((rd_T61 l1 ab).f0), .int .i64 ((rd_T61 l1 ab).f1), .int .i64 ((rd_T61 l1 ab).f2), .int .u64 ((rd_T61 l1 ab).f3)] 61 (0, 0))) ∧ Aside0 (wc.heap[az]? = some (.cells #[.int .i64 ((rd_T61 l1 ae).f0), .int .i64 ((rd_T61 l1 ae).f1), .int .i64 ((rd_T61 l1 ae).f2), .int .u64 ((rd_T61 l1 ae).f3)] 61 (0, 0))) ∧ Aside0 (Below w.heap.size w wc))
      case first =>
       have H := bL.out;clear bL
       by_cases bg : (aw != 6) = true
       ·rw [if_pos bg] at H
        have bh : (aw != 6) = true := bg;(try (have ci : decide (aw = 6) = false := by simpa using bg));(try (have cj : (aw == 6) = false := by simpa using bg));(try (have fT : ¬ (aw = 6) := by simpa using bg));clear bg;(first | rw [bh] | (simp only [i64_w, i32_w]; rw [bh]) | skip);have H' := Aside0.mk H;clear H;go_wp2;go_meet
        case rel => exact ⟨_, (false), et, et, H', ⟨by have := HJ3.out; have := bk.out; have := bt.out; have := bF.out; have := bE.out; first | omega | exact Nat.le_refl _⟩, ⟨kg aa⟩, ⟨kg af⟩, ⟨kg ag⟩, ⟨kg ah⟩, ⟨kh HB⟩⟩
       rw [if_neg bg] at H
       have bh : (aw != 6) = false := by simpa using bg
       (try (have ci : decide (aw = 6) = true := by simpa using bg));(try (have cj : (aw == 6) = true := by simpa using bg));clear bg;(first | rw [bh] | (simp only [i64_w, i32_w]; rw [bh]) | skip);have H' := Aside0.mk H;clear H;have fU := ax.out;have fV := ay.out;have fW := ai.out;have fX := aj.out;have fY := ao.out;have fZ := ap.out;have jG := kz4 aa;go_wp2;go_meet
       case rel => exact ⟨_, ((aE == 0)), et, et, H', ⟨by have := HJ3.out; have := bk.out; have := bt.out; have := bF.out; have := bE.out; first | omega | exact Nat.le_refl _⟩, ⟨kg aa⟩, ⟨kg af⟩, ⟨kg ag⟩, ⟨kg ah⟩, ⟨kh HB⟩⟩
      clear bL;(try clear bK fJ fO fR);obtain ⟨kq, bb, rfl, rfl, HA, bX, aa, af, ag, ah, HB⟩ := hcut
      cases kq with
      | zero => exact absurd HA.out (by simp [tune_folded.j5])
      | succ cY =>
       have H := HA.out;clear HA;simp only [tune_folded.j5] at H
       by_cases bM : bb = true
       ·subst bM
        replace H := ifT H;replace H := Option.bind_eq_some_iff.mp H;obtain ⟨⟨cZ, da, db, dc, ga⟩, bY, H⟩ := H;(try dsimp only at H);have gb := Aside0.mk bY;clear bY;simp only [Option.some.injEq, Prod.mk.injEq] at H;obtain ⟨rfl, rfl, rfl, rfl, rfl⟩ := H;go_wp2_with (first | ((with_reducible refine gate_dst (N := 122) rfl ?_); refine api_Slot_78.goesT0 (some 122) rfl rfl Try.func67 (by kernel_rfl) rfl #[.int .u64 0] rfl rfl (by (try simp only [qM1, qM2, qM3]); first | done | rfl) ?_; (with_reducible refine (tune_folded_1.calls 0 cZ da db dc ga _ gb.out).mono ?_); rintro e jH ⟨rfl, hb⟩; refine ⟨_, rfl, ?_⟩; replace aa := kU aa hb; replace af := kU af hb; replace ag := kU ag hb; replace ah := kU ah hb; replace HB := kH HB hb; (try clear hb); (try clear hb2); (try clear hk); (try clear hi); have gc := ay.out; have gd := ax.out; have ge := ak.out; have gf := al.out; have gg := aq.out; have gh := ar.out; have gi := kz4 af));refine bodyPost_ret (results_ct rfl _ _ aD 61 #[.int .i64 cZ, .int .i64 da, .int .i64 db, .int .u64 dc] (0, 0) _ rfl (kg af) Try.underlying61 rfl (by kernel_rfl)) rfl ?_;exact ⟨er, kh HB⟩
       replace bM := Bool.eq_false_iff.mpr bM;subst bM;replace H := ifF H;have bN := Aside0.mk H;clear H;go_upto_region 17 with (fail);go_cut [12, 125] (fun v12 gj wc => ∃ (kq : Nat) (bc : Bool), v12 = .bool (aw != 6) ∧ gj = .bool bc ∧ Aside0 (tune_folded.j6 kq a0 bc aw ab ae aE ((rd_T61 l1 ab).f0) ((rd_T61 l1 ab).f1) ((rd_T61 l1 ab).f2) ((rd_T61 l1 ab).f3) = some (r1, r2, r3, r4, r5)) ∧ Aside0 (kq ≤ cY) ∧ Aside0 (wc.heap[aC]? = some (.cells #[.int .i64 aw, .int .i64 ab, .int .i64 ae, .int .u64 aE] 61 (0, 0))) ∧ Aside0 (wc.heap[aD]? = some (.cells #[.int .i64 0, .int .i64 0, .int .i64 0, .int .u64 0] 61 (0, 0))) ∧ Aside0 (wc.heap[an]? = some (.cells #[.int .i64 ((rd_T61 l1 ab).f0), .int .i64 ((rd_T61 l1 ab).f1), .int .i64 ((rd_T61 l1 ab).f2), .int .u64 ((rd_T61 l1 ab).f3)] 61 (0, 0))) ∧ Aside0 (wc.heap[az]? = some (.cells #[.int .i64 ((rd_T61 l1 ae).f0), .int .i64 ((rd_T61 l1 ae).f1), .int .i64 ((rd_T61 l1 ae).f2), .int .u64 ((rd_T61 l1 ae).f3)] 61 (0, 0))) ∧ Aside0 (Below w.heap.size w wc))
       case first =>
        have H := bN.out;clear bN
        by_cases bi : (aw != 6) = true
        ·rw [if_pos bi] at H
         have bj : (aw != 6) = true := bi;(try (have ck : decide (aw = 6) = false := by simpa using bi));(try (have cl : (aw == 6) = false := by simpa using bi));(try (have gl : ¬ (aw = 6) := by simpa using bi));clear bi;(first | rw [bj] | (simp only [i64_w, i32_w]; rw [bj]) | skip);have H' := Aside0.mk H;clear H;go_wp2;go_meet
         case rel => exact ⟨_, (false), et, et, H', ⟨by have := HJ3.out; have := bk.out; have := bt.out; have := bF.out; have := bE.out; have := bX.out; first | omega | exact Nat.le_refl _⟩, ⟨kg aa⟩, ⟨kg af⟩, ⟨kg ag⟩, ⟨kg ah⟩, ⟨kh HB⟩⟩
        rw [if_neg bi] at H
        have bj : (aw != 6) = false := by simpa using bi
        (try (have ck : decide (aw = 6) = true := by simpa using bi));(try (have cl : (aw == 6) = true := by simpa using bi));clear bi;(first | rw [bj] | (simp only [i64_w, i32_w]; rw [bj]) | skip);have H' := Aside0.mk H;clear H;have gm := aj.out;have gn := ai.out;have go := al.out;have gp := ak.out;have gq := au.out;have gs := av.out;have jI := kz4 ag;go_wp2;go_meet
        case rel => exact ⟨_, ((((rd_T61 l1 ab).f0) == 6)), et, et, H', ⟨by have := HJ3.out; have := bk.out; have := bt.out; have := bF.out; have := bE.out; have := bX.out; first | omega | exact Nat.le_refl _⟩, ⟨kg aa⟩, ⟨kg af⟩, ⟨kg ag⟩, ⟨kg ah⟩, ⟨kh HB⟩⟩
       clear bN;(try clear bM gi);obtain ⟨kq, bc, rfl, rfl, HA, jk, aa, af, ag, ah, HB⟩ := hcut
       cases kq with
       | zero => exact absurd HA.out (by simp [tune_folded.j6])
       | succ jl =>
        have H := HA.out;clear HA;simp only [tune_folded.j6] at H
        by_cases bS : bc = true
        rotate_left
        ·replace bS := Bool.eq_false_iff.mpr bS
         subst bS;replace H := ifF H
         by_cases bw : aw = 4
         rotate_left
         ·rw [if_neg bw] at H
          have cm := beq_eq_false_iff_ne.mpr bw;have cn := bne_iff_ne.mpr bw;simp only [Option.some.injEq, Prod.mk.injEq] at H;obtain ⟨rfl, rfl, rfl, rfl, rfl⟩ := H;have gt := ax.out;have gu := ay.out;have gv := ai.out;have gw := aj.out;have gx := ao.out;have gy := ap.out;have jJ := kz4 aa;have gz := ak.out;have gA := al.out;have gB := aq.out;have gC := ar.out;have jK := kz4 af;go_wp2;refine bodyPost_ret (results_ct rfl _ _ aD 61 #[.int .i64 aw, .int .i64 ab, .int .i64 ae, .int .u64 aE] (0, 0) _ rfl (kg af) Try.underlying61 rfl (by kernel_rfl)) rfl ?_;exact ⟨er, kh HB⟩
         rw [if_pos bw] at H;have cm := beq_iff_eq.mpr bw;have cn := bne_eq_false_iff_eq.mpr bw;clear bw
         by_cases bx : ab = ae
         rotate_left
         ·rw [if_neg bx] at H
          have co := beq_eq_false_iff_ne.mpr bx;have cp := bne_iff_ne.mpr bx;simp only [Option.some.injEq, Prod.mk.injEq] at H;obtain ⟨rfl, rfl, rfl, rfl, rfl⟩ := H;have gD := ax.out;have gE := ay.out;have gF := ai.out;have gG := aj.out;have gH := ao.out;have gI := ap.out;have jL := kz4 aa;have gJ := ak.out;have gK := al.out;have gL := aq.out;have gM := ar.out;have jM := kz4 af;go_wp2;refine bodyPost_ret (results_ct rfl _ _ aD 61 #[.int .i64 aw, .int .i64 ab, .int .i64 ae, .int .u64 aE] (0, 0) _ rfl (kg af) Try.underlying61 rfl (by kernel_rfl)) rfl ?_;exact ⟨er, kh HB⟩
         rw [if_pos bx] at H;have co := beq_iff_eq.mpr bx;have cp := bne_eq_false_iff_eq.mpr bx;clear bx;replace H := Option.bind_eq_some_iff.mp H;obtain ⟨⟨dd, de, df, dg, gN⟩, bZ, H⟩ := H;(try dsimp only at H);have gO := Aside0.mk bZ;clear bZ;simp only [Option.some.injEq, Prod.mk.injEq] at H;obtain ⟨rfl, rfl, rfl, rfl, rfl⟩ := H;have gP := ax.out;have gQ := ay.out;have gR := ai.out;have gS := aj.out;have gT := ao.out;have gU := ap.out;have jN := kz4 aa;go_wp2_with (first | ((with_reducible refine gate_dst (N := 157) rfl ?_); refine api_Slot_78.goesT0 (some 157) rfl rfl Try.func67 (by kernel_rfl) rfl #[.int .u64 0] rfl rfl (by (try simp only [qM1, qM2, qM3]); first | done | rfl) ?_; (with_reducible refine (tune_folded_1.calls 0 dd de df dg gN _ gO.out).mono ?_); rintro e jO ⟨rfl, hb⟩; refine ⟨_, rfl, ?_⟩; replace aa := kU aa hb; replace af := kU af hb; replace ag := kU ag hb; replace ah := kU ah hb; replace HB := kH HB hb; (try clear hb); (try clear hb2); (try clear hk); (try clear hi); have gV := ak.out; have gW := al.out; have gX := aq.out; have gY := ar.out; have jP := kz4 af));refine bodyPost_ret (results_ct rfl _ _ aD 61 #[.int .i64 dd, .int .i64 de, .int .i64 df, .int .u64 dg] (0, 0) _ rfl (kg af) Try.underlying61 rfl (by kernel_rfl)) rfl ?_;exact ⟨er, kh HB⟩
        subst bS;replace H := ifT H;replace H := Option.bind_eq_some_iff.mp H;obtain ⟨cq, ca, H⟩ := H;(try dsimp only at H);have gZ := Aside0.mk ca;clear ca;replace H := Option.bind_eq_some_iff.mp H;obtain ⟨⟨dh, di, dj, dk, hf⟩, cb, H⟩ := H;(try dsimp only at H);have hh := Aside0.mk cb;clear cb;simp only [Option.some.injEq, Prod.mk.injEq] at H;obtain ⟨rfl, rfl, rfl, rfl, rfl⟩ := H;(try go_wp2);replace aa := kD aa; replace af := kD af; replace ag := kD ag; replace ah := kD ah; replace HB := kE HB;refine start_ (n := 14) (S := fun w' => w'.cell? ⟨an, 0, none⟩ = some (.int .i64 ((rd_T61 l1 ab).f0)) ∧ w'.cell? ⟨an, 1, none⟩ = some (.int .i64 ((rd_T61 l1 ab).f1)) ∧ w'.cell? ⟨an, 2, none⟩ = some (.int .i64 ((rd_T61 l1 ab).f2)) ∧ w'.cell? ⟨an, 3, none⟩ = some (.int .u64 ((rd_T61 l1 ab).f3)) ∧ w'.cell? ⟨aC, 0, none⟩ = some (.int .i64 aw) ∧ w'.cell? ⟨aC, 1, none⟩ = some (.int .i64 ab) ∧ w'.cell? ⟨aC, 2, none⟩ = some (.int .i64 ae) ∧ w'.cell? ⟨aC, 3, none⟩ = some (.int .u64 aE)) (ds := []) (bs 14 0) (by kernel_rfl) rfl rfl ⟨kk ag 0, kk ag 1, kk ag 2, kk ag 3, kk aa 0, kk aa 1, kk aa 2, kk aa 3⟩ (fun hHeld => ?_); refine with_tabW tune_folded.tab18 tune_folded.bits18 (fun HT_ HW_ => ?_);generalize wc.drew = jQ at aa af ag ah HB hHeld ⊢;refine pu 0 (some 133) (bs 14 1) HT_ ?_;refine pu 1 (some 134) (bs 14 3) HT_ ?_;refine pu 3 (some 136) (bs 14 11) HT_ ?_;refine pu 4 (some 137) (bs 14 27) HT_ ?_;refine pu 6 (some 139) (bs 14 91) HT_ ?_;refine ta 2 (some 135) (bs 14 95) HT_ HW_ hHeld ?_;refine ta 5 (some 138) (bs 14 127) HT_ HW_ hHeld ?_;refine ta 7 (some 140) (bs 14 255) HT_ HW_ hHeld ?_;refine one_ (i := 8) (N := some 141) (bs 14 511) rfl rfl (one_of HT_.out (by kernel_rfl)) (by decide) (fun K hK => ?_);refine goes_ Try.func70 (by kernel_rfl) rfl #[.int .u64 a0, .int .u64 ((rd_T61 l1 ab).f3), .int .u64 aE] (by rfl) rfl rfl (by (try simp only [qM1, qM2, qM3]); first | done | rfl) ?_;(with_reducible refine (qma.calls a0 ((rd_T61 l1 ab).f3) aE cq _ gZ.out).mono ?_);rintro e w' ⟨rfl, ⟨nd, rfl⟩⟩;refine ⟨_, rfl, ?_⟩;refine hK.out _ _ ⟨kk ag 0, kk ag 1, kk ag 2, kk ag 3, kk aa 0, kk aa 1, kk aa 2, kk aa 3⟩ (fun hHeld => ?_);clear hK K;refine no (some 141) ?_;refine one_ (i := 9) (N := some 142) (bs 14 1023) rfl rfl (one_of HT_.out (by kernel_rfl)) (by decide) (fun K hK => ?_);refine api_Slot_78.goesT0_ Try.func68 (by kernel_rfl) rfl #[.int .i64 ((rd_T61 l1 ab).f1), .int .u64 cq] (by rfl) rfl rfl rfl (by (try simp only [qM1, qM2, qM3]); first | done | rfl) ?_;(with_reducible refine (tune_folded_2.calls ((rd_T61 l1 ab).f1) cq dh di dj dk hf _ hh.out).mono ?_);rintro e bT ⟨rfl, hb⟩;refine ⟨_, rfl, ?_⟩;replace aa := kU aa hb; replace af := kU af hb; replace ag := kU ag hb; replace ah := kU ah hb; replace HB := kH HB hb;(try clear hb);refine hK.out _ _ ⟨kk ag 0, kk ag 1, kk ag 2, kk ag 3, kk aa 0, kk aa 1, kk aa 2, kk aa 3⟩ (fun hHeld => ?_);clear hK K;refine no (some 142) ?_;refine pu 10 (some 143) (bs 14 2047) HT_ ?_;refine pu 11 (some 144) (bs 14 4095) HT_ ?_;refine one_ (i := 12) (N := none) (bs 14 8191) rfl rfl (one_of HT_.out (by kernel_rfl)) (by decide) (fun K hK => ?_);have jm : bT.cell? ⟨aD, 0, none⟩ = some (.int .i64 0) := kk af 0;have hs := blk_frozen af.out 0;have dl := ax.out;have dm := al.out;have dn := ar.out;have dp := ay.out;have dq := ak.out;have dr := aq.out;have jn : bT.cell? ⟨aD, 1, none⟩ = some (.int .i64 0) := kk af 1;have ht := blk_frozen af.out 1;have dt := ax.out;have du := al.out;have dv := ar.out;have dw := ay.out;have dx := ak.out;have dy := aq.out;have jo : bT.cell? ⟨aD, 2, none⟩ = some (.int .i64 0) := kk af 2;have hu := blk_frozen af.out 2;have dz := ax.out;have dA := al.out;have dB := ar.out;have dC := ay.out;have dD := ak.out;have dE := aq.out;have jp : bT.cell? ⟨aD, 3, none⟩ = some (.int .u64 0) := kk af 3;have hv := blk_frozen af.out 3;have dF := ax.out;have dG := al.out;have dH := ar.out;have dI := ay.out;have dJ := ak.out;have dK := aq.out;refine skip_ (w1 := ?_) (by rfl) rfl ?_ ?_
        rotate_left
        ·go_simp
         rfl
        refine hK.out _ _ ⟨(kf hHeld.1), (kf hHeld.2.1), (kf hHeld.2.2.1), (kf hHeld.2.2.2.1), (kf hHeld.2.2.2.2.1), (kf hHeld.2.2.2.2.2.1), (kf hHeld.2.2.2.2.2.2.1), (kf hHeld.2.2.2.2.2.2.2)⟩ (fun hHeld => ?_);clear hK K;refine pu 13 (some 7) (bs 14 16383) HT_ ?_;refine done_ (done_of HT_.out (by kernel_rfl)) ?_;(try go_wp2);refine bodyPost_ret (results_ct rfl _ _ aD 61 #[.int .i64 dh, .int .i64 di, .int .i64 dj, .int .u64 dk] (0, 0) _ rfl (kg af) Try.underlying61 rfl (by kernel_rfl)) rfl ?_;exact ⟨er, kh HB⟩
mutual
def tune_Fold.l0 : Nat → Int → Int → Int → List (S64) → List (S61) → List (S66) → Option ((List (S64)) × (List (S61)) × (List (S66)) × Int)
 | 0, _, _, _, _, _, _ => none
 | k + 1, x0, x21, x22, ab, aa, ae => if x22 < x21 then (tune_Fold.l1 k x0 x22 true x21 x22 ab aa ae) else (some (ab, aa, ae, 0))
def tune_Fold.l1 : Nat → Int → Int → Bool → Int → Int → List (S64) → List (S61) → List (S66) → Option ((List (S64)) × (List (S61)) × (List (S66)) × Int)
 | 0, _, _, _, _, _, _, _, _ => none
 | k + 1, x0, x8, x9, x21, x22, ab, aa, ae => if x9 = true then (if 0 ≤ x8 then (if x8 < (aa.length : Int) then ((tune_folded.f k x0 aa ((rd_T61 aa x8).f0) ((rd_T61 aa x8).f1) ((rd_T61 aa x8).f2) ((rd_T61 aa x8).f3)).bind fun af => (tune_Fold.l1 k x0 x8 af.2.2.2.2 x21 x22 ab (aa.set (x8 : Int).toNat (⟨af.1, af.2.1, af.2.2.1, af.2.2.2.1⟩ : S61)) ae)) else (none)) else (none)) else (tune_Fold.l0 k x0 x21 (wrap64 (x22 + 1)) ab aa ae)
end
def tune_Fold.f (k : Nat) (a0 : Int) (ab : List (S64)) (ae : List (S61)) (af : List (S66)) : Option ((List (S64)) × (List (S61)) × (List (S66)) × Int) := (circ_Check.f k a0 ab ae af).bind fun ag => (if ag = 0 then ((tune_Own.f k ab ae af).bind fun aa => (tune_Fold.l0 k a0 (aa.2.1.length : Int) 0 aa.1 aa.2.1 aa.2.2)) else (some (([] : List (S64)), ([] : List (S61)), ([] : List (S66)), ag)))
theorem tune_Fold.mono_l : ∀ k, (∀ y0 y1 y2 y3 y4 y5, LeO (tune_Fold.l0 k y0 y1 y2 y3 y4 y5) (tune_Fold.l0 (k + 1) y0 y1 y2 y3 y4 y5)) ∧ (∀ y0 y1 y2 y3 y4 y5 y6 y7, LeO (tune_Fold.l1 k y0 y1 y2 y3 y4 y5 y6 y7) (tune_Fold.l1 (k + 1) y0 y1 y2 y3 y4 y5 y6 y7))
 | 0 => ⟨fun _ _ _ _ _ _ r h => by simp [tune_Fold.l0] at h, fun _ _ _ _ _ _ _ _ r h => by simp [tune_Fold.l1] at h⟩
 | k + 1 => by
  obtain ⟨ih0, ih1⟩ := tune_Fold.mono_l k;refine ⟨?_, ?_⟩
  ·intro y0 y1 y2 y3 y4 y5
   unfold tune_Fold.l0
   repeat' first
   | (with_reducible exact ih0 _ _ _ _ _ _)
   | (with_reducible exact ih1 _ _ _ _ _ _ _ _)
   | (with_reducible exact circ_Check.mono _ _ _ _ _)
   | (with_reducible exact tune_Own.mono _ _ _ _)
   | (with_reducible exact tune_folded.mono _ _ _ _ _ _ _)
   | (with_reducible exact LeO.refl _)
   | (with_reducible exact LeO.none _)
   | (with_reducible refine LeO.ite ?_ ?_)
   | (with_reducible refine LeO.bind ?_ (fun _ => ?_))
   | exact ih0 _ _ _ _ _ _
   | exact ih1 _ _ _ _ _ _ _ _
   | exact circ_Check.mono _ _ _ _ _
   | exact tune_Own.mono _ _ _ _
   | exact tune_folded.mono _ _ _ _ _ _ _
   | exact LeO.none _
   | refine LeO.ite ?_ ?_
   | refine LeO.bind ?_ (fun _ => ?_)
  ·intro y0 y1 y2 y3 y4 y5 y6 y7
   unfold tune_Fold.l1
   repeat' first
   | (with_reducible exact ih0 _ _ _ _ _ _)
   | (with_reducible exact ih1 _ _ _ _ _ _ _ _)
   | (with_reducible exact circ_Check.mono _ _ _ _ _)
   | (with_reducible exact tune_Own.mono _ _ _ _)
   | (with_reducible exact tune_folded.mono _ _ _ _ _ _ _)
   | (with_reducible exact LeO.refl _)
   | (with_reducible exact LeO.none _)
   | (with_reducible refine LeO.ite ?_ ?_)
   | (with_reducible refine LeO.bind ?_ (fun _ => ?_))
   | exact ih0 _ _ _ _ _ _
   | exact ih1 _ _ _ _ _ _ _ _
   | exact circ_Check.mono _ _ _ _ _
   | exact tune_Own.mono _ _ _ _
   | exact tune_folded.mono _ _ _ _ _ _ _
   | exact LeO.none _
   | refine LeO.ite ?_ ?_
   | refine LeO.bind ?_ (fun _ => ?_)
theorem tune_Fold.mono : ∀ a0 a1 a2 a3 k, LeO (tune_Fold.f k a0 a1 a2 a3) (tune_Fold.f (k + 1) a0 a1 a2 a3) := by
 intro a0 a1 a2 a3 k;obtain ⟨ih0, ih1⟩ := tune_Fold.mono_l k;unfold tune_Fold.f
 repeat' first
   | (with_reducible exact ih0 _ _ _ _ _ _)
   | (with_reducible exact ih1 _ _ _ _ _ _ _ _)
   | (with_reducible exact circ_Check.mono _ _ _ _ _)
   | (with_reducible exact tune_Own.mono _ _ _ _)
   | (with_reducible exact tune_folded.mono _ _ _ _ _ _ _)
   | (with_reducible exact LeO.refl _)
   | (with_reducible exact LeO.none _)
   | (with_reducible refine LeO.ite ?_ ?_)
   | (with_reducible refine LeO.bind ?_ (fun _ => ?_))
   | exact ih0 _ _ _ _ _ _
   | exact ih1 _ _ _ _ _ _ _ _
   | exact circ_Check.mono _ _ _ _ _
   | exact tune_Own.mono _ _ _ _
   | exact tune_folded.mono _ _ _ _ _ _ _
   | exact LeO.none _
   | refine LeO.ite ?_ ?_
   | refine LeO.bind ?_ (fun _ => ?_)
def tune_Fold.T10 : Bool × List (List Nat × List Nat) := (true, [([], []), ([0], [0]), ([], []), ([], []), ([], []), ([4], [4]), ([], []), ([6], [6]), ([], []), ([7, 8], [7, 8]), ([9], [9]), ([3, 5, 10], [3, 5, 10]), ([11], [11]), ([12], [12]), ([12], [12]), ([1, 2, 0, 1, 2, 3, 4, 5, 6, 7, 8, 9, 10, 11, 12, 13], [1, 2]), ([15, 13, 11, 0, 1, 2, 3, 4, 5, 6, 7, 8, 9, 10, 11, 12, 13], [13, 15]), ([14, 16, 0, 1, 2, 3, 4, 5, 6, 7, 8, 9, 10, 11, 12, 13, 14, 15, 16], [14])])
def tune_Fold.B10 : List Nat := [0, 1, 0, 0, 0, 16, 0, 64, 0, 448, 960, 2040, 4088, 8184, 8184, 16383, 49151, 131071]
theorem tune_Fold.tab10 : rtab .any (opsOf Try.f16 10) = tune_Fold.T10 := by kernel_rfl
theorem tune_Fold.bits10 : waitsOk tune_Fold.T10.2 tune_Fold.B10 = true := by kernel_rfl
theorem tune_Fold.calls (k : Nat) (a0 : Int) (aM : Option Addr) (aN : Nat) (ar : List (S64)) (aQ : Option Addr) (aT : Nat) (au : List (S61)) (aU : Option Addr) (aV : Nat) (av : List (S66)) (r1 : List (S64)) (r2 : List (S61)) (r3 : List (S66)) (r4 : Int) (w : World) (bx : Kd.C k64 w aM ar.length ar) (bz : ar.length ≤ aN) (bA : Kd.C k61 w aQ au.length au) (bB : au.length ≤ aT) (bC : Kd.C k66 w aU av.length av) (bD : av.length ≤ aV) (h : tune_Fold.f k a0 ar au av = some (r1, r2, r3, r4)) :
  Calls Try.prog 16 #[.int .u64 a0, .agg #[.slice aM ar.length aN, .slice aQ au.length aT, .slice aU av.length aV]] w fun e w' => ∃ v0_ v1_ v2_ : Value, e = .returned (.tuple #[.agg #[v0_, v1_, v2_], .int .i64 r4]) ∧ Kd.R k64 64 w' w.heap.size (fun _ => True) v0_ r1 ∧ Kd.R k61 61 w' w.heap.size (fun _ => True) v1_ r2 ∧ Kd.S k66 66 w' w.heap.size (fun _ => True) v2_ r3 ∧ Below w.heap.size w w' := by
 have hu26 := Try.underlying26;have hu61 := Try.underlying61;have bk := Aside0.mk bx;have bl := Aside0.mk bz;clear bx bz;have bm := Aside0.mk bA;have bn := Aside0.mk bB;clear bA bB;have bo := Aside0.mk bC;have bp := Aside0.mk bD;clear bC bD;have HB := Aside0.mk (Below.refl w.heap.size w);have H : ((circ_Check.f k a0 ar au av).bind fun bj => (if bj = 0 then ((tune_Own.f k ar au av).bind fun bf => (tune_Fold.l0 k a0 (bf.2.1.length : Int) 0 bf.1 bf.2.1 bf.2.2)) else (some (([] : List (S64)), ([] : List (S61)), ([] : List (S66)), bj)))) = some (r1, r2, r3, r4) := h;clear h;replace H := Option.bind_eq_some_iff.mp H;obtain ⟨bj, A30, H⟩ := H;(try dsimp only at H);have A3 := Aside0.mk A30;clear A30
 by_cases c4 : bj = 0
 rotate_left
 ·rw [if_neg c4] at H
  have bK := beq_eq_false_iff_ne.mpr c4;have bL := bne_iff_ne.mpr c4;simp only [Option.some.injEq, Prod.mk.injEq] at H;obtain ⟨rfl, rfl, rfl, rfl⟩ := H;go_enter Try.func16, Try.ntmps16;go_wp2_with (first | ((with_reducible refine gate_dst (N := 3) rfl ?_); refine box_event ?hg (N := 3) ?hd (cs := #[.slice aM ar.length aN, .slice aQ au.length aT, .slice aU av.length aV]) (t := 26) ?hr ?_; (case hd => rfl); (case hg => rfl); (case hr => first | (go_simp; done) | (go_simp; rfl)); intro bq hg w36 hbox hb; have af := am hbox; have bM := kG HB hg; have bN := kG HB hg; replace HB := kH HB hb; clear hb hbox hg) | ((with_reducible refine gate_dst (N := 4) rfl ?_); refine box_event ?hg (N := 4) ?hd (cs := #[.slice none 0 0, .slice none 0 0, .slice none 0 0]) (t := 26) ?hr ?_; (case hd => rfl); (case hg => rfl); (case hr => first | (go_simp; done) | (go_simp; rfl)); intro an hg w37 hbox hb; have ag := am hbox; have bO := kG HB hg; have bP := kG HB hg; replace HB := kH HB hb; have ax := kP af hg; have ay := kQ af hg; replace af := kU af hb; clear hb hbox hg; have cl := ax.out; have cm := ay.out; have Z39 := kz3 af) | ((with_reducible refine gate_callee (f := 37) rfl ?_); refine goesL_ (some 12) rfl rfl Try.func37 (by kernel_rfl) rfl #[.int .u64 a0, .agg #[.slice aM ar.length aN, .slice aQ au.length aT, .slice aU av.length aV]] rfl (by (try simp only [qM1, qM2, qM3]); first | done | rfl) ?_; (with_reducible refine (circ_Check.calls k a0 _ _ ar _ _ au _ _ av bj _ ?side1 ?side2 ?side3 ?side4 ?side5 ?side6 A3.out).mono ?_); (case side1 => repeat (first | exact (Kd.C_below bk.out HB.out) | (with_reducible first | refine Kd.C_alloc ?_ _ | refine Kd.C_drewN ?_ _ | refine Kd.C_drew ?_))); (case side2 => exact bl.out); (case side3 => repeat (first | exact (Kd.C_below bm.out HB.out) | (with_reducible first | refine Kd.C_alloc ?_ _ | refine Kd.C_drewN ?_ _ | refine Kd.C_drew ?_))); (case side4 => exact bn.out); (case side5 => repeat (first | exact (Kd.C_below bo.out HB.out) | (with_reducible first | refine Kd.C_alloc ?_ _ | refine Kd.C_drewN ?_ _ | refine Kd.C_drew ?_))); (case side6 => exact bp.out); rintro e w40 ⟨rfl, hb⟩; refine ⟨_, rfl, ?_⟩; replace af := kU af hb; replace ag := kU ag hb; replace HB := kH HB hb; (try clear hb); (try clear hb2); (try clear hk); (try clear hi); have Z41 := kz3 ag));refine bodyPost_ret (results_ct rfl _ _ an 26 #[.slice none 0 0, .slice none 0 0, .slice none 0 0] (0, 0) _ rfl (kg ag) Try.underlying26 rfl (by kernel_rfl)) rfl ?_;exact ⟨_, _, _, er, by first | exact Kd.R_nil _ _ _ _ _ | exact Kd.N_nil _ _ _ _ _ | exact Kd.V_nil _ _ _ _ _ | exact Kd.Q_nil _ _ _ _ _ | exact Kd.S_nil _ _ _ _ _, by first | exact Kd.R_nil _ _ _ _ _ | exact Kd.N_nil _ _ _ _ _ | exact Kd.V_nil _ _ _ _ _ | exact Kd.Q_nil _ _ _ _ _ | exact Kd.S_nil _ _ _ _ _, by first | exact Kd.S_nil _ _ _ _ _ | exact Kd.N_nil _ _ _ _ _ | exact Kd.V_nil _ _ _ _ _ | exact Kd.Q_nil _ _ _ _ _ | exact Kd.R_nil _ _ _ _ _, kh HB⟩
 rw [if_pos c4] at H;have bK := beq_iff_eq.mpr c4;have bL := bne_eq_false_iff_eq.mpr c4;clear c4;replace H := Option.bind_eq_some_iff.mp H;obtain ⟨⟨ap, aG, aq⟩, A50, H⟩ := H;(try dsimp only at H);have A5 := Aside0.mk A50;clear A50;have H' := Aside0.mk H;clear H;go_enter Try.func16, Try.ntmps16;go_wp2_with (first | ((with_reducible refine gate_dst (N := 3) rfl ?_); refine box_event ?hg (N := 3) ?hd (cs := #[.slice aM ar.length aN, .slice aQ au.length aT, .slice aU av.length aV]) (t := 26) ?hr ?_; (case hd => rfl); (case hg => rfl); (case hr => first | (go_simp; done) | (go_simp; rfl)); intro bq hg w6 hbox hb; have af := am hbox; have bM := kG HB hg; have bN := kG HB hg; replace HB := kH HB hb; clear hb hbox hg) | ((with_reducible refine gate_dst (N := 4) rfl ?_); refine box_event ?hg (N := 4) ?hd (cs := #[.slice none 0 0, .slice none 0 0, .slice none 0 0]) (t := 26) ?hr ?_; (case hd => rfl); (case hg => rfl); (case hr => first | (go_simp; done) | (go_simp; rfl)); intro an hg w7 hbox hb; have ag := am hbox; have bO := kG HB hg; have bP := kG HB hg; replace HB := kH HB hb; have ax := kP af hg; have ay := kQ af hg; replace af := kU af hb; clear hb hbox hg; have cC := ax.out; have cD := ay.out; have Z9 := kz3 af) | ((with_reducible refine gate_callee (f := 37) rfl ?_); refine goesL_ (some 12) rfl rfl Try.func37 (by kernel_rfl) rfl #[.int .u64 a0, .agg #[.slice aM ar.length aN, .slice aQ au.length aT, .slice aU av.length aV]] rfl (by (try simp only [qM1, qM2, qM3]); first | done | rfl) ?_; (with_reducible refine (circ_Check.calls k a0 _ _ ar _ _ au _ _ av bj _ ?side1 ?side2 ?side3 ?side4 ?side5 ?side6 A3.out).mono ?_); (case side1 => repeat (first | exact (Kd.C_below bk.out HB.out) | (with_reducible first | refine Kd.C_alloc ?_ _ | refine Kd.C_drewN ?_ _ | refine Kd.C_drew ?_))); (case side2 => exact bl.out); (case side3 => repeat (first | exact (Kd.C_below bm.out HB.out) | (with_reducible first | refine Kd.C_alloc ?_ _ | refine Kd.C_drewN ?_ _ | refine Kd.C_drew ?_))); (case side4 => exact bn.out); (case side5 => repeat (first | exact (Kd.C_below bo.out HB.out) | (with_reducible first | refine Kd.C_alloc ?_ _ | refine Kd.C_drewN ?_ _ | refine Kd.C_drew ?_))); (case side6 => exact bp.out); rintro e w10 ⟨rfl, hb⟩; refine ⟨_, rfl, ?_⟩; replace af := kU af hb; replace ag := kU ag hb; replace HB := kH HB hb; (try clear hb); (try clear hb2); (try clear hk); (try clear hi); have Z11 := kz3 af) | ((with_reducible refine gate_callee (f := 38) rfl ?_); refine goesL_ (some 18) rfl rfl Try.func38 (by kernel_rfl) rfl #[.agg #[.slice aM ar.length aN, .slice aQ au.length aT, .slice aU av.length aV]] rfl (by (try simp only [qM1, qM2, qM3]); first | done | rfl) ?_; (with_reducible refine (tune_Own.calls k _ _ ar _ _ au _ _ av ap aG aq _ ?side1 ?side2 ?side3 ?side4 ?side5 ?side6 A5.out).mono ?_); (case side1 => repeat (first | exact (Kd.C_below bk.out HB.out) | (with_reducible first | refine Kd.C_alloc ?_ _ | refine Kd.C_drewN ?_ _ | refine Kd.C_drew ?_))); (case side2 => exact bl.out); (case side3 => repeat (first | exact (Kd.C_below bm.out HB.out) | (with_reducible first | refine Kd.C_alloc ?_ _ | refine Kd.C_drewN ?_ _ | refine Kd.C_drew ?_))); (case side4 => exact bn.out); (case side5 => repeat (first | exact (Kd.C_below bo.out HB.out) | (with_reducible first | refine Kd.C_alloc ?_ _ | refine Kd.C_drewN ?_ _ | refine Kd.C_drew ?_))); (case side6 => exact bp.out); rintro e w12 ⟨cE, cF, cG, rfl, ho0, ho1, ho2, hb⟩; refine ⟨_, rfl, ?_⟩; have bg := kLR ho0 HB; have bh := kLR ho1 HB; have bi := kLS ho2 HB; replace af := kU af hb; replace ag := kU ag hb; replace HB := kH HB hb; (try clear hb); (try clear hb2); (try clear hk); (try clear hi); (try clear ho0); (try clear ho1); (try clear ho2)) | ((with_reducible refine gate_dst (N := 7) rfl ?_); refine box_event ?hg (N := 7) ?hd (cs := #[.slice none 0 0, .slice none 0 0, .slice none 0 0]) (t := 26) ?hr ?_; (case hd => rfl); (case hg => rfl); (case hr => first | (go_simp; done) | (go_simp; rfl)); intro ao hg w13 hbox hb; replace bg := kR bg hb; replace bh := kR bh hb; replace bi := kS bi hb; have ah := am hbox; have cn := kG HB hg; have co := kG HB hg; replace HB := kH HB hb; have aH := kP af hg; have aI := kQ af hg; replace af := kU af hb; have aJ := kP ag hg; have aK := kQ ag hg; replace ag := kU ag hb; clear hb hbox hg; obtain ⟨aA, aC, bX⟩ := Kd.R_slice bg.out; subst bX; have cp := aI.out; have cq := aH.out; have cr := aK.out; have ct := aJ.out; have Z17 := kz3 ah; obtain ⟨br, bt, bY⟩ := Kd.R_slice bh.out; subst bY; obtain ⟨aD, aE, bZ⟩ := Kd.S_slice bi.out; subst bZ));go_loopg [22] k (fun kq v22 w' => ∃ (ae : Int) (ak : List (S61)) (al : Value), v22 = .int .i64 ae ∧ Aside0 (tune_Fold.l0 kq a0 (aG.length : Int) ae ap ak aq = some (r1, r2, r3, r4)) ∧ Aside0 (kq ≤ k) ∧ Aside0 (Kd.R k64 64 w' w.heap.size (fun _ => True) (.slice aA ap.length aC) ap) ∧ Aside0 (Kd.R k61 61 w' w.heap.size (fun _ => True) al ak) ∧ Aside0 (Kd.S k66 66 w' w.heap.size (fun _ => True) (.slice aD aq.length aE) aq) ∧ Aside0 (w'.heap[bq]? = some (.cells #[(.slice aM ar.length aN), (.slice aQ au.length aT), (.slice aU av.length aV)] 26 (0, 0))) ∧ Aside0 (w'.heap[an]? = some (.cells #[(.slice none 0 0), (.slice none 0 0), (.slice none 0 0)] 26 (0, 0))) ∧ Aside0 (w'.heap[ao]? = some (.cells #[(.slice aA ap.length aC), al, (.slice aD aq.length aE)] 26 (0, 0))) ∧ Aside0 (Below w.heap.size w w'))
 case atStart => exact ⟨(0), (aG), (.slice br aG.length bt), et, H', ⟨Nat.le_refl _⟩, ⟨by (with_reducible repeat first | apply Kd.R_alloc | apply Kd.R_drewN | apply Kd.R_drew); exact Kd.R_mono (Kd.R_far (p := ⟨ao, 2, none⟩) (Kd.R_far (p := ⟨ao, 1, none⟩) (Kd.R_far (p := ⟨ao, 0, none⟩) (Kd.R_types bg.out ah.out (by decide)) (fun _ hk => hk.2) (.slice aA ap.length aC)) (fun _ hk => hk.2) (.slice br aG.length bt)) (fun _ hk => hk.2) (.slice aD aq.length aE)) (fun _ hk => trivial)⟩, ⟨by (with_reducible repeat first | apply Kd.R_alloc | apply Kd.R_drewN | apply Kd.R_drew); exact Kd.R_mono (Kd.R_far (p := ⟨ao, 2, none⟩) (Kd.R_far (p := ⟨ao, 1, none⟩) (Kd.R_far (p := ⟨ao, 0, none⟩) (Kd.R_types bh.out ah.out (by decide)) (fun _ hk => hk.2) (.slice aA ap.length aC)) (fun _ hk => hk.2) (.slice br aG.length bt)) (fun _ hk => hk.2) (.slice aD aq.length aE)) (fun _ hk => trivial)⟩, ⟨by (with_reducible repeat first | apply Kd.S_alloc | apply Kd.S_drewN | apply Kd.S_drew); exact Kd.S_mono (Kd.S_far (p := ⟨ao, 2, none⟩) (Kd.S_far (p := ⟨ao, 1, none⟩) (Kd.S_far (p := ⟨ao, 0, none⟩) (Kd.S_types bi.out ah.out (by decide)) (fun _ hk => hk.2) (.slice aA ap.length aC)) (fun _ hk => hk.2) (.slice br aG.length bt)) (fun _ hk => hk.2) (.slice aD aq.length aE)) (fun _ hk => trivial)⟩, ⟨kg af⟩, ⟨kg ag⟩, ⟨kg ah⟩, ⟨kh HB⟩⟩
 case round =>
  clear H';(try clear bK bL Z11 Z17 Z9);obtain ⟨ae, ak, al, rfl, HA, HK1, ai, aa, aj, af, ag, ah, HB⟩ := hrel
  cases gk with
  | zero => exact absurd HA.out (by simp [tune_Fold.l0])
  | succ k1 =>
   have H := HA.out;clear HA;simp only [tune_Fold.l0] at H
   by_cases c20 : ae < (aG.length : Int)
   rotate_left
   ·rw [if_neg c20] at H
    have bE := decide_eq_false c20;clear c20;simp only [Option.some.injEq, Prod.mk.injEq] at H;obtain ⟨rfl, rfl, rfl, rfl⟩ := H;have cu := aI.out;have cv := aH.out;have cw := aK.out;have cx := aJ.out;have Z32 := kz3 ah;have cy := ay.out;have cz := ax.out;have Z34 := kz3 ag;obtain ⟨bu, bv, ca⟩ := Kd.R_slice aa.out;subst ca;go_wp2;refine bodyPost_ret (results_ct rfl _ _ an 26 #[.slice aA ap.length aC, .slice bu ak.length bv, .slice aD aq.length aE] (0, 0) _ rfl (kg ag) Try.underlying26 rfl (by kernel_rfl)) rfl ?_;exact ⟨_, _, _, er, by (with_reducible repeat first | apply Kd.R_alloc | apply Kd.R_drewN | apply Kd.R_drew); exact Kd.R_mono (Kd.R_far (p := ⟨an, 2, none⟩) (Kd.R_far (p := ⟨an, 1, none⟩) (Kd.R_far (p := ⟨an, 0, none⟩) (Kd.R_types ai.out ag.out (by decide)) (fun _ hk => hk.2) (.slice aA ap.length aC)) (fun _ hk => hk.2) (.slice bu ak.length bv)) (fun _ hk => hk.2) (.slice aD aq.length aE)) (fun _ hk => trivial), by (with_reducible repeat first | apply Kd.R_alloc | apply Kd.R_drewN | apply Kd.R_drew); exact Kd.R_mono (Kd.R_far (p := ⟨an, 2, none⟩) (Kd.R_far (p := ⟨an, 1, none⟩) (Kd.R_far (p := ⟨an, 0, none⟩) (Kd.R_types aa.out ag.out (by decide)) (fun _ hk => hk.2) (.slice aA ap.length aC)) (fun _ hk => hk.2) (.slice bu ak.length bv)) (fun _ hk => hk.2) (.slice aD aq.length aE)) (fun _ hk => trivial), by (with_reducible repeat first | apply Kd.S_alloc | apply Kd.S_drewN | apply Kd.S_drew); exact Kd.S_mono (Kd.S_far (p := ⟨an, 2, none⟩) (Kd.S_far (p := ⟨an, 1, none⟩) (Kd.S_far (p := ⟨an, 0, none⟩) (Kd.S_types aj.out ag.out (by decide)) (fun _ hk => hk.2) (.slice aA ap.length aC)) (fun _ hk => hk.2) (.slice bu ak.length bv)) (fun _ hk => hk.2) (.slice aD aq.length aE)) (fun _ hk => trivial), kh HB⟩
   rw [if_pos c20] at H;have bE := decide_eq_true c20;clear c20;have H' := Aside0.mk H;clear H;go_wp2;go_loopg [9] k1 (fun kq v9 w' => ∃ (bw : Bool) (ab : List (S61)) (al : Value), v9 = .bool bw ∧ Aside0 (tune_Fold.l1 kq a0 ae bw (aG.length : Int) ae ap ab aq = some (r1, r2, r3, r4)) ∧ Aside0 (kq ≤ k1) ∧ Aside0 (Kd.R k64 64 w' w.heap.size (fun _ => True) (.slice aA ap.length aC) ap) ∧ Aside0 (Kd.R k61 61 w' w.heap.size (fun _ => True) al ab) ∧ Aside0 (Kd.S k66 66 w' w.heap.size (fun _ => True) (.slice aD aq.length aE) aq) ∧ Aside0 (w'.heap[bq]? = some (.cells #[(.slice aM ar.length aN), (.slice aQ au.length aT), (.slice aU av.length aV)] 26 (0, 0))) ∧ Aside0 (w'.heap[an]? = some (.cells #[(.slice none 0 0), (.slice none 0 0), (.slice none 0 0)] 26 (0, 0))) ∧ Aside0 (w'.heap[ao]? = some (.cells #[(.slice aA ap.length aC), al, (.slice aD aq.length aE)] 26 (0, 0))) ∧ Aside0 (Below w.heap.size w w'))
   case atStart => exact ⟨(true), (ak), (al), et, H', ⟨Nat.le_refl _⟩, ⟨krR ai⟩, ⟨krR aa⟩, ⟨krS aj⟩, ⟨kg af⟩, ⟨kg ag⟩, ⟨kg ah⟩, ⟨kh HB⟩⟩
   case round =>
    clear H'; (try clear bE);obtain ⟨bw, ab, al, rfl, HA, HK2, ai, aa, aj, af, ag, ah, HB⟩ := hrel
    cases gk with
    | zero => exact absurd HA.out (by simp [tune_Fold.l1])
    | succ k2 =>
     have H := HA.out;clear HA;simp only [tune_Fold.l1] at H
     by_cases c21 : bw = true
     rotate_left
     ·replace c21 := Bool.eq_false_iff.mpr c21
      subst c21;replace H := ifF H;have H' := Aside0.mk H;clear H;go_wp2;go_roundg k2
      case measure => have := HK1.out; have := HK2.out; omega
      case rel => exact ⟨(wrap64 (ae + 1)), (ab), (al), et, H', ⟨by have := HK1.out; have := HK2.out; omega⟩, ⟨krR ai⟩, ⟨krR aa⟩, ⟨krS aj⟩, ⟨kg af⟩, ⟨kg ag⟩, ⟨kg ah⟩, ⟨kh HB⟩⟩
     subst c21;replace H := ifT H
     by_cases c22 : 0 ≤ ae
     rotate_left
     ·rw [if_neg c22] at H
      exact absurd H (by simp)
     rw [if_pos c22] at H;have cA := decide_eq_true c22;clear c22
     by_cases c23 : ae < (ab.length : Int)
     rotate_left
     ·rw [if_neg c23] at H
      exact absurd H (by simp)
     rw [if_pos c23] at H;have cB := decide_eq_true c23;clear c23;replace H := Option.bind_eq_some_iff.mp H;obtain ⟨⟨bb, bc, bd, be, bF⟩, bQ, H⟩ := H;(try dsimp only at H);have A24 := Aside0.mk bQ;clear bQ;obtain ⟨bR, ba⟩ : ∃ y_ : List (S61), y_ = (ab.set (ae : Int).toNat (⟨bb, bc, bd, be⟩ : S61)) := ⟨_, rfl⟩
     replace H : (tune_Fold.l1 k2 a0 ae bF (aG.length : Int) ae ap bR aq) = some (r1, r2, r3, r4) := by first | (rw [ba]; with_reducible exact H) | (have H2_ := (Option.bind_some _ _).symm.trans H; rw [ba]; with_reducible exact H2_) | (have H2_ := (Option.bind_some _ _).symm.trans H; with_reducible exact H2_) | with_reducible exact H | (rw [ba]; exact H) | exact H
     have bS := Aside0.mk ba;clear ba;have H' := Aside0.mk H;clear H;(try go_wp2);replace ai := kFR ai; replace aa := kFR aa; replace aj := kFS aj; replace af := kD af; replace ag := kD ag; replace ah := kD ah; replace HB := kE HB;obtain ⟨cH, bG, bT⟩ := Kd.R_slice aa.out;(first | subst bT | (injection bT with f1_ f2_ f3_; have f4_ := f1_.symm; have f5_ := f3_.symm; clear f1_ f2_ f3_; subst f4_; subst f5_));have bH : 0 ≤ (ae : Int) := od;have bI : ae < (ab.length : Int) := od;obtain ⟨az, cb, aW, aX, aY, aZ⟩ := at_T61 (Kd.R_reads' aa.out).2.2 ae bH bI;cases cb;replace bH := eq_true bH; replace bI := eq_true bI;refine start_ (n := 18) (S := fun w' => w'.cell? ⟨ao, 0, none⟩ = some (.slice aA ap.length aC) ∧ w'.cell? ⟨ao, 1, none⟩ = some (.slice (some az) ab.length bG) ∧ w'.cell? ⟨ao, 2, none⟩ = some (.slice aD aq.length aE) ∧ w'.cell? (az.add ((ae).toNat * 4)) = some (.int .i64 ((rd_T61 ab ae).f0)) ∧ w'.cell? ⟨(az.add ((ae).toNat * 4)).block, (az.add ((ae).toNat * 4)).off + 1, none⟩ = some (.int .i64 ((rd_T61 ab ae).f1)) ∧ w'.cell? ⟨(az.add ((ae).toNat * 4)).block, (az.add ((ae).toNat * 4)).off + 2, none⟩ = some (.int .i64 ((rd_T61 ab ae).f2)) ∧ w'.cell? ⟨(az.add ((ae).toNat * 4)).block, (az.add ((ae).toNat * 4)).off + 3, none⟩ = some (.int .u64 ((rd_T61 ab ae).f3))) (ds := [16]) (bs 18 0) (by kernel_rfl) rfl rfl ⟨kk ah 0, kk ah 1, kk ah 2, aW, aX, aY, aZ⟩ (fun hHeld => ?_); refine with_tabW tune_Fold.tab10 tune_Fold.bits10 (fun HT_ HW_ => ?_);generalize wr.drew = w26 at ai aa aj af ag ah HB aW aX aY aZ hHeld ⊢;refine pu 0 (some 27) (bs 18 1) HT_ ?_;refine pu 2 (some 29) (bs 18 5) HT_ ?_;refine pu 3 (some 30) (bs 18 13) HT_ ?_;refine pu 4 (some 31) (bs 18 29) HT_ ?_;refine pu 6 (some 33) (bs 18 93) HT_ ?_;refine pu 8 (some 35) (bs 18 349) HT_ ?_;refine ta 1 (some 28) (bs 18 351) HT_ HW_ hHeld ?_;refine ta 5 (some 32) (bs 18 383) HT_ HW_ hHeld ?_;refine ta 7 (some 34) (bs 18 511) HT_ HW_ hHeld ?_;refine pu 9 (some 36) (bs 18 1023) HT_ ?_;refine ta 10 (some 37) (bs 18 2047) HT_ HW_ hHeld ?_;refine one_ (i := 11) (N := some 38) (bs 18 4095) rfl rfl (one_of HT_.out (by kernel_rfl)) (by decide) (fun K hK => ?_);refine goes_ Try.func39 (by kernel_rfl) rfl #[.int .u64 a0, .slice (some az) ab.length bG, .agg #[.int .i64 ((rd_T61 ab ae).f0), .int .i64 ((rd_T61 ab ae).f1), .int .i64 ((rd_T61 ab ae).f2), .int .u64 ((rd_T61 ab ae).f3)]] (by rfl) rfl rfl (by (try simp only [qM1, qM2, qM3]); first | done | rfl) ?_;(with_reducible refine (tune_folded.calls k2 a0 _ _ ab ((rd_T61 ab ae).f0) ((rd_T61 ab ae).f1) ((rd_T61 ab ae).f2) ((rd_T61 ab ae).f3) bb bc bd be bF _ ?side1 ?side2 A24.out).mono ?_);(case side1 => repeat (first | exact (Kd.R_reads' aa.out).2.2 | (with_reducible first | refine Kd.C_alloc ?_ _ | refine Kd.C_drewN ?_ _ | refine Kd.C_drew ?_)));(case side2 => exact (Kd.R_reads' aa.out).2.1);rintro e w28 ⟨rfl, hb⟩;have HS3_ := (hb.cell (World.block_lt_of_cell? _ _ (hHeld.2.2.2.1))).trans (hHeld.2.2.2.1);have HS4_ := (hb.cell (World.block_lt_of_cell? _ _ (hHeld.2.2.2.2.1))).trans (hHeld.2.2.2.2.1);have HS5_ := (hb.cell (World.block_lt_of_cell? _ _ (hHeld.2.2.2.2.2.1))).trans (hHeld.2.2.2.2.2.1);have HS6_ := (hb.cell (World.block_lt_of_cell? _ _ (hHeld.2.2.2.2.2.2))).trans (hHeld.2.2.2.2.2.2);refine ⟨_, rfl, ?_⟩;replace ai := kR ai hb; replace aa := kR aa hb; replace aj := kS aj hb; replace af := kU af hb; replace ag := kU ag hb; replace ah := kU ah hb; replace HB := kH HB hb;(try clear hb);have p25 : 0 ≤ (ae : Int) := od;have q25 : (ae : Int) < ((ab.length : Int) : Int) := od;obtain ⟨aw, cI, bU, bV, gl25, cl25, HG25⟩ := Kd.R_form aa.out (by omega);(first | cases bU | (injection bU with ea_ en_ ec_; (first | subst ea_ | (injection ea_ with ea_; subst ea_)); subst ec_; clear en_));have cJ := Aside0.mk bV;have bW := Aside0.mk HG25;clear bV gl25 HG25;(first | simp only [add_plain] at aW | skip);(first | simp only [add_plain] at aX | skip);(first | simp only [add_plain] at aY | skip);(first | simp only [add_plain] at aZ | skip);obtain ⟨ce25, hcl25, hM25, hcc25, hfr25⟩ := Kd.R_elem aa.out z61 (ae : Int) p25 q25;obtain rfl := k61_openM hM25;have cc : World.cell? _ ⟨aw, (ae : Int).toNat * 4, none⟩ = some (.int .i64 ((rd_T61 ab ae).f0)) := hcc25 0 _ rfl;have cd : World.cell? _ ⟨aw, (ae : Int).toNat * 4 + 1, none⟩ = some (.int .i64 ((rd_T61 ab ae).f1)) := hcc25 1 _ rfl;have ce : World.cell? _ ⟨aw, (ae : Int).toNat * 4 + 2, none⟩ = some (.int .i64 ((rd_T61 ab ae).f2)) := hcc25 2 _ rfl;have cf : World.cell? _ ⟨aw, (ae : Int).toNat * 4 + 3, none⟩ = some (.int .u64 ((rd_T61 ab ae).f3)) := hcc25 3 _ rfl;have cg : World.frozen? _ ⟨aw, (ae : Int).toNat * 4, none⟩ = false := hfr25 0;have ch : World.frozen? _ ⟨aw, (ae : Int).toNat * 4 + 1, none⟩ = false := hfr25 1;have ci : World.frozen? _ ⟨aw, (ae : Int).toNat * 4 + 2, none⟩ = false := hfr25 2;have cj : World.frozen? _ ⟨aw, (ae : Int).toNat * 4 + 3, none⟩ = false := hfr25 3;clear hcl25 hcc25 hfr25 hM25; replace p25 := eq_true p25; replace q25 := eq_true q25;obtain ⟨ce29, hcl29, hM29, hcc29, hfr29⟩ := Kd.R_elem aa.out z61 (ae : Int) od (by have h_ : (ae : Int) < ((ab.length : Int) : Int) := od; first | exact h_ | (have e_ := (Kd.R_reads' aa.out).1; omega) | simpa using h_);obtain rfl := k61_openM hM29;have bJ := (Kd.R_seg aa.out (ae : Int) od (by have h_ : (ae : Int) < ((ab.length : Int) : Int) := od; first | exact h_ | (have e_ := (Kd.R_reads' aa.out).1; omega) | simpa using h_) (seg := [.int .i64 bb, .int .i64 bc, .int .i64 bd, .int .u64 be]) (j := 0) hcl29 hcc29 (show 4 ≤ 4 from by decide) (x' := (⟨bb, bc, bd, be⟩ : S61)) (k61_mkM _ _ _ (⟨bb, bc, bd, be⟩ : S61) ) (fun _ hk => hk)).1;rw [← bS.out] at bJ;have ck := Aside0.mk bJ;clear hcl29 hcc29 hfr29 hM29 bJ;refine hK.out _ _ ⟨kk ah 0, kk ah 1, kk ah 2, HS3_, HS4_, HS5_, HS6_⟩ (fun hHeld => ?_);clear hK K;refine no (some 38) ?_;refine pu 12 (some 26) (bs 18 8191) HT_ ?_;refine pu 13 (some 39) (bs 18 16383) HT_ ?_;refine pu 14 (some 40) (bs 18 32767) HT_ ?_;refine pu 15 (some 41) (bs 18 65535) HT_ ?_;refine last_ (i := 16) (N := none) (bs 18 131071) rfl rfl (one_of HT_.out (by kernel_rfl)) (by decide) (fun K hK => ?_);refine skip_ (w1 := ?_) (by rfl) rfl ?_ ?_
     rotate_left
     ·go_simp
      rfl
     refine hK.out _ _ ?_;clear hK K;refine pu 17 (some 9) (bs 18 262143) HT_ ?_;refine done_ (done_of HT_.out (by kernel_rfl)) ?_;(try go_wp2);go_roundg k2
     case measure => have := HK1.out; have := HK2.out; omega
     case rel => exact ⟨(bF), (bR), (.slice (some ⟨aw, 0, none⟩) ab.length bG), et, H', ⟨by have := HK1.out; have := HK2.out; omega⟩, ⟨by (with_reducible repeat first | apply Kd.R_alloc | apply Kd.R_drewN | apply Kd.R_drew); exact Kd.R_mono (Kd.R_far (p := ⟨aw, (ae : Int).toNat * 4 + 3, none⟩) (Kd.R_far (p := ⟨aw, (ae : Int).toNat * 4 + 2, none⟩) (Kd.R_far (p := ⟨aw, (ae : Int).toNat * 4 + 1, none⟩) (Kd.R_far (p := ⟨aw, (ae : Int).toNat * 4, none⟩) (Kd.R_types ai.out bW.out (by decide)) (fun _ hk => hk.2) (.int .i64 bb)) (fun _ hk => hk.2) (.int .i64 bc)) (fun _ hk => hk.2) (.int .i64 bd)) (fun _ hk => hk.2) (.int .u64 be)) (fun _ hk => trivial)⟩, ⟨krR ck⟩, ⟨by (with_reducible repeat first | apply Kd.S_alloc | apply Kd.S_drewN | apply Kd.S_drew); exact Kd.S_mono (Kd.S_far (p := ⟨aw, (ae : Int).toNat * 4 + 3, none⟩) (Kd.S_far (p := ⟨aw, (ae : Int).toNat * 4 + 2, none⟩) (Kd.S_far (p := ⟨aw, (ae : Int).toNat * 4 + 1, none⟩) (Kd.S_far (p := ⟨aw, (ae : Int).toNat * 4, none⟩) (Kd.S_types aj.out bW.out (by decide)) (fun _ hk => hk.2) (.int .i64 bb)) (fun _ hk => hk.2) (.int .i64 bc)) (fun _ hk => hk.2) (.int .i64 bd)) (fun _ hk => hk.2) (.int .u64 be)) (fun _ hk => trivial)⟩, ⟨by (with_reducible repeat first | refine blk_drewN ?_ _ | refine blk_drew ?_ | refine blk_alloc ?_ _); refine blk_far ?_ (by have h_ := Kd.R_ne aa.out af.out (by decide); intro e_; exact h_ (by rw [e_]; rfl)) _; (with_reducible repeat first | refine blk_drewN ?_ _ | refine blk_drew ?_ | refine blk_alloc ?_ _); refine blk_far ?_ (by have h_ := Kd.R_ne aa.out af.out (by decide); intro e_; exact h_ (by rw [e_]; rfl)) _; (with_reducible repeat first | refine blk_drewN ?_ _ | refine blk_drew ?_ | refine blk_alloc ?_ _); refine blk_far ?_ (by have h_ := Kd.R_ne aa.out af.out (by decide); intro e_; exact h_ (by rw [e_]; rfl)) _; (with_reducible repeat first | refine blk_drewN ?_ _ | refine blk_drew ?_ | refine blk_alloc ?_ _); refine blk_far ?_ (by have h_ := Kd.R_ne aa.out af.out (by decide); intro e_; exact h_ (by rw [e_]; rfl)) _; (with_reducible repeat first | refine blk_drewN ?_ _ | refine blk_drew ?_ | refine blk_alloc ?_ _); exact af.out⟩, ⟨by (with_reducible repeat first | refine blk_drewN ?_ _ | refine blk_drew ?_ | refine blk_alloc ?_ _); refine blk_far ?_ (by have h_ := Kd.R_ne aa.out ag.out (by decide); intro e_; exact h_ (by rw [e_]; rfl)) _; (with_reducible repeat first | refine blk_drewN ?_ _ | refine blk_drew ?_ | refine blk_alloc ?_ _); refine blk_far ?_ (by have h_ := Kd.R_ne aa.out ag.out (by decide); intro e_; exact h_ (by rw [e_]; rfl)) _; (with_reducible repeat first | refine blk_drewN ?_ _ | refine blk_drew ?_ | refine blk_alloc ?_ _); refine blk_far ?_ (by have h_ := Kd.R_ne aa.out ag.out (by decide); intro e_; exact h_ (by rw [e_]; rfl)) _; (with_reducible repeat first | refine blk_drewN ?_ _ | refine blk_drew ?_ | refine blk_alloc ?_ _); refine blk_far ?_ (by have h_ := Kd.R_ne aa.out ag.out (by decide); intro e_; exact h_ (by rw [e_]; rfl)) _; (with_reducible repeat first | refine blk_drewN ?_ _ | refine blk_drew ?_ | refine blk_alloc ?_ _); exact ag.out⟩, ⟨by (with_reducible repeat first | refine blk_drewN ?_ _ | refine blk_drew ?_ | refine blk_alloc ?_ _); refine blk_far ?_ (by have h_ := Kd.R_ne aa.out ah.out (by decide); intro e_; exact h_ (by rw [e_]; rfl)) _; (with_reducible repeat first | refine blk_drewN ?_ _ | refine blk_drew ?_ | refine blk_alloc ?_ _); refine blk_far ?_ (by have h_ := Kd.R_ne aa.out ah.out (by decide); intro e_; exact h_ (by rw [e_]; rfl)) _; (with_reducible repeat first | refine blk_drewN ?_ _ | refine blk_drew ?_ | refine blk_alloc ?_ _); refine blk_far ?_ (by have h_ := Kd.R_ne aa.out ah.out (by decide); intro e_; exact h_ (by rw [e_]; rfl)) _; (with_reducible repeat first | refine blk_drewN ?_ _ | refine blk_drew ?_ | refine blk_alloc ?_ _); refine blk_far ?_ (by have h_ := Kd.R_ne aa.out ah.out (by decide); intro e_; exact h_ (by rw [e_]; rfl)) _; (with_reducible repeat first | refine blk_drewN ?_ _ | refine blk_drew ?_ | refine blk_alloc ?_ _); exact ah.out⟩, ⟨kh HB⟩⟩
end Go.Proofs.Ytmlbliggbkfjnaa.J
