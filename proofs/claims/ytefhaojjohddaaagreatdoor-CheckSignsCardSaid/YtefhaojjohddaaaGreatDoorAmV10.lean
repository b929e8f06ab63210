/- Chapter 10's alive returns true in every world in which strings.asciiSpace reads as the program lays it. -/
import Derived.Test.YtefhaojjohddaaaGreatDoorAmZ10
import Derived.Test.YtefhaojjohddaaaGreatDoorRows
import Derived.Lib.LaidTab
import Derived.MakeChecks
import Derived.Below
namespace Go.Proofs.YtefhaojjohddaaaGreatDoor.AM
open Go Go.RowKit
noncomputable section
/-- strings.asciiSpace (block 0) reads as the program lays it; the blocks of all variables are there. -/
def AscLaid (w : World) : Prop := 1 ≤ w.heap.size ∧ ∃ c t, w.heap[0]? = some (.cells c t (0, 0)) ∧ c.toList = asc
theorem AscLaid.below {w w' : World} (h : AscLaid w) (b : Below w.heap.size w w') : AscLaid w' := by
  obtain ⟨h1, c, t, h2, h3⟩ := h
  exact ⟨Nat.le_trans h1 b.size, c, t, by rw [b.block 0 (by omega)]; exact h2, h3⟩
theorem asc_closed : asc.all closed = true := by kernel_rfl
theorem asc_length : asc.length = 256 := by kernel_rfl
theorem alive10_calls (w : World) (h : AscLaid w) : Calls Tryz.prog 14 #[] w fun e w' => e = .returned (.bool true) ∧ Below w.heap.size w w' := by
  obtain ⟨hG, c, t, h1, h2⟩ := h
  refine (alive10.2 w hG fun id e hm => ?_).mono fun e w' ⟨he, S⟩ => ⟨he, S.os, S.tape, S.output, S.size, S.keep⟩
  have hm' : (id, e) = (0, Ent.cells false false asc 183) := by simpa [g0] using hm
  cases hm'
  refine ⟨_, h1, fun q => (by cases q), rfl, fun _ => ?_, fun q => (by cases q), fun q => (by cases q), ?_, fun i v hi => ?_⟩
  · rw [← Array.length_toList, h2]
  · rw [← Array.length_toList, h2]; exact Nat.le_refl _
  · refine ⟨v, ?_, closed_rel _ (List.all_eq_true.1 asc_closed v (List.mem_of_getElem? hi))⟩
    rw [← Array.getElem?_toList, h2]
    exact hi
/-- The numbers of strings.asciiSpace. -/
def ascN : List Int := [0, 0, 0, 0, 0, 0, 0, 0, 0, 1, 1, 1, 1, 1, 0, 0, 0, 0, 0, 0, 0, 0, 0, 0, 0, 0, 0, 0, 0, 0, 0, 0, 1, 0, 0, 0, 0, 0, 0, 0, 0, 0, 0, 0, 0, 0, 0, 0, 0, 0, 0, 0, 0, 0, 0, 0, 0, 0, 0, 0, 0, 0, 0, 0, 0, 0, 0, 0, 0, 0, 0, 0, 0, 0, 0, 0, 0, 0, 0, 0, 0, 0, 0, 0, 0, 0, 0, 0, 0, 0, 0, 0, 0, 0, 0, 0, 0, 0, 0, 0, 0, 0, 0, 0, 0, 0, 0, 0, 0, 0, 0, 0, 0, 0, 0, 0, 0, 0, 0, 0, 0, 0, 0, 0, 0, 0, 0, 0, 0, 0, 0, 0, 0, 0, 0, 0, 0, 0, 0, 0, 0, 0, 0, 0, 0, 0, 0, 0, 0, 0, 0, 0, 0, 0, 0, 0, 0, 0, 0, 0, 0, 0, 0, 0, 0, 0, 0, 0, 0, 0, 0, 0, 0, 0, 0, 0, 0, 0, 0, 0, 0, 0, 0, 0, 0, 0, 0, 0, 0, 0, 0, 0, 0, 0, 0, 0, 0, 0, 0, 0, 0, 0, 0, 0, 0, 0, 0, 0, 0, 0, 0, 0, 0, 0, 0, 0, 0, 0, 0, 0, 0, 0, 0, 0, 0, 0, 0, 0, 0, 0, 0, 0, 0, 0, 0, 0, 0, 0, 0, 0, 0, 0, 0, 0, 0, 0, 0, 0, 0, 0, 0, 0, 0, 0, 0, 0]
theorem asc_data : (Rows.laid_strings_asciiSpace : DataW Unit) = Lib.tabData .u8 ascN := by kernel_rfl
theorem asc_vals : (ascN.map fun z => Value.int .u8 z) = asc := by kernel_rfl
theorem ascLaid_of {W : World} (h : laidMetH Tryz.prog [("unicode.White_Space", Rows.laid_unicode_White_Space), ("strings.asciiSpace", Rows.laid_strings_asciiSpace)] W) : AscLaid W := by
  rw [MakeChecks.laidMetH_plain _ _ _ (by kernel_rfl)] at h
  obtain ⟨ps, ⟨g0, t0, cs0, f0, p0, q0, hg0, ht0, hv0, hd0, ⟨g1, t1, cs1, f1, p1, q1, hg1, ht1, hv1, hd1, _, e1⟩, e0⟩, _, hfr⟩ := h
  obtain rfl := Option.some.inj ((show Tryz.prog.globalNamed "unicode.White_Space" = some 1 by kernel_rfl).symm.trans hg0)
  obtain rfl := Option.some.inj ((show Tryz.prog.globalNamed "strings.asciiSpace" = some 0 by kernel_rfl).symm.trans hg1)
  obtain rfl := Option.some.inj ((show (Tryz.prog.globals[0]?).map (·.type) = some 183 by kernel_rfl).symm.trans ht1)
  rw [asc_data] at hd1
  have hc : cs1.toList = asc := (Lib.cells_of_tab Tryz.underlying183 Tryz.underlying5 (by kernel_rfl) (by kernel_rfl) hd1).trans asc_vals
  have hs : cs1.size = 256 := by rw [← Array.length_toList, hc]; exact asc_length
  have hsz : 1 ≤ W.heap.size := by
    simp only [World.var?, hg0, Option.bind_some] at hv0
    split at hv0
    · rename_i hh
      have := (Array.getElem?_eq_some_iff.1 hh).1
      omega
    · cases hv0
  obtain ⟨⟨c, t, hh⟩, _⟩ := hfr 0 0 (by
    rw [e0, e1]
    refine List.mem_append_right _ (List.mem_append_left _ (List.mem_append_left _ ?_))
    rw [hs]
    exact List.mem_map.2 ⟨0, by simp, rfl⟩)
  refine ⟨hsz, c, t, hh, ?_⟩
  simp only [World.var?, hg1, Option.bind_some, hh, Option.some.injEq] at hv1
  rw [hv1]; exact hc
end
end Go.Proofs.YtefhaojjohddaaaGreatDoor.AM
