/- The abstract machine at chapter 10's program: what it wants to know of the program's functions. -/
import Derived.Test.YtefhaojjohddaaaGreatDoorProg
import Derived.Test.YtefhaojjohddaaaGreatDoorAmU
import Derived.KernelRfl
import Derived.Conc.AtomicLaws
namespace Go.Proofs.YtefhaojjohddaaaGreatDoor.AM
open Go Go.RowKit
theorem names10 : (Tryz.prog.funcs.toList.all fun fn => fn.body.isNone || !(fn.name == "runtime.NumGoroutine")) = true := by kernel_rfl
theorem fns10 : Fns Tryz.prog 165 := ⟨fun k fn hk hb => by
    have h := List.all_eq_true.1 names10 fn (by rw [Array.mem_toList_iff]; exact Array.mem_of_getElem? hk)
    cases hbb : fn.body with
    | none => rw [hbb] at hb; cases hb
    | some c =>
      rw [hbb] at h
      simpa using h,
  fun args w => by
    have hf : Tryz.prog.funcs[165]? = some Tryz.f165 := by kernel_rfl
    have h1 : (Tryz.f165.name == "runtime.NumGoroutine") = false := by kernel_rfl
    have h2 : Tryz.f165.body.isNone = true := by kernel_rfl
    have h3 : Extern.findNext Tryz.f165 = none := by kernel_rfl
    have h4 : Extern.find Tryz.f165 = some Extern.MapsClone.clone := by kernel_rfl
    rw [run_callFunc_extern hf h1 h2 h3 h4, Sem.run_bind]
    rfl⟩
theorem mixed10 : Tryz.prog.follows .mixedOrders = true := by kernel_rfl
end Go.Proofs.YtefhaojjohddaaaGreatDoor.AM
