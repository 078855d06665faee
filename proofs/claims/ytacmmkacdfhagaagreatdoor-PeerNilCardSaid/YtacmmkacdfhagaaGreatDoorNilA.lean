/- The law's own example holds wherever it is run. -/
import Derived.Test.YtacmmkacdfhagaaGreatDoorDen8
import Derived.Test.YtacmmkacdfhagaaGreatDoorProg
namespace Go.Proofs.YtacmmkacdfhagaaGreatDoor
open Go Go.Den
set_option maxRecDepth 100000
set_option linter.unusedSimpArgs false
set_option linter.unusedVariables false

theorem fol : Tryz.prog.follows .mixedOrders = true := by kernel_rfl
theorem names : Tryz.prog.funcs.toList.all (fun fn => !(fn.name == "runtime.NumGoroutine")) = true := by kernel_rfl
theorem nglob : Tryz.prog.globals.size = 3 := by kernel_rfl
theorem live_runs : callK (fun _ _ => none) (fun _ => false) 3 (tbl Tryz.prog) 1000000 300 8 [] ⟨.e, 3⟩ (fun v _ => isT v) = true := by kernel_rfl
theorem live_con (w0 : World) : ConS Tryz.prog w0 8 [] (.bool true) := by
  obtain ⟨v, m', h, hv⟩ := callX_of_callK live_runs
  rw [isT_eq hv] at h
  rw [← nglob] at h
  exact con_of_callX fol (fun f args v h => by cases h) (tbl_ok names) h rfl rfl
end Go.Proofs.YtacmmkacdfhagaaGreatDoor
