/- This seat's program: what the interpreter's soundness asks of it. -/
import Derived.Test.YtcinmjajfccbaaaGreatDoorAu
import Derived.Test.YtcinmjajfccbaaaGreatDoorRows
namespace Go.Proofs.YtcinmjajfccbaaaGreatDoor
open Go Go.Ab Go.RowKit

def places : Places := { bits := 50, from_ := 49, floor := 170, trunc := 179 }

theorem placed : Placed Tryz.prog places where
  bits := ⟨Tryz.f50, Tryz.func50, by kernel_rfl, by kernel_rfl, by kernel_rfl, by kernel_rfl⟩
  from_ := ⟨Tryz.f49, Tryz.func49, by kernel_rfl, by kernel_rfl, by kernel_rfl, by kernel_rfl⟩
  floor := ⟨Tryz.f170, Tryz.func170, by kernel_rfl, by kernel_rfl, by kernel_rfl, by kernel_rfl⟩
  trunc := ⟨Tryz.f179, Tryz.func179, by kernel_rfl, by kernel_rfl, by kernel_rfl, by kernel_rfl⟩

theorem mixed : Tryz.prog.follows .mixedOrders = true := by kernel_rfl

theorem named_all : (Tryz.prog.funcs.all fun fn => !(fn.name == "runtime.NumGoroutine")) = true := by kernel_rfl

theorem named : Named Tryz.prog := fun f fn hf => by
  have := Array.all_eq_true_iff_forall_mem.1 named_all fn (Array.mem_of_getElem? hf)
  simpa using this
end Go.Proofs.YtcinmjajfccbaaaGreatDoor
