/- This seat's program: what the interpreter's soundness asks of it. -/
import Derived.Test.YtfjgblbmdddpkaaGreatDoorAu
import Derived.Test.YtfjgblbmdddpkaaGreatDoorRows
namespace Go.Proofs.YtfjgblbmdddpkaaGreatDoor
open Go Go.Ab Go.RowKit

/-- Functions that hand on a row of their own that is written afterwards. -/
def viewL : List FuncId := []
  ++ [74]
  ++ [154]

def places : Places := { views := viewL, bits := 103, from_ := 168, floor := 315, trunc := 328, ixb := 324 }

theorem placed : Placed Tryz.prog places where
  bits := ⟨Tryz.f103, Tryz.func103, by kernel_rfl, by kernel_rfl, by kernel_rfl, by kernel_rfl⟩
  from_ := ⟨Tryz.f168, Tryz.func168, by kernel_rfl, by kernel_rfl, by kernel_rfl, by kernel_rfl⟩
  floor := ⟨Tryz.f315, Tryz.func315, by kernel_rfl, by kernel_rfl, by kernel_rfl, by kernel_rfl⟩
  trunc := ⟨Tryz.f328, Tryz.func328, by kernel_rfl, by kernel_rfl, by kernel_rfl, by kernel_rfl⟩
  ixb := ⟨Tryz.f324, Tryz.func324, by kernel_rfl, by kernel_rfl, by kernel_rfl, by kernel_rfl⟩

theorem mixed : Tryz.prog.follows .mixedOrders = true := by kernel_rfl

theorem named_all : (Tryz.prog.funcs.all fun fn => !(fn.name == "runtime.NumGoroutine")) = true := by kernel_rfl

theorem named : Named Tryz.prog := fun f fn hf => by
  have := Array.all_eq_true_iff_forall_mem.1 named_all fn (Array.mem_of_getElem? hf)
  simpa using this
end Go.Proofs.YtfjgblbmdddpkaaGreatDoor
