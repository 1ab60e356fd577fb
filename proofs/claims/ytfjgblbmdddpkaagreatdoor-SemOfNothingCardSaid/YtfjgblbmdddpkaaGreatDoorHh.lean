/- SemOfNothing: the row's facts about the program, one by one (together they need more memory than a process may have). -/
import Derived.Test.YtfjgblbmdddpkaaGreatDoorHf
import Derived.JoinedCond
import Derived.SevenTiedAt
namespace Go.Proofs.YtfjgblbmdddpkaaGreatDoor.semOfNothing
open Go.ChangeShapes Go.WideShapes Go.ChangeAt Go.RowKit Go.Ab

abbrev son : FuncId := 6

theorem f10 : (Rows.semOfNothingRow.inPlace == Tryz.prog.inPlace son) = true := by kernel_rfl
theorem f11 : (Rows.semOfNothingRow.unfollowed == Tryz.prog.unfollowed son) = true := by kernel_rfl
theorem f12 : (Rows.semOfNothingRow.recurses == Tryz.prog.recurses son) = true := by kernel_rfl
theorem f13 : (Rows.semOfNothingRow.named == Tryz.prog.varsNamed son) = true := by kernel_rfl
theorem mr : mapsRowed Tryz.prog = true := by kernel_rfl
theorem wft : Rows.semOfNothingRow.wfByText (OpenSpec.ofChange Rows.semOfNothingSpec) = true := by kernel_rfl
theorem wf0 : Rows.semOfNothingRow.wf (OpenSpec.ofChange Rows.semOfNothingSpec) = true := by kernel_rfl
theorem goes : false = Rows.semOfNothingRow.goesBy Tryz.prog := by kernel_rfl
theorem main : Tryz.prog.mainIs = some (true, "6465726c86eb7ace299226873affa6bb62cd508173ee3bc608dfe3caf1f45202".toList) := by kernel_rfl
theorem looks0 : true = Tryz.prog.looks [] := by kernel_rfl
end Go.Proofs.YtfjgblbmdddpkaaGreatDoor.semOfNothing
