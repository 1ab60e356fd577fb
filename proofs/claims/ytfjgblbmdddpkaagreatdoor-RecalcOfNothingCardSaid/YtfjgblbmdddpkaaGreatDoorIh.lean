/- RecalcOfNothing: the row's facts about the program, one by one (together they need more memory than a process may have). -/
import Derived.Test.YtfjgblbmdddpkaaGreatDoorRows
import Derived.ProofKit
import Derived.JoinedCond
import Derived.SevenTiedAt
namespace Go.Proofs.YtfjgblbmdddpkaaGreatDoor.recalcOfNothing
open Go.RowKit

abbrev lawf : FuncId := 10

theorem f10 : (Rows.recalcOfNothingRow.inPlace == Tryz.prog.inPlace lawf) = true := by kernel_rfl
theorem f11 : (Rows.recalcOfNothingRow.unfollowed == Tryz.prog.unfollowed lawf) = true := by kernel_rfl
theorem f12 : (Rows.recalcOfNothingRow.recurses == Tryz.prog.recurses lawf) = true := by kernel_rfl
theorem f13 : (Rows.recalcOfNothingRow.named == Tryz.prog.varsNamed lawf) = true := by kernel_rfl
theorem mr : mapsRowed Tryz.prog = true := by kernel_rfl
theorem wft : Rows.recalcOfNothingRow.wfByText (OpenSpec.ofChange Rows.recalcOfNothingSpec) = true := by kernel_rfl
theorem wf0 : Rows.recalcOfNothingRow.wf (OpenSpec.ofChange Rows.recalcOfNothingSpec) = true := by kernel_rfl
theorem goes : false = Rows.recalcOfNothingRow.goesBy Tryz.prog := by kernel_rfl
theorem main : Tryz.prog.mainIs = some (true, "6465726c86eb7ace299226873affa6bb62cd508173ee3bc608dfe3caf1f45202".toList) := by kernel_rfl
theorem looks0 : true = Tryz.prog.looks [] := by kernel_rfl
end Go.Proofs.YtfjgblbmdddpkaaGreatDoor.recalcOfNothing
