/- Runs of functions on tokens, written by SymX (my own program) for this seat. -/
import Derived.Test.YtfjgblbmdddpkaaGreatDoorAv
import Derived.Test.YtfjgblbmdddpkaaGreatDoorCc
namespace Go.Proofs.YtfjgblbmdddpkaaGreatDoor
open Go Go.Ab Go.RowKit
-- ronLong: formulary/formularylaw12.RecalcOfNothing is 10, body true
theorem ronLong_0 (tk : List AV) (htk : tk.all plainA = true) (hr : RsOK Tryz.prog tk []) (hp : PsOK Tryz.prog tk []) (ho : OsOK Tryz.prog tk [⟨.len 9, [.sy 0], .sy 2⟩, ⟨.bin .gtr 3, [.sy 2, .i .i64 1000], .b true⟩]) (h1 : cleanAs (concAs tk [.sy 0, .sy 1]) = true) (h2 : ((CR.conc tk (.ret (.b true))).clean = true)) : Row Tryz.prog 10 (concAs tk [.sy 0, .sy 1]) (CR.conc tk (.ret (.b true))) :=
  row_of_run mixed named placed (show callF Tryz.prog (fullT places [] [] [⟨.len 9, [.sy 0], .sy 2⟩, ⟨.bin .gtr 3, [.sy 2, .i .i64 1000], .b true⟩]) 60 10 [.sy 0, .sy 1] { h := [], esc := none } = some (.ret (.b true), { h := [], esc := none }) by kernel_rfl) tk htk hr hp ho h1 h2
-- ronShort: formulary/formularylaw12.RecalcOfNothing is 10, body true
theorem ronShort_0 (tk : List AV) (htk : tk.all plainA = true) (hr : RsOK Tryz.prog tk [⟨28, [], .ret (.b true)⟩]) (hp : PsOK Tryz.prog tk []) (ho : OsOK Tryz.prog tk [⟨.len 9, [.sy 0], .sy 2⟩, ⟨.bin .gtr 3, [.sy 2, .i .i64 1000], .b false⟩]) (h1 : cleanAs (concAs tk [.sy 0, .sy 1]) = true) (h2 : ((CR.conc tk (.ret (.b true))).clean = true)) : Row Tryz.prog 10 (concAs tk [.sy 0, .sy 1]) (CR.conc tk (.ret (.b true))) :=
  row_of_run mixed named placed (show callF Tryz.prog (fullT places [⟨28, [], .ret (.b true)⟩] [] [⟨.len 9, [.sy 0], .sy 2⟩, ⟨.bin .gtr 3, [.sy 2, .i .i64 1000], .b false⟩]) 60 10 [.sy 0, .sy 1] { h := [], esc := none } = some (.ret (.b true), { h := [], esc := none }) by kernel_rfl) tk htk hr hp ho h1 h2
end Go.Proofs.YtfjgblbmdddpkaaGreatDoor
