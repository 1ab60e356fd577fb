/- 'known' of law 8: a closed run, by the kernel. -/
import Derived.Test.YtcinmjajfccbaaaGreatDoorAv
import Derived.Test.YtcinmjajfccbaaaGreatDoorCa
namespace Go.Proofs.YtcinmjajfccbaaaGreatDoor
open Go Go.Ab Go.RowKit

theorem p_known : Pure Tryz.prog 17 [] (.b true) :=
  pure_of_run mixed named placed Tryz.func17 (cd := Tryz.f17.body.getD .skip) rfl
    (show callF Tryz.prog (pureT places [] []) 100 17 [] { h := [], esc := none } = some (.ret (.b true), { h := [], esc := none }) by kernel_rfl) [] rfl trivial trivial rfl rfl
end Go.Proofs.YtcinmjajfccbaaaGreatDoor
