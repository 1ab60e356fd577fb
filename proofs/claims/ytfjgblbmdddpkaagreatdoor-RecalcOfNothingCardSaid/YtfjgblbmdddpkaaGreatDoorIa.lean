/- RecalcOfNothing: for any name and any number it is true. -/
import Derived.Test.YtfjgblbmdddpkaaGreatDoorSb
import Derived.Test.YtfjgblbmdddpkaaGreatDoorSc
namespace Go.Proofs.YtfjgblbmdddpkaaGreatDoor
open Go Go.Ab Go.RowKit

theorem str_is : Tryz.prog.underlying 9 = some .string := by kernel_rfl
theorem some_b {e b : Bool} (h : e = b) : some (AV.b e) = some (AV.b b) := by rw [h]

theorem len_told (s : List UInt8) (x : AV) (b : Bool) (h : decide ((s.length : Int) > 1000) = b) : OsOK Tryz.prog [.s s, x, .i .i64 s.length] [⟨.len 9, [.sy 0], .sy 2⟩, ⟨.bin .gtr 3, [.sy 2, .i .i64 1000], .b b⟩] :=
  ⟨ek_len_s str_is, some_b h, trivial⟩

theorem row_ron (s : List UInt8) (n : Int) : Row Tryz.prog 10 [.s s, .i .i64 n] (.ret (.b true)) := by
  have hp : [AV.s s, .i .i64 n, .i .i64 s.length].all plainA = true := rfl
  cases hb : decide ((s.length : Int) > 1000) with
  | true => exact ronLong_0 [.s s, .i .i64 n, .i .i64 s.length] hp trivial trivial (len_told s _ true hb) rfl rfl
  | false => exact ronShort_0 [.s s, .i .i64 n, .i .i64 s.length] hp ⟨k12_pure.row rfl rfl, trivial⟩ trivial (len_told s _ false hb) rfl rfl
end Go.Proofs.YtfjgblbmdddpkaaGreatDoor
