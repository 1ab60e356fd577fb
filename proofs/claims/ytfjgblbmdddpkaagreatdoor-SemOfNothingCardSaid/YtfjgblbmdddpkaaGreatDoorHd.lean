/- SemOfNothing: for any name and any cells it is true. -/
import Derived.Test.YtfjgblbmdddpkaaGreatDoorHb
import Derived.Test.YtfjgblbmdddpkaaGreatDoorHc
import Derived.Test.YtfjgblbmdddpkaaGreatDoorSa
namespace Go.Proofs.YtfjgblbmdddpkaaGreatDoor
open Go Go.Ab Go.RowKit

theorem plain_cells (l : List CellD) : plainA (.l .no (cellsAV l) l.length) = true := by simp [plainA, cleanA, cells_clean, AV.one]

theorem len_big (s : List UInt8) (b : Bool) (h : decide ((s.length : Int) > 1000) = b) (rest : List AV) : OsOK Tryz.prog (.s s :: AV.ln :: .i .i64 s.length :: rest) [⟨.len 9, [.sy 0], .sy 2⟩, ⟨.bin .gtr 3, [.sy 2, .i .i64 1000], .b b⟩] :=
  ⟨ek_len_s u9, hcb h, trivial⟩
theorem len_big' (s : List UInt8) (x : AV) (b : Bool) (h : decide ((s.length : Int) > 1000) = b) (rest : List AV) : OsOK Tryz.prog (.s s :: x :: .i .i64 s.length :: rest) [⟨.len 9, [.sy 0], .sy 2⟩, ⟨.bin .gtr 3, [.sy 2, .i .i64 1000], .b b⟩] :=
  ⟨ek_len_s u9, hcb h, trivial⟩

theorem row_son (s : List UInt8) (l : List CellD) (hl : l.length < 9223372036854775808) : Row Tryz.prog 6 [.s s, .l .no (cellsAV l) l.length] (.ret (.b true)) := by
  have hc : cleanAs [.s s, .l .no (cellsAV l) l.length] = true := by simp [cleanAs, cleanA, cells_clean]
  have hp : [AV.s s, .l .no (cellsAV l) l.length, .i .i64 s.length].all plainA = true := by
    rw [List.all_cons, List.all_cons, plain_cells]; rfl
  cases hb : decide ((s.length : Int) > 1000) with
  | true => exact sonLong_0 [.s s, .l .no (cellsAV l) l.length, .i .i64 s.length] hp trivial trivial (len_big' s _ true hb []) hc rfl
  | false =>
    obtain ⟨b, hv⟩ := row_heavy l hl
    cases b with
    | true => exact sonHeavy_0 [.s s, .l .no (cellsAV l) l.length, .i .i64 s.length] hp ⟨hv, trivial⟩ trivial (len_big' s _ false hb []) hc rfl
    | false => exact sonLight_0 [.s s, .l .no (cellsAV l) l.length, .i .i64 s.length] hp ⟨hv, k11_pure.row rfl rfl, trivial⟩ trivial (len_big' s _ false hb []) hc rfl

theorem row_son_nil (s : List UInt8) : Row Tryz.prog 6 [.s s, .ln] (.ret (.b true)) := by
  have hp : [AV.s s, .ln, .i .i64 s.length].all plainA = true := rfl
  cases hb : decide ((s.length : Int) > 1000) with
  | true => exact sonLongN_0 [.s s, .ln, .i .i64 s.length] hp trivial trivial (len_big' s _ true hb []) rfl rfl
  | false => exact sonNil_0 [.s s, .ln, .i .i64 s.length] hp ⟨hcNil_0, k11_pure.row rfl rfl, trivial⟩ trivial (len_big' s _ false hb []) rfl rfl
end Go.Proofs.YtfjgblbmdddpkaaGreatDoor
