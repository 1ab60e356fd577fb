/- Runs of functions on tokens, written by SymX (my own program) for this seat. -/
import Derived.Test.YtfjgblbmdddpkaaGreatDoorAv
import Derived.Test.YtfjgblbmdddpkaaGreatDoorCc
namespace Go.Proofs.YtfjgblbmdddpkaaGreatDoor
open Go Go.Ab Go.RowKit
-- k11: formulary/formularylaw11.known is 15, body true
noncomputable def k11T0 : CallT := primT places
theorem k11K0 (b : Base) : SoundC Tryz.prog b k11T0 ∧ GrowC k11T0 := ⟨prim_sound placed, prim_grow places⟩
def k11H0 : AH := [.cs [.s [102], .i .i64 1, .i .i64 0, .l .no [.s [97], .i .i64 1, .i .i64 0, .s [], .s [], .s [], .b false, .i .i64 (-1), .s [98], .i .i64 1, .i .i64 0, .s [97, 32, 42, 32, 50], .s [97, 32, 62, 32, 49], .s [], .b false, .i .i64 (-1)] 2], .cs [.p 7 0], .cs [.i .i64 0, .i .i64 0, .i .i64 0, .i .i64 0], .cs [.s [102], .i .i64 1, .i .i64 0, .v 5 0 2 2], .cs [.s [102], .i .i64 1, .i .i64 0, .v 5 0 2 2], .cs [.s [97], .i .i64 1, .i .i64 0, .s [], .s [], .s [], .b false, .i .i64 (-1), .s [98], .i .i64 1, .i .i64 0, .s [97, 32, 42, 32, 50], .s [97, 32, 62, 32, 49], .s [], .b false, .i .i64 (-1)], .mp [(.s [97], .i .i64 0), (.s [98], .i .i64 1)], .cs [.s [102], .i .i64 1, .i .i64 0, .v 5 0 2 2, .m 6, .l (.id 13) [.pn, .pn, .pn] 1], .mp [(.s [97], .i .i64 1), (.s [98], .i .i64 1)], .cs [.s [97], .i .i64 1, .i .i64 0, .s [], .s [], .s [], .b false, .i .i64 (-1)], .cs [.s [98], .i .i64 1, .i .i64 0, .s [97, 32, 42, 32, 50], .s [97, 32, 62, 32, 49], .s [], .b false, .i .i64 (-1)], .cs [.s [97], .i .i64 1, .i .i64 0, .s [], .s [], .s [], .b false, .i .i64 (-1)], .cs [.pn, .pn, .pn], .tk 1 94, .cs [.s [98], .i .i64 1, .i .i64 0, .s [97, 32, 42, 32, 50], .s [97, 32, 62, 32, 49], .s [], .b false, .i .i64 (-1)], .cs [.pn, .pn, .pn], .cs [.i .i64 1, .i .i64 1, .i .i64 0, .i .i64 0], .cs [.i .i64 0, .s [], .i .i64 0, .f 0, .s [], .b false, .i .i64 0, .ln], .cs [.i .i64 0], .cs [.i .i64 0]]
def k11E0 : MEnt := ⟨119, [.s [97, 32, 42, 32, 50]], { h := k11H0, esc := none }, .ret (.t [.l .no [.i .i64 3, .s [97], .f 0, .i .i64 0, .i .i64 4, .s [42], .f 0, .i .i64 2, .i .i64 1, .s [], .f 4611686018427387904, .i .i64 4, .i .i64 5, .s [], .f 0, .i .i64 5] 4, .i .i64 0, .i .i64 0]), { h := k11H0, esc := none }⟩
theorem k11R0 : callF Tryz.prog k11T0 200 k11E0.f k11E0.args k11E0.s = some (k11E0.q, k11E0.s') := by kernel_rfl
noncomputable def k11T1 : CallT := k11T0.memo k11E0
theorem k11K1 (b : Base) : SoundC Tryz.prog b k11T1 ∧ GrowC k11T1 := memo_ok mixed named (k11K0 b) k11R0
def k11H1 : AH := (k11H0.take 17)
def k11E1 : MEnt := ⟨79, [.s [97, 32, 42, 32, 50]], { h := k11H1, esc := none }, .ret (.t [.a [.i .i64 3, .s [42], .i .i64 0, .f 0, .s [], .b false, .i .i64 0, .l .no [.i .i64 2, .s [97], .i .i64 0, .f 0, .s [], .b false, .i .i64 0, .ln, .i .i64 1, .s [], .i .i64 1, .f 4611686018427387904, .s [], .b false, .i .i64 0, .ln] 2], .i .i64 0, .i .i64 0]), { h := k11H1, esc := none }⟩
theorem k11R1 : callF Tryz.prog k11T1 200 k11E1.f k11E1.args k11E1.s = some (k11E1.q, k11E1.s') := by kernel_rfl
noncomputable def k11T2 : CallT := k11T1.memo k11E1
theorem k11K2 (b : Base) : SoundC Tryz.prog b k11T2 ∧ GrowC k11T2 := memo_ok mixed named (k11K1 b) k11R1
def k11H2 : AH := k11H1 ++ [.cs [.i .i64 3, .s [42], .i .i64 0, .f 0, .s [], .b false, .i .i64 0, .l .no [.i .i64 2, .s [97], .i .i64 0, .f 0, .s [], .b false, .i .i64 0, .ln, .i .i64 1, .s [], .i .i64 1, .f 4611686018427387904, .s [], .b false, .i .i64 0, .ln] 2], .cs [.i .i64 3, .s [42], .i .i64 0, .f 0, .s [], .b false, .i .i64 0, .l .no [.i .i64 2, .s [97], .i .i64 0, .f 0, .s [], .b false, .i .i64 0, .ln, .i .i64 1, .s [], .i .i64 1, .f 4611686018427387904, .s [], .b false, .i .i64 0, .ln] 2], .cs [.i .i64 0], .cs [.i .i64 0], .cs [.i .i64 0]]
def k11E2 : MEnt := ⟨124, [.a [.i .i64 3, .s [42], .i .i64 0, .f 0, .s [], .b false, .i .i64 0, .l .no [.i .i64 2, .s [97], .i .i64 0, .f 0, .s [], .b false, .i .i64 0, .ln, .i .i64 1, .s [], .i .i64 1, .f 4611686018427387904, .s [], .b false, .i .i64 0, .ln] 2]], { h := k11H2, esc := none }, .ret (.b true), { h := k11H2, esc := none }⟩
theorem k11R2 : callF Tryz.prog k11T2 200 k11E2.f k11E2.args k11E2.s = some (k11E2.q, k11E2.s') := by kernel_rfl
noncomputable def k11T3 : CallT := k11T2.memo k11E2
theorem k11K3 (b : Base) : SoundC Tryz.prog b k11T3 ∧ GrowC k11T3 := memo_ok mixed named (k11K2 b) k11R2
def k11H3 : AH := (k11H2.take 18)
def k11E3 : MEnt := ⟨80, [.a [.i .i64 3, .s [42], .i .i64 0, .f 0, .s [], .b false, .i .i64 0, .l .no [.i .i64 2, .s [97], .i .i64 0, .f 0, .s [], .b false, .i .i64 0, .ln, .i .i64 1, .s [], .i .i64 1, .f 4611686018427387904, .s [], .b false, .i .i64 0, .ln] 2], .m 8], { h := k11H3, esc := none }, .ret (.t [.i .i64 1, .i .i64 0, .i .i64 0]), { h := k11H3, esc := none }⟩
theorem k11R3 : callF Tryz.prog k11T3 200 k11E3.f k11E3.args k11E3.s = some (k11E3.q, k11E3.s') := by kernel_rfl
noncomputable def k11T4 : CallT := k11T3.memo k11E3
theorem k11K4 (b : Base) : SoundC Tryz.prog b k11T4 ∧ GrowC k11T4 := memo_ok mixed named (k11K3 b) k11R3
def k11H4 : AH := (k11H0.take 16)
def k11H5 : AH := (k11H3.set 16 (.cs [.i .i64 1, .i .i64 1, .i .i64 0, .i .i64 11]))
def k11E4 : MEnt := ⟨49, [.s [97, 32, 42, 32, 50], .m 8, .i .i64 1, .a [.i .i64 1, .i .i64 1, .i .i64 0, .i .i64 0]], { h := k11H4, esc := (some 1) }, .ret (.p 17 0), { h := k11H5, esc := (some 1) }⟩
theorem k11R4 : callF Tryz.prog k11T4 200 k11E4.f k11E4.args k11E4.s = some (k11E4.q, k11E4.s') := by kernel_rfl
noncomputable def k11T5 : CallT := k11T4.memo k11E4
theorem k11K5 (b : Base) : SoundC Tryz.prog b k11T5 ∧ GrowC k11T5 := memo_ok mixed named (k11K4 b) k11R4
def k11H6 : AH := (k11H5.set 15 (.cs [.p 17 0, .pn, .pn])) ++ [.cs [.i .i64 1, .i .i64 2, .i .i64 0, .i .i64 0], .cs [.i .i64 0, .s [], .i .i64 0, .f 0, .s [], .b false, .i .i64 0, .ln], .cs [.i .i64 0], .cs [.i .i64 0]]
def k11E5 : MEnt := ⟨119, [.s [97, 32, 62, 32, 49]], { h := k11H6, esc := none }, .ret (.t [.l .no [.i .i64 3, .s [97], .f 0, .i .i64 0, .i .i64 4, .s [62], .f 0, .i .i64 2, .i .i64 1, .s [], .f 4607182418800017408, .i .i64 4, .i .i64 5, .s [], .f 0, .i .i64 5] 4, .i .i64 0, .i .i64 0]), { h := k11H6, esc := none }⟩
theorem k11R5 : callF Tryz.prog k11T5 200 k11E5.f k11E5.args k11E5.s = some (k11E5.q, k11E5.s') := by kernel_rfl
noncomputable def k11T6 : CallT := k11T5.memo k11E5
theorem k11K6 (b : Base) : SoundC Tryz.prog b k11T6 ∧ GrowC k11T6 := memo_ok mixed named (k11K5 b) k11R5
def k11H7 : AH := (k11H6.take 19)
def k11E6 : MEnt := ⟨79, [.s [97, 32, 62, 32, 49]], { h := k11H7, esc := none }, .ret (.t [.a [.i .i64 3, .s [62], .i .i64 0, .f 0, .s [], .b false, .i .i64 0, .l .no [.i .i64 2, .s [97], .i .i64 0, .f 0, .s [], .b false, .i .i64 0, .ln, .i .i64 1, .s [], .i .i64 1, .f 4607182418800017408, .s [], .b false, .i .i64 0, .ln] 2], .i .i64 0, .i .i64 0]), { h := k11H7, esc := none }⟩
theorem k11R6 : callF Tryz.prog k11T6 200 k11E6.f k11E6.args k11E6.s = some (k11E6.q, k11E6.s') := by kernel_rfl
noncomputable def k11T7 : CallT := k11T6.memo k11E6
theorem k11K7 (b : Base) : SoundC Tryz.prog b k11T7 ∧ GrowC k11T7 := memo_ok mixed named (k11K6 b) k11R6
def k11H8 : AH := k11H7 ++ [.cs [.i .i64 3, .s [62], .i .i64 0, .f 0, .s [], .b false, .i .i64 0, .l .no [.i .i64 2, .s [97], .i .i64 0, .f 0, .s [], .b false, .i .i64 0, .ln, .i .i64 1, .s [], .i .i64 1, .f 4607182418800017408, .s [], .b false, .i .i64 0, .ln] 2], .cs [.i .i64 3, .s [62], .i .i64 0, .f 0, .s [], .b false, .i .i64 0, .l .no [.i .i64 2, .s [97], .i .i64 0, .f 0, .s [], .b false, .i .i64 0, .ln, .i .i64 1, .s [], .i .i64 1, .f 4607182418800017408, .s [], .b false, .i .i64 0, .ln] 2], .cs [.i .i64 0], .cs [.i .i64 0], .cs [.i .i64 0]]
def k11E7 : MEnt := ⟨124, [.a [.i .i64 3, .s [62], .i .i64 0, .f 0, .s [], .b false, .i .i64 0, .l .no [.i .i64 2, .s [97], .i .i64 0, .f 0, .s [], .b false, .i .i64 0, .ln, .i .i64 1, .s [], .i .i64 1, .f 4607182418800017408, .s [], .b false, .i .i64 0, .ln] 2]], { h := k11H8, esc := none }, .ret (.b true), { h := k11H8, esc := none }⟩
theorem k11R7 : callF Tryz.prog k11T7 200 k11E7.f k11E7.args k11E7.s = some (k11E7.q, k11E7.s') := by kernel_rfl
noncomputable def k11T8 : CallT := k11T7.memo k11E7
theorem k11K8 (b : Base) : SoundC Tryz.prog b k11T8 ∧ GrowC k11T8 := memo_ok mixed named (k11K7 b) k11R7
def k11H9 : AH := (k11H8.take 20)
def k11E8 : MEnt := ⟨80, [.a [.i .i64 3, .s [62], .i .i64 0, .f 0, .s [], .b false, .i .i64 0, .l .no [.i .i64 2, .s [97], .i .i64 0, .f 0, .s [], .b false, .i .i64 0, .ln, .i .i64 1, .s [], .i .i64 1, .f 4607182418800017408, .s [], .b false, .i .i64 0, .ln] 2], .m 8], { h := k11H9, esc := none }, .ret (.t [.i .i64 3, .i .i64 0, .i .i64 0]), { h := k11H9, esc := none }⟩
theorem k11R8 : callF Tryz.prog k11T8 200 k11E8.f k11E8.args k11E8.s = some (k11E8.q, k11E8.s') := by kernel_rfl
noncomputable def k11T9 : CallT := k11T8.memo k11E8
theorem k11K9 (b : Base) : SoundC Tryz.prog b k11T9 ∧ GrowC k11T9 := memo_ok mixed named (k11K8 b) k11R8
def k11H10 : AH := (k11H6.take 18)
def k11H11 : AH := (k11H9.set 18 (.cs [.i .i64 1, .i .i64 2, .i .i64 0, .i .i64 11]))
def k11E9 : MEnt := ⟨49, [.s [97, 32, 62, 32, 49], .m 8, .i .i64 1, .a [.i .i64 1, .i .i64 2, .i .i64 0, .i .i64 0]], { h := k11H10, esc := (some 1) }, .ret (.p 19 0), { h := k11H11, esc := (some 1) }⟩
theorem k11R9 : callF Tryz.prog k11T9 200 k11E9.f k11E9.args k11E9.s = some (k11E9.q, k11E9.s') := by kernel_rfl
noncomputable def k11T10 : CallT := k11T9.memo k11E9
theorem k11K10 (b : Base) : SoundC Tryz.prog b k11T10 ∧ GrowC k11T10 := memo_ok mixed named (k11K9 b) k11R9
def k11H12 : AH := (((k11H11.set 7 (.cs [.s [102], .i .i64 1, .i .i64 0, .v 5 0 2 2, .m 6, .l (.id 13) [.pn, .pn, .pn, .p 17 0, .p 19 0, .pn] 2])).set 13 (.tk 2 94)).set 15 (.cs [.p 17 0, .p 19 0, .pn])) ++ [.cs [.v 22 0 6 6, .v 23 0 6 6, .v 24 0 6 6, .v 25 0 6 6, .v 26 0 6 6, .v 27 0 6 6], .cs [.v 20 0 6 6], .cs [.b false, .b false, .b false, .b false, .b false, .b false], .cs [.b false, .b false, .b false, .b false, .b false, .b false], .cs [.b false, .b false, .b false, .b false, .b false, .b false], .cs [.b false, .b false, .b false, .b false, .b false, .b false], .cs [.b false, .b false, .b false, .b false, .b false, .b false], .cs [.b false, .b false, .b false, .b false, .b false, .b false], .cs [.pn, .pn, .pn]]
def k11H13 : AH := (k11H12.set 22 (.cs [.b false, .b true, .b false, .b false, .b false, .b false]))
def k11E10 : MEnt := ⟨83, [.p 21 0, .i .i64 0, .i .i64 1], { h := k11H12, esc := (some 20) }, .ret (.i .i64 0), { h := k11H13, esc := (some 20) }⟩
theorem k11R10 : callF Tryz.prog k11T10 200 k11E10.f k11E10.args k11E10.s = some (k11E10.q, k11E10.s') := by kernel_rfl
noncomputable def k11T11 : CallT := k11T10.memo k11E10
theorem k11K11 (b : Base) : SoundC Tryz.prog b k11T11 ∧ GrowC k11T11 := memo_ok mixed named (k11K10 b) k11R10
def k11H14 : AH := (k11H13.set 24 (.cs [.b true, .b false, .b false, .b false, .b false, .b false]))
def k11E11 : MEnt := ⟨83, [.p 21 0, .i .i64 2, .i .i64 0], { h := k11H13, esc := (some 20) }, .ret (.i .i64 0), { h := k11H14, esc := (some 20) }⟩
theorem k11R11 : callF Tryz.prog k11T11 200 k11E11.f k11E11.args k11E11.s = some (k11E11.q, k11E11.s') := by kernel_rfl
noncomputable def k11T12 : CallT := k11T11.memo k11E11
theorem k11K12 (b : Base) : SoundC Tryz.prog b k11T12 ∧ GrowC k11T12 := memo_ok mixed named (k11K11 b) k11R11
def k11H15 : AH := (k11H13.set 24 (.cs [.b true, .b true, .b false, .b false, .b false, .b false]))
def k11E12 : MEnt := ⟨83, [.p 21 0, .i .i64 2, .i .i64 1], { h := k11H14, esc := (some 20) }, .ret (.i .i64 0), { h := k11H15, esc := (some 20) }⟩
theorem k11R12 : callF Tryz.prog k11T12 200 k11E12.f k11E12.args k11E12.s = some (k11E12.q, k11E12.s') := by kernel_rfl
noncomputable def k11T13 : CallT := k11T12.memo k11E12
theorem k11K13 (b : Base) : SoundC Tryz.prog b k11T13 ∧ GrowC k11T13 := memo_ok mixed named (k11K12 b) k11R12
def k11H16 : AH := k11H15 ++ [.cs [.p 17 0, .p 19 0, .pn]]
def k11H17 : AH := (k11H16.set 25 (.cs [.b false, .b false, .b false, .b false, .b true, .b false]))
def k11E13 : MEnt := ⟨83, [.p 21 0, .i .i64 3, .i .i64 4], { h := k11H16, esc := (some 20) }, .ret (.i .i64 0), { h := k11H17, esc := (some 20) }⟩
theorem k11R13 : callF Tryz.prog k11T13 200 k11E13.f k11E13.args k11E13.s = some (k11E13.q, k11E13.s') := by kernel_rfl
noncomputable def k11T14 : CallT := k11T13.memo k11E13
theorem k11K14 (b : Base) : SoundC Tryz.prog b k11T14 ∧ GrowC k11T14 := memo_ok mixed named (k11K13 b) k11R13
def k11H18 : AH := (k11H17.set 27 (.cs [.b false, .b false, .b false, .b true, .b false, .b false]))
def k11E14 : MEnt := ⟨83, [.p 21 0, .i .i64 5, .i .i64 3], { h := k11H17, esc := (some 20) }, .ret (.i .i64 0), { h := k11H18, esc := (some 20) }⟩
theorem k11R14 : callF Tryz.prog k11T14 200 k11E14.f k11E14.args k11E14.s = some (k11E14.q, k11E14.s') := by kernel_rfl
noncomputable def k11T15 : CallT := k11T14.memo k11E14
theorem k11K15 (b : Base) : SoundC Tryz.prog b k11T15 ∧ GrowC k11T15 := memo_ok mixed named (k11K14 b) k11R14
def k11H19 : AH := (k11H17.set 27 (.cs [.b false, .b false, .b false, .b true, .b true, .b false]))
def k11E15 : MEnt := ⟨83, [.p 21 0, .i .i64 5, .i .i64 4], { h := k11H18, esc := (some 20) }, .ret (.i .i64 0), { h := k11H19, esc := (some 20) }⟩
theorem k11R15 : callF Tryz.prog k11T15 200 k11E15.f k11E15.args k11E15.s = some (k11E15.q, k11E15.s') := by kernel_rfl
noncomputable def k11T16 : CallT := k11T15.memo k11E15
theorem k11K16 (b : Base) : SoundC Tryz.prog b k11T16 ∧ GrowC k11T16 := memo_ok mixed named (k11K15 b) k11R15
def k11H20 : AH := (k11H19.set 25 (.cs [.b true, .b false, .b false, .b false, .b true, .b false]))
def k11E16 : MEnt := ⟨83, [.p 21 0, .i .i64 3, .i .i64 0], { h := k11H19, esc := (some 20) }, .ret (.i .i64 0), { h := k11H20, esc := (some 20) }⟩
theorem k11R16 : callF Tryz.prog k11T16 200 k11E16.f k11E16.args k11E16.s = some (k11E16.q, k11E16.s') := by kernel_rfl
noncomputable def k11T17 : CallT := k11T16.memo k11E16
theorem k11K17 (b : Base) : SoundC Tryz.prog b k11T17 ∧ GrowC k11T17 := memo_ok mixed named (k11K16 b) k11R16
def k11H21 : AH := (k11H20.set 26 (.cs [.b true, .b false, .b false, .b false, .b false, .b false]))
def k11E17 : MEnt := ⟨83, [.p 21 0, .i .i64 4, .i .i64 0], { h := k11H20, esc := (some 20) }, .ret (.i .i64 0), { h := k11H21, esc := (some 20) }⟩
theorem k11R17 : callF Tryz.prog k11T17 200 k11E17.f k11E17.args k11E17.s = some (k11E17.q, k11E17.s') := by kernel_rfl
noncomputable def k11T18 : CallT := k11T17.memo k11E17
theorem k11K18 (b : Base) : SoundC Tryz.prog b k11T18 ∧ GrowC k11T18 := memo_ok mixed named (k11K17 b) k11R17
def k11H22 : AH := (k11H12.take 20)
def k11E18 : MEnt := ⟨50, [.p 7 0], { h := k11H22, esc := (some 1) }, .ret (.p 21 0), { h := k11H21, esc := (some 1) }⟩
theorem k11R18 : callF Tryz.prog k11T18 200 k11E18.f k11E18.args k11E18.s = some (k11E18.q, k11E18.s') := by kernel_rfl
noncomputable def k11T19 : CallT := k11T18.memo k11E18
theorem k11K19 (b : Base) : SoundC Tryz.prog b k11T19 ∧ GrowC k11T19 := memo_ok mixed named (k11K18 b) k11R18
def k11H23 : AH := k11H21 ++ [.cs [.ln], .cs [.i .i64 0], .cs [.i .i64 1, .i .i64 0, .i .i64 2, .i .i64 2, .i .i64 1, .i .i64 2], .cs [.p 21 0, .v 32 0 6 6]]
def k11H24 : AH := (k11H23.set 32 (.cs [.i .i64 0, .i .i64 (-1), .i .i64 1, .i .i64 2, .i .i64 1, .i .i64 2]))
def k11E19 : MEnt := ⟨86, [.p 33 0], { h := k11H23, esc := none }, .ret (.i .i64 1), { h := k11H24, esc := none }⟩
theorem k11R19 : callF Tryz.prog k11T19 200 k11E19.f k11E19.args k11E19.s = some (k11E19.q, k11E19.s') := by kernel_rfl
noncomputable def k11T20 : CallT := k11T19.memo k11E19
theorem k11K20 (b : Base) : SoundC Tryz.prog b k11T20 ∧ GrowC k11T20 := memo_ok mixed named (k11K19 b) k11R19
def k11H25 : AH := (k11H24.set 30 (.cs [.l (.id 34) [.i .i64 1] 1])) ++ [.tk 1 3]
def k11H26 : AH := (k11H25.set 32 (.cs [.i .i64 (-1), .i .i64 (-1), .i .i64 0, .i .i64 1, .i .i64 0, .i .i64 2]))
def k11E20 : MEnt := ⟨86, [.p 33 0], { h := k11H25, esc := (some 30) }, .ret (.i .i64 0), { h := k11H26, esc := (some 30) }⟩
theorem k11R20 : callF Tryz.prog k11T20 200 k11E20.f k11E20.args k11E20.s = some (k11E20.q, k11E20.s') := by kernel_rfl
noncomputable def k11T21 : CallT := k11T20.memo k11E20
theorem k11K21 (b : Base) : SoundC Tryz.prog b k11T21 ∧ GrowC k11T21 := memo_ok mixed named (k11K20 b) k11R20
def k11H27 : AH := ((k11H26.set 30 (.cs [.l (.id 34) [.i .i64 1, .i .i64 0] 2])).set 34 (.tk 2 3))
def k11H28 : AH := (k11H27.set 32 (.cs [.i .i64 (-1), .i .i64 (-1), .i .i64 (-1), .i .i64 1, .i .i64 0, .i .i64 2]))
def k11E21 : MEnt := ⟨86, [.p 33 0], { h := k11H27, esc := (some 30) }, .ret (.i .i64 2), { h := k11H28, esc := (some 30) }⟩
theorem k11R21 : callF Tryz.prog k11T21 200 k11E21.f k11E21.args k11E21.s = some (k11E21.q, k11E21.s') := by kernel_rfl
noncomputable def k11T22 : CallT := k11T21.memo k11E21
theorem k11K22 (b : Base) : SoundC Tryz.prog b k11T22 ∧ GrowC k11T22 := memo_ok mixed named (k11K21 b) k11R21
def k11H29 : AH := ((k11H28.set 30 (.cs [.l (.id 34) [.i .i64 1, .i .i64 0, .i .i64 2] 3])).set 34 (.tk 3 3))
def k11H30 : AH := (k11H29.set 32 (.cs [.i .i64 (-1), .i .i64 (-1), .i .i64 (-1), .i .i64 0, .i .i64 (-1), .i .i64 1]))
def k11E22 : MEnt := ⟨86, [.p 33 0], { h := k11H29, esc := (some 30) }, .ret (.i .i64 4), { h := k11H30, esc := (some 30) }⟩
theorem k11R22 : callF Tryz.prog k11T22 200 k11E22.f k11E22.args k11E22.s = some (k11E22.q, k11E22.s') := by kernel_rfl
noncomputable def k11T23 : CallT := k11T22.memo k11E22
theorem k11K23 (b : Base) : SoundC Tryz.prog b k11T23 ∧ GrowC k11T23 := memo_ok mixed named (k11K22 b) k11R22
def k11H31 : AH := ((k11H30.set 30 (.cs [.l (.id 34) [.i .i64 1, .i .i64 0, .i .i64 2, .i .i64 4] 4])).set 34 (.tk 4 3))
def k11H32 : AH := (k11H31.set 32 (.cs [.i .i64 (-1), .i .i64 (-1), .i .i64 (-1), .i .i64 (-1), .i .i64 (-1), .i .i64 0]))
def k11E23 : MEnt := ⟨86, [.p 33 0], { h := k11H31, esc := (some 30) }, .ret (.i .i64 3), { h := k11H32, esc := (some 30) }⟩
theorem k11R23 : callF Tryz.prog k11T23 200 k11E23.f k11E23.args k11E23.s = some (k11E23.q, k11E23.s') := by kernel_rfl
noncomputable def k11T24 : CallT := k11T23.memo k11E23
theorem k11K24 (b : Base) : SoundC Tryz.prog b k11T24 ∧ GrowC k11T24 := memo_ok mixed named (k11K23 b) k11R23
def k11H33 : AH := ((k11H32.set 30 (.cs [.l (.id 34) [.i .i64 1, .i .i64 0, .i .i64 2, .i .i64 4, .i .i64 3] 5])).set 34 (.tk 5 3))
def k11H34 : AH := (k11H33.set 32 (.cs [.i .i64 (-1), .i .i64 (-1), .i .i64 (-1), .i .i64 (-1), .i .i64 (-1), .i .i64 (-1)]))
def k11E24 : MEnt := ⟨86, [.p 33 0], { h := k11H33, esc := (some 30) }, .ret (.i .i64 5), { h := k11H34, esc := (some 30) }⟩
theorem k11R24 : callF Tryz.prog k11T24 200 k11E24.f k11E24.args k11E24.s = some (k11E24.q, k11E24.s') := by kernel_rfl
noncomputable def k11T25 : CallT := k11T24.memo k11E24
theorem k11K25 (b : Base) : SoundC Tryz.prog b k11T25 ∧ GrowC k11T25 := memo_ok mixed named (k11K24 b) k11R24
def k11E25 : MEnt := ⟨51, [.p 21 0], { h := k11H21, esc := (some 1) }, .ret (.t [.l .no [.i .i64 1, .i .i64 0, .i .i64 2, .i .i64 4, .i .i64 3, .i .i64 5] 6, .i .i64 0]), { h := k11H21, esc := (some 1) }⟩
theorem k11R25 : callF Tryz.prog k11T25 200 k11E25.f k11E25.args k11E25.s = some (k11E25.q, k11E25.s') := by kernel_rfl
noncomputable def k11T26 : CallT := k11T25.memo k11E25
theorem k11K26 (b : Base) : SoundC Tryz.prog b k11T26 ∧ GrowC k11T26 := memo_ok mixed named (k11K25 b) k11R25
def k11H35 : AH := []
def k11H36 : AH := (k11H21.set 2 (.cs [.i .i64 (-1), .i .i64 0, .i .i64 0, .i .i64 0]))
def k11E26 : MEnt := ⟨13, [.a [.s [102], .i .i64 1, .i .i64 0, .l .no [.s [97], .i .i64 1, .i .i64 0, .s [], .s [], .s [], .b false, .i .i64 (-1), .s [98], .i .i64 1, .i .i64 0, .s [97, 32, 42, 32, 50], .s [97, 32, 62, 32, 49], .s [], .b false, .i .i64 (-1)] 2]], { h := k11H35, esc := none }, .ret (.t [.p 7 0, .a [.i .i64 (-1), .i .i64 0, .i .i64 0, .i .i64 0]]), { h := k11H36, esc := (some 1) }⟩
theorem k11R26 : callF Tryz.prog k11T26 200 k11E26.f k11E26.args k11E26.s = some (k11E26.q, k11E26.s') := by kernel_rfl
noncomputable def k11T27 : CallT := k11T26.memo k11E26
theorem k11K27 (b : Base) : SoundC Tryz.prog b k11T27 ∧ GrowC k11T27 := memo_ok mixed named (k11K26 b) k11R26
def k11H37 : AH := k11H36 ++ [.cs [.i .i64 (-1), .i .i64 0, .i .i64 0, .i .i64 0]]
def k11H38 : AH := k11H37 ++ [.cs [.s [102], .i .i64 1, .i .i64 0, .v 34 0 2 2], .cs [.s [102], .i .i64 1, .i .i64 0, .v 34 0 2 2], .cs [.s [102], .i .i64 1, .i .i64 0, .v 34 0 2 2], .cs [.s [97], .i .i64 1, .i .i64 0, .s [], .s [], .s [], .b false, .i .i64 (-1), .s [98], .i .i64 1, .i .i64 0, .s [97, 32, 42, 32, 50], .s [97, 32, 62, 32, 49], .s [], .b false, .i .i64 (-1)]]
def k11E27 : MEnt := ⟨59, [.p 7 0], { h := k11H37, esc := none }, .ret (.a [.s [102], .i .i64 1, .i .i64 0, .v 34 0 2 2]), { h := k11H38, esc := (some 31) }⟩
theorem k11R27 : callF Tryz.prog k11T27 200 k11E27.f k11E27.args k11E27.s = some (k11E27.q, k11E27.s') := by kernel_rfl
noncomputable def k11T28 : CallT := k11T27.memo k11E27
theorem k11K28 (b : Base) : SoundC Tryz.prog b k11T28 ∧ GrowC k11T28 := memo_ok mixed named (k11K27 b) k11R27
def k11H39 : AH := k11H38 ++ [.mp [], .mp [], .cs [.p 7 0, .s [102], .i .i64 1, .i .i64 0, .v 34 0 2 2, .m 35, .m 36, .ln], .cs [.s [97], .i .i64 1, .f 4613937818241073152, .s [], .b false, .i .i64 0], .cs [.i .i64 1, .f 4613937818241073152, .s [], .b false, .i .i64 0]]
def k11H40 : AH := k11H39 ++ [.cs [.s [102], .i .i64 1, .i .i64 0, .v 43 0 2 2], .cs [.s [102], .i .i64 1, .i .i64 0, .v 43 0 2 2], .cs [.s [102], .i .i64 1, .i .i64 0, .v 43 0 2 2], .cs [.s [97], .i .i64 1, .i .i64 0, .s [], .s [], .s [], .b false, .i .i64 (-1), .s [98], .i .i64 1, .i .i64 0, .s [97, 32, 42, 32, 50], .s [97, 32, 62, 32, 49], .s [], .b false, .i .i64 (-1)]]
def k11E28 : MEnt := ⟨59, [.p 7 0], { h := k11H39, esc := none }, .ret (.a [.s [102], .i .i64 1, .i .i64 0, .v 43 0 2 2]), { h := k11H40, esc := (some 40) }⟩
theorem k11R28 : callF Tryz.prog k11T28 200 k11E28.f k11E28.args k11E28.s = some (k11E28.q, k11E28.s') := by kernel_rfl
noncomputable def k11T29 : CallT := k11T28.memo k11E28
theorem k11K29 (b : Base) : SoundC Tryz.prog b k11T29 ∧ GrowC k11T29 := memo_ok mixed named (k11K28 b) k11R28
def k11H41 : AH := (k11H39.take 39)
def k11E29 : MEnt := ⟨17, [.p 7 0, .s [97], .a [.i .i64 1, .f 4613937818241073152, .s [], .b false, .i .i64 0]], { h := k11H41, esc := (some 31) }, .ret (.i .i64 0), { h := k11H41, esc := (some 31) }⟩
theorem k11R29 : callF Tryz.prog k11T29 200 k11E29.f k11E29.args k11E29.s = some (k11E29.q, k11E29.s') := by kernel_rfl
noncomputable def k11T30 : CallT := k11T29.memo k11E29
theorem k11K30 (b : Base) : SoundC Tryz.prog b k11T30 ∧ GrowC k11T30 := memo_ok mixed named (k11K29 b) k11R29
def k11H42 : AH := ((k11H41.set 35 (.mp [(.s [97], .a [.i .i64 1, .f 4613937818241073152, .s [], .b false, .i .i64 0])])).set 37 (.cs [.p 7 0, .s [102], .i .i64 1, .i .i64 0, .v 34 0 2 2, .m 35, .m 36, .v 39 0 2 2])) ++ [.cs [.b false, .b false, .i .i64 0, .f 0, .s [], .b false, .i .i64 0, .b false, .b false, .i .i64 0, .f 0, .s [], .b false, .i .i64 0], .cs [.v 42 0 6 6, .v 43 0 6 6, .v 44 0 6 6, .v 45 0 6 6, .v 46 0 6 6, .v 47 0 6 6], .cs [.v 40 0 6 6], .cs [.b false, .b false, .b false, .b false, .b false, .b false], .cs [.b false, .b false, .b false, .b false, .b false, .b false], .cs [.b false, .b false, .b false, .b false, .b false, .b false], .cs [.b false, .b false, .b false, .b false, .b false, .b false], .cs [.b false, .b false, .b false, .b false, .b false, .b false], .cs [.b false, .b false, .b false, .b false, .b false, .b false], .cs [.pn, .pn, .pn]]
def k11H43 : AH := (k11H42.set 42 (.cs [.b false, .b true, .b false, .b false, .b false, .b false]))
def k11E30 : MEnt := ⟨83, [.p 41 0, .i .i64 0, .i .i64 1], { h := k11H42, esc := (some 40) }, .ret (.i .i64 0), { h := k11H43, esc := (some 40) }⟩
theorem k11R30 : callF Tryz.prog k11T30 200 k11E30.f k11E30.args k11E30.s = some (k11E30.q, k11E30.s') := by kernel_rfl
noncomputable def k11T31 : CallT := k11T30.memo k11E30
theorem k11K31 (b : Base) : SoundC Tryz.prog b k11T31 ∧ GrowC k11T31 := memo_ok mixed named (k11K30 b) k11R30
def k11H44 : AH := (k11H43.set 44 (.cs [.b true, .b false, .b false, .b false, .b false, .b false]))
def k11E31 : MEnt := ⟨83, [.p 41 0, .i .i64 2, .i .i64 0], { h := k11H43, esc := (some 40) }, .ret (.i .i64 0), { h := k11H44, esc := (some 40) }⟩
theorem k11R31 : callF Tryz.prog k11T31 200 k11E31.f k11E31.args k11E31.s = some (k11E31.q, k11E31.s') := by kernel_rfl
noncomputable def k11T32 : CallT := k11T31.memo k11E31
theorem k11K32 (b : Base) : SoundC Tryz.prog b k11T32 ∧ GrowC k11T32 := memo_ok mixed named (k11K31 b) k11R31
def k11H45 : AH := (k11H43.set 44 (.cs [.b true, .b true, .b false, .b false, .b false, .b false]))
def k11E32 : MEnt := ⟨83, [.p 41 0, .i .i64 2, .i .i64 1], { h := k11H44, esc := (some 40) }, .ret (.i .i64 0), { h := k11H45, esc := (some 40) }⟩
theorem k11R32 : callF Tryz.prog k11T32 200 k11E32.f k11E32.args k11E32.s = some (k11E32.q, k11E32.s') := by kernel_rfl
noncomputable def k11T33 : CallT := k11T32.memo k11E32
theorem k11K33 (b : Base) : SoundC Tryz.prog b k11T33 ∧ GrowC k11T33 := memo_ok mixed named (k11K32 b) k11R32
def k11H46 : AH := k11H45 ++ [.cs [.p 17 0, .p 19 0, .pn]]
def k11H47 : AH := (k11H46.set 45 (.cs [.b false, .b false, .b false, .b false, .b true, .b false]))
def k11E33 : MEnt := ⟨83, [.p 41 0, .i .i64 3, .i .i64 4], { h := k11H46, esc := (some 40) }, .ret (.i .i64 0), { h := k11H47, esc := (some 40) }⟩
theorem k11R33 : callF Tryz.prog k11T33 200 k11E33.f k11E33.args k11E33.s = some (k11E33.q, k11E33.s') := by kernel_rfl
noncomputable def k11T34 : CallT := k11T33.memo k11E33
theorem k11K34 (b : Base) : SoundC Tryz.prog b k11T34 ∧ GrowC k11T34 := memo_ok mixed named (k11K33 b) k11R33
def k11H48 : AH := (k11H47.set 47 (.cs [.b false, .b false, .b false, .b true, .b false, .b false]))
def k11E34 : MEnt := ⟨83, [.p 41 0, .i .i64 5, .i .i64 3], { h := k11H47, esc := (some 40) }, .ret (.i .i64 0), { h := k11H48, esc := (some 40) }⟩
theorem k11R34 : callF Tryz.prog k11T34 200 k11E34.f k11E34.args k11E34.s = some (k11E34.q, k11E34.s') := by kernel_rfl
noncomputable def k11T35 : CallT := k11T34.memo k11E34
theorem k11K35 (b : Base) : SoundC Tryz.prog b k11T35 ∧ GrowC k11T35 := memo_ok mixed named (k11K34 b) k11R34
def k11H49 : AH := (k11H47.set 47 (.cs [.b false, .b false, .b false, .b true, .b true, .b false]))
def k11E35 : MEnt := ⟨83, [.p 41 0, .i .i64 5, .i .i64 4], { h := k11H48, esc := (some 40) }, .ret (.i .i64 0), { h := k11H49, esc := (some 40) }⟩
theorem k11R35 : callF Tryz.prog k11T35 200 k11E35.f k11E35.args k11E35.s = some (k11E35.q, k11E35.s') := by kernel_rfl
noncomputable def k11T36 : CallT := k11T35.memo k11E35
theorem k11K36 (b : Base) : SoundC Tryz.prog b k11T36 ∧ GrowC k11T36 := memo_ok mixed named (k11K35 b) k11R35
def k11H50 : AH := (k11H49.set 45 (.cs [.b true, .b false, .b false, .b false, .b true, .b false]))
def k11E36 : MEnt := ⟨83, [.p 41 0, .i .i64 3, .i .i64 0], { h := k11H49, esc := (some 40) }, .ret (.i .i64 0), { h := k11H50, esc := (some 40) }⟩
theorem k11R36 : callF Tryz.prog k11T36 200 k11E36.f k11E36.args k11E36.s = some (k11E36.q, k11E36.s') := by kernel_rfl
noncomputable def k11T37 : CallT := k11T36.memo k11E36
theorem k11K37 (b : Base) : SoundC Tryz.prog b k11T37 ∧ GrowC k11T37 := memo_ok mixed named (k11K36 b) k11R36
def k11H51 : AH := (k11H50.set 46 (.cs [.b true, .b false, .b false, .b false, .b false, .b false]))
def k11E37 : MEnt := ⟨83, [.p 41 0, .i .i64 4, .i .i64 0], { h := k11H50, esc := (some 40) }, .ret (.i .i64 0), { h := k11H51, esc := (some 40) }⟩
theorem k11R37 : callF Tryz.prog k11T37 200 k11E37.f k11E37.args k11E37.s = some (k11E37.q, k11E37.s') := by kernel_rfl
noncomputable def k11T38 : CallT := k11T37.memo k11E37
theorem k11K38 (b : Base) : SoundC Tryz.prog b k11T38 ∧ GrowC k11T38 := memo_ok mixed named (k11K37 b) k11R37
def k11H52 : AH := (k11H42.take 40)
def k11E38 : MEnt := ⟨50, [.p 7 0], { h := k11H52, esc := (some 31) }, .ret (.p 41 0), { h := k11H51, esc := (some 31) }⟩
theorem k11R38 : callF Tryz.prog k11T38 200 k11E38.f k11E38.args k11E38.s = some (k11E38.q, k11E38.s') := by kernel_rfl
noncomputable def k11T39 : CallT := k11T38.memo k11E38
theorem k11K39 (b : Base) : SoundC Tryz.prog b k11T39 ∧ GrowC k11T39 := memo_ok mixed named (k11K38 b) k11R38
def k11H53 : AH := k11H51 ++ [.cs [.ln], .cs [.i .i64 0], .cs [.i .i64 1, .i .i64 0, .i .i64 2, .i .i64 2, .i .i64 1, .i .i64 2], .cs [.p 41 0, .v 52 0 6 6]]
def k11H54 : AH := (k11H53.set 52 (.cs [.i .i64 0, .i .i64 (-1), .i .i64 1, .i .i64 2, .i .i64 1, .i .i64 2]))
def k11E39 : MEnt := ⟨86, [.p 53 0], { h := k11H53, esc := none }, .ret (.i .i64 1), { h := k11H54, esc := none }⟩
theorem k11R39 : callF Tryz.prog k11T39 200 k11E39.f k11E39.args k11E39.s = some (k11E39.q, k11E39.s') := by kernel_rfl
noncomputable def k11T40 : CallT := k11T39.memo k11E39
theorem k11K40 (b : Base) : SoundC Tryz.prog b k11T40 ∧ GrowC k11T40 := memo_ok mixed named (k11K39 b) k11R39
def k11H55 : AH := (k11H54.set 50 (.cs [.l (.id 54) [.i .i64 1] 1])) ++ [.tk 1 3]
def k11H56 : AH := (k11H55.set 52 (.cs [.i .i64 (-1), .i .i64 (-1), .i .i64 0, .i .i64 1, .i .i64 0, .i .i64 2]))
def k11E40 : MEnt := ⟨86, [.p 53 0], { h := k11H55, esc := (some 50) }, .ret (.i .i64 0), { h := k11H56, esc := (some 50) }⟩
theorem k11R40 : callF Tryz.prog k11T40 200 k11E40.f k11E40.args k11E40.s = some (k11E40.q, k11E40.s') := by kernel_rfl
noncomputable def k11T41 : CallT := k11T40.memo k11E40
theorem k11K41 (b : Base) : SoundC Tryz.prog b k11T41 ∧ GrowC k11T41 := memo_ok mixed named (k11K40 b) k11R40
def k11H57 : AH := ((k11H56.set 50 (.cs [.l (.id 54) [.i .i64 1, .i .i64 0] 2])).set 54 (.tk 2 3))
def k11H58 : AH := (k11H57.set 52 (.cs [.i .i64 (-1), .i .i64 (-1), .i .i64 (-1), .i .i64 1, .i .i64 0, .i .i64 2]))
def k11E41 : MEnt := ⟨86, [.p 53 0], { h := k11H57, esc := (some 50) }, .ret (.i .i64 2), { h := k11H58, esc := (some 50) }⟩
theorem k11R41 : callF Tryz.prog k11T41 200 k11E41.f k11E41.args k11E41.s = some (k11E41.q, k11E41.s') := by kernel_rfl
noncomputable def k11T42 : CallT := k11T41.memo k11E41
theorem k11K42 (b : Base) : SoundC Tryz.prog b k11T42 ∧ GrowC k11T42 := memo_ok mixed named (k11K41 b) k11R41
def k11H59 : AH := ((k11H58.set 50 (.cs [.l (.id 54) [.i .i64 1, .i .i64 0, .i .i64 2] 3])).set 54 (.tk 3 3))
def k11H60 : AH := (k11H59.set 52 (.cs [.i .i64 (-1), .i .i64 (-1), .i .i64 (-1), .i .i64 0, .i .i64 (-1), .i .i64 1]))
def k11E42 : MEnt := ⟨86, [.p 53 0], { h := k11H59, esc := (some 50) }, .ret (.i .i64 4), { h := k11H60, esc := (some 50) }⟩
theorem k11R42 : callF Tryz.prog k11T42 200 k11E42.f k11E42.args k11E42.s = some (k11E42.q, k11E42.s') := by kernel_rfl
noncomputable def k11T43 : CallT := k11T42.memo k11E42
theorem k11K43 (b : Base) : SoundC Tryz.prog b k11T43 ∧ GrowC k11T43 := memo_ok mixed named (k11K42 b) k11R42
def k11H61 : AH := ((k11H60.set 50 (.cs [.l (.id 54) [.i .i64 1, .i .i64 0, .i .i64 2, .i .i64 4] 4])).set 54 (.tk 4 3))
def k11H62 : AH := (k11H61.set 52 (.cs [.i .i64 (-1), .i .i64 (-1), .i .i64 (-1), .i .i64 (-1), .i .i64 (-1), .i .i64 0]))
def k11E43 : MEnt := ⟨86, [.p 53 0], { h := k11H61, esc := (some 50) }, .ret (.i .i64 3), { h := k11H62, esc := (some 50) }⟩
theorem k11R43 : callF Tryz.prog k11T43 200 k11E43.f k11E43.args k11E43.s = some (k11E43.q, k11E43.s') := by kernel_rfl
noncomputable def k11T44 : CallT := k11T43.memo k11E43
theorem k11K44 (b : Base) : SoundC Tryz.prog b k11T44 ∧ GrowC k11T44 := memo_ok mixed named (k11K43 b) k11R43
def k11H63 : AH := ((k11H62.set 50 (.cs [.l (.id 54) [.i .i64 1, .i .i64 0, .i .i64 2, .i .i64 4, .i .i64 3] 5])).set 54 (.tk 5 3))
def k11H64 : AH := (k11H63.set 52 (.cs [.i .i64 (-1), .i .i64 (-1), .i .i64 (-1), .i .i64 (-1), .i .i64 (-1), .i .i64 (-1)]))
def k11E44 : MEnt := ⟨86, [.p 53 0], { h := k11H63, esc := (some 50) }, .ret (.i .i64 5), { h := k11H64, esc := (some 50) }⟩
theorem k11R44 : callF Tryz.prog k11T44 200 k11E44.f k11E44.args k11E44.s = some (k11E44.q, k11E44.s') := by kernel_rfl
noncomputable def k11T45 : CallT := k11T44.memo k11E44
theorem k11K45 (b : Base) : SoundC Tryz.prog b k11T45 ∧ GrowC k11T45 := memo_ok mixed named (k11K44 b) k11R44
def k11E45 : MEnt := ⟨51, [.p 41 0], { h := k11H51, esc := (some 31) }, .ret (.t [.l .no [.i .i64 1, .i .i64 0, .i .i64 2, .i .i64 4, .i .i64 3, .i .i64 5] 6, .i .i64 0]), { h := k11H51, esc := (some 31) }⟩
theorem k11R45 : callF Tryz.prog k11T45 200 k11E45.f k11E45.args k11E45.s = some (k11E45.q, k11E45.s') := by kernel_rfl
noncomputable def k11T46 : CallT := k11T45.memo k11E45
theorem k11K46 (b : Base) : SoundC Tryz.prog b k11T46 ∧ GrowC k11T46 := memo_ok mixed named (k11K45 b) k11R45
def k11H65 : AH := k11H51 ++ [.cs [.s [97], .i .i64 1, .i .i64 0, .s [], .s [], .s [], .b false, .i .i64 (-1)]]
def k11E46 : MEnt := ⟨68, [.p 7 0, .i .i64 0, .i .i64 2], { h := k11H65, esc := none }, .ret (.t [.a [.i .i64 0, .s [], .i .i64 0, .f 0, .s [], .b false, .i .i64 0, .ln], .b false]), { h := k11H65, esc := none }⟩
theorem k11R46 : callF Tryz.prog k11T46 200 k11E46.f k11E46.args k11E46.s = some (k11E46.q, k11E46.s') := by kernel_rfl
noncomputable def k11T47 : CallT := k11T46.memo k11E46
theorem k11K47 (b : Base) : SoundC Tryz.prog b k11T47 ∧ GrowC k11T47 := memo_ok mixed named (k11K46 b) k11R46
def k11H66 : AH := (k11H51.set 39 (.cs [.b true, .b false, .i .i64 0, .f 0, .s [], .b false, .i .i64 0, .b false, .b false, .i .i64 0, .f 0, .s [], .b false, .i .i64 0]))
def k11E47 : MEnt := ⟨60, [.p 37 0, .i .i64 1], { h := k11H51, esc := (some 31) }, .ret (.t []), { h := k11H66, esc := (some 31) }⟩
theorem k11R47 : callF Tryz.prog k11T47 200 k11E47.f k11E47.args k11E47.s = some (k11E47.q, k11E47.s') := by kernel_rfl
noncomputable def k11T48 : CallT := k11T47.memo k11E47
theorem k11K48 (b : Base) : SoundC Tryz.prog b k11T48 ∧ GrowC k11T48 := memo_ok mixed named (k11K47 b) k11R47
def k11H67 : AH := k11H66 ++ [.cs [.s [97], .i .i64 1, .i .i64 0, .s [], .s [], .s [], .b false, .i .i64 (-1)], .cs [.i .i64 0, .f 0, .s [], .b false, .i .i64 0], .cs [.s [97], .i .i64 1, .i .i64 0, .s [], .s [], .s [], .b false, .i .i64 (-1)]]
def k11E48 : MEnt := ⟨68, [.p 7 0, .i .i64 0, .i .i64 1], { h := k11H67, esc := none }, .ret (.t [.a [.i .i64 0, .s [], .i .i64 0, .f 0, .s [], .b false, .i .i64 0, .ln], .b false]), { h := k11H67, esc := none }⟩
theorem k11R48 : callF Tryz.prog k11T48 200 k11E48.f k11E48.args k11E48.s = some (k11E48.q, k11E48.s') := by kernel_rfl
noncomputable def k11T49 : CallT := k11T48.memo k11E48
theorem k11K49 (b : Base) : SoundC Tryz.prog b k11T49 ∧ GrowC k11T49 := memo_ok mixed named (k11K48 b) k11R48
def k11H68 : AH := ((k11H51.set 36 (.mp [(.s [97], .a [.i .i64 1, .f 4613937818241073152, .s [], .b false, .i .i64 0])])).set 39 (.cs [.b true, .b false, .i .i64 1, .f 4613937818241073152, .s [], .b false, .i .i64 0, .b false, .b false, .i .i64 0, .f 0, .s [], .b false, .i .i64 0]))
def k11E49 : MEnt := ⟨60, [.p 37 0, .i .i64 0], { h := k11H66, esc := (some 31) }, .ret (.t []), { h := k11H68, esc := (some 31) }⟩
theorem k11R49 : callF Tryz.prog k11T49 200 k11E49.f k11E49.args k11E49.s = some (k11E49.q, k11E49.s') := by kernel_rfl
noncomputable def k11T50 : CallT := k11T49.memo k11E49
theorem k11K50 (b : Base) : SoundC Tryz.prog b k11T50 ∧ GrowC k11T50 := memo_ok mixed named (k11K49 b) k11R49
def k11H69 : AH := k11H68 ++ [.cs [.s [97], .i .i64 1, .i .i64 0, .s [], .s [], .s [], .b false, .i .i64 (-1)], .cs [.i .i64 1, .f 4613937818241073152, .s [], .b false, .i .i64 0]]
def k11E50 : MEnt := ⟨68, [.p 7 0, .i .i64 0, .i .i64 3], { h := k11H69, esc := none }, .ret (.t [.a [.i .i64 0, .s [], .i .i64 0, .f 0, .s [], .b false, .i .i64 0, .ln], .b false]), { h := k11H69, esc := none }⟩
theorem k11R50 : callF Tryz.prog k11T50 200 k11E50.f k11E50.args k11E50.s = some (k11E50.q, k11E50.s') := by kernel_rfl
noncomputable def k11T51 : CallT := k11T50.memo k11E50
theorem k11K51 (b : Base) : SoundC Tryz.prog b k11T51 ∧ GrowC k11T51 := memo_ok mixed named (k11K50 b) k11R50
def k11H70 : AH := (k11H68.set 39 (.cs [.b true, .b true, .i .i64 1, .f 4613937818241073152, .s [], .b false, .i .i64 0, .b false, .b false, .i .i64 0, .f 0, .s [], .b false, .i .i64 0]))
def k11E51 : MEnt := ⟨60, [.p 37 0, .i .i64 2], { h := k11H68, esc := (some 31) }, .ret (.t []), { h := k11H70, esc := (some 31) }⟩
theorem k11R51 : callF Tryz.prog k11T51 200 k11E51.f k11E51.args k11E51.s = some (k11E51.q, k11E51.s') := by kernel_rfl
noncomputable def k11T52 : CallT := k11T51.memo k11E51
theorem k11K52 (b : Base) : SoundC Tryz.prog b k11T52 ∧ GrowC k11T52 := memo_ok mixed named (k11K51 b) k11R51
def k11H71 : AH := k11H70 ++ [.cs [.s [98], .i .i64 1, .i .i64 0, .s [97, 32, 42, 32, 50], .s [97, 32, 62, 32, 49], .s [], .b false, .i .i64 (-1)]]
def k11H72 : AH := k11H71 ++ [.cs [.i .i64 3, .s [62], .i .i64 0, .f 0, .s [], .b false, .i .i64 0, .v 54 0 2 2], .cs [.i .i64 3, .s [62], .i .i64 0, .f 0, .s [], .b false, .i .i64 0, .v 54 0 2 2], .cs [.i .i64 3, .s [62], .i .i64 0, .f 0, .s [], .b false, .i .i64 0, .v 54 0 2 2], .cs [.i .i64 2, .s [97], .i .i64 0, .f 0, .s [], .b false, .i .i64 0, .ln, .i .i64 1, .s [], .i .i64 1, .f 4607182418800017408, .s [], .b false, .i .i64 0, .ln], .cs [.i .i64 2, .s [97], .i .i64 0, .f 0, .s [], .b false, .i .i64 0, .ln], .cs [.i .i64 1, .s [], .i .i64 1, .f 4607182418800017408, .s [], .b false, .i .i64 0, .ln]]
def k11E52 : MEnt := ⟨68, [.p 7 0, .i .i64 1, .i .i64 2], { h := k11H71, esc := none }, .ret (.t [.a [.i .i64 3, .s [62], .i .i64 0, .f 0, .s [], .b false, .i .i64 0, .v 54 0 2 2], .b true]), { h := k11H72, esc := (some 51) }⟩
theorem k11R52 : callF Tryz.prog k11T52 200 k11E52.f k11E52.args k11E52.s = some (k11E52.q, k11E52.s') := by kernel_rfl
noncomputable def k11T53 : CallT := k11T52.memo k11E52
theorem k11K53 (b : Base) : SoundC Tryz.prog b k11T53 ∧ GrowC k11T53 := memo_ok mixed named (k11K52 b) k11R52
def k11H73 : AH := k11H72 ++ [.cs [.i .i64 3, .s [62], .i .i64 0, .f 0, .s [], .b false, .i .i64 0, .v 54 0 2 2], .cs [.i .i64 0, .f 0, .s [], .b false, .i .i64 0], .cs [.i .i64 3, .s [62], .i .i64 0, .f 0, .s [], .b false, .i .i64 0, .v 54 0 2 2], .cs [.i .i64 0, .f 0, .s [], .b false, .i .i64 0], .cs [.i .i64 0]]
def k11E53 : MEnt := ⟨124, [.a [.i .i64 3, .s [62], .i .i64 0, .f 0, .s [], .b false, .i .i64 0, .v 54 0 2 2]], { h := k11H73, esc := none }, .ret (.b true), { h := k11H73, esc := none }⟩
theorem k11R53 : callF Tryz.prog k11T53 200 k11E53.f k11E53.args k11E53.s = some (k11E53.q, k11E53.s') := by kernel_rfl
noncomputable def k11T54 : CallT := k11T53.memo k11E53
theorem k11K54 (b : Base) : SoundC Tryz.prog b k11T54 ∧ GrowC k11T54 := memo_ok mixed named (k11K53 b) k11R53
def k11H74 : AH := (k11H73.take 59)
def k11E54 : MEnt := ⟨147, [.a [.i .i64 3, .s [62], .i .i64 0, .f 0, .s [], .b false, .i .i64 0, .v 54 0 2 2], .m 36, .i .i64 4096], { h := k11H74, esc := (some 51) }, .ret (.t [.a [.i .i64 3, .f 0, .s [], .b true, .i .i64 0], .i .i64 4093]), { h := k11H74, esc := (some 51) }⟩
theorem k11R54 : callF Tryz.prog k11T54 200 k11E54.f k11E54.args k11E54.s = some (k11E54.q, k11E54.s') := by kernel_rfl
noncomputable def k11T55 : CallT := k11T54.memo k11E54
theorem k11K55 (b : Base) : SoundC Tryz.prog b k11T55 ∧ GrowC k11T55 := memo_ok mixed named (k11K54 b) k11R54
def k11H75 : AH := (k11H68.set 39 (.cs [.b true, .b true, .i .i64 1, .f 4613937818241073152, .s [], .b false, .i .i64 0, .b true, .b false, .i .i64 0, .f 0, .s [], .b false, .i .i64 0]))
def k11E55 : MEnt := ⟨60, [.p 37 0, .i .i64 4], { h := k11H70, esc := (some 31) }, .ret (.t []), { h := k11H75, esc := (some 31) }⟩
theorem k11R55 : callF Tryz.prog k11T55 200 k11E55.f k11E55.args k11E55.s = some (k11E55.q, k11E55.s') := by kernel_rfl
noncomputable def k11T56 : CallT := k11T55.memo k11E55
theorem k11K56 (b : Base) : SoundC Tryz.prog b k11T56 ∧ GrowC k11T56 := memo_ok mixed named (k11K55 b) k11R55
def k11H76 : AH := k11H75 ++ [.cs [.s [98], .i .i64 1, .i .i64 0, .s [97, 32, 42, 32, 50], .s [97, 32, 62, 32, 49], .s [], .b false, .i .i64 (-1)], .cs [.i .i64 0, .f 0, .s [], .b false, .i .i64 0], .cs [.s [98], .i .i64 1, .i .i64 0, .s [97, 32, 42, 32, 50], .s [97, 32, 62, 32, 49], .s [], .b false, .i .i64 (-1)]]
def k11H77 : AH := k11H76 ++ [.cs [.i .i64 3, .s [42], .i .i64 0, .f 0, .s [], .b false, .i .i64 0, .v 56 0 2 2], .cs [.i .i64 3, .s [42], .i .i64 0, .f 0, .s [], .b false, .i .i64 0, .v 56 0 2 2], .cs [.i .i64 3, .s [42], .i .i64 0, .f 0, .s [], .b false, .i .i64 0, .v 56 0 2 2], .cs [.i .i64 2, .s [97], .i .i64 0, .f 0, .s [], .b false, .i .i64 0, .ln, .i .i64 1, .s [], .i .i64 1, .f 4611686018427387904, .s [], .b false, .i .i64 0, .ln], .cs [.i .i64 2, .s [97], .i .i64 0, .f 0, .s [], .b false, .i .i64 0, .ln], .cs [.i .i64 1, .s [], .i .i64 1, .f 4611686018427387904, .s [], .b false, .i .i64 0, .ln]]
def k11E56 : MEnt := ⟨68, [.p 7 0, .i .i64 1, .i .i64 1], { h := k11H76, esc := none }, .ret (.t [.a [.i .i64 3, .s [42], .i .i64 0, .f 0, .s [], .b false, .i .i64 0, .v 56 0 2 2], .b true]), { h := k11H77, esc := (some 53) }⟩
theorem k11R56 : callF Tryz.prog k11T56 200 k11E56.f k11E56.args k11E56.s = some (k11E56.q, k11E56.s') := by kernel_rfl
noncomputable def k11T57 : CallT := k11T56.memo k11E56
theorem k11K57 (b : Base) : SoundC Tryz.prog b k11T57 ∧ GrowC k11T57 := memo_ok mixed named (k11K56 b) k11R56
def k11H78 : AH := k11H77 ++ [.cs [.i .i64 3, .s [42], .i .i64 0, .f 0, .s [], .b false, .i .i64 0, .v 56 0 2 2], .cs [.i .i64 0, .f 0, .s [], .b false, .i .i64 0], .cs [.i .i64 3, .s [42], .i .i64 0, .f 0, .s [], .b false, .i .i64 0, .v 56 0 2 2], .cs [.i .i64 0, .f 0, .s [], .b false, .i .i64 0], .cs [.i .i64 0]]
def k11E57 : MEnt := ⟨124, [.a [.i .i64 3, .s [42], .i .i64 0, .f 0, .s [], .b false, .i .i64 0, .v 56 0 2 2]], { h := k11H78, esc := none }, .ret (.b true), { h := k11H78, esc := none }⟩
theorem k11R57 : callF Tryz.prog k11T57 200 k11E57.f k11E57.args k11E57.s = some (k11E57.q, k11E57.s') := by kernel_rfl
noncomputable def k11T58 : CallT := k11T57.memo k11E57
theorem k11K58 (b : Base) : SoundC Tryz.prog b k11T58 ∧ GrowC k11T58 := memo_ok mixed named (k11K57 b) k11R57
def k11H79 : AH := (k11H78.take 61)
def k11E58 : MEnt := ⟨147, [.a [.i .i64 3, .s [42], .i .i64 0, .f 0, .s [], .b false, .i .i64 0, .v 56 0 2 2], .m 36, .i .i64 4096], { h := k11H79, esc := (some 53) }, .ret (.t [.a [.i .i64 1, .f 4618441417868443648, .s [], .b false, .i .i64 0], .i .i64 4093]), { h := k11H79, esc := (some 53) }⟩
theorem k11R58 : callF Tryz.prog k11T58 200 k11E58.f k11E58.args k11E58.s = some (k11E58.q, k11E58.s') := by kernel_rfl
noncomputable def k11T59 : CallT := k11T58.memo k11E58
theorem k11K59 (b : Base) : SoundC Tryz.prog b k11T59 ∧ GrowC k11T59 := memo_ok mixed named (k11K58 b) k11R58
def k11H80 : AH := ((k11H51.set 36 (.mp [(.s [97], .a [.i .i64 1, .f 4613937818241073152, .s [], .b false, .i .i64 0]), (.s [98], .a [.i .i64 1, .f 4618441417868443648, .s [], .b false, .i .i64 0])])).set 39 (.cs [.b true, .b true, .i .i64 1, .f 4613937818241073152, .s [], .b false, .i .i64 0, .b true, .b false, .i .i64 1, .f 4618441417868443648, .s [], .b false, .i .i64 0]))
def k11E59 : MEnt := ⟨60, [.p 37 0, .i .i64 3], { h := k11H75, esc := (some 31) }, .ret (.t []), { h := k11H80, esc := (some 31) }⟩
theorem k11R59 : callF Tryz.prog k11T59 200 k11E59.f k11E59.args k11E59.s = some (k11E59.q, k11E59.s') := by kernel_rfl
noncomputable def k11T60 : CallT := k11T59.memo k11E59
theorem k11K60 (b : Base) : SoundC Tryz.prog b k11T60 ∧ GrowC k11T60 := memo_ok mixed named (k11K59 b) k11R59
def k11H81 : AH := k11H80 ++ [.cs [.s [98], .i .i64 1, .i .i64 0, .s [97, 32, 42, 32, 50], .s [97, 32, 62, 32, 49], .s [], .b false, .i .i64 (-1)], .cs [.i .i64 1, .f 4618441417868443648, .s [], .b false, .i .i64 0]]
def k11E60 : MEnt := ⟨68, [.p 7 0, .i .i64 1, .i .i64 3], { h := k11H81, esc := none }, .ret (.t [.a [.i .i64 0, .s [], .i .i64 0, .f 0, .s [], .b false, .i .i64 0, .ln], .b false]), { h := k11H81, esc := none }⟩
theorem k11R60 : callF Tryz.prog k11T60 200 k11E60.f k11E60.args k11E60.s = some (k11E60.q, k11E60.s') := by kernel_rfl
noncomputable def k11T61 : CallT := k11T60.memo k11E60
theorem k11K61 (b : Base) : SoundC Tryz.prog b k11T61 ∧ GrowC k11T61 := memo_ok mixed named (k11K60 b) k11R60
def k11H82 : AH := (k11H80.set 39 (.cs [.b true, .b true, .i .i64 1, .f 4613937818241073152, .s [], .b false, .i .i64 0, .b true, .b true, .i .i64 1, .f 4618441417868443648, .s [], .b false, .i .i64 0]))
def k11E61 : MEnt := ⟨60, [.p 37 0, .i .i64 5], { h := k11H80, esc := (some 31) }, .ret (.t []), { h := k11H82, esc := (some 31) }⟩
theorem k11R61 : callF Tryz.prog k11T61 200 k11E61.f k11E61.args k11E61.s = some (k11E61.q, k11E61.s') := by kernel_rfl
noncomputable def k11T62 : CallT := k11T61.memo k11E61
theorem k11K62 (b : Base) : SoundC Tryz.prog b k11T62 ∧ GrowC k11T62 := memo_ok mixed named (k11K61 b) k11R61
def k11E62 : MEnt := ⟨16, [.p 7 0, .l .no [.s [97], .i .i64 1, .f 4613937818241073152, .s [], .b false, .i .i64 0] 1], { h := k11H37, esc := (some 1) }, .ret (.v 39 0 2 2), { h := k11H82, esc := (some 1) }⟩
theorem k11R62 : callF Tryz.prog k11T62 200 k11E62.f k11E62.args k11E62.s = some (k11E62.q, k11E62.s') := by kernel_rfl
noncomputable def k11T63 : CallT := k11T62.memo k11E62
theorem k11K63 (b : Base) : SoundC Tryz.prog b k11T63 ∧ GrowC k11T63 := memo_ok mixed named (k11K62 b) k11R62
def k11H83 : AH := k11H82 ++ [.cs [.s [102], .i .i64 1, .i .i64 0, .v 53 0 2 2], .cs [.s [102], .i .i64 1, .i .i64 0, .v 53 0 2 2], .cs [.s [102], .i .i64 1, .i .i64 0, .v 53 0 2 2], .cs [.s [97], .i .i64 1, .i .i64 0, .s [], .s [], .s [], .b false, .i .i64 (-1), .s [98], .i .i64 1, .i .i64 0, .s [97, 32, 42, 32, 50], .s [97, 32, 62, 32, 49], .s [], .b false, .i .i64 (-1)]]
def k11E63 : MEnt := ⟨59, [.p 7 0], { h := k11H82, esc := none }, .ret (.a [.s [102], .i .i64 1, .i .i64 0, .v 53 0 2 2]), { h := k11H83, esc := (some 50) }⟩
theorem k11R63 : callF Tryz.prog k11T63 200 k11E63.f k11E63.args k11E63.s = some (k11E63.q, k11E63.s') := by kernel_rfl
noncomputable def k11T64 : CallT := k11T63.memo k11E63
theorem k11K64 (b : Base) : SoundC Tryz.prog b k11T64 ∧ GrowC k11T64 := memo_ok mixed named (k11K63 b) k11R63
def k11H84 : AH := k11H83 ++ [.mp [], .mp [], .cs [.p 7 0, .s [102], .i .i64 1, .i .i64 0, .v 53 0 2 2, .m 54, .m 55, .v 57 0 2 2], .cs [.b false, .b false, .i .i64 0, .f 0, .s [], .b false, .i .i64 0, .b false, .b false, .i .i64 0, .f 0, .s [], .b false, .i .i64 0], .cs [.v 60 0 6 6, .v 61 0 6 6, .v 62 0 6 6, .v 63 0 6 6, .v 64 0 6 6, .v 65 0 6 6], .cs [.v 58 0 6 6], .cs [.b false, .b false, .b false, .b false, .b false, .b false], .cs [.b false, .b false, .b false, .b false, .b false, .b false], .cs [.b false, .b false, .b false, .b false, .b false, .b false], .cs [.b false, .b false, .b false, .b false, .b false, .b false], .cs [.b false, .b false, .b false, .b false, .b false, .b false], .cs [.b false, .b false, .b false, .b false, .b false, .b false], .cs [.pn, .pn, .pn]]
def k11H85 : AH := (k11H84.set 60 (.cs [.b false, .b true, .b false, .b false, .b false, .b false]))
def k11E64 : MEnt := ⟨83, [.p 59 0, .i .i64 0, .i .i64 1], { h := k11H84, esc := (some 58) }, .ret (.i .i64 0), { h := k11H85, esc := (some 58) }⟩
theorem k11R64 : callF Tryz.prog k11T64 200 k11E64.f k11E64.args k11E64.s = some (k11E64.q, k11E64.s') := by kernel_rfl
noncomputable def k11T65 : CallT := k11T64.memo k11E64
theorem k11K65 (b : Base) : SoundC Tryz.prog b k11T65 ∧ GrowC k11T65 := memo_ok mixed named (k11K64 b) k11R64
def k11H86 : AH := (k11H85.set 62 (.cs [.b true, .b false, .b false, .b false, .b false, .b false]))
def k11E65 : MEnt := ⟨83, [.p 59 0, .i .i64 2, .i .i64 0], { h := k11H85, esc := (some 58) }, .ret (.i .i64 0), { h := k11H86, esc := (some 58) }⟩
theorem k11R65 : callF Tryz.prog k11T65 200 k11E65.f k11E65.args k11E65.s = some (k11E65.q, k11E65.s') := by kernel_rfl
noncomputable def k11T66 : CallT := k11T65.memo k11E65
theorem k11K66 (b : Base) : SoundC Tryz.prog b k11T66 ∧ GrowC k11T66 := memo_ok mixed named (k11K65 b) k11R65
def k11H87 : AH := (k11H85.set 62 (.cs [.b true, .b true, .b false, .b false, .b false, .b false]))
def k11E66 : MEnt := ⟨83, [.p 59 0, .i .i64 2, .i .i64 1], { h := k11H86, esc := (some 58) }, .ret (.i .i64 0), { h := k11H87, esc := (some 58) }⟩
theorem k11R66 : callF Tryz.prog k11T66 200 k11E66.f k11E66.args k11E66.s = some (k11E66.q, k11E66.s') := by kernel_rfl
noncomputable def k11T67 : CallT := k11T66.memo k11E66
theorem k11K67 (b : Base) : SoundC Tryz.prog b k11T67 ∧ GrowC k11T67 := memo_ok mixed named (k11K66 b) k11R66
def k11H88 : AH := k11H87 ++ [.cs [.p 17 0, .p 19 0, .pn]]
def k11H89 : AH := (k11H88.set 63 (.cs [.b false, .b false, .b false, .b false, .b true, .b false]))
def k11E67 : MEnt := ⟨83, [.p 59 0, .i .i64 3, .i .i64 4], { h := k11H88, esc := (some 58) }, .ret (.i .i64 0), { h := k11H89, esc := (some 58) }⟩
theorem k11R67 : callF Tryz.prog k11T67 200 k11E67.f k11E67.args k11E67.s = some (k11E67.q, k11E67.s') := by kernel_rfl
noncomputable def k11T68 : CallT := k11T67.memo k11E67
theorem k11K68 (b : Base) : SoundC Tryz.prog b k11T68 ∧ GrowC k11T68 := memo_ok mixed named (k11K67 b) k11R67
def k11H90 : AH := (k11H89.set 65 (.cs [.b false, .b false, .b false, .b true, .b false, .b false]))
def k11E68 : MEnt := ⟨83, [.p 59 0, .i .i64 5, .i .i64 3], { h := k11H89, esc := (some 58) }, .ret (.i .i64 0), { h := k11H90, esc := (some 58) }⟩
theorem k11R68 : callF Tryz.prog k11T68 200 k11E68.f k11E68.args k11E68.s = some (k11E68.q, k11E68.s') := by kernel_rfl
noncomputable def k11T69 : CallT := k11T68.memo k11E68
theorem k11K69 (b : Base) : SoundC Tryz.prog b k11T69 ∧ GrowC k11T69 := memo_ok mixed named (k11K68 b) k11R68
def k11H91 : AH := (k11H89.set 65 (.cs [.b false, .b false, .b false, .b true, .b true, .b false]))
def k11E69 : MEnt := ⟨83, [.p 59 0, .i .i64 5, .i .i64 4], { h := k11H90, esc := (some 58) }, .ret (.i .i64 0), { h := k11H91, esc := (some 58) }⟩
theorem k11R69 : callF Tryz.prog k11T69 200 k11E69.f k11E69.args k11E69.s = some (k11E69.q, k11E69.s') := by kernel_rfl
noncomputable def k11T70 : CallT := k11T69.memo k11E69
theorem k11K70 (b : Base) : SoundC Tryz.prog b k11T70 ∧ GrowC k11T70 := memo_ok mixed named (k11K69 b) k11R69
def k11H92 : AH := (k11H91.set 63 (.cs [.b true, .b false, .b false, .b false, .b true, .b false]))
def k11E70 : MEnt := ⟨83, [.p 59 0, .i .i64 3, .i .i64 0], { h := k11H91, esc := (some 58) }, .ret (.i .i64 0), { h := k11H92, esc := (some 58) }⟩
theorem k11R70 : callF Tryz.prog k11T70 200 k11E70.f k11E70.args k11E70.s = some (k11E70.q, k11E70.s') := by kernel_rfl
noncomputable def k11T71 : CallT := k11T70.memo k11E70
theorem k11K71 (b : Base) : SoundC Tryz.prog b k11T71 ∧ GrowC k11T71 := memo_ok mixed named (k11K70 b) k11R70
def k11H93 : AH := (k11H92.set 64 (.cs [.b true, .b false, .b false, .b false, .b false, .b false]))
def k11E71 : MEnt := ⟨83, [.p 59 0, .i .i64 4, .i .i64 0], { h := k11H92, esc := (some 58) }, .ret (.i .i64 0), { h := k11H93, esc := (some 58) }⟩
theorem k11R71 : callF Tryz.prog k11T71 200 k11E71.f k11E71.args k11E71.s = some (k11E71.q, k11E71.s') := by kernel_rfl
noncomputable def k11T72 : CallT := k11T71.memo k11E71
theorem k11K72 (b : Base) : SoundC Tryz.prog b k11T72 ∧ GrowC k11T72 := memo_ok mixed named (k11K71 b) k11R71
def k11H94 : AH := (k11H84.take 58)
def k11E72 : MEnt := ⟨50, [.p 7 0], { h := k11H94, esc := (some 50) }, .ret (.p 59 0), { h := k11H93, esc := (some 50) }⟩
theorem k11R72 : callF Tryz.prog k11T72 200 k11E72.f k11E72.args k11E72.s = some (k11E72.q, k11E72.s') := by kernel_rfl
noncomputable def k11T73 : CallT := k11T72.memo k11E72
theorem k11K73 (b : Base) : SoundC Tryz.prog b k11T73 ∧ GrowC k11T73 := memo_ok mixed named (k11K72 b) k11R72
def k11H95 : AH := k11H93 ++ [.cs [.ln], .cs [.i .i64 0], .cs [.i .i64 1, .i .i64 0, .i .i64 2, .i .i64 2, .i .i64 1, .i .i64 2], .cs [.p 59 0, .v 70 0 6 6]]
def k11H96 : AH := (k11H95.set 70 (.cs [.i .i64 0, .i .i64 (-1), .i .i64 1, .i .i64 2, .i .i64 1, .i .i64 2]))
def k11E73 : MEnt := ⟨86, [.p 71 0], { h := k11H95, esc := none }, .ret (.i .i64 1), { h := k11H96, esc := none }⟩
theorem k11R73 : callF Tryz.prog k11T73 200 k11E73.f k11E73.args k11E73.s = some (k11E73.q, k11E73.s') := by kernel_rfl
noncomputable def k11T74 : CallT := k11T73.memo k11E73
theorem k11K74 (b : Base) : SoundC Tryz.prog b k11T74 ∧ GrowC k11T74 := memo_ok mixed named (k11K73 b) k11R73
def k11H97 : AH := (k11H96.set 68 (.cs [.l (.id 72) [.i .i64 1] 1])) ++ [.tk 1 3]
def k11H98 : AH := (k11H97.set 70 (.cs [.i .i64 (-1), .i .i64 (-1), .i .i64 0, .i .i64 1, .i .i64 0, .i .i64 2]))
def k11E74 : MEnt := ⟨86, [.p 71 0], { h := k11H97, esc := (some 68) }, .ret (.i .i64 0), { h := k11H98, esc := (some 68) }⟩
theorem k11R74 : callF Tryz.prog k11T74 200 k11E74.f k11E74.args k11E74.s = some (k11E74.q, k11E74.s') := by kernel_rfl
noncomputable def k11T75 : CallT := k11T74.memo k11E74
theorem k11K75 (b : Base) : SoundC Tryz.prog b k11T75 ∧ GrowC k11T75 := memo_ok mixed named (k11K74 b) k11R74
def k11H99 : AH := ((k11H98.set 68 (.cs [.l (.id 72) [.i .i64 1, .i .i64 0] 2])).set 72 (.tk 2 3))
def k11H100 : AH := (k11H99.set 70 (.cs [.i .i64 (-1), .i .i64 (-1), .i .i64 (-1), .i .i64 1, .i .i64 0, .i .i64 2]))
def k11E75 : MEnt := ⟨86, [.p 71 0], { h := k11H99, esc := (some 68) }, .ret (.i .i64 2), { h := k11H100, esc := (some 68) }⟩
theorem k11R75 : callF Tryz.prog k11T75 200 k11E75.f k11E75.args k11E75.s = some (k11E75.q, k11E75.s') := by kernel_rfl
noncomputable def k11T76 : CallT := k11T75.memo k11E75
theorem k11K76 (b : Base) : SoundC Tryz.prog b k11T76 ∧ GrowC k11T76 := memo_ok mixed named (k11K75 b) k11R75
def k11H101 : AH := ((k11H100.set 68 (.cs [.l (.id 72) [.i .i64 1, .i .i64 0, .i .i64 2] 3])).set 72 (.tk 3 3))
def k11H102 : AH := (k11H101.set 70 (.cs [.i .i64 (-1), .i .i64 (-1), .i .i64 (-1), .i .i64 0, .i .i64 (-1), .i .i64 1]))
def k11E76 : MEnt := ⟨86, [.p 71 0], { h := k11H101, esc := (some 68) }, .ret (.i .i64 4), { h := k11H102, esc := (some 68) }⟩
theorem k11R76 : callF Tryz.prog k11T76 200 k11E76.f k11E76.args k11E76.s = some (k11E76.q, k11E76.s') := by kernel_rfl
noncomputable def k11T77 : CallT := k11T76.memo k11E76
theorem k11K77 (b : Base) : SoundC Tryz.prog b k11T77 ∧ GrowC k11T77 := memo_ok mixed named (k11K76 b) k11R76
def k11H103 : AH := ((k11H102.set 68 (.cs [.l (.id 72) [.i .i64 1, .i .i64 0, .i .i64 2, .i .i64 4] 4])).set 72 (.tk 4 3))
def k11H104 : AH := (k11H103.set 70 (.cs [.i .i64 (-1), .i .i64 (-1), .i .i64 (-1), .i .i64 (-1), .i .i64 (-1), .i .i64 0]))
def k11E77 : MEnt := ⟨86, [.p 71 0], { h := k11H103, esc := (some 68) }, .ret (.i .i64 3), { h := k11H104, esc := (some 68) }⟩
theorem k11R77 : callF Tryz.prog k11T77 200 k11E77.f k11E77.args k11E77.s = some (k11E77.q, k11E77.s') := by kernel_rfl
noncomputable def k11T78 : CallT := k11T77.memo k11E77
theorem k11K78 (b : Base) : SoundC Tryz.prog b k11T78 ∧ GrowC k11T78 := memo_ok mixed named (k11K77 b) k11R77
def k11H105 : AH := ((k11H104.set 68 (.cs [.l (.id 72) [.i .i64 1, .i .i64 0, .i .i64 2, .i .i64 4, .i .i64 3] 5])).set 72 (.tk 5 3))
def k11H106 : AH := (k11H105.set 70 (.cs [.i .i64 (-1), .i .i64 (-1), .i .i64 (-1), .i .i64 (-1), .i .i64 (-1), .i .i64 (-1)]))
def k11E78 : MEnt := ⟨86, [.p 71 0], { h := k11H105, esc := (some 68) }, .ret (.i .i64 5), { h := k11H106, esc := (some 68) }⟩
theorem k11R78 : callF Tryz.prog k11T78 200 k11E78.f k11E78.args k11E78.s = some (k11E78.q, k11E78.s') := by kernel_rfl
noncomputable def k11T79 : CallT := k11T78.memo k11E78
theorem k11K79 (b : Base) : SoundC Tryz.prog b k11T79 ∧ GrowC k11T79 := memo_ok mixed named (k11K78 b) k11R78
def k11E79 : MEnt := ⟨51, [.p 59 0], { h := k11H93, esc := (some 50) }, .ret (.t [.l .no [.i .i64 1, .i .i64 0, .i .i64 2, .i .i64 4, .i .i64 3, .i .i64 5] 6, .i .i64 0]), { h := k11H93, esc := (some 50) }⟩
theorem k11R79 : callF Tryz.prog k11T79 200 k11E79.f k11E79.args k11E79.s = some (k11E79.q, k11E79.s') := by kernel_rfl
noncomputable def k11T80 : CallT := k11T79.memo k11E79
theorem k11K80 (b : Base) : SoundC Tryz.prog b k11T80 ∧ GrowC k11T80 := memo_ok mixed named (k11K79 b) k11R79
def k11H107 : AH := k11H93 ++ [.cs [.s [97], .i .i64 1, .i .i64 0, .s [], .s [], .s [], .b false, .i .i64 (-1)]]
def k11E80 : MEnt := ⟨68, [.p 7 0, .i .i64 0, .i .i64 2], { h := k11H107, esc := none }, .ret (.t [.a [.i .i64 0, .s [], .i .i64 0, .f 0, .s [], .b false, .i .i64 0, .ln], .b false]), { h := k11H107, esc := none }⟩
theorem k11R80 : callF Tryz.prog k11T80 200 k11E80.f k11E80.args k11E80.s = some (k11E80.q, k11E80.s') := by kernel_rfl
noncomputable def k11T81 : CallT := k11T80.memo k11E80
theorem k11K81 (b : Base) : SoundC Tryz.prog b k11T81 ∧ GrowC k11T81 := memo_ok mixed named (k11K80 b) k11R80
def k11H108 : AH := (k11H93.set 57 (.cs [.b true, .b false, .i .i64 0, .f 0, .s [], .b false, .i .i64 0, .b false, .b false, .i .i64 0, .f 0, .s [], .b false, .i .i64 0]))
def k11E81 : MEnt := ⟨60, [.p 56 0, .i .i64 1], { h := k11H93, esc := (some 50) }, .ret (.t []), { h := k11H108, esc := (some 50) }⟩
theorem k11R81 : callF Tryz.prog k11T81 200 k11E81.f k11E81.args k11E81.s = some (k11E81.q, k11E81.s') := by kernel_rfl
noncomputable def k11T82 : CallT := k11T81.memo k11E81
theorem k11K82 (b : Base) : SoundC Tryz.prog b k11T82 ∧ GrowC k11T82 := memo_ok mixed named (k11K81 b) k11R81
def k11H109 : AH := k11H108 ++ [.cs [.s [97], .i .i64 1, .i .i64 0, .s [], .s [], .s [], .b false, .i .i64 (-1)], .cs [.i .i64 0, .f 0, .s [], .b false, .i .i64 0], .cs [.s [97], .i .i64 1, .i .i64 0, .s [], .s [], .s [], .b false, .i .i64 (-1)]]
def k11E82 : MEnt := ⟨68, [.p 7 0, .i .i64 0, .i .i64 1], { h := k11H109, esc := none }, .ret (.t [.a [.i .i64 0, .s [], .i .i64 0, .f 0, .s [], .b false, .i .i64 0, .ln], .b false]), { h := k11H109, esc := none }⟩
theorem k11R82 : callF Tryz.prog k11T82 200 k11E82.f k11E82.args k11E82.s = some (k11E82.q, k11E82.s') := by kernel_rfl
noncomputable def k11T83 : CallT := k11T82.memo k11E82
theorem k11K83 (b : Base) : SoundC Tryz.prog b k11T83 ∧ GrowC k11T83 := memo_ok mixed named (k11K82 b) k11R82
def k11H110 : AH := (k11H108.set 55 (.mp [(.s [97], .a [.i .i64 0, .f 0, .s [], .b false, .i .i64 0])]))
def k11E83 : MEnt := ⟨60, [.p 56 0, .i .i64 0], { h := k11H108, esc := (some 50) }, .ret (.t []), { h := k11H110, esc := (some 50) }⟩
theorem k11R83 : callF Tryz.prog k11T83 200 k11E83.f k11E83.args k11E83.s = some (k11E83.q, k11E83.s') := by kernel_rfl
noncomputable def k11T84 : CallT := k11T83.memo k11E83
theorem k11K84 (b : Base) : SoundC Tryz.prog b k11T84 ∧ GrowC k11T84 := memo_ok mixed named (k11K83 b) k11R83
def k11H111 : AH := ((k11H109.take 70).set 55 (.mp [(.s [97], .a [.i .i64 0, .f 0, .s [], .b false, .i .i64 0])]))
def k11E84 : MEnt := ⟨68, [.p 7 0, .i .i64 0, .i .i64 3], { h := k11H111, esc := none }, .ret (.t [.a [.i .i64 0, .s [], .i .i64 0, .f 0, .s [], .b false, .i .i64 0, .ln], .b false]), { h := k11H111, esc := none }⟩
theorem k11R84 : callF Tryz.prog k11T84 200 k11E84.f k11E84.args k11E84.s = some (k11E84.q, k11E84.s') := by kernel_rfl
noncomputable def k11T85 : CallT := k11T84.memo k11E84
theorem k11K85 (b : Base) : SoundC Tryz.prog b k11T85 ∧ GrowC k11T85 := memo_ok mixed named (k11K84 b) k11R84
def k11H112 : AH := (k11H110.set 57 (.cs [.b true, .b true, .i .i64 0, .f 0, .s [], .b false, .i .i64 0, .b false, .b false, .i .i64 0, .f 0, .s [], .b false, .i .i64 0]))
def k11E85 : MEnt := ⟨60, [.p 56 0, .i .i64 2], { h := k11H110, esc := (some 50) }, .ret (.t []), { h := k11H112, esc := (some 50) }⟩
theorem k11R85 : callF Tryz.prog k11T85 200 k11E85.f k11E85.args k11E85.s = some (k11E85.q, k11E85.s') := by kernel_rfl
noncomputable def k11T86 : CallT := k11T85.memo k11E85
theorem k11K86 (b : Base) : SoundC Tryz.prog b k11T86 ∧ GrowC k11T86 := memo_ok mixed named (k11K85 b) k11R85
def k11H113 : AH := k11H112 ++ [.cs [.s [98], .i .i64 1, .i .i64 0, .s [97, 32, 42, 32, 50], .s [97, 32, 62, 32, 49], .s [], .b false, .i .i64 (-1)]]
def k11H114 : AH := k11H113 ++ [.cs [.i .i64 3, .s [62], .i .i64 0, .f 0, .s [], .b false, .i .i64 0, .v 72 0 2 2], .cs [.i .i64 3, .s [62], .i .i64 0, .f 0, .s [], .b false, .i .i64 0, .v 72 0 2 2], .cs [.i .i64 3, .s [62], .i .i64 0, .f 0, .s [], .b false, .i .i64 0, .v 72 0 2 2], .cs [.i .i64 2, .s [97], .i .i64 0, .f 0, .s [], .b false, .i .i64 0, .ln, .i .i64 1, .s [], .i .i64 1, .f 4607182418800017408, .s [], .b false, .i .i64 0, .ln], .cs [.i .i64 2, .s [97], .i .i64 0, .f 0, .s [], .b false, .i .i64 0, .ln], .cs [.i .i64 1, .s [], .i .i64 1, .f 4607182418800017408, .s [], .b false, .i .i64 0, .ln]]
def k11E86 : MEnt := ⟨68, [.p 7 0, .i .i64 1, .i .i64 2], { h := k11H113, esc := none }, .ret (.t [.a [.i .i64 3, .s [62], .i .i64 0, .f 0, .s [], .b false, .i .i64 0, .v 72 0 2 2], .b true]), { h := k11H114, esc := (some 69) }⟩
theorem k11R86 : callF Tryz.prog k11T86 200 k11E86.f k11E86.args k11E86.s = some (k11E86.q, k11E86.s') := by kernel_rfl
noncomputable def k11T87 : CallT := k11T86.memo k11E86
theorem k11K87 (b : Base) : SoundC Tryz.prog b k11T87 ∧ GrowC k11T87 := memo_ok mixed named (k11K86 b) k11R86
def k11H115 : AH := k11H114 ++ [.cs [.i .i64 3, .s [62], .i .i64 0, .f 0, .s [], .b false, .i .i64 0, .v 72 0 2 2], .cs [.i .i64 0, .f 0, .s [], .b false, .i .i64 0], .cs [.i .i64 3, .s [62], .i .i64 0, .f 0, .s [], .b false, .i .i64 0, .v 72 0 2 2], .cs [.i .i64 0, .f 0, .s [], .b false, .i .i64 0], .cs [.i .i64 0]]
def k11E87 : MEnt := ⟨124, [.a [.i .i64 3, .s [62], .i .i64 0, .f 0, .s [], .b false, .i .i64 0, .v 72 0 2 2]], { h := k11H115, esc := none }, .ret (.b true), { h := k11H115, esc := none }⟩
theorem k11R87 : callF Tryz.prog k11T87 200 k11E87.f k11E87.args k11E87.s = some (k11E87.q, k11E87.s') := by kernel_rfl
noncomputable def k11T88 : CallT := k11T87.memo k11E87
theorem k11K88 (b : Base) : SoundC Tryz.prog b k11T88 ∧ GrowC k11T88 := memo_ok mixed named (k11K87 b) k11R87
def k11H116 : AH := (k11H115.take 77)
def k11E88 : MEnt := ⟨147, [.a [.i .i64 3, .s [62], .i .i64 0, .f 0, .s [], .b false, .i .i64 0, .v 72 0 2 2], .m 55, .i .i64 4096], { h := k11H116, esc := (some 69) }, .ret (.t [.a [.i .i64 4, .f 0, .s [], .b false, .i .i64 2], .i .i64 4093]), { h := k11H116, esc := (some 69) }⟩
theorem k11R88 : callF Tryz.prog k11T88 200 k11E88.f k11E88.args k11E88.s = some (k11E88.q, k11E88.s') := by kernel_rfl
noncomputable def k11T89 : CallT := k11T88.memo k11E88
theorem k11K89 (b : Base) : SoundC Tryz.prog b k11T89 ∧ GrowC k11T89 := memo_ok mixed named (k11K88 b) k11R88
def k11E89 : MEnt := ⟨60, [.p 56 0, .i .i64 4], { h := k11H112, esc := (some 50) }, .ret (.t []), { h := k11H112, esc := (some 50) }⟩
theorem k11R89 : callF Tryz.prog k11T89 200 k11E89.f k11E89.args k11E89.s = some (k11E89.q, k11E89.s') := by kernel_rfl
noncomputable def k11T90 : CallT := k11T89.memo k11E89
theorem k11K90 (b : Base) : SoundC Tryz.prog b k11T90 ∧ GrowC k11T90 := memo_ok mixed named (k11K89 b) k11R89
def k11H117 : AH := (k11H112.set 55 (.mp [(.s [97], .a [.i .i64 0, .f 0, .s [], .b false, .i .i64 0]), (.s [98], .a [.i .i64 0, .f 0, .s [], .b false, .i .i64 0])]))
def k11E90 : MEnt := ⟨60, [.p 56 0, .i .i64 3], { h := k11H112, esc := (some 50) }, .ret (.t []), { h := k11H117, esc := (some 50) }⟩
theorem k11R90 : callF Tryz.prog k11T90 200 k11E90.f k11E90.args k11E90.s = some (k11E90.q, k11E90.s') := by kernel_rfl
noncomputable def k11T91 : CallT := k11T90.memo k11E90
theorem k11K91 (b : Base) : SoundC Tryz.prog b k11T91 ∧ GrowC k11T91 := memo_ok mixed named (k11K90 b) k11R90
def k11H118 : AH := (k11H117.set 57 (.cs [.b true, .b true, .i .i64 0, .f 0, .s [], .b false, .i .i64 0, .b false, .b true, .i .i64 0, .f 0, .s [], .b false, .i .i64 0]))
def k11E91 : MEnt := ⟨60, [.p 56 0, .i .i64 5], { h := k11H117, esc := (some 50) }, .ret (.t []), { h := k11H118, esc := (some 50) }⟩
theorem k11R91 : callF Tryz.prog k11T91 200 k11E91.f k11E91.args k11E91.s = some (k11E91.q, k11E91.s') := by kernel_rfl
noncomputable def k11T92 : CallT := k11T91.memo k11E91
theorem k11K92 (b : Base) : SoundC Tryz.prog b k11T92 ∧ GrowC k11T92 := memo_ok mixed named (k11K91 b) k11R91
def k11E92 : MEnt := ⟨16, [.p 7 0, .ln], { h := k11H82, esc := (some 1) }, .ret (.v 57 0 2 2), { h := k11H118, esc := (some 1) }⟩
theorem k11R92 : callF Tryz.prog k11T92 200 k11E92.f k11E92.args k11E92.s = some (k11E92.q, k11E92.s') := by kernel_rfl
noncomputable def k11T93 : CallT := k11T92.memo k11E92
theorem k11K93 (b : Base) : SoundC Tryz.prog b k11T93 ∧ GrowC k11T93 := memo_ok mixed named (k11K92 b) k11R92
theorem k11_run : callF Tryz.prog k11T93 200 15 [] { h := [], esc := none } = some (.ret (.b true), { h := [], esc := none }) := by kernel_rfl
theorem k11_pure : Pure Tryz.prog 15 [] (.b true) := pure_of_tab mixed named k11K93 Tryz.func15 (cd := Tryz.f15.body.getD .skip) rfl k11_run rfl rfl
end Go.Proofs.YtfjgblbmdddpkaaGreatDoor
