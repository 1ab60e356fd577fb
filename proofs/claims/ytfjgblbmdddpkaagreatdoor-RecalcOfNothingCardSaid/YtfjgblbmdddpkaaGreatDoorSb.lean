/- Runs of functions on tokens, written by SymX (my own program) for this seat. -/
import Derived.Test.YtfjgblbmdddpkaaGreatDoorAv
import Derived.Test.YtfjgblbmdddpkaaGreatDoorCc
namespace Go.Proofs.YtfjgblbmdddpkaaGreatDoor
open Go Go.Ab Go.RowKit
-- k12: formulary/formularylaw12.known is 28, body true
noncomputable def k12T0 : CallT := primT places
theorem k12K0 (b : Base) : SoundC Tryz.prog b k12T0 ∧ GrowC k12T0 := ⟨prim_sound placed, prim_grow places⟩
def k12H0 : AH := [.cs [.s [102], .i .i64 1, .i .i64 0, .l .no [.s [97], .i .i64 1, .i .i64 0, .s [], .s [], .s [], .b false, .i .i64 (-1), .s [98], .i .i64 1, .i .i64 0, .s [97, 32, 42, 32, 48], .s [], .s [], .b false, .i .i64 (-1)] 2], .cs [.p 7 0], .cs [.i .i64 0, .i .i64 0, .i .i64 0, .i .i64 0], .cs [.s [102], .i .i64 1, .i .i64 0, .v 5 0 2 2], .cs [.s [102], .i .i64 1, .i .i64 0, .v 5 0 2 2], .cs [.s [97], .i .i64 1, .i .i64 0, .s [], .s [], .s [], .b false, .i .i64 (-1), .s [98], .i .i64 1, .i .i64 0, .s [97, 32, 42, 32, 48], .s [], .s [], .b false, .i .i64 (-1)], .mp [(.s [97], .i .i64 0), (.s [98], .i .i64 1)], .cs [.s [102], .i .i64 1, .i .i64 0, .v 5 0 2 2, .m 6, .l (.id 13) [.pn, .pn, .pn] 1], .mp [(.s [97], .i .i64 1), (.s [98], .i .i64 1)], .cs [.s [97], .i .i64 1, .i .i64 0, .s [], .s [], .s [], .b false, .i .i64 (-1)], .cs [.s [98], .i .i64 1, .i .i64 0, .s [97, 32, 42, 32, 48], .s [], .s [], .b false, .i .i64 (-1)], .cs [.s [97], .i .i64 1, .i .i64 0, .s [], .s [], .s [], .b false, .i .i64 (-1)], .cs [.pn, .pn, .pn], .tk 1 94, .cs [.s [98], .i .i64 1, .i .i64 0, .s [97, 32, 42, 32, 48], .s [], .s [], .b false, .i .i64 (-1)], .cs [.pn, .pn, .pn], .cs [.i .i64 1, .i .i64 1, .i .i64 0, .i .i64 0], .cs [.i .i64 0, .s [], .i .i64 0, .f 0, .s [], .b false, .i .i64 0, .ln], .cs [.i .i64 0], .cs [.i .i64 0]]
def k12E0 : MEnt := ⟨119, [.s [97, 32, 42, 32, 48]], { h := k12H0, esc := none }, .ret (.t [.l .no [.i .i64 3, .s [97], .f 0, .i .i64 0, .i .i64 4, .s [42], .f 0, .i .i64 2, .i .i64 1, .s [], .f 0, .i .i64 4, .i .i64 5, .s [], .f 0, .i .i64 5] 4, .i .i64 0, .i .i64 0]), { h := k12H0, esc := none }⟩
theorem k12R0 : callF Tryz.prog k12T0 200 k12E0.f k12E0.args k12E0.s = some (k12E0.q, k12E0.s') := by kernel_rfl
noncomputable def k12T1 : CallT := k12T0.memo k12E0
theorem k12K1 (b : Base) : SoundC Tryz.prog b k12T1 ∧ GrowC k12T1 := memo_ok mixed named (k12K0 b) k12R0
def k12H1 : AH := (k12H0.take 17)
def k12E1 : MEnt := ⟨79, [.s [97, 32, 42, 32, 48]], { h := k12H1, esc := none }, .ret (.t [.a [.i .i64 3, .s [42], .i .i64 0, .f 0, .s [], .b false, .i .i64 0, .l .no [.i .i64 2, .s [97], .i .i64 0, .f 0, .s [], .b false, .i .i64 0, .ln, .i .i64 1, .s [], .i .i64 1, .f 0, .s [], .b false, .i .i64 0, .ln] 2], .i .i64 0, .i .i64 0]), { h := k12H1, esc := none }⟩
theorem k12R1 : callF Tryz.prog k12T1 200 k12E1.f k12E1.args k12E1.s = some (k12E1.q, k12E1.s') := by kernel_rfl
noncomputable def k12T2 : CallT := k12T1.memo k12E1
theorem k12K2 (b : Base) : SoundC Tryz.prog b k12T2 ∧ GrowC k12T2 := memo_ok mixed named (k12K1 b) k12R1
def k12H2 : AH := k12H1 ++ [.cs [.i .i64 3, .s [42], .i .i64 0, .f 0, .s [], .b false, .i .i64 0, .l .no [.i .i64 2, .s [97], .i .i64 0, .f 0, .s [], .b false, .i .i64 0, .ln, .i .i64 1, .s [], .i .i64 1, .f 0, .s [], .b false, .i .i64 0, .ln] 2], .cs [.i .i64 3, .s [42], .i .i64 0, .f 0, .s [], .b false, .i .i64 0, .l .no [.i .i64 2, .s [97], .i .i64 0, .f 0, .s [], .b false, .i .i64 0, .ln, .i .i64 1, .s [], .i .i64 1, .f 0, .s [], .b false, .i .i64 0, .ln] 2], .cs [.i .i64 0], .cs [.i .i64 0], .cs [.i .i64 0]]
def k12E2 : MEnt := ⟨124, [.a [.i .i64 3, .s [42], .i .i64 0, .f 0, .s [], .b false, .i .i64 0, .l .no [.i .i64 2, .s [97], .i .i64 0, .f 0, .s [], .b false, .i .i64 0, .ln, .i .i64 1, .s [], .i .i64 1, .f 0, .s [], .b false, .i .i64 0, .ln] 2]], { h := k12H2, esc := none }, .ret (.b true), { h := k12H2, esc := none }⟩
theorem k12R2 : callF Tryz.prog k12T2 200 k12E2.f k12E2.args k12E2.s = some (k12E2.q, k12E2.s') := by kernel_rfl
noncomputable def k12T3 : CallT := k12T2.memo k12E2
theorem k12K3 (b : Base) : SoundC Tryz.prog b k12T3 ∧ GrowC k12T3 := memo_ok mixed named (k12K2 b) k12R2
def k12H3 : AH := (k12H2.take 18)
def k12E3 : MEnt := ⟨80, [.a [.i .i64 3, .s [42], .i .i64 0, .f 0, .s [], .b false, .i .i64 0, .l .no [.i .i64 2, .s [97], .i .i64 0, .f 0, .s [], .b false, .i .i64 0, .ln, .i .i64 1, .s [], .i .i64 1, .f 0, .s [], .b false, .i .i64 0, .ln] 2], .m 8], { h := k12H3, esc := none }, .ret (.t [.i .i64 1, .i .i64 0, .i .i64 0]), { h := k12H3, esc := none }⟩
theorem k12R3 : callF Tryz.prog k12T3 200 k12E3.f k12E3.args k12E3.s = some (k12E3.q, k12E3.s') := by kernel_rfl
noncomputable def k12T4 : CallT := k12T3.memo k12E3
theorem k12K4 (b : Base) : SoundC Tryz.prog b k12T4 ∧ GrowC k12T4 := memo_ok mixed named (k12K3 b) k12R3
def k12H4 : AH := (k12H0.take 16)
def k12H5 : AH := (k12H3.set 16 (.cs [.i .i64 1, .i .i64 1, .i .i64 0, .i .i64 11]))
def k12E4 : MEnt := ⟨49, [.s [97, 32, 42, 32, 48], .m 8, .i .i64 1, .a [.i .i64 1, .i .i64 1, .i .i64 0, .i .i64 0]], { h := k12H4, esc := (some 1) }, .ret (.p 17 0), { h := k12H5, esc := (some 1) }⟩
theorem k12R4 : callF Tryz.prog k12T4 200 k12E4.f k12E4.args k12E4.s = some (k12E4.q, k12E4.s') := by kernel_rfl
noncomputable def k12T5 : CallT := k12T4.memo k12E4
theorem k12K5 (b : Base) : SoundC Tryz.prog b k12T5 ∧ GrowC k12T5 := memo_ok mixed named (k12K4 b) k12R4
def k12H6 : AH := (((k12H5.set 7 (.cs [.s [102], .i .i64 1, .i .i64 0, .v 5 0 2 2, .m 6, .l (.id 13) [.pn, .pn, .pn, .p 17 0, .pn, .pn] 2])).set 13 (.tk 2 94)).set 15 (.cs [.p 17 0, .pn, .pn])) ++ [.cs [.v 20 0 6 6, .v 21 0 6 6, .v 22 0 6 6, .v 23 0 6 6, .v 24 0 6 6, .v 25 0 6 6], .cs [.v 18 0 6 6], .cs [.b false, .b false, .b false, .b false, .b false, .b false], .cs [.b false, .b false, .b false, .b false, .b false, .b false], .cs [.b false, .b false, .b false, .b false, .b false, .b false], .cs [.b false, .b false, .b false, .b false, .b false, .b false], .cs [.b false, .b false, .b false, .b false, .b false, .b false], .cs [.b false, .b false, .b false, .b false, .b false, .b false], .cs [.pn, .pn, .pn]]
def k12H7 : AH := (k12H6.set 20 (.cs [.b false, .b true, .b false, .b false, .b false, .b false]))
def k12E5 : MEnt := ⟨83, [.p 19 0, .i .i64 0, .i .i64 1], { h := k12H6, esc := (some 18) }, .ret (.i .i64 0), { h := k12H7, esc := (some 18) }⟩
theorem k12R5 : callF Tryz.prog k12T5 200 k12E5.f k12E5.args k12E5.s = some (k12E5.q, k12E5.s') := by kernel_rfl
noncomputable def k12T6 : CallT := k12T5.memo k12E5
theorem k12K6 (b : Base) : SoundC Tryz.prog b k12T6 ∧ GrowC k12T6 := memo_ok mixed named (k12K5 b) k12R5
def k12H8 : AH := (k12H7.set 22 (.cs [.b true, .b false, .b false, .b false, .b false, .b false]))
def k12E6 : MEnt := ⟨83, [.p 19 0, .i .i64 2, .i .i64 0], { h := k12H7, esc := (some 18) }, .ret (.i .i64 0), { h := k12H8, esc := (some 18) }⟩
theorem k12R6 : callF Tryz.prog k12T6 200 k12E6.f k12E6.args k12E6.s = some (k12E6.q, k12E6.s') := by kernel_rfl
noncomputable def k12T7 : CallT := k12T6.memo k12E6
theorem k12K7 (b : Base) : SoundC Tryz.prog b k12T7 ∧ GrowC k12T7 := memo_ok mixed named (k12K6 b) k12R6
def k12H9 : AH := (k12H7.set 22 (.cs [.b true, .b true, .b false, .b false, .b false, .b false]))
def k12E7 : MEnt := ⟨83, [.p 19 0, .i .i64 2, .i .i64 1], { h := k12H8, esc := (some 18) }, .ret (.i .i64 0), { h := k12H9, esc := (some 18) }⟩
theorem k12R7 : callF Tryz.prog k12T7 200 k12E7.f k12E7.args k12E7.s = some (k12E7.q, k12E7.s') := by kernel_rfl
noncomputable def k12T8 : CallT := k12T7.memo k12E7
theorem k12K8 (b : Base) : SoundC Tryz.prog b k12T8 ∧ GrowC k12T8 := memo_ok mixed named (k12K7 b) k12R7
def k12H10 : AH := k12H9 ++ [.cs [.p 17 0, .pn, .pn]]
def k12H11 : AH := (k12H10.set 23 (.cs [.b false, .b false, .b false, .b false, .b true, .b false]))
def k12E8 : MEnt := ⟨83, [.p 19 0, .i .i64 3, .i .i64 4], { h := k12H10, esc := (some 18) }, .ret (.i .i64 0), { h := k12H11, esc := (some 18) }⟩
theorem k12R8 : callF Tryz.prog k12T8 200 k12E8.f k12E8.args k12E8.s = some (k12E8.q, k12E8.s') := by kernel_rfl
noncomputable def k12T9 : CallT := k12T8.memo k12E8
theorem k12K9 (b : Base) : SoundC Tryz.prog b k12T9 ∧ GrowC k12T9 := memo_ok mixed named (k12K8 b) k12R8
def k12H12 : AH := (k12H11.set 25 (.cs [.b false, .b false, .b false, .b true, .b false, .b false]))
def k12E9 : MEnt := ⟨83, [.p 19 0, .i .i64 5, .i .i64 3], { h := k12H11, esc := (some 18) }, .ret (.i .i64 0), { h := k12H12, esc := (some 18) }⟩
theorem k12R9 : callF Tryz.prog k12T9 200 k12E9.f k12E9.args k12E9.s = some (k12E9.q, k12E9.s') := by kernel_rfl
noncomputable def k12T10 : CallT := k12T9.memo k12E9
theorem k12K10 (b : Base) : SoundC Tryz.prog b k12T10 ∧ GrowC k12T10 := memo_ok mixed named (k12K9 b) k12R9
def k12H13 : AH := (k12H11.set 25 (.cs [.b false, .b false, .b false, .b true, .b true, .b false]))
def k12E10 : MEnt := ⟨83, [.p 19 0, .i .i64 5, .i .i64 4], { h := k12H12, esc := (some 18) }, .ret (.i .i64 0), { h := k12H13, esc := (some 18) }⟩
theorem k12R10 : callF Tryz.prog k12T10 200 k12E10.f k12E10.args k12E10.s = some (k12E10.q, k12E10.s') := by kernel_rfl
noncomputable def k12T11 : CallT := k12T10.memo k12E10
theorem k12K11 (b : Base) : SoundC Tryz.prog b k12T11 ∧ GrowC k12T11 := memo_ok mixed named (k12K10 b) k12R10
def k12H14 : AH := (k12H13.set 23 (.cs [.b true, .b false, .b false, .b false, .b true, .b false]))
def k12E11 : MEnt := ⟨83, [.p 19 0, .i .i64 3, .i .i64 0], { h := k12H13, esc := (some 18) }, .ret (.i .i64 0), { h := k12H14, esc := (some 18) }⟩
theorem k12R11 : callF Tryz.prog k12T11 200 k12E11.f k12E11.args k12E11.s = some (k12E11.q, k12E11.s') := by kernel_rfl
noncomputable def k12T12 : CallT := k12T11.memo k12E11
theorem k12K12 (b : Base) : SoundC Tryz.prog b k12T12 ∧ GrowC k12T12 := memo_ok mixed named (k12K11 b) k12R11
def k12H15 : AH := (k12H6.take 18)
def k12E12 : MEnt := ⟨50, [.p 7 0], { h := k12H15, esc := (some 1) }, .ret (.p 19 0), { h := k12H14, esc := (some 1) }⟩
theorem k12R12 : callF Tryz.prog k12T12 200 k12E12.f k12E12.args k12E12.s = some (k12E12.q, k12E12.s') := by kernel_rfl
noncomputable def k12T13 : CallT := k12T12.memo k12E12
theorem k12K13 (b : Base) : SoundC Tryz.prog b k12T13 ∧ GrowC k12T13 := memo_ok mixed named (k12K12 b) k12R12
def k12H16 : AH := k12H14 ++ [.cs [.ln], .cs [.i .i64 0], .cs [.i .i64 1, .i .i64 0, .i .i64 2, .i .i64 2, .i .i64 0, .i .i64 2], .cs [.p 19 0, .v 30 0 6 6]]
def k12H17 : AH := (k12H16.set 30 (.cs [.i .i64 0, .i .i64 (-1), .i .i64 1, .i .i64 2, .i .i64 0, .i .i64 2]))
def k12E13 : MEnt := ⟨86, [.p 31 0], { h := k12H16, esc := none }, .ret (.i .i64 1), { h := k12H17, esc := none }⟩
theorem k12R13 : callF Tryz.prog k12T13 200 k12E13.f k12E13.args k12E13.s = some (k12E13.q, k12E13.s') := by kernel_rfl
noncomputable def k12T14 : CallT := k12T13.memo k12E13
theorem k12K14 (b : Base) : SoundC Tryz.prog b k12T14 ∧ GrowC k12T14 := memo_ok mixed named (k12K13 b) k12R13
def k12H18 : AH := (k12H17.set 28 (.cs [.l (.id 32) [.i .i64 1] 1])) ++ [.tk 1 3]
def k12H19 : AH := (k12H18.set 30 (.cs [.i .i64 (-1), .i .i64 (-1), .i .i64 0, .i .i64 1, .i .i64 0, .i .i64 2]))
def k12E14 : MEnt := ⟨86, [.p 31 0], { h := k12H18, esc := (some 28) }, .ret (.i .i64 0), { h := k12H19, esc := (some 28) }⟩
theorem k12R14 : callF Tryz.prog k12T14 200 k12E14.f k12E14.args k12E14.s = some (k12E14.q, k12E14.s') := by kernel_rfl
noncomputable def k12T15 : CallT := k12T14.memo k12E14
theorem k12K15 (b : Base) : SoundC Tryz.prog b k12T15 ∧ GrowC k12T15 := memo_ok mixed named (k12K14 b) k12R14
def k12H20 : AH := ((k12H19.set 28 (.cs [.l (.id 32) [.i .i64 1, .i .i64 0] 2])).set 32 (.tk 2 3))
def k12H21 : AH := (k12H20.set 30 (.cs [.i .i64 (-1), .i .i64 (-1), .i .i64 (-1), .i .i64 1, .i .i64 0, .i .i64 2]))
def k12E15 : MEnt := ⟨86, [.p 31 0], { h := k12H20, esc := (some 28) }, .ret (.i .i64 2), { h := k12H21, esc := (some 28) }⟩
theorem k12R15 : callF Tryz.prog k12T15 200 k12E15.f k12E15.args k12E15.s = some (k12E15.q, k12E15.s') := by kernel_rfl
noncomputable def k12T16 : CallT := k12T15.memo k12E15
theorem k12K16 (b : Base) : SoundC Tryz.prog b k12T16 ∧ GrowC k12T16 := memo_ok mixed named (k12K15 b) k12R15
def k12H22 : AH := ((k12H21.set 28 (.cs [.l (.id 32) [.i .i64 1, .i .i64 0, .i .i64 2] 3])).set 32 (.tk 3 3))
def k12H23 : AH := (k12H22.set 30 (.cs [.i .i64 (-1), .i .i64 (-1), .i .i64 (-1), .i .i64 0, .i .i64 (-1), .i .i64 1]))
def k12E16 : MEnt := ⟨86, [.p 31 0], { h := k12H22, esc := (some 28) }, .ret (.i .i64 4), { h := k12H23, esc := (some 28) }⟩
theorem k12R16 : callF Tryz.prog k12T16 200 k12E16.f k12E16.args k12E16.s = some (k12E16.q, k12E16.s') := by kernel_rfl
noncomputable def k12T17 : CallT := k12T16.memo k12E16
theorem k12K17 (b : Base) : SoundC Tryz.prog b k12T17 ∧ GrowC k12T17 := memo_ok mixed named (k12K16 b) k12R16
def k12H24 : AH := ((k12H23.set 28 (.cs [.l (.id 32) [.i .i64 1, .i .i64 0, .i .i64 2, .i .i64 4] 4])).set 32 (.tk 4 3))
def k12H25 : AH := (k12H24.set 30 (.cs [.i .i64 (-1), .i .i64 (-1), .i .i64 (-1), .i .i64 (-1), .i .i64 (-1), .i .i64 0]))
def k12E17 : MEnt := ⟨86, [.p 31 0], { h := k12H24, esc := (some 28) }, .ret (.i .i64 3), { h := k12H25, esc := (some 28) }⟩
theorem k12R17 : callF Tryz.prog k12T17 200 k12E17.f k12E17.args k12E17.s = some (k12E17.q, k12E17.s') := by kernel_rfl
noncomputable def k12T18 : CallT := k12T17.memo k12E17
theorem k12K18 (b : Base) : SoundC Tryz.prog b k12T18 ∧ GrowC k12T18 := memo_ok mixed named (k12K17 b) k12R17
def k12H26 : AH := ((k12H25.set 28 (.cs [.l (.id 32) [.i .i64 1, .i .i64 0, .i .i64 2, .i .i64 4, .i .i64 3] 5])).set 32 (.tk 5 3))
def k12H27 : AH := (k12H26.set 30 (.cs [.i .i64 (-1), .i .i64 (-1), .i .i64 (-1), .i .i64 (-1), .i .i64 (-1), .i .i64 (-1)]))
def k12E18 : MEnt := ⟨86, [.p 31 0], { h := k12H26, esc := (some 28) }, .ret (.i .i64 5), { h := k12H27, esc := (some 28) }⟩
theorem k12R18 : callF Tryz.prog k12T18 200 k12E18.f k12E18.args k12E18.s = some (k12E18.q, k12E18.s') := by kernel_rfl
noncomputable def k12T19 : CallT := k12T18.memo k12E18
theorem k12K19 (b : Base) : SoundC Tryz.prog b k12T19 ∧ GrowC k12T19 := memo_ok mixed named (k12K18 b) k12R18
def k12E19 : MEnt := ⟨51, [.p 19 0], { h := k12H14, esc := (some 1) }, .ret (.t [.l .no [.i .i64 1, .i .i64 0, .i .i64 2, .i .i64 4, .i .i64 3, .i .i64 5] 6, .i .i64 0]), { h := k12H14, esc := (some 1) }⟩
theorem k12R19 : callF Tryz.prog k12T19 200 k12E19.f k12E19.args k12E19.s = some (k12E19.q, k12E19.s') := by kernel_rfl
noncomputable def k12T20 : CallT := k12T19.memo k12E19
theorem k12K20 (b : Base) : SoundC Tryz.prog b k12T20 ∧ GrowC k12T20 := memo_ok mixed named (k12K19 b) k12R19
def k12H28 : AH := []
def k12H29 : AH := (k12H14.set 2 (.cs [.i .i64 (-1), .i .i64 0, .i .i64 0, .i .i64 0]))
def k12E20 : MEnt := ⟨13, [.a [.s [102], .i .i64 1, .i .i64 0, .l .no [.s [97], .i .i64 1, .i .i64 0, .s [], .s [], .s [], .b false, .i .i64 (-1), .s [98], .i .i64 1, .i .i64 0, .s [97, 32, 42, 32, 48], .s [], .s [], .b false, .i .i64 (-1)] 2]], { h := k12H28, esc := none }, .ret (.t [.p 7 0, .a [.i .i64 (-1), .i .i64 0, .i .i64 0, .i .i64 0]]), { h := k12H29, esc := (some 1) }⟩
theorem k12R20 : callF Tryz.prog k12T20 200 k12E20.f k12E20.args k12E20.s = some (k12E20.q, k12E20.s') := by kernel_rfl
noncomputable def k12T21 : CallT := k12T20.memo k12E20
theorem k12K21 (b : Base) : SoundC Tryz.prog b k12T21 ∧ GrowC k12T21 := memo_ok mixed named (k12K20 b) k12R20
def k12H30 : AH := k12H29 ++ [.cs [.i .i64 (-1), .i .i64 0, .i .i64 0, .i .i64 0]]
def k12H31 : AH := k12H30 ++ [.cs [.s [102], .i .i64 1, .i .i64 0, .v 32 0 2 2], .cs [.s [102], .i .i64 1, .i .i64 0, .v 32 0 2 2], .cs [.s [102], .i .i64 1, .i .i64 0, .v 32 0 2 2], .cs [.s [97], .i .i64 1, .i .i64 0, .s [], .s [], .s [], .b false, .i .i64 (-1), .s [98], .i .i64 1, .i .i64 0, .s [97, 32, 42, 32, 48], .s [], .s [], .b false, .i .i64 (-1)]]
def k12E21 : MEnt := ⟨59, [.p 7 0], { h := k12H30, esc := none }, .ret (.a [.s [102], .i .i64 1, .i .i64 0, .v 32 0 2 2]), { h := k12H31, esc := (some 29) }⟩
theorem k12R21 : callF Tryz.prog k12T21 200 k12E21.f k12E21.args k12E21.s = some (k12E21.q, k12E21.s') := by kernel_rfl
noncomputable def k12T22 : CallT := k12T21.memo k12E21
theorem k12K22 (b : Base) : SoundC Tryz.prog b k12T22 ∧ GrowC k12T22 := memo_ok mixed named (k12K21 b) k12R21
def k12H32 : AH := k12H31 ++ [.mp [], .cs [.p 7 0, .s [102], .i .i64 1, .i .i64 0, .v 32 0 2 2, .v 37 0 2 2, .ln, .ln, .v 35 0 2 2, .v 36 0 2 2, .m 33, .i .i64 0, .i .i64 0], .cs [.i .i64 0, .f 0, .s [], .b false, .i .i64 0, .i .i64 0, .f 0, .s [], .b false, .i .i64 0], .cs [.b false, .b false, .i .i64 0, .f 0, .s [], .b false, .i .i64 0, .b false, .b false, .i .i64 0, .f 0, .s [], .b false, .i .i64 0], .cs [.pn, .pn, .pn, .pn, .pn, .pn]]
def k12E22 : MEnt := ⟨68, [.p 7 0, .i .i64 0, .i .i64 1], { h := k12H32, esc := (some 29) }, .ret (.t [.a [.i .i64 0, .s [], .i .i64 0, .f 0, .s [], .b false, .i .i64 0, .ln], .b false]), { h := k12H32, esc := (some 29) }⟩
theorem k12R22 : callF Tryz.prog k12T22 200 k12E22.f k12E22.args k12E22.s = some (k12E22.q, k12E22.s') := by kernel_rfl
noncomputable def k12T23 : CallT := k12T22.memo k12E22
theorem k12K23 (b : Base) : SoundC Tryz.prog b k12T23 ∧ GrowC k12T23 := memo_ok mixed named (k12K22 b) k12R22
def k12H33 : AH := k12H32 ++ [.cs [.i .i64 0, .s [], .i .i64 0, .f 0, .s [], .b false, .i .i64 0, .ln]]
def k12E23 : MEnt := ⟨68, [.p 7 0, .i .i64 0, .i .i64 2], { h := k12H33, esc := (some 29) }, .ret (.t [.a [.i .i64 0, .s [], .i .i64 0, .f 0, .s [], .b false, .i .i64 0, .ln], .b false]), { h := k12H33, esc := (some 29) }⟩
theorem k12R23 : callF Tryz.prog k12T23 200 k12E23.f k12E23.args k12E23.s = some (k12E23.q, k12E23.s') := by kernel_rfl
noncomputable def k12T24 : CallT := k12T23.memo k12E23
theorem k12K24 (b : Base) : SoundC Tryz.prog b k12T24 ∧ GrowC k12T24 := memo_ok mixed named (k12K23 b) k12R23
def k12H34 : AH := k12H33 ++ [.cs [.i .i64 0, .s [], .i .i64 0, .f 0, .s [], .b false, .i .i64 0, .ln]]
def k12E24 : MEnt := ⟨68, [.p 7 0, .i .i64 0, .i .i64 3], { h := k12H34, esc := (some 29) }, .ret (.t [.a [.i .i64 0, .s [], .i .i64 0, .f 0, .s [], .b false, .i .i64 0, .ln], .b false]), { h := k12H34, esc := (some 29) }⟩
theorem k12R24 : callF Tryz.prog k12T24 200 k12E24.f k12E24.args k12E24.s = some (k12E24.q, k12E24.s') := by kernel_rfl
noncomputable def k12T25 : CallT := k12T24.memo k12E24
theorem k12K25 (b : Base) : SoundC Tryz.prog b k12T25 ∧ GrowC k12T25 := memo_ok mixed named (k12K24 b) k12R24
def k12H35 : AH := k12H34 ++ [.cs [.i .i64 0, .s [], .i .i64 0, .f 0, .s [], .b false, .i .i64 0, .ln]]
def k12H36 : AH := k12H35 ++ [.cs [.i .i64 3, .s [42], .i .i64 0, .f 0, .s [], .b false, .i .i64 0, .v 44 0 2 2], .cs [.i .i64 3, .s [42], .i .i64 0, .f 0, .s [], .b false, .i .i64 0, .v 44 0 2 2], .cs [.i .i64 3, .s [42], .i .i64 0, .f 0, .s [], .b false, .i .i64 0, .v 44 0 2 2], .cs [.i .i64 2, .s [97], .i .i64 0, .f 0, .s [], .b false, .i .i64 0, .ln, .i .i64 1, .s [], .i .i64 1, .f 0, .s [], .b false, .i .i64 0, .ln], .cs [.i .i64 2, .s [97], .i .i64 0, .f 0, .s [], .b false, .i .i64 0, .ln], .cs [.i .i64 1, .s [], .i .i64 1, .f 0, .s [], .b false, .i .i64 0, .ln]]
def k12E25 : MEnt := ⟨68, [.p 7 0, .i .i64 1, .i .i64 1], { h := k12H35, esc := (some 29) }, .ret (.t [.a [.i .i64 3, .s [42], .i .i64 0, .f 0, .s [], .b false, .i .i64 0, .v 44 0 2 2], .b true]), { h := k12H36, esc := (some 29) }⟩
theorem k12R25 : callF Tryz.prog k12T25 200 k12E25.f k12E25.args k12E25.s = some (k12E25.q, k12E25.s') := by kernel_rfl
noncomputable def k12T26 : CallT := k12T25.memo k12E25
theorem k12K26 (b : Base) : SoundC Tryz.prog b k12T26 ∧ GrowC k12T26 := memo_ok mixed named (k12K25 b) k12R25
def k12H37 : AH := (k12H36.set 37 (.cs [.pn, .pn, .pn, .p 47 0, .pn, .pn])) ++ [.cs [.i .i64 3, .s [42], .i .i64 0, .f 0, .s [], .b false, .i .i64 0, .v 44 0 2 2]]
def k12E26 : MEnt := ⟨68, [.p 7 0, .i .i64 1, .i .i64 2], { h := k12H37, esc := (some 29) }, .ret (.t [.a [.i .i64 0, .s [], .i .i64 0, .f 0, .s [], .b false, .i .i64 0, .ln], .b false]), { h := k12H37, esc := (some 29) }⟩
theorem k12R26 : callF Tryz.prog k12T26 200 k12E26.f k12E26.args k12E26.s = some (k12E26.q, k12E26.s') := by kernel_rfl
noncomputable def k12T27 : CallT := k12T26.memo k12E26
theorem k12K27 (b : Base) : SoundC Tryz.prog b k12T27 ∧ GrowC k12T27 := memo_ok mixed named (k12K26 b) k12R26
def k12H38 : AH := k12H37 ++ [.cs [.i .i64 0, .s [], .i .i64 0, .f 0, .s [], .b false, .i .i64 0, .ln]]
def k12E27 : MEnt := ⟨68, [.p 7 0, .i .i64 1, .i .i64 3], { h := k12H38, esc := (some 29) }, .ret (.t [.a [.i .i64 0, .s [], .i .i64 0, .f 0, .s [], .b false, .i .i64 0, .ln], .b false]), { h := k12H38, esc := (some 29) }⟩
theorem k12R27 : callF Tryz.prog k12T27 200 k12E27.f k12E27.args k12E27.s = some (k12E27.q, k12E27.s') := by kernel_rfl
noncomputable def k12T28 : CallT := k12T27.memo k12E27
theorem k12K28 (b : Base) : SoundC Tryz.prog b k12T28 ∧ GrowC k12T28 := memo_ok mixed named (k12K27 b) k12R27
def k12H39 : AH := k12H38 ++ [.cs [.i .i64 0, .s [], .i .i64 0, .f 0, .s [], .b false, .i .i64 0, .ln], .cs [.v 52 0 6 6, .v 53 0 6 6, .v 54 0 6 6, .v 55 0 6 6, .v 56 0 6 6, .v 57 0 6 6], .cs [.v 50 0 6 6], .cs [.b false, .b false, .b false, .b false, .b false, .b false], .cs [.b false, .b false, .b false, .b false, .b false, .b false], .cs [.b false, .b false, .b false, .b false, .b false, .b false], .cs [.b false, .b false, .b false, .b false, .b false, .b false], .cs [.b false, .b false, .b false, .b false, .b false, .b false], .cs [.b false, .b false, .b false, .b false, .b false, .b false], .cs [.pn, .pn, .pn]]
def k12H40 : AH := (k12H39.set 52 (.cs [.b false, .b true, .b false, .b false, .b false, .b false]))
def k12E28 : MEnt := ⟨83, [.p 51 0, .i .i64 0, .i .i64 1], { h := k12H39, esc := (some 50) }, .ret (.i .i64 0), { h := k12H40, esc := (some 50) }⟩
theorem k12R28 : callF Tryz.prog k12T28 200 k12E28.f k12E28.args k12E28.s = some (k12E28.q, k12E28.s') := by kernel_rfl
noncomputable def k12T29 : CallT := k12T28.memo k12E28
theorem k12K29 (b : Base) : SoundC Tryz.prog b k12T29 ∧ GrowC k12T29 := memo_ok mixed named (k12K28 b) k12R28
def k12H41 : AH := (k12H40.set 54 (.cs [.b true, .b false, .b false, .b false, .b false, .b false]))
def k12E29 : MEnt := ⟨83, [.p 51 0, .i .i64 2, .i .i64 0], { h := k12H40, esc := (some 50) }, .ret (.i .i64 0), { h := k12H41, esc := (some 50) }⟩
theorem k12R29 : callF Tryz.prog k12T29 200 k12E29.f k12E29.args k12E29.s = some (k12E29.q, k12E29.s') := by kernel_rfl
noncomputable def k12T30 : CallT := k12T29.memo k12E29
theorem k12K30 (b : Base) : SoundC Tryz.prog b k12T30 ∧ GrowC k12T30 := memo_ok mixed named (k12K29 b) k12R29
def k12H42 : AH := (k12H40.set 54 (.cs [.b true, .b true, .b false, .b false, .b false, .b false]))
def k12E30 : MEnt := ⟨83, [.p 51 0, .i .i64 2, .i .i64 1], { h := k12H41, esc := (some 50) }, .ret (.i .i64 0), { h := k12H42, esc := (some 50) }⟩
theorem k12R30 : callF Tryz.prog k12T30 200 k12E30.f k12E30.args k12E30.s = some (k12E30.q, k12E30.s') := by kernel_rfl
noncomputable def k12T31 : CallT := k12T30.memo k12E30
theorem k12K31 (b : Base) : SoundC Tryz.prog b k12T31 ∧ GrowC k12T31 := memo_ok mixed named (k12K30 b) k12R30
def k12H43 : AH := k12H42 ++ [.cs [.p 17 0, .pn, .pn]]
def k12H44 : AH := (k12H43.set 55 (.cs [.b false, .b false, .b false, .b false, .b true, .b false]))
def k12E31 : MEnt := ⟨83, [.p 51 0, .i .i64 3, .i .i64 4], { h := k12H43, esc := (some 50) }, .ret (.i .i64 0), { h := k12H44, esc := (some 50) }⟩
theorem k12R31 : callF Tryz.prog k12T31 200 k12E31.f k12E31.args k12E31.s = some (k12E31.q, k12E31.s') := by kernel_rfl
noncomputable def k12T32 : CallT := k12T31.memo k12E31
theorem k12K32 (b : Base) : SoundC Tryz.prog b k12T32 ∧ GrowC k12T32 := memo_ok mixed named (k12K31 b) k12R31
def k12H45 : AH := (k12H44.set 57 (.cs [.b false, .b false, .b false, .b true, .b false, .b false]))
def k12E32 : MEnt := ⟨83, [.p 51 0, .i .i64 5, .i .i64 3], { h := k12H44, esc := (some 50) }, .ret (.i .i64 0), { h := k12H45, esc := (some 50) }⟩
theorem k12R32 : callF Tryz.prog k12T32 200 k12E32.f k12E32.args k12E32.s = some (k12E32.q, k12E32.s') := by kernel_rfl
noncomputable def k12T33 : CallT := k12T32.memo k12E32
theorem k12K33 (b : Base) : SoundC Tryz.prog b k12T33 ∧ GrowC k12T33 := memo_ok mixed named (k12K32 b) k12R32
def k12H46 : AH := (k12H44.set 57 (.cs [.b false, .b false, .b false, .b true, .b true, .b false]))
def k12E33 : MEnt := ⟨83, [.p 51 0, .i .i64 5, .i .i64 4], { h := k12H45, esc := (some 50) }, .ret (.i .i64 0), { h := k12H46, esc := (some 50) }⟩
theorem k12R33 : callF Tryz.prog k12T33 200 k12E33.f k12E33.args k12E33.s = some (k12E33.q, k12E33.s') := by kernel_rfl
noncomputable def k12T34 : CallT := k12T33.memo k12E33
theorem k12K34 (b : Base) : SoundC Tryz.prog b k12T34 ∧ GrowC k12T34 := memo_ok mixed named (k12K33 b) k12R33
def k12H47 : AH := (k12H46.set 55 (.cs [.b true, .b false, .b false, .b false, .b true, .b false]))
def k12E34 : MEnt := ⟨83, [.p 51 0, .i .i64 3, .i .i64 0], { h := k12H46, esc := (some 50) }, .ret (.i .i64 0), { h := k12H47, esc := (some 50) }⟩
theorem k12R34 : callF Tryz.prog k12T34 200 k12E34.f k12E34.args k12E34.s = some (k12E34.q, k12E34.s') := by kernel_rfl
noncomputable def k12T35 : CallT := k12T34.memo k12E34
theorem k12K35 (b : Base) : SoundC Tryz.prog b k12T35 ∧ GrowC k12T35 := memo_ok mixed named (k12K34 b) k12R34
def k12H48 : AH := (k12H39.take 50)
def k12E35 : MEnt := ⟨50, [.p 7 0], { h := k12H48, esc := (some 29) }, .ret (.p 51 0), { h := k12H47, esc := (some 29) }⟩
theorem k12R35 : callF Tryz.prog k12T35 200 k12E35.f k12E35.args k12E35.s = some (k12E35.q, k12E35.s') := by kernel_rfl
noncomputable def k12T36 : CallT := k12T35.memo k12E35
theorem k12K36 (b : Base) : SoundC Tryz.prog b k12T36 ∧ GrowC k12T36 := memo_ok mixed named (k12K35 b) k12R35
def k12H49 : AH := k12H47 ++ [.cs [.ln], .cs [.i .i64 0], .cs [.i .i64 1, .i .i64 0, .i .i64 2, .i .i64 2, .i .i64 0, .i .i64 2], .cs [.p 51 0, .v 62 0 6 6]]
def k12H50 : AH := (k12H49.set 62 (.cs [.i .i64 0, .i .i64 (-1), .i .i64 1, .i .i64 2, .i .i64 0, .i .i64 2]))
def k12E36 : MEnt := ⟨86, [.p 63 0], { h := k12H49, esc := none }, .ret (.i .i64 1), { h := k12H50, esc := none }⟩
theorem k12R36 : callF Tryz.prog k12T36 200 k12E36.f k12E36.args k12E36.s = some (k12E36.q, k12E36.s') := by kernel_rfl
noncomputable def k12T37 : CallT := k12T36.memo k12E36
theorem k12K37 (b : Base) : SoundC Tryz.prog b k12T37 ∧ GrowC k12T37 := memo_ok mixed named (k12K36 b) k12R36
def k12H51 : AH := (k12H50.set 60 (.cs [.l (.id 64) [.i .i64 1] 1])) ++ [.tk 1 3]
def k12H52 : AH := (k12H51.set 62 (.cs [.i .i64 (-1), .i .i64 (-1), .i .i64 0, .i .i64 1, .i .i64 0, .i .i64 2]))
def k12E37 : MEnt := ⟨86, [.p 63 0], { h := k12H51, esc := (some 60) }, .ret (.i .i64 0), { h := k12H52, esc := (some 60) }⟩
theorem k12R37 : callF Tryz.prog k12T37 200 k12E37.f k12E37.args k12E37.s = some (k12E37.q, k12E37.s') := by kernel_rfl
noncomputable def k12T38 : CallT := k12T37.memo k12E37
theorem k12K38 (b : Base) : SoundC Tryz.prog b k12T38 ∧ GrowC k12T38 := memo_ok mixed named (k12K37 b) k12R37
def k12H53 : AH := ((k12H52.set 60 (.cs [.l (.id 64) [.i .i64 1, .i .i64 0] 2])).set 64 (.tk 2 3))
def k12H54 : AH := (k12H53.set 62 (.cs [.i .i64 (-1), .i .i64 (-1), .i .i64 (-1), .i .i64 1, .i .i64 0, .i .i64 2]))
def k12E38 : MEnt := ⟨86, [.p 63 0], { h := k12H53, esc := (some 60) }, .ret (.i .i64 2), { h := k12H54, esc := (some 60) }⟩
theorem k12R38 : callF Tryz.prog k12T38 200 k12E38.f k12E38.args k12E38.s = some (k12E38.q, k12E38.s') := by kernel_rfl
noncomputable def k12T39 : CallT := k12T38.memo k12E38
theorem k12K39 (b : Base) : SoundC Tryz.prog b k12T39 ∧ GrowC k12T39 := memo_ok mixed named (k12K38 b) k12R38
def k12H55 : AH := ((k12H54.set 60 (.cs [.l (.id 64) [.i .i64 1, .i .i64 0, .i .i64 2] 3])).set 64 (.tk 3 3))
def k12H56 : AH := (k12H55.set 62 (.cs [.i .i64 (-1), .i .i64 (-1), .i .i64 (-1), .i .i64 0, .i .i64 (-1), .i .i64 1]))
def k12E39 : MEnt := ⟨86, [.p 63 0], { h := k12H55, esc := (some 60) }, .ret (.i .i64 4), { h := k12H56, esc := (some 60) }⟩
theorem k12R39 : callF Tryz.prog k12T39 200 k12E39.f k12E39.args k12E39.s = some (k12E39.q, k12E39.s') := by kernel_rfl
noncomputable def k12T40 : CallT := k12T39.memo k12E39
theorem k12K40 (b : Base) : SoundC Tryz.prog b k12T40 ∧ GrowC k12T40 := memo_ok mixed named (k12K39 b) k12R39
def k12H57 : AH := ((k12H56.set 60 (.cs [.l (.id 64) [.i .i64 1, .i .i64 0, .i .i64 2, .i .i64 4] 4])).set 64 (.tk 4 3))
def k12H58 : AH := (k12H57.set 62 (.cs [.i .i64 (-1), .i .i64 (-1), .i .i64 (-1), .i .i64 (-1), .i .i64 (-1), .i .i64 0]))
def k12E40 : MEnt := ⟨86, [.p 63 0], { h := k12H57, esc := (some 60) }, .ret (.i .i64 3), { h := k12H58, esc := (some 60) }⟩
theorem k12R40 : callF Tryz.prog k12T40 200 k12E40.f k12E40.args k12E40.s = some (k12E40.q, k12E40.s') := by kernel_rfl
noncomputable def k12T41 : CallT := k12T40.memo k12E40
theorem k12K41 (b : Base) : SoundC Tryz.prog b k12T41 ∧ GrowC k12T41 := memo_ok mixed named (k12K40 b) k12R40
def k12H59 : AH := ((k12H58.set 60 (.cs [.l (.id 64) [.i .i64 1, .i .i64 0, .i .i64 2, .i .i64 4, .i .i64 3] 5])).set 64 (.tk 5 3))
def k12H60 : AH := (k12H59.set 62 (.cs [.i .i64 (-1), .i .i64 (-1), .i .i64 (-1), .i .i64 (-1), .i .i64 (-1), .i .i64 (-1)]))
def k12E41 : MEnt := ⟨86, [.p 63 0], { h := k12H59, esc := (some 60) }, .ret (.i .i64 5), { h := k12H60, esc := (some 60) }⟩
theorem k12R41 : callF Tryz.prog k12T41 200 k12E41.f k12E41.args k12E41.s = some (k12E41.q, k12E41.s') := by kernel_rfl
noncomputable def k12T42 : CallT := k12T41.memo k12E41
theorem k12K42 (b : Base) : SoundC Tryz.prog b k12T42 ∧ GrowC k12T42 := memo_ok mixed named (k12K41 b) k12R41
def k12E42 : MEnt := ⟨51, [.p 51 0], { h := k12H47, esc := (some 29) }, .ret (.t [.l .no [.i .i64 1, .i .i64 0, .i .i64 2, .i .i64 4, .i .i64 3, .i .i64 5] 6, .i .i64 0]), { h := k12H47, esc := (some 29) }⟩
theorem k12R42 : callF Tryz.prog k12T42 200 k12E42.f k12E42.args k12E42.s = some (k12E42.q, k12E42.s') := by kernel_rfl
noncomputable def k12T43 : CallT := k12T42.memo k12E42
theorem k12K43 (b : Base) : SoundC Tryz.prog b k12T43 ∧ GrowC k12T43 := memo_ok mixed named (k12K42 b) k12R42
def k12H61 : AH := (k12H47.set 34 (.cs [.p 7 0, .s [102], .i .i64 1, .i .i64 0, .v 32 0 2 2, .v 37 0 2 2, .l .no [.i .i64 1, .i .i64 0, .i .i64 2, .i .i64 4, .i .i64 3, .i .i64 5] 6, .v 60 0 6 6, .v 35 0 2 2, .v 36 0 2 2, .m 33, .i .i64 0, .i .i64 0])) ++ [.cs [.ln, .ln, .ln, .ln, .ln, .ln]]
def k12H62 : AH := (k12H61.set 36 (.cs [.b true, .b false, .i .i64 0, .f 0, .s [], .b false, .i .i64 0, .b false, .b false, .i .i64 0, .f 0, .s [], .b false, .i .i64 0]))
def k12E43 : MEnt := ⟨71, [.p 34 0, .i .i64 1], { h := k12H61, esc := (some 29) }, .ret (.b true), { h := k12H62, esc := (some 29) }⟩
theorem k12R43 : callF Tryz.prog k12T43 200 k12E43.f k12E43.args k12E43.s = some (k12E43.q, k12E43.s') := by kernel_rfl
noncomputable def k12T44 : CallT := k12T43.memo k12E43
theorem k12K44 (b : Base) : SoundC Tryz.prog b k12T44 ∧ GrowC k12T44 := memo_ok mixed named (k12K43 b) k12R43
def k12H63 : AH := (k12H62.set 60 (.cs [.ln, .l (.id 61) [.i .i64 0] 1, .ln, .ln, .ln, .ln])) ++ [.tk 1 3]
def k12H64 : AH := (k12H63.set 33 (.mp [(.s [97], .a [.i .i64 0, .f 0, .s [], .b false, .i .i64 0])]))
def k12E44 : MEnt := ⟨71, [.p 34 0, .i .i64 0], { h := k12H63, esc := (some 29) }, .ret (.b false), { h := k12H64, esc := (some 29) }⟩
theorem k12R44 : callF Tryz.prog k12T44 200 k12E44.f k12E44.args k12E44.s = some (k12E44.q, k12E44.s') := by kernel_rfl
noncomputable def k12T45 : CallT := k12T44.memo k12E44
theorem k12K45 (b : Base) : SoundC Tryz.prog b k12T45 ∧ GrowC k12T45 := memo_ok mixed named (k12K44 b) k12R44
def k12H65 : AH := ((k12H64.set 60 (.cs [.l (.id 62) [.i .i64 2] 1, .l (.id 61) [.i .i64 0, .i .i64 2] 2, .ln, .ln, .ln, .ln])).set 61 (.tk 2 3)) ++ [.tk 1 3]
def k12H66 : AH := (k12H65.set 36 (.cs [.b true, .b true, .i .i64 0, .f 0, .s [], .b false, .i .i64 0, .b false, .b false, .i .i64 0, .f 0, .s [], .b false, .i .i64 0]))
def k12E45 : MEnt := ⟨71, [.p 34 0, .i .i64 2], { h := k12H65, esc := (some 29) }, .ret (.b true), { h := k12H66, esc := (some 29) }⟩
theorem k12R45 : callF Tryz.prog k12T45 200 k12E45.f k12E45.args k12E45.s = some (k12E45.q, k12E45.s') := by kernel_rfl
noncomputable def k12T46 : CallT := k12T45.memo k12E45
theorem k12K46 (b : Base) : SoundC Tryz.prog b k12T46 ∧ GrowC k12T46 := memo_ok mixed named (k12K45 b) k12R45
def k12H67 : AH := (k12H65.set 36 (.cs [.b true, .b true, .i .i64 0, .f 0, .s [], .b false, .i .i64 0, .b true, .b false, .i .i64 0, .f 0, .s [], .b false, .i .i64 0]))
def k12E46 : MEnt := ⟨71, [.p 34 0, .i .i64 4], { h := k12H66, esc := (some 29) }, .ret (.b true), { h := k12H67, esc := (some 29) }⟩
theorem k12R46 : callF Tryz.prog k12T46 200 k12E46.f k12E46.args k12E46.s = some (k12E46.q, k12E46.s') := by kernel_rfl
noncomputable def k12T47 : CallT := k12T46.memo k12E46
theorem k12K47 (b : Base) : SoundC Tryz.prog b k12T47 ∧ GrowC k12T47 := memo_ok mixed named (k12K46 b) k12R46
def k12H68 : AH := ((k12H67.set 60 (.cs [.l (.id 62) [.i .i64 2, .i .i64 3] 2, .l (.id 61) [.i .i64 0, .i .i64 2] 2, .ln, .ln, .l (.id 63) [.i .i64 3] 1, .ln])).set 62 (.tk 2 3)) ++ [.tk 1 3, .cs [.s [98], .i .i64 1, .i .i64 0, .s [97, 32, 42, 32, 48], .s [], .s [], .b false, .i .i64 (-1)], .cs [.b true, .b false, .i .i64 0, .f 0, .s [], .b false, .i .i64 0], .cs [.i .i64 0, .f 0, .s [], .b false, .i .i64 0], .cs [.i .i64 0, .f 0, .s [], .b false, .i .i64 0], .cs [.i .i64 3, .s [42], .i .i64 0, .f 0, .s [], .b false, .i .i64 0, .v 44 0 2 2], .cs [.i .i64 0, .f 0, .s [], .b false, .i .i64 0], .cs [.i .i64 0]]
def k12E47 : MEnt := ⟨124, [.a [.i .i64 3, .s [42], .i .i64 0, .f 0, .s [], .b false, .i .i64 0, .v 44 0 2 2]], { h := k12H68, esc := none }, .ret (.b true), { h := k12H68, esc := none }⟩
theorem k12R47 : callF Tryz.prog k12T47 200 k12E47.f k12E47.args k12E47.s = some (k12E47.q, k12E47.s') := by kernel_rfl
noncomputable def k12T48 : CallT := k12T47.memo k12E47
theorem k12K48 (b : Base) : SoundC Tryz.prog b k12T48 ∧ GrowC k12T48 := memo_ok mixed named (k12K47 b) k12R47
def k12H69 : AH := (k12H68.take 68)
def k12E48 : MEnt := ⟨147, [.a [.i .i64 3, .s [42], .i .i64 0, .f 0, .s [], .b false, .i .i64 0, .v 44 0 2 2], .m 33, .i .i64 4096], { h := k12H69, esc := none }, .ret (.t [.a [.i .i64 4, .f 0, .s [], .b false, .i .i64 2], .i .i64 4093]), { h := k12H69, esc := none }⟩
theorem k12R48 : callF Tryz.prog k12T48 200 k12E48.f k12E48.args k12E48.s = some (k12E48.q, k12E48.s') := by kernel_rfl
noncomputable def k12T49 : CallT := k12T48.memo k12E48
theorem k12K49 (b : Base) : SoundC Tryz.prog b k12T49 ∧ GrowC k12T49 := memo_ok mixed named (k12K48 b) k12R48
def k12H70 : AH := (k12H68.take 64)
def k12H71 : AH := ((k12H70.set 33 (.mp [(.s [97], .a [.i .i64 0, .f 0, .s [], .b false, .i .i64 0]), (.s [98], .a [.i .i64 4, .f 0, .s [], .b false, .i .i64 2])])).set 36 (.cs [.b true, .b true, .i .i64 0, .f 0, .s [], .b false, .i .i64 0, .b true, .b false, .i .i64 4, .f 0, .s [], .b false, .i .i64 2]))
def k12E49 : MEnt := ⟨71, [.p 34 0, .i .i64 3], { h := k12H70, esc := (some 29) }, .ret (.b true), { h := k12H71, esc := (some 29) }⟩
theorem k12R49 : callF Tryz.prog k12T49 200 k12E49.f k12E49.args k12E49.s = some (k12E49.q, k12E49.s') := by kernel_rfl
noncomputable def k12T50 : CallT := k12T49.memo k12E49
theorem k12K50 (b : Base) : SoundC Tryz.prog b k12T50 ∧ GrowC k12T50 := memo_ok mixed named (k12K49 b) k12R49
def k12H72 : AH := ((k12H71.set 60 (.cs [.l (.id 62) [.i .i64 2, .i .i64 3] 2, .l (.id 61) [.i .i64 0, .i .i64 2] 2, .ln, .l (.id 64) [.i .i64 5] 1, .l (.id 63) [.i .i64 3, .i .i64 5] 2, .ln])).set 63 (.tk 2 3)) ++ [.tk 1 3]
def k12E50 : MEnt := ⟨71, [.p 34 0, .i .i64 5], { h := k12H72, esc := (some 29) }, .ret (.b false), { h := k12H72, esc := (some 29) }⟩
theorem k12R50 : callF Tryz.prog k12T50 200 k12E50.f k12E50.args k12E50.s = some (k12E50.q, k12E50.s') := by kernel_rfl
noncomputable def k12T51 : CallT := k12T50.memo k12E50
theorem k12K51 (b : Base) : SoundC Tryz.prog b k12T51 ∧ GrowC k12T51 := memo_ok mixed named (k12K50 b) k12R50
def k12H73 : AH := (k12H72.set 34 (.cs [.p 7 0, .s [102], .i .i64 1, .i .i64 0, .v 32 0 2 2, .v 37 0 2 2, .l .no [.i .i64 1, .i .i64 0, .i .i64 2, .i .i64 4, .i .i64 3, .i .i64 5] 6, .v 60 0 6 6, .v 35 0 2 2, .v 36 0 2 2, .m 33, .i .i64 6, .i .i64 6]))
def k12E51 : MEnt := ⟨29, [.p 7 0], { h := k12H30, esc := (some 1) }, .ret (.t [.p 34 0, .i .i64 0]), { h := k12H73, esc := (some 1) }⟩
theorem k12R51 : callF Tryz.prog k12T51 200 k12E51.f k12E51.args k12E51.s = some (k12E51.q, k12E51.s') := by kernel_rfl
noncomputable def k12T52 : CallT := k12T51.memo k12E51
theorem k12K52 (b : Base) : SoundC Tryz.prog b k12T52 ∧ GrowC k12T52 := memo_ok mixed named (k12K51 b) k12R51
def k12H74 : AH := k12H73 ++ [.cs [.i .i64 1, .f 4607182418800017408, .s [], .b false, .i .i64 0], .cs [.i .i64 1, .f 4607182418800017408, .s [], .b false, .i .i64 0]]
def k12H75 : AH := k12H74 ++ [.cs [.s [102], .i .i64 1, .i .i64 0, .v 70 0 2 2], .cs [.s [102], .i .i64 1, .i .i64 0, .v 70 0 2 2], .cs [.s [102], .i .i64 1, .i .i64 0, .v 70 0 2 2], .cs [.s [97], .i .i64 1, .i .i64 0, .s [], .s [], .s [], .b false, .i .i64 (-1), .s [98], .i .i64 1, .i .i64 0, .s [97, 32, 42, 32, 48], .s [], .s [], .b false, .i .i64 (-1)]]
def k12E52 : MEnt := ⟨59, [.p 7 0], { h := k12H74, esc := none }, .ret (.a [.s [102], .i .i64 1, .i .i64 0, .v 70 0 2 2]), { h := k12H75, esc := (some 67) }⟩
theorem k12R52 : callF Tryz.prog k12T52 200 k12E52.f k12E52.args k12E52.s = some (k12E52.q, k12E52.s') := by kernel_rfl
noncomputable def k12T53 : CallT := k12T52.memo k12E52
theorem k12K53 (b : Base) : SoundC Tryz.prog b k12T53 ∧ GrowC k12T53 := memo_ok mixed named (k12K52 b) k12R52
def k12H76 : AH := (k12H74.take 66)
def k12E53 : MEnt := ⟨17, [.p 7 0, .s [97], .a [.i .i64 1, .f 4607182418800017408, .s [], .b false, .i .i64 0]], { h := k12H76, esc := none }, .ret (.i .i64 0), { h := k12H76, esc := none }⟩
theorem k12R53 : callF Tryz.prog k12T53 200 k12E53.f k12E53.args k12E53.s = some (k12E53.q, k12E53.s') := by kernel_rfl
noncomputable def k12T54 : CallT := k12T53.memo k12E53
theorem k12K54 (b : Base) : SoundC Tryz.prog b k12T54 ∧ GrowC k12T54 := memo_ok mixed named (k12K53 b) k12R53
def k12H77 : AH := ((k12H76.set 34 (.cs [.p 7 0, .s [102], .i .i64 1, .i .i64 0, .v 32 0 2 2, .v 37 0 2 2, .l .no [.i .i64 1, .i .i64 0, .i .i64 2, .i .i64 4, .i .i64 3, .i .i64 5] 6, .v 60 0 6 6, .v 35 0 2 2, .v 36 0 2 2, .m 33, .i .i64 6, .i .i64 1])).set 35 (.cs [.i .i64 1, .f 4607182418800017408, .s [], .b false, .i .i64 0, .i .i64 0, .f 0, .s [], .b false, .i .i64 0])) ++ [.cs [.b true, .b false, .b false, .b false, .b false, .b false], .cs [.b false, .b false]]
def k12H78 : AH := ((k12H77.set 33 (.mp [(.s [97], .a [.i .i64 1, .f 4607182418800017408, .s [], .b false, .i .i64 0]), (.s [98], .a [.i .i64 4, .f 0, .s [], .b false, .i .i64 2])])).set 36 (.cs [.b true, .b true, .i .i64 1, .f 4607182418800017408, .s [], .b false, .i .i64 0, .b true, .b false, .i .i64 4, .f 0, .s [], .b false, .i .i64 2]))
def k12E54 : MEnt := ⟨71, [.p 34 0, .i .i64 0], { h := k12H77, esc := none }, .ret (.b true), { h := k12H78, esc := none }⟩
theorem k12R54 : callF Tryz.prog k12T54 200 k12E54.f k12E54.args k12E54.s = some (k12E54.q, k12E54.s') := by kernel_rfl
noncomputable def k12T55 : CallT := k12T54.memo k12E54
theorem k12K55 (b : Base) : SoundC Tryz.prog b k12T55 ∧ GrowC k12T55 := memo_ok mixed named (k12K54 b) k12R54
def k12H79 : AH := (((k12H78.set 34 (.cs [.p 7 0, .s [102], .i .i64 1, .i .i64 0, .v 32 0 2 2, .v 37 0 2 2, .l .no [.i .i64 1, .i .i64 0, .i .i64 2, .i .i64 4, .i .i64 3, .i .i64 5] 6, .v 60 0 6 6, .v 35 0 2 2, .v 36 0 2 2, .m 33, .i .i64 6, .i .i64 2])).set 66 (.cs [.b true, .b false, .b true, .b true, .b false, .b false])).set 67 (.cs [.b true, .b false]))
def k12E55 : MEnt := ⟨71, [.p 34 0, .i .i64 2], { h := k12H79, esc := none }, .ret (.b false), { h := k12H79, esc := none }⟩
theorem k12R55 : callF Tryz.prog k12T55 200 k12E55.f k12E55.args k12E55.s = some (k12E55.q, k12E55.s') := by kernel_rfl
noncomputable def k12T56 : CallT := k12T55.memo k12E55
theorem k12K56 (b : Base) : SoundC Tryz.prog b k12T56 ∧ GrowC k12T56 := memo_ok mixed named (k12K55 b) k12R55
def k12H80 : AH := (k12H79.set 34 (.cs [.p 7 0, .s [102], .i .i64 1, .i .i64 0, .v 32 0 2 2, .v 37 0 2 2, .l .no [.i .i64 1, .i .i64 0, .i .i64 2, .i .i64 4, .i .i64 3, .i .i64 5] 6, .v 60 0 6 6, .v 35 0 2 2, .v 36 0 2 2, .m 33, .i .i64 6, .i .i64 3])) ++ [.cs [.s [98], .i .i64 1, .i .i64 0, .s [97, 32, 42, 32, 48], .s [], .s [], .b false, .i .i64 (-1)], .cs [.b true, .b false, .i .i64 4, .f 0, .s [], .b false, .i .i64 2], .cs [.i .i64 0, .f 0, .s [], .b false, .i .i64 0], .cs [.i .i64 0, .f 0, .s [], .b false, .i .i64 0], .cs [.i .i64 3, .s [42], .i .i64 0, .f 0, .s [], .b false, .i .i64 0, .v 44 0 2 2], .cs [.i .i64 0, .f 0, .s [], .b false, .i .i64 0], .cs [.i .i64 0]]
def k12E56 : MEnt := ⟨124, [.a [.i .i64 3, .s [42], .i .i64 0, .f 0, .s [], .b false, .i .i64 0, .v 44 0 2 2]], { h := k12H80, esc := none }, .ret (.b true), { h := k12H80, esc := none }⟩
theorem k12R56 : callF Tryz.prog k12T56 200 k12E56.f k12E56.args k12E56.s = some (k12E56.q, k12E56.s') := by kernel_rfl
noncomputable def k12T57 : CallT := k12T56.memo k12E56
theorem k12K57 (b : Base) : SoundC Tryz.prog b k12T57 ∧ GrowC k12T57 := memo_ok mixed named (k12K56 b) k12R56
def k12H81 : AH := (k12H80.take 72)
def k12E57 : MEnt := ⟨147, [.a [.i .i64 3, .s [42], .i .i64 0, .f 0, .s [], .b false, .i .i64 0, .v 44 0 2 2], .m 33, .i .i64 4096], { h := k12H81, esc := none }, .ret (.t [.a [.i .i64 1, .f 0, .s [], .b false, .i .i64 0], .i .i64 4093]), { h := k12H81, esc := none }⟩
theorem k12R57 : callF Tryz.prog k12T57 200 k12E57.f k12E57.args k12E57.s = some (k12E57.q, k12E57.s') := by kernel_rfl
noncomputable def k12T58 : CallT := k12T57.memo k12E57
theorem k12K58 (b : Base) : SoundC Tryz.prog b k12T58 ∧ GrowC k12T58 := memo_ok mixed named (k12K57 b) k12R57
def k12H82 : AH := (k12H80.take 68)
def k12H83 : AH := ((k12H82.set 33 (.mp [(.s [97], .a [.i .i64 1, .f 4607182418800017408, .s [], .b false, .i .i64 0]), (.s [98], .a [.i .i64 1, .f 0, .s [], .b false, .i .i64 0])])).set 36 (.cs [.b true, .b true, .i .i64 1, .f 4607182418800017408, .s [], .b false, .i .i64 0, .b true, .b false, .i .i64 1, .f 0, .s [], .b false, .i .i64 0]))
def k12E58 : MEnt := ⟨71, [.p 34 0, .i .i64 3], { h := k12H82, esc := none }, .ret (.b true), { h := k12H83, esc := none }⟩
theorem k12R58 : callF Tryz.prog k12T58 200 k12E58.f k12E58.args k12E58.s = some (k12E58.q, k12E58.s') := by kernel_rfl
noncomputable def k12T59 : CallT := k12T58.memo k12E58
theorem k12K59 (b : Base) : SoundC Tryz.prog b k12T59 ∧ GrowC k12T59 := memo_ok mixed named (k12K58 b) k12R58
def k12H84 : AH := (((k12H83.set 34 (.cs [.p 7 0, .s [102], .i .i64 1, .i .i64 0, .v 32 0 2 2, .v 37 0 2 2, .l .no [.i .i64 1, .i .i64 0, .i .i64 2, .i .i64 4, .i .i64 3, .i .i64 5] 6, .v 60 0 6 6, .v 35 0 2 2, .v 36 0 2 2, .m 33, .i .i64 6, .i .i64 4])).set 66 (.cs [.b true, .b false, .b true, .b true, .b false, .b true])).set 67 (.cs [.b true, .b true]))
def k12H85 : AH := (k12H84.set 36 (.cs [.b true, .b true, .i .i64 1, .f 4607182418800017408, .s [], .b false, .i .i64 0, .b true, .b true, .i .i64 1, .f 0, .s [], .b false, .i .i64 0]))
def k12E59 : MEnt := ⟨71, [.p 34 0, .i .i64 5], { h := k12H84, esc := none }, .ret (.b true), { h := k12H85, esc := none }⟩
theorem k12R59 : callF Tryz.prog k12T59 200 k12E59.f k12E59.args k12E59.s = some (k12E59.q, k12E59.s') := by kernel_rfl
noncomputable def k12T60 : CallT := k12T59.memo k12E59
theorem k12K60 (b : Base) : SoundC Tryz.prog b k12T60 ∧ GrowC k12T60 := memo_ok mixed named (k12K59 b) k12R59
def k12H86 : AH := ((k12H85.take 65).set 34 (.cs [.p 7 0, .s [102], .i .i64 1, .i .i64 0, .v 32 0 2 2, .v 37 0 2 2, .l .no [.i .i64 1, .i .i64 0, .i .i64 2, .i .i64 4, .i .i64 3, .i .i64 5] 6, .v 60 0 6 6, .v 35 0 2 2, .v 36 0 2 2, .m 33, .i .i64 10, .i .i64 4]))
def k12E60 : MEnt := ⟨30, [.p 34 0, .s [97], .a [.i .i64 1, .f 4607182418800017408, .s [], .b false, .i .i64 0]], { h := k12H73, esc := (some 1) }, .ret (.t [.l .no [.i .i64 0, .i .i64 1] 2, .i .i64 0]), { h := k12H86, esc := (some 1) }⟩
theorem k12R60 : callF Tryz.prog k12T60 200 k12E60.f k12E60.args k12E60.s = some (k12E60.q, k12E60.s') := by kernel_rfl
noncomputable def k12T61 : CallT := k12T60.memo k12E60
theorem k12K61 (b : Base) : SoundC Tryz.prog b k12T61 ∧ GrowC k12T61 := memo_ok mixed named (k12K60 b) k12R60
def k12H87 : AH := k12H86 ++ [.cs [.i .i64 1, .f 4611686018427387904, .s [], .b false, .i .i64 0], .cs [.i .i64 1, .f 4611686018427387904, .s [], .b false, .i .i64 0]]
def k12H88 : AH := k12H87 ++ [.cs [.s [102], .i .i64 1, .i .i64 0, .v 70 0 2 2], .cs [.s [102], .i .i64 1, .i .i64 0, .v 70 0 2 2], .cs [.s [102], .i .i64 1, .i .i64 0, .v 70 0 2 2], .cs [.s [97], .i .i64 1, .i .i64 0, .s [], .s [], .s [], .b false, .i .i64 (-1), .s [98], .i .i64 1, .i .i64 0, .s [97, 32, 42, 32, 48], .s [], .s [], .b false, .i .i64 (-1)]]
def k12E61 : MEnt := ⟨59, [.p 7 0], { h := k12H87, esc := none }, .ret (.a [.s [102], .i .i64 1, .i .i64 0, .v 70 0 2 2]), { h := k12H88, esc := (some 67) }⟩
theorem k12R61 : callF Tryz.prog k12T61 200 k12E61.f k12E61.args k12E61.s = some (k12E61.q, k12E61.s') := by kernel_rfl
noncomputable def k12T62 : CallT := k12T61.memo k12E61
theorem k12K62 (b : Base) : SoundC Tryz.prog b k12T62 ∧ GrowC k12T62 := memo_ok mixed named (k12K61 b) k12R61
def k12H89 : AH := (k12H87.take 66)
def k12E62 : MEnt := ⟨17, [.p 7 0, .s [97], .a [.i .i64 1, .f 4611686018427387904, .s [], .b false, .i .i64 0]], { h := k12H89, esc := none }, .ret (.i .i64 0), { h := k12H89, esc := none }⟩
theorem k12R62 : callF Tryz.prog k12T62 200 k12E62.f k12E62.args k12E62.s = some (k12E62.q, k12E62.s') := by kernel_rfl
noncomputable def k12T63 : CallT := k12T62.memo k12E62
theorem k12K63 (b : Base) : SoundC Tryz.prog b k12T63 ∧ GrowC k12T63 := memo_ok mixed named (k12K62 b) k12R62
def k12H90 : AH := ((k12H89.set 34 (.cs [.p 7 0, .s [102], .i .i64 1, .i .i64 0, .v 32 0 2 2, .v 37 0 2 2, .l .no [.i .i64 1, .i .i64 0, .i .i64 2, .i .i64 4, .i .i64 3, .i .i64 5] 6, .v 60 0 6 6, .v 35 0 2 2, .v 36 0 2 2, .m 33, .i .i64 10, .i .i64 1])).set 35 (.cs [.i .i64 1, .f 4611686018427387904, .s [], .b false, .i .i64 0, .i .i64 0, .f 0, .s [], .b false, .i .i64 0])) ++ [.cs [.b true, .b false, .b false, .b false, .b false, .b false], .cs [.b false, .b false]]
def k12H91 : AH := ((k12H90.set 33 (.mp [(.s [97], .a [.i .i64 1, .f 4611686018427387904, .s [], .b false, .i .i64 0]), (.s [98], .a [.i .i64 1, .f 0, .s [], .b false, .i .i64 0])])).set 36 (.cs [.b true, .b true, .i .i64 1, .f 4611686018427387904, .s [], .b false, .i .i64 0, .b true, .b true, .i .i64 1, .f 0, .s [], .b false, .i .i64 0]))
def k12E63 : MEnt := ⟨71, [.p 34 0, .i .i64 0], { h := k12H90, esc := none }, .ret (.b true), { h := k12H91, esc := none }⟩
theorem k12R63 : callF Tryz.prog k12T63 200 k12E63.f k12E63.args k12E63.s = some (k12E63.q, k12E63.s') := by kernel_rfl
noncomputable def k12T64 : CallT := k12T63.memo k12E63
theorem k12K64 (b : Base) : SoundC Tryz.prog b k12T64 ∧ GrowC k12T64 := memo_ok mixed named (k12K63 b) k12R63
def k12H92 : AH := (((k12H91.set 34 (.cs [.p 7 0, .s [102], .i .i64 1, .i .i64 0, .v 32 0 2 2, .v 37 0 2 2, .l .no [.i .i64 1, .i .i64 0, .i .i64 2, .i .i64 4, .i .i64 3, .i .i64 5] 6, .v 60 0 6 6, .v 35 0 2 2, .v 36 0 2 2, .m 33, .i .i64 10, .i .i64 2])).set 66 (.cs [.b true, .b false, .b true, .b true, .b false, .b false])).set 67 (.cs [.b true, .b false]))
def k12E64 : MEnt := ⟨71, [.p 34 0, .i .i64 2], { h := k12H92, esc := none }, .ret (.b false), { h := k12H92, esc := none }⟩
theorem k12R64 : callF Tryz.prog k12T64 200 k12E64.f k12E64.args k12E64.s = some (k12E64.q, k12E64.s') := by kernel_rfl
noncomputable def k12T65 : CallT := k12T64.memo k12E64
theorem k12K65 (b : Base) : SoundC Tryz.prog b k12T65 ∧ GrowC k12T65 := memo_ok mixed named (k12K64 b) k12R64
def k12H93 : AH := (k12H92.set 34 (.cs [.p 7 0, .s [102], .i .i64 1, .i .i64 0, .v 32 0 2 2, .v 37 0 2 2, .l .no [.i .i64 1, .i .i64 0, .i .i64 2, .i .i64 4, .i .i64 3, .i .i64 5] 6, .v 60 0 6 6, .v 35 0 2 2, .v 36 0 2 2, .m 33, .i .i64 10, .i .i64 3])) ++ [.cs [.s [98], .i .i64 1, .i .i64 0, .s [97, 32, 42, 32, 48], .s [], .s [], .b false, .i .i64 (-1)], .cs [.b true, .b true, .i .i64 1, .f 0, .s [], .b false, .i .i64 0], .cs [.i .i64 0, .f 0, .s [], .b false, .i .i64 0], .cs [.i .i64 0, .f 0, .s [], .b false, .i .i64 0], .cs [.i .i64 3, .s [42], .i .i64 0, .f 0, .s [], .b false, .i .i64 0, .v 44 0 2 2], .cs [.i .i64 0, .f 0, .s [], .b false, .i .i64 0], .cs [.i .i64 0]]
def k12E65 : MEnt := ⟨124, [.a [.i .i64 3, .s [42], .i .i64 0, .f 0, .s [], .b false, .i .i64 0, .v 44 0 2 2]], { h := k12H93, esc := none }, .ret (.b true), { h := k12H93, esc := none }⟩
theorem k12R65 : callF Tryz.prog k12T65 200 k12E65.f k12E65.args k12E65.s = some (k12E65.q, k12E65.s') := by kernel_rfl
noncomputable def k12T66 : CallT := k12T65.memo k12E65
theorem k12K66 (b : Base) : SoundC Tryz.prog b k12T66 ∧ GrowC k12T66 := memo_ok mixed named (k12K65 b) k12R65
def k12H94 : AH := (k12H93.take 72)
def k12E66 : MEnt := ⟨147, [.a [.i .i64 3, .s [42], .i .i64 0, .f 0, .s [], .b false, .i .i64 0, .v 44 0 2 2], .m 33, .i .i64 4096], { h := k12H94, esc := none }, .ret (.t [.a [.i .i64 1, .f 0, .s [], .b false, .i .i64 0], .i .i64 4093]), { h := k12H94, esc := none }⟩
theorem k12R66 : callF Tryz.prog k12T66 200 k12E66.f k12E66.args k12E66.s = some (k12E66.q, k12E66.s') := by kernel_rfl
noncomputable def k12T67 : CallT := k12T66.memo k12E66
theorem k12K67 (b : Base) : SoundC Tryz.prog b k12T67 ∧ GrowC k12T67 := memo_ok mixed named (k12K66 b) k12R66
def k12H95 : AH := (k12H93.take 68)
def k12E67 : MEnt := ⟨71, [.p 34 0, .i .i64 3], { h := k12H95, esc := none }, .ret (.b false), { h := k12H95, esc := none }⟩
theorem k12R67 : callF Tryz.prog k12T67 200 k12E67.f k12E67.args k12E67.s = some (k12E67.q, k12E67.s') := by kernel_rfl
noncomputable def k12T68 : CallT := k12T67.memo k12E67
theorem k12K68 (b : Base) : SoundC Tryz.prog b k12T68 ∧ GrowC k12T68 := memo_ok mixed named (k12K67 b) k12R67
def k12H96 : AH := ((k12H91.take 65).set 34 (.cs [.p 7 0, .s [102], .i .i64 1, .i .i64 0, .v 32 0 2 2, .v 37 0 2 2, .l .no [.i .i64 1, .i .i64 0, .i .i64 2, .i .i64 4, .i .i64 3, .i .i64 5] 6, .v 60 0 6 6, .v 35 0 2 2, .v 36 0 2 2, .m 33, .i .i64 13, .i .i64 3]))
def k12E68 : MEnt := ⟨30, [.p 34 0, .s [97], .a [.i .i64 1, .f 4611686018427387904, .s [], .b false, .i .i64 0]], { h := k12H86, esc := (some 1) }, .ret (.t [.l .no [.i .i64 0] 1, .i .i64 0]), { h := k12H96, esc := (some 1) }⟩
theorem k12R68 : callF Tryz.prog k12T68 200 k12E68.f k12E68.args k12E68.s = some (k12E68.q, k12E68.s') := by kernel_rfl
noncomputable def k12T69 : CallT := k12T68.memo k12E68
theorem k12K69 (b : Base) : SoundC Tryz.prog b k12T69 ∧ GrowC k12T69 := memo_ok mixed named (k12K68 b) k12R68
theorem k12_run : callF Tryz.prog k12T69 200 28 [] { h := [], esc := none } = some (.ret (.b true), { h := [], esc := none }) := by kernel_rfl
theorem k12_pure : Pure Tryz.prog 28 [] (.b true) := pure_of_tab mixed named k12K69 Tryz.func28 (cd := Tryz.f28.body.getD .skip) rfl k12_run rfl rfl
end Go.Proofs.YtfjgblbmdddpkaaGreatDoor
