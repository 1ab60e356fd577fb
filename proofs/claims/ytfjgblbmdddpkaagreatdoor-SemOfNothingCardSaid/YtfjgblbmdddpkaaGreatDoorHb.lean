/- heavyCells: of any cells it comes to a truth. -/
import Derived.Test.YtfjgblbmdddpkaaGreatDoorHa
namespace Go.Proofs.YtfjgblbmdddpkaaGreatDoor
open Go Go.Ab Go.RowKit

/-- A cell, by its parts. -/
structure CellD where
  name : List UInt8
  kind : Int
  num : Nat
  text : List UInt8
  yes : Bool
  code : Int

def cellAV (c : CellD) : List AV := [.s c.name, .i .i64 c.kind, .f c.num, .s c.text, .b c.yes, .i .i64 c.code]
def cellsAV (l : List CellD) : List AV := l.flatMap cellAV

theorem clean_app {a b : List AV} (ha : cleanAs a = true) (hb : cleanAs b = true) : cleanAs (a ++ b) = true := by
  induction a with
  | nil => exact hb
  | cons x a ih =>
    simp only [cleanAs, Bool.and_eq_true] at ha
    simp only [List.cons_append, cleanAs, Bool.and_eq_true]
    exact ⟨ha.1, ih ha.2⟩

theorem cells_clean (l : List CellD) : cleanAs (cellsAV l) = true := by
  induction l with
  | nil => rfl
  | cons c l ih => exact clean_app rfl ih

theorem cells_get {l : List CellD} {i : Nat} {c : CellD} (h : l[i]? = some c) {j : Nat} (hj : j < 6) : (cellsAV l)[i * 6 + j]? = (cellAV c)[j]? := by
  induction l generalizing i with
  | nil => simp at h
  | cons x l ih =>
    unfold cellsAV
    rw [List.flatMap_cons]
    have hl : (cellAV x).length = 6 := rfl
    cases i with
    | zero =>
      simp at h; subst h
      rw [Nat.zero_mul, Nat.zero_add, List.getElem?_append_left (by rw [hl]; exact hj)]
    | succ i =>
      have hi : l[i]? = some c := by simpa using h
      rw [List.getElem?_append_right (by rw [hl]; omega), hl, show (i + 1) * 6 + j - 6 = i * 6 + j by omega]
      exact ih hi

theorem u25 : Tryz.prog.underlying 25 = some (.slice 46) := by kernel_rfl
theorem z46 : sizeA Tryz.prog 46 = some 6 := by kernel_rfl
theorem u9 : Tryz.prog.underlying 9 = some .string := by kernel_rfl
theorem g9 : isAggA Tryz.prog 9 = some false := by kernel_rfl

theorem hcb {e b : Bool} (h : e = b) : some (AV.b e) = some (AV.b b) := by rw [h]

noncomputable abbrev hcLoop : Code := loopAt (Tryz.f12.body.getD .skip) 3

/-- The state at the loop's head. -/
def hcS (l : List CellD) (acc i : Int) : ST := ST.conc [.l .no (cellsAV l) l.length, .i .i64 acc, .i .i64 i] (stOf 5 [(0, .sy 0), (2, .b false), (3, .sy 1), (4, .sy 2)] [])

theorem hc_all (l : List CellD) (rest : List AV) (h : rest.all plainA = true) : (AV.l .no (cellsAV l) l.length :: rest).all plainA = true := by
  rw [List.all_cons, Bool.and_eq_true]
  exact ⟨by simp [plainA, cleanA, cells_clean, AV.one], h⟩

theorem wrap_small {i : Int} (h0 : 0 ≤ i) (h1 : i < 9223372036854775807) : IntKind.i64.wrap (i + 1) = i + 1 := by
  unfold IntKind.wrap
  simp [IntKind.signed, IntKind.bits]
  omega

theorem hc_rounds (l : List CellD) (hl : l.length < 9223372036854775808) : ∀ (k : Nat) (acc i : Int), 0 ≤ i → i + k = l.length →
    Rounds Tryz.prog 30 hcLoop (hcS l acc i) (.ex 0) (stOf 5 [(2, .b false)] []) ∨ Rounds Tryz.prog 30 hcLoop (hcS l acc i) .rt (stOf 5 [(2, .b true)] []) := by
  intro k
  induction k with
  | zero =>
    intro acc i h0 hi
    left
    have hlt : decide (i < (l.length : Int)) = false := decide_eq_false (by omega)
    have := hcBody_2 [.l .no (cellsAV l) l.length, .i .i64 acc, .i .i64 i, .i .i64 l.length] (hc_all l _ rfl) trivial trivial ⟨ek_len_l u25, hcb hlt, trivial⟩ LsOK.none
    exact .done (by simp) (this.keep [2])
  | succ k ih =>
    intro acc i h0 hi
    have hlt : decide (i < (l.length : Int)) = true := decide_eq_true (by omega)
    obtain ⟨c, hc⟩ : ∃ c, l[i.toNat]? = some c := ⟨l[i.toNat]'(by omega), by rw [List.getElem?_eq_getElem (by omega)]⟩
    have hix : evalK Tryz.prog (.indexAddr 25) [.l .no (cellsAV l) l.length, .i .i64 i] = some (.r (cellsAV l) (i.toNat * 6)) := ek_index u25 z46 h0 (by omega)
    have hld0 : evalK Tryz.prog (.load 9) [.r (cellsAV l) (i.toNat * 6 + 0)] = some (.s c.name) := (ek_load g9).trans (cells_get hc (j := 0) (by omega))
    have hld3 : evalK Tryz.prog (.load 9) [.r (cellsAV l) (i.toNat * 6 + 1 + 2)] = some (.s c.text) := (ek_load g9).trans (cells_get hc (j := 3) (by omega))
    let t4 : Int := IntKind.i64.wrap (acc + 5)
    let t9 : Int := IntKind.i64.wrap (t4 + c.name.length)
    let t14 : Int := IntKind.i64.wrap (t9 + c.text.length)
    cases hg : decide (t14 > 3000) with
    | true =>
      right
      have := hcBody_0 [.l .no (cellsAV l) l.length, .i .i64 acc, .i .i64 i, .i .i64 l.length, .i .i64 t4, .r (cellsAV l) (i.toNat * 6), .r (cellsAV l) (i.toNat * 6 + 0), .s c.name, .i .i64 c.name.length, .i .i64 t9, .r (cellsAV l) (i.toNat * 6 + 1), .r (cellsAV l) (i.toNat * 6 + 1 + 2), .s c.text, .i .i64 c.text.length, .i .i64 t14]
        (hc_all l _ (by simp [plainA, cleanA, cells_clean, AV.one])) trivial trivial ⟨ek_len_l u25, hcb hlt, rfl, hix, by kernel_rfl, hld0, ek_len_s u9, rfl, by kernel_rfl, by kernel_rfl, hld3, ek_len_s u9, rfl, hcb hg, trivial⟩ LsOK.none
      exact .done (by simp) (this.keep [2])
    | false =>
      have hw : IntKind.i64.wrap (i + 1) = i + 1 := wrap_small h0 (by omega)
      have := hcBody_1 [.l .no (cellsAV l) l.length, .i .i64 acc, .i .i64 i, .i .i64 l.length, .i .i64 t4, .r (cellsAV l) (i.toNat * 6), .r (cellsAV l) (i.toNat * 6 + 0), .s c.name, .i .i64 c.name.length, .i .i64 t9, .r (cellsAV l) (i.toNat * 6 + 1), .r (cellsAV l) (i.toNat * 6 + 1 + 2), .s c.text, .i .i64 c.text.length, .i .i64 t14, .i .i64 (i + 1)]
        (hc_all l _ (by simp [plainA, cleanA, cells_clean, AV.one])) trivial trivial ⟨ek_len_l u25, hcb hlt, rfl, hix, by kernel_rfl, hld0, ek_len_s u9, rfl, by kernel_rfl, by kernel_rfl, hld3, ek_len_s u9, rfl, hcb hg, congrArg (fun q => some (AV.i .i64 q)) hw, trivial⟩ LsOK.none
      rcases ih t14 (i + 1) (by omega) (by omega) with h | h
      · exact .inl (.step this h)
      · exact .inr (.step this h)

theorem hc_runs (l : List CellD) (hl : l.length < 9223372036854775808) :
    (∃ st, Runs Tryz.prog 30 (Tryz.f12.body.getD .skip) (ST.conc [.l .no (cellsAV l) l.length] (stOf 5 [(0, .sy 0)] [])) .rt st ∧ st = stOf 5 [(2, .b false)] []) ∨
    (∃ st, Runs Tryz.prog 30 (Tryz.f12.body.getD .skip) (ST.conc [.l .no (cellsAV l) l.length] (stOf 5 [(0, .sy 0)] [])) .rt st ∧ st = stOf 5 [(2, .b true)] []) := by
  have one : loopsIn (Tryz.f12.body.getD .skip) = [hcLoop] := by kernel_rfl
  rcases hc_rounds l hl l.length 0 0 (by omega) (by omega) with h | h
  · refine .inl ⟨_, hcLight_0 [.l .no (cellsAV l) l.length] (hc_all l _ rfl) trivial trivial trivial fun c hc e he _ => ?_, rfl⟩
    rw [one] at hc
    obtain rfl := List.mem_singleton.1 hc
    obtain rfl := List.mem_singleton.1 he
    exact h.runs
  · refine .inr ⟨_, hcHeavy_0 [.l .no (cellsAV l) l.length] (hc_all l _ rfl) trivial trivial trivial fun c hc e he _ => ?_, rfl⟩
    rw [one] at hc
    obtain rfl := List.mem_singleton.1 hc
    obtain rfl := List.mem_singleton.1 he
    exact h.runs

/-- heavyCells of any cells. -/
theorem row_heavy (l : List CellD) (hl : l.length < 9223372036854775808) : ∃ b, Row Tryz.prog 12 [.l .no (cellsAV l) l.length] (.ret (.b b)) := by
  have hc : cleanAs [.l .no (cellsAV l) l.length] = true := by simp [cleanAs, cleanA, cells_clean]
  rcases hc_runs l hl with ⟨st, h, rfl⟩ | ⟨st, h, rfl⟩
  · exact ⟨false, row_of_runs named Tryz.func12 rfl (show 1 ≤ Tryz.f12.ntmps from of_decide_eq_true (by kernel_rfl)) h (.inr rfl) rfl (l := [.b false]) rfl hc rfl⟩
  · exact ⟨true, row_of_runs named Tryz.func12 rfl (show 1 ≤ Tryz.f12.ntmps from of_decide_eq_true (by kernel_rfl)) h (.inr rfl) rfl (l := [.b true]) rfl hc rfl⟩
end Go.Proofs.YtfjgblbmdddpkaaGreatDoor
