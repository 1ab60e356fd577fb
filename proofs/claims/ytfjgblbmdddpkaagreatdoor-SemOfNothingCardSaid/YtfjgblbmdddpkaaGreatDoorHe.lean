/- Cells among the arguments of a law's row: read through, as the interpreter has them. -/
import Derived.Test.YtfjgblbmdddpkaaGreatDoorHd
import Derived.Test.YtfjgblbmdddpkaaGreatDoorBa
import Derived.Deep.Slices
namespace Go.Proofs.YtfjgblbmdddpkaaGreatDoor
open Go Go.Ab Go.RowKit Go.ChangeShapes Go.WideShapes

def cellVal (c : CellD) : List Value := [.string ⟨c.name.toArray⟩, .int .i64 c.kind, .float .f64 c.num, .string ⟨c.text.toArray⟩, .bool c.yes, .int .i64 c.code]

theorem cell_rel {r : RC} (c : CellD) {j : Nat} {v : AV} (h : (cellAV c)[j]? = some v) : ∃ V, (cellVal c)[j]? = some V ∧ VRel r v V := by
  match j, h with
  | 0, h => cases h; exact ⟨_, rfl, .s _⟩
  | 1, h => cases h; exact ⟨_, rfl, .i _ _⟩
  | 2, h => cases h; exact ⟨_, rfl, .f _⟩
  | 3, h => cases h; exact ⟨_, rfl, .s _⟩
  | 4, h => cases h; exact ⟨_, rfl, .b _⟩
  | 5, h => cases h; exact ⟨_, rfl, .i _ _⟩
  | j + 6, h => simp [cellAV] at h

section
variable {H : Type} {enc : TypeId × Value → H} {W : World} {base : Nat} {sp : Nat → Bool} {held : Bool} {fuel : Nat}

theorem trod_float {P : Program} {t : TypeId} {cs : List Value} {k : FloatKind} {x : DataW H × List MemPlace} (ht : P.underlying t = some (.float k)) (h : DataW.trod enc P W base sp held fuel t cs = some x) : ∃ b, cs = [.float k b] := by
  cases fuel with
  | zero => simp [DataW.trod] at h
  | succ n =>
    unfold DataW.trod at h
    rw [ht] at h
    split at h <;> simp_all

theorem c9 : Tryz.prog.cellsOf 9 = 1 := by kernel_rfl
theorem c3 : Tryz.prog.cellsOf 3 = 1 := by kernel_rfl
theorem c42 : Tryz.prog.cellsOf 42 = 1 := by kernel_rfl
theorem c4 : Tryz.prog.cellsOf 4 = 1 := by kernel_rfl
theorem c44 : Tryz.prog.cellsOf 44 = 5 := by kernel_rfl
theorem c46 : Tryz.prog.cellsOf 46 = 6 := by kernel_rfl

set_option maxRecDepth 100000 in
theorem open_cell {cs : List Value} {x : DataW H × List MemPlace} (h : DataW.trod enc Tryz.prog W base sp held fuel 46 cs = some x) : ∃ c : CellD, cs = cellVal c := by
  obtain ⟨y0, y1, n, _, hl, h0, h1⟩ := trod_struct2 Tryz.underlying46 h
  rw [c46] at hl
  match cs, hl with
  | [v0, v1, v2, v3, v4, v5], _ =>
    simp only [c9, c44, List.drop, List.take] at h0 h1
    obtain ⟨xs, n1, _, _, hl1, hx, hf⟩ := DataW.trod_struct Tryz.underlying44 h1
    match xs, hx with
    | [x0, x1, x2, x3, x4], _ =>
    have f0 : DataW.trod enc Tryz.prog W base sp held n1 3 (([v1, v2, v3, v4, v5].drop 0).take (Tryz.prog.cellsOf 3)) = some x0 := hf 0 _ rfl
    have f1 : DataW.trod enc Tryz.prog W base sp held n1 42 (([v1, v2, v3, v4, v5].drop 1).take (Tryz.prog.cellsOf 42)) = some x1 := hf 1 _ rfl
    have f2 : DataW.trod enc Tryz.prog W base sp held n1 9 (([v1, v2, v3, v4, v5].drop 2).take (Tryz.prog.cellsOf 9)) = some x2 := hf 2 _ rfl
    have f3 : DataW.trod enc Tryz.prog W base sp held n1 4 (([v1, v2, v3, v4, v5].drop 3).take (Tryz.prog.cellsOf 4)) = some x3 := hf 3 _ rfl
    have f4 : DataW.trod enc Tryz.prog W base sp held n1 3 (([v1, v2, v3, v4, v5].drop 4).take (Tryz.prog.cellsOf 3)) = some x4 := hf 4 _ rfl
    simp only [c9, c3, c42, c4, List.drop, List.take] at f0 f1 f2 f3 f4
    obtain ⟨s, e0, _⟩ := DataW.trod_string Tryz.underlying9 h0
    obtain ⟨k, e1, _⟩ := DataW.trod_int Tryz.underlying3 f0
    obtain ⟨b, e2⟩ := trod_float Tryz.underlying42 f1
    obtain ⟨u, e3, _⟩ := DataW.trod_string Tryz.underlying9 f2
    obtain ⟨y, e4, _⟩ := DataW.trod_bool Tryz.underlying4 f3
    obtain ⟨c, e5, _⟩ := DataW.trod_int Tryz.underlying3 f4
    simp only [List.cons.injEq, and_true] at e0 e1 e2 e3 e4 e5
    subst e0; subst e1; subst e2; subst e3; subst e4; subst e5
    exact ⟨⟨s.data.toList, k, b, u.data.toList, y, c⟩, rfl⟩

theorem cells_len (l : List CellD) : (cellsAV l).length = 6 * l.length := by
  induction l with
  | nil => rfl
  | cons c l ih => unfold cellsAV at *; rw [List.flatMap_cons, List.length_append, ih, List.length_cons]; simp [cellAV]; omega

instance : Inhabited CellD := ⟨⟨[], 0, 0, [], false, 0⟩⟩

/-- A row of cells, opened. -/
theorem open_cells {v : Value} {x : DataW H × List MemPlace} (h : DataW.trod enc Tryz.prog W base sp held fuel 25 [v] = some x) (hs : ∀ a n c, v = .slice (some a) n c → a.spot = none) :
    v = .slice none 0 0 ∨ ∃ l : List CellD, l.length < 9223372036854775808 ∧ ∀ b : Base, b.im = (fun B o => W.cell? ⟨B, o, none⟩) → VRel (.start b) (.l .no (cellsAV l) l.length) v := by
  rcases Go.Deep.open_slice Tryz.underlying25 h with ⟨h0, _⟩ | ⟨a, len, cap, m, n, D, Pl, hv, _, hl, hm, hmm, _, hx⟩
  · left; simpa using h0
  right
  obtain rfl : v = .slice (some a) len cap := by simpa using hv
  have hsp : a.spot = none := hs a len cap rfl
  have hlm : len ≤ m := by rw [hmm]; split <;> omega
  have each : ∀ i, i < len → ∃ c : CellD, ∀ j, j < 6 → W.cell? (a.add (i * 6 + j)) = (cellVal c)[j]? := by
    intro i hi
    obtain ⟨cs', h1, h2⟩ := hx i (by omega)
    rw [c46] at h1
    obtain ⟨_, hlen, hcell⟩ := World.cells?_some h1
    obtain ⟨c, rfl⟩ := open_cell h2
    refine ⟨c, fun j hj => ?_⟩
    have := hcell j (by omega)
    rw [Addr.add_add] at this
    exact this
  obtain ⟨q, hq⟩ := Go.Deep.choose_lt each
  have hle : ((List.range len).map q).length = len := by simp
  have hbig : maxLen < 9223372036854775808 := by decide +kernel
  refine ⟨(List.range len).map q, by rw [hle]; omega, fun b hb => ?_⟩
  obtain ⟨B, o, spot⟩ := a
  simp only at hsp
  subst hsp
  have key : ∀ (j : Nat) (u : AV), (cellsAV ((List.range len).map q))[j]? = some u → ∃ V, W.cell? ⟨B, o + j, none⟩ = some V ∧ VRel (.start b) u V := by
    intro j u hu
    have hj : j < 6 * len := by
      have := (List.getElem?_eq_some_iff.1 hu).1
      rwa [cells_len, hle] at this
    have hi : j / 6 < len := by omega
    have hg : ((List.range len).map q)[j / 6]? = some (q (j / 6)) := by simp [hi]
    have e : j / 6 * 6 + j % 6 = j := by omega
    rw [← e, cells_get hg (by omega)] at hu
    obtain ⟨V, h1, h2⟩ := cell_rel (r := .start b) _ hu
    refine ⟨V, ?_, h2⟩
    rw [← h1, ← hq (j / 6) hi (j % 6) (by omega), e, Addr.add_lit]
  rw [hle]
  refine .l .no _ len B o cap (fun j => (W.cell? ⟨B, o + j, none⟩).getD .nilFunc) hl (fun j u hu => ?_) (fun j u hu => ?_) (fun h => by cases h) (fun k h => by cases h)
  · obtain ⟨V, h1, _⟩ := key j u hu
    show b.im B (o + j) = _
    rw [hb]
    simp only [h1, Option.getD_some]
  · obtain ⟨V, h1, h2⟩ := key j u hu
    simpa only [h1, Option.getD_some] using h2

/-- A slice among the arguments lies at no spot. -/
theorem slice_spot {P : Program} {r : Reach} {b0 : Nat} {t e : TypeId} {a : Addr} {n c : Nat} (ht : P.underlying t = some (.slice e)) (h : Value.okWide P W r b0 t (.slice (some a) n c)) : a.spot = none := by
  simp only [Value.okWide, ht, Cell.okWide, Cell.ok] at h
  exact h.2.2.2.1
end
end Go.Proofs.YtfjgblbmdddpkaaGreatDoor
