/- The greatest whole number that is not above: the reference's and the program's. -/
import Derived.Test.YtcinmjajfccbaaaGreatDoorGa
namespace Go.Proofs.YtcinmjajfccbaaaGreatDoor
open Go Go.Ab Go.RowKit

/-- formularyref3.Floor, and num.Floor of a number that is canonical. -/
def floorS (x : Nat) : Nat := if isN x then nanB else flr x

theorem p_arch {x : Nat} (hn : isN x = false) : Pure Tryz.prog 170 [.f x] (.f (flr x)) := fun w => by
  obtain ⟨fn, hf, h1, hb, hnx, hfe⟩ := placed.floor
  refine .inl ⟨.float .f64 (flr x), w, ?_, rfl, .refl _ _⟩
  show Sem.run _ (callFunc places.floor #[Value.float .f64 x]) w = _
  rw [run_callFunc_extern hf h1 hb hnx hfe]
  have e : Extern.MathFloor.toIntegral "math.archFloor" .down #[.float .f64 x] = (match FloatKind.f64.decode x with
    | .nan s t =>
      if FloatKind.f64.format.quiet t = t then pure (.float .f64 x) else do
      let kept ← choose (.extern "math.Floor,Ceil,Trunc,RoundToEven.signallingNaN kept" 2)
      pure (.float .f64 (if kept == 1 then x else FloatKind.f64.encode (.nan s (FloatKind.f64.format.quiet t))))
    | d => pure (.float .f64 (FloatKind.f64.encode (d.integral .down)))) := rfl
  rw [e]
  rw [isN_iff] at hn
  have hd : FloatKind.f64.decode x = dbl.read x := rfl
  unfold flr
  rw [hd]
  cases h : dbl.read x with
  | nan s t => rw [h] at hn; cases hn
  | _ => rfl

theorem p_arch_nan : Pure Tryz.prog 170 [.f nanB] (.f nanB) := fun w => by
  obtain ⟨fn, hf, h1, hb, hnx, hfe⟩ := placed.floor
  refine .inl ⟨.float .f64 nanB, w, ?_, rfl, .refl _ _⟩
  show Sem.run _ (callFunc places.floor #[Value.float .f64 nanB]) w = _
  rw [run_callFunc_extern hf h1 hb hnx hfe]
  have e : Extern.MathFloor.toIntegral "math.archFloor" .down #[.float .f64 nanB] = (match FloatKind.f64.decode nanB with
    | .nan s t =>
      if FloatKind.f64.format.quiet t = t then pure (.float .f64 nanB) else do
      let kept ← choose (.extern "math.Floor,Ceil,Trunc,RoundToEven.signallingNaN kept" 2)
      pure (.float .f64 (if kept == 1 then nanB else FloatKind.f64.encode (.nan s (FloatKind.f64.format.quiet t))))
    | d => pure (.float .f64 (FloatKind.f64.encode (d.integral .down)))) := rfl
  rw [e]
  have hd : FloatKind.f64.decode nanB = .nan false (nanB - 9218868437227405312) := by decide +kernel
  rw [hd]
  simp only
  rw [if_pos (by decide +kernel)]
  rfl

/-- A number is none, or it is 0, or great, or it is turned. -/
theorem floor_cases {x : Nat} (hx : x < two64) (hn : isN x = false) :
    (isN (flr x) = false) ∧
    ((eqF x 0 = true ∧ flr x = x) ∨ (eqF x 0 = false ∧ geF x big = true ∧ flr x = x) ∨ (eqF x 0 = false ∧ geF x big = false ∧ leF x gib = true ∧ flr x = x) ∨
     (eqF x 0 = false ∧ geF x big = false ∧ leF x gib = false ∧ ∃ n : Int, (dbl.read x).toInt .zero = some n ∧ IntKind.i64.min ≤ n ∧ n ≤ IntKind.i64.max ∧
      ((gtF (FloatKind.f64.nearest n) x = false ∧ FloatKind.f64.nearest n = flr x) ∨ (gtF (FloatKind.f64.nearest n) x = true ∧ dbl.sub (FloatKind.f64.nearest n) oneB = some (flr x))))) := by
  obtain ⟨K, hK⟩ : ∃ K : Nat, 4503599627370496 * 2 ^ 1074 = K := ⟨_, rfl⟩
  rcases isN_false hn with hr | hr
  · have z0 : (0 : Nat) % two63 < 9218868437227405312 := by decide +kernel
    have zb : big % two63 < 9218868437227405312 := by decide +kernel
    have zg : gib % two63 < 9218868437227405312 := by decide +kernel
    have e0 : eqF x 0 = decide (sval x = 0) := by unfold eqF; rw [order_val hr z0, cmp_eqb, sval_zero]
    have e1 : geF x big = decide ((K : Int) ≤ sval x) := by
      unfold geF gtF eqF
      rw [order_val hr zb, cmp_gt, cmp_eqb, sval_big, hK, Bool.eq_iff_iff]
      simp only [Bool.or_eq_true, decide_eq_true_eq]
      omega
    have e2 : leF x gib = decide (sval x ≤ -(K : Int)) := by
      unfold leF ltF eqF
      rw [order_val hr zg, cmp_lt, cmp_eqb, sval_gib, hK, Bool.eq_iff_iff]
      simp only [Bool.or_eq_true, decide_eq_true_eq]
      omega
    have hs : sval x = (rungV (x % two63) : Int) ∨ sval x = -(rungV (x % two63) : Int) := by
      unfold sval; split
      · exact .inr rfl
      · exact .inl rfl
    by_cases h0 : x % two63 = 0
    · have hf := flr_zero hx h0
      refine ⟨by rw [hf]; exact hn, .inl ⟨?_, hf⟩⟩
      rw [e0]
      have : rungV (x % two63) = 0 := by rw [h0]; rfl
      simp only [decide_eq_true_eq]
      omega
    · have hz : rungV (x % two63) ≠ 0 := fun h => h0 (rung_zero h)
      have n0 : eqF x 0 = false := by rw [e0]; exact decide_eq_false (by omega)
      by_cases hb : K ≤ rungV (x % two63)
      · have hf := flr_big hx hr (by rw [hK]; exact hb)
        refine ⟨by rw [hf]; exact hn, ?_⟩
        have hbi : (K : Int) ≤ (rungV (x % two63) : Int) := Int.ofNat_le.2 hb
        cases h1 : geF x big with
        | true => exact .inr (.inl ⟨n0, rfl, hf⟩)
        | false =>
          refine .inr (.inr (.inl ⟨n0, rfl, ?_, hf⟩))
          rw [e1] at h1
          rw [e2]
          have h1 := of_decide_eq_false h1
          exact decide_eq_true (by omega)
      · have hb' : rungV (x % two63) < K := Nat.lt_of_not_le hb
        have hbi : (rungV (x % two63) : Int) < (K : Int) := Int.ofNat_lt.2 hb'
        obtain ⟨n, h1, h2, h3, h4, h5⟩ := flr_main hx hr h0 (by rw [hK]; exact hb')
        refine ⟨h4, .inr (.inr (.inr ⟨n0, ?_, ?_, n, h1, ?_, ?_, h5⟩))⟩
        · rw [e1]; exact decide_eq_false (by omega)
        · rw [e2]; exact decide_eq_false (by omega)
        · exact Int.le_trans (by decide) h2
        · exact Int.le_trans h3 (by decide)
  · have hf : flr x = x := by
      unfold flr
      have h1 := write_read hx hn
      rw [read_inf hr] at h1 ⊢
      exact h1
    refine ⟨by rw [hf]; exact hn, ?_⟩
    have o0 : ∀ y : Nat, y % two63 < 9218868437227405312 → dbl.order x y = some (if sgn x then .lt else .gt) := by
      intro y hy
      obtain ⟨m, i, e, _⟩ := read_num hy
      unfold Ieee.Format.order
      rw [read_inf hr, e]
      rfl
    have n0 : eqF x 0 = false := by unfold eqF; rw [o0 0 (by decide +kernel)]; cases sgn x <;> rfl
    cases hs : sgn x with
    | false => exact .inr (.inl ⟨n0, by unfold geF gtF; rw [o0 big (by decide +kernel), hs]; rfl, hf⟩)
    | true => exact .inr (.inr (.inl ⟨n0, by unfold geF gtF eqF; rw [o0 big (by decide +kernel), hs]; rfl, by unfold leF ltF; rw [o0 gib (by decide +kernel), hs]; rfl, hf⟩))

theorem convInt {x : Nat} {n : Int} (h : (dbl.read x).toInt .zero = some n) (h1 : IntKind.i64.min ≤ n) (h2 : n ≤ IntKind.i64.max) :
    evalK Tryz.prog (.conv 22 2) [.f x] = some (.i .i64 n) := by
  have e : evalK Tryz.prog (.conv 22 2) [.f x] = (match (FloatKind.f64.decode x).toInt .zero with
    | some n => if IntKind.i64.min ≤ n ∧ n ≤ IntKind.i64.max then some (AV.i .i64 n) else none
    | none => none) := by kernel_rfl
  rw [e]
  have h' : (FloatKind.f64.decode x).toInt .zero = some n := h
  rw [h']
  simp only
  rw [if_pos ⟨h1, h2⟩]

theorem p_r3floor {x : Nat} (hx : x < two64) : Pure Tryz.prog 29 [.f x] (.f (floorS x)) := by
  unfold floorS
  cases hn : isN x with
  | true =>
    have : Pure Tryz.prog _ [.f x] (.f (canonS x)) := r3floor_0 [.f x, .f (canonS x)] rfl ⟨⟨rfl, rfl, p_r3canon x⟩, trivial⟩ ⟨eb hn, trivial⟩ rfl rfl
    rwa [canon_nan hn] at this
  | false =>
    simp only [Bool.false_eq_true, if_false]
    have hc := canon_of hn
    obtain ⟨hf, h | h | h | h⟩ := floor_cases hx hn
    · obtain ⟨h0, e⟩ := h
      have : Pure Tryz.prog _ [.f x] (.f (canonS x)) := r3floor_1 [.f x, .f (canonS x)] rfl ⟨⟨rfl, rfl, p_r3canon x⟩, trivial⟩ ⟨eb hn, eb h0, trivial⟩ rfl rfl
      rw [e]
      rwa [hc] at this
    · obtain ⟨h0, h1, e⟩ := h
      have : Pure Tryz.prog _ [.f x] (.f (canonS x)) := r3floor_2 [.f x, .f (canonS x)] rfl ⟨⟨rfl, rfl, p_r3canon x⟩, trivial⟩ ⟨eb hn, eb h0, eb h1, trivial⟩ rfl rfl
      rw [e]
      rwa [hc] at this
    · obtain ⟨h0, h1, h2, e⟩ := h
      have : Pure Tryz.prog _ [.f x] (.f (canonS x)) := r3floor_3 [.f x, .f (canonS x)] rfl ⟨⟨rfl, rfl, p_r3canon x⟩, trivial⟩ ⟨eb hn, eb h0, eb h1, eb h2, trivial⟩ rfl rfl
      rw [e]
      rwa [hc] at this
    · obtain ⟨h0, h1, h2, n, h3, h4, h5, h6 | h6⟩ := h
      · obtain ⟨h6, h7⟩ := h6
        rw [← h7]
        exact r3floor_6 [.f x, .i .i64 n, .f (FloatKind.f64.nearest n)] rfl trivial ⟨eb hn, eb h0, eb h1, eb h2, convInt h3 h4 h5, by kernel_rfl, eb h6, trivial⟩ rfl rfl
      · obtain ⟨h6, h7⟩ := h6
        exact r3floor_4 [.f x, .i .i64 n, .f (FloatKind.f64.nearest n), .f (flr x)] rfl trivial ⟨eb hn, eb h0, eb h1, eb h2, convInt h3 h4 h5, by kernel_rfl, eb h6, ef h7, trivial⟩ rfl rfl

theorem p_mfloor {x y : Nat} (h : Pure Tryz.prog 170 [.f x] (.f y)) : Pure Tryz.prog 139 [.f x] (.f y) :=
  mfloor_0 [.f x, .f y] rfl ⟨⟨rfl, rfl, h⟩, trivial⟩ trivial rfl rfl

/-- num.Floor, of a number as it stands in a value. -/
theorem p_nfloor {x : Nat} (hx : x < two64) : Pure Tryz.prog 92 [.f (canonS x)] (.f (floorS x)) := by
  unfold floorS
  cases hn : isN x with
  | true =>
    rw [canon_nan hn]
    have : Pure Tryz.prog _ [.f nanB] (.f (canonS nanB)) := nfloor_0 [.f nanB, .f nanB, .f (canonS nanB)] rfl ⟨⟨rfl, rfl, p_mfloor p_arch_nan⟩, ⟨rfl, rfl, p_ncanon nanB⟩, trivial⟩ trivial rfl rfl
    rwa [canon_nan isN_nan] at this
  | false =>
    simp only [Bool.false_eq_true, if_false]
    rw [canon_of hn]
    have : Pure Tryz.prog _ [.f x] (.f (canonS (flr x))) := nfloor_0 [.f x, .f (flr x), .f (canonS (flr x))] rfl ⟨⟨rfl, rfl, p_mfloor (p_arch hn)⟩, ⟨rfl, rfl, p_ncanon _⟩, trivial⟩ trivial rfl rfl
    rwa [canon_of (floor_cases hx hn).1] at this

theorem canon_floor (x : Nat) (hx : x < two64) : canonS (floorS x) = floorS x := by
  unfold floorS
  cases hn : isN x with
  | true => exact canon_nan isN_nan
  | false => exact canon_of (floor_cases hx hn).1
end Go.Proofs.YtcinmjajfccbaaaGreatDoor
