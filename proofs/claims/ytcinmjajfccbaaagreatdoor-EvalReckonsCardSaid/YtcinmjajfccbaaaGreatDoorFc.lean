/- Floats: what a number is written as; the greatest whole number that is not above. -/
import Derived.Test.YtcinmjajfccbaaaGreatDoorFb
namespace Go.Ab
open Go.RowKit Ieee

theorem log2_scale {n : Nat} (h : n ≠ 0) (k : Nat) : (n * 2 ^ k).log2 = n.log2 + k := by
  have h2 : n * 2 ^ k ≠ 0 := Nat.mul_ne_zero h (Nat.ne_of_gt (Nat.two_pow_pos k))
  apply Nat.le_antisymm
  · apply Nat.le_of_lt_succ
    rw [Nat.log2_lt h2, Nat.succ_eq_add_one, show n.log2 + k + 1 = n.log2 + 1 + k by omega, Nat.pow_add]
    exact Nat.mul_lt_mul_of_pos_right Nat.lt_log2_self (Nat.two_pow_pos k)
  · rw [Nat.le_log2 h2, Nat.pow_add]
    exact Nat.mul_le_mul_right _ (Nat.log2_self_le h)

theorem cut_exact (w : Toward) (s : Bool) (n : Nat) : w.cut s n 0 = n := by
  unfold Toward.cut
  simp only [Nat.zero_min, Nat.shiftLeft_zero, Nat.div_one, Nat.mod_one]
  cases w <;> simp

theorem cut_scale {n : Nat} (h : n ≠ 0) (s : Bool) (d k : Nat) : Toward.even.cut s (n * 2 ^ k) (d + k) = Toward.even.cut s n d := by
  unfold Toward.cut
  have hp : 0 < 2 ^ k := Nat.two_pow_pos k
  have e1 : 1 <<< min (d + k) ((n * 2 ^ k).log2 + 2) = (1 <<< min d (n.log2 + 2)) * 2 ^ k := by
    rw [log2_scale h, Nat.shiftLeft_eq, Nat.shiftLeft_eq, Nat.one_mul, Nat.one_mul, ← Nat.pow_add]
    congr 1
    omega
  rw [e1]
  generalize 1 <<< min d (n.log2 + 2) = g
  simp only
  rw [Nat.mul_div_mul_right _ _ hp, Nat.mul_mod_mul_right]
  have e2 : (g * 2 ^ k < 2 * (n % g * 2 ^ k)) ↔ (g < 2 * (n % g)) := by
    rw [← Nat.mul_assoc]
    exact Nat.mul_lt_mul_right hp
  have e3 : (g * 2 ^ k = 2 * (n % g * 2 ^ k)) ↔ (g = 2 * (n % g)) := by
    rw [← Nat.mul_assoc]
    exact Nat.mul_left_inj (Nat.ne_of_gt hp)
  have e4 : (g * 2 ^ k == 2 * (n % g * 2 ^ k)) = (g == 2 * (n % g)) := by
    rw [Bool.eq_iff_iff]; simpa using e3
  simp only [e2, e4]

theorem near_scale {m : Nat} (h : m ≠ 0) (s : Bool) (p : Int) (k : Nat) : dbl.nearest s (m * 2 ^ k) (p - k) = dbl.nearest s m p := by
  have h2 : m * 2 ^ k ≠ 0 := Nat.mul_ne_zero h (Nat.ne_of_gt (Nat.two_pow_pos k))
  unfold Format.nearest
  rw [if_neg h, if_neg h2, log2_scale h]
  have e1 : p - (k : Int) + ((m.log2 + k : Nat) : Int) - (dbl.fractionBits : Int) = p + (m.log2 : Int) - (dbl.fractionBits : Int) := by push_cast; omega
  simp only [e1]
  generalize max (p + (m.log2 : Int) - (dbl.fractionBits : Int)) dbl.leastPlace = last
  have e2 : Toward.even.cut s ((m * 2 ^ k) <<< (p - k - last).toNat) (last - (p - k)).toNat = Toward.even.cut s (m <<< (p - last).toNat) (last - p).toNat := by
    rw [Nat.shiftLeft_eq, Nat.shiftLeft_eq]
    rcases Int.lt_or_le (p - k) last with h3 | h3
    · have e3 : (p - k - last).toNat = 0 := by omega
      rw [e3, Nat.pow_zero, Nat.mul_one]
      rcases Int.lt_or_le p last with h4 | h4
      · have e4 : (p - last).toNat = 0 := by omega
        have e5 : (last - (p - k)).toNat = (last - p).toNat + k := by omega
        rw [e4, e5, Nat.pow_zero, Nat.mul_one, cut_scale h]
      · have e4 : (last - p).toNat = 0 := by omega
        have e5 : (last - (p - k)).toNat = 0 + (k - (p - last).toNat) := by omega
        have e6 : m * 2 ^ k = m * 2 ^ (p - last).toNat * 2 ^ (k - (p - last).toNat) := by
          rw [Nat.mul_assoc, ← Nat.pow_add]; congr 2; omega
        rw [e4, e5, e6, cut_scale (Nat.mul_ne_zero h (Nat.ne_of_gt (Nat.two_pow_pos _)))]
    · have e3 : (last - (p - k)).toNat = 0 := by omega
      have e4 : (last - p).toNat = 0 := by omega
      have e5 : (p - last).toNat = k + (p - k - last).toNat := by omega
      rw [e3, e4, e5, Nat.pow_add, Nat.mul_assoc]
  rw [e2]

/-- What is written depends on the magnitude alone. -/
theorem near_mag {m n : Nat} {i j : Int} (hm : m ≠ 0) (hn : n ≠ 0) (hi : -1074 ≤ i) (hj : -1074 ≤ j) (h : magV m i = magV n j) (s : Bool) : dbl.nearest s m i = dbl.nearest s n j := by
  rw [← near_scale hm s i (i + 1074).toNat, ← near_scale hn s j (j + 1074).toNat]
  unfold magV at h
  rw [h]
  congr 1
  omega

theorem word_parts (s : Bool) {r : Nat} (h : r < two63) : dbl.word s r < two64 ∧ sgn (dbl.word s r) = s ∧ dbl.word s r % two63 = r := by
  unfold Format.word
  rw [dbl_sign]
  unfold sgn two64 two63 at *
  cases s with
  | true =>
    refine ⟨by simp; omega, ?_, by simp; omega⟩
    have : (9223372036854775808 + r) / 9223372036854775808 = 1 := by omega
    simp [this]
  | false =>
    refine ⟨by simp; omega, ?_, by simp; omega⟩
    have : r / 9223372036854775808 = 0 := by omega
    simp [this]

theorem word_self {x : Nat} (hx : x < two64) : dbl.word (sgn x) (x % two63) = x := by
  obtain ⟨h1, h2, h3⟩ := word_parts (sgn x) (r := x % two63) (Nat.mod_lt _ (by unfold two63; omega))
  exact word_eq h1 hx h2 h3

/-- A word that is none is written as it was read. -/
theorem write_read {x : Nat} (hx : x < two64) (hn : isN x = false) : dbl.write (dbl.read x) = x := by
  rcases isN_false hn with h | h
  · obtain ⟨m, i, h1, h2, h3⟩ := read_num h
    rw [h1]
    show dbl.nearest (sgn x) m i = x
    unfold Format.nearest
    rw [dbl_place, dbl_binade, dbl_inf, show dbl.fractionBits = 52 from rfl]
    rcases h3 with ⟨h3, rfl, rfl⟩ | ⟨h3, rfl, rfl⟩
    · by_cases h0 : x % two63 = 0
      · rw [if_pos h0, ← h0]; exact word_self hx
      · rw [if_neg h0]
        have hl : (x % two63).log2 < 52 := (Nat.log2_lt h0).2 h3
        have e1 : max ((-1074 : Int) + ((x % two63).log2 : Int) - (52 : Nat)) (-1074) = -1074 := by omega
        simp only [e1]
        rw [show ((-1074 : Int) - -1074).toNat = 0 from rfl, Nat.shiftLeft_zero, cut_exact, Nat.zero_mul, Nat.zero_add, Nat.min_eq_left (by omega)]
        exact word_self hx
    · have hm0 : 4503599627370496 + x % two63 % 4503599627370496 ≠ 0 := by omega
      rw [if_neg hm0]
      have hl : (4503599627370496 + x % two63 % 4503599627370496).log2 = 52 := by
        apply Nat.le_antisymm
        · apply Nat.le_of_lt_succ; rw [Nat.log2_lt hm0]; omega
        · rw [Nat.le_log2 hm0]; omega
      rw [hl]
      have e1 : max ((-1074 : Int) + ((x % two63 / 4503599627370496 - 1 : Nat) : Int) + ((52 : Nat) : Int) - ((52 : Nat) : Int)) (-1074) = -1074 + ((x % two63 / 4503599627370496 - 1 : Nat) : Int) := by omega
      simp only [e1]
      rw [Int.sub_self, show (0 : Int).toNat = 0 from rfl, Nat.shiftLeft_zero, cut_exact]
      have e2 : (-1074 + ((x % two63 / 4503599627370496 - 1 : Nat) : Int) - -1074).toNat = x % two63 / 4503599627370496 - 1 := by omega
      rw [e2]
      have e3 : (x % two63 / 4503599627370496 - 1) * 4503599627370496 + (4503599627370496 + x % two63 % 4503599627370496) = x % two63 := by
        have := Nat.div_add_mod (x % two63) 4503599627370496
        have : 1 ≤ x % two63 / 4503599627370496 := (Nat.one_le_div_iff (by decide)).2 h3
        omega
      rw [e3, Nat.min_eq_left (by omega)]
      exact word_self hx
  · rw [read_inf h]
    show dbl.word (sgn x) dbl.infRung = x
    rw [dbl_inf, ← h]
    exact word_self hx

theorem zero_rung (n : Nat) : rungV 0 = 0 * n := by rw [Nat.zero_mul]; rfl

/-- A whole number below 2 ^ 53 is written without loss. -/
theorem write_whole (s : Bool) {q : Nat} (hq : q < 9007199254740992) : dbl.nearest s q 0 < two64 ∧ sgn (dbl.nearest s q 0) = s ∧ dbl.nearest s q 0 % two63 < 9218868437227405312 ∧ rungV (dbl.nearest s q 0 % two63) = q * 2 ^ 1074 := by
  obtain ⟨E, hE⟩ : ∃ E, E = 2 ^ 1074 := ⟨_, rfl⟩
  rw [← hE]
  unfold Format.nearest
  rw [dbl_place, dbl_binade, dbl_inf, show dbl.fractionBits = 52 from rfl]
  by_cases h0 : q = 0
  · subst h0
    rw [if_pos rfl]
    obtain ⟨h1, h2, h3⟩ := word_parts s (r := 0) (by unfold two63; omega)
    refine ⟨h1, h2, by rw [h3]; omega, (congrArg rungV h3).trans (zero_rung _)⟩
  · rw [if_neg h0]
    have hl : q.log2 < 53 := (Nat.log2_lt h0).2 hq
    have e1 : max ((0 : Int) + (q.log2 : Int) - ((52 : Nat) : Int)) (-1074) = (q.log2 : Int) - 52 := by omega
    simp only [e1]
    have e2 : ((q.log2 : Int) - 52 - 0).toNat = 0 := by omega
    have e3 : (0 - ((q.log2 : Int) - 52)).toNat = 52 - q.log2 := by omega
    have e4 : ((q.log2 : Int) - 52 - -1074).toNat = q.log2 + 1022 := by omega
    rw [e2, e3, e4, cut_exact, Nat.shiftLeft_eq]
    have hK1 : 4503599627370496 ≤ q * 2 ^ (52 - q.log2) := by
      have : 2 ^ q.log2 * 2 ^ (52 - q.log2) ≤ q * 2 ^ (52 - q.log2) := Nat.mul_le_mul_right _ (Nat.log2_self_le h0)
      rw [← Nat.pow_add, show q.log2 + (52 - q.log2) = 52 by omega] at this
      exact this
    have hK2 : q * 2 ^ (52 - q.log2) < 9007199254740992 := by
      have : q * 2 ^ (52 - q.log2) < 2 ^ (q.log2 + 1) * 2 ^ (52 - q.log2) := Nat.mul_lt_mul_of_pos_right Nat.lt_log2_self (Nat.two_pow_pos _)
      rw [← Nat.pow_add, show q.log2 + 1 + (52 - q.log2) = 53 by omega] at this
      exact this
    have hK3 : q * 2 ^ (52 - q.log2) * 2 ^ (q.log2 + 1022) = q * E := by
      rw [Nat.mul_assoc, ← Nat.pow_add, show 52 - q.log2 + (q.log2 + 1022) = 1074 by omega, hE]
    generalize q * 2 ^ (52 - q.log2) = K at hK1 hK2 hK3
    rw [Nat.min_eq_left (by omega)]
    obtain ⟨h1, h2, h3⟩ := word_parts s (r := (q.log2 + 1022) * 4503599627370496 + K) (by unfold two63; omega)
    refine ⟨h1, h2, by rw [h3]; omega, ?_⟩
    rw [h3]
    unfold rungV
    rw [if_neg (by omega)]
    have e5 : ((q.log2 + 1022) * 4503599627370496 + K) / 4503599627370496 - 1 = q.log2 + 1022 := by omega
    have e6 : 4503599627370496 + ((q.log2 + 1022) * 4503599627370496 + K) % 4503599627370496 = K := by omega
    rw [e5, e6, hK3]

/-- What a word stands for, on the finest scale. -/
def sval (x : Nat) : Int := if sgn x then -(rungV (x % two63) : Int) else (rungV (x % two63) : Int)

theorem order_val {x y : Nat} (hx : x % two63 < 9218868437227405312) (hy : y % two63 < 9218868437227405312) : dbl.order x y = some (compare (sval x) (sval y)) := by
  obtain ⟨m, i, h1, h2, h3⟩ := read_rung hx
  obtain ⟨n, j, h4, h5, h6⟩ := read_rung hy
  unfold Format.order
  rw [h1, h4, order_num h2 h5]
  unfold sigV sval
  rw [h3, h6]

theorem not_nan {x : Nat} (h : x % two63 < 9218868437227405312) : isN x = false := by
  obtain ⟨m, i, h1, _⟩ := read_rung h
  rw [isN_iff, h1]; rfl

theorem neg_part (Q E : Nat) : (if decide (0 < Q) = true then -((Q * E : Nat) : Int) else ((Q * E : Nat) : Int)) = -((Q * E : Nat) : Int) := by
  by_cases hQ0 : 0 < Q
  · simp [hQ0]
  · have : Q = 0 := by omega
    subst this; simp

theorem zero_tail (Q E F : Nat) : decide (-((Q * E + 0 * F : Nat) : Int) < -((Q * E : Nat) : Int)) = false := by
  rw [Nat.zero_mul, Nat.add_zero]
  exact decide_eq_false (Int.lt_irrefl _)

theorem sum_part (Q E : Nat) : -((Q * E : Nat) : Int) + -(E : Int) = -(((Q + 1) * E : Nat) : Int) := by
  rw [Nat.add_mul]; push_cast; omega

/-! ### The greatest whole number that is not above -/
theorem gap_div (m d : Nat) (hm : m ≠ 0) : m / (1 <<< min d (m.log2 + 2)) = m / 2 ^ d ∧ (m % (1 <<< min d (m.log2 + 2)) = 0 ↔ m % 2 ^ d = 0) := by
  rw [Nat.shiftLeft_eq, Nat.one_mul]
  rcases Nat.le_total d (m.log2 + 2) with h | h
  · rw [Nat.min_eq_left h]; exact ⟨rfl, Iff.rfl⟩
  · rw [Nat.min_eq_right h]
    have h1 : m < 2 ^ (m.log2 + 2) := Nat.lt_trans Nat.lt_log2_self (Nat.pow_lt_pow_right (by decide) (by omega))
    have h2 : m < 2 ^ d := Nat.lt_of_lt_of_le h1 (Nat.pow_le_pow_right (by decide) h)
    rw [Nat.div_eq_of_lt h1, Nat.div_eq_of_lt h2, Nat.mod_eq_of_lt h1, Nat.mod_eq_of_lt h2]
    exact ⟨rfl, Iff.rfl⟩

theorem cut_zero {m d : Nat} (hm : m ≠ 0) (s : Bool) : Toward.zero.cut s m d = m / 2 ^ d := by
  unfold Toward.cut
  simp only [(gap_div m d hm).1, Bool.toNat_false, Nat.add_zero]

theorem cut_down {m d : Nat} (hm : m ≠ 0) (s : Bool) : Toward.down.cut s m d = m / 2 ^ d + (s && decide (m % 2 ^ d ≠ 0)).toNat := by
  unfold Toward.cut
  simp only [(gap_div m d hm).1]
  have : (m % (1 <<< min d (m.log2 + 2)) != 0) = decide (m % 2 ^ d ≠ 0) := by
    rw [Bool.eq_iff_iff]
    simp only [bne_iff_ne, ne_eq, decide_eq_true_eq]
    exact not_congr (gap_div m d hm).2
  rw [this]

/-- 2 ^ 52, and below 0. -/
def big : Nat := 4841369599423283200
def gib : Nat := 14064741636278059008
def oneB : Nat := 4607182418800017408
def geF (x y : Nat) : Bool := gtF x y || eqF x y
def leF (x y : Nat) : Bool := ltF x y || eqF x y
/-- What math.Floor comes to. -/
def flr (x : Nat) : Nat := dbl.write ((dbl.read x).integral .down)

theorem sval_big : sval big = ((4503599627370496 * 2 ^ 1074 : Nat) : Int) := by decide +kernel
theorem sval_gib : sval gib = -((4503599627370496 * 2 ^ 1074 : Nat) : Int) := by decide +kernel
theorem sval_zero : sval 0 = 0 := by decide +kernel
theorem rung_zero {r : Nat} (h : rungV r = 0) : r = 0 := rung_inj (h.trans (by decide +kernel : (0 : Nat) = rungV 0))

theorem flr_zero {x : Nat} (hx : x < two64) (h0 : x % two63 = 0) : flr x = x := by
  obtain ⟨m, i, h1, h2, h3⟩ := read_num (x := x) (by omega)
  unfold flr
  rw [h1]
  rcases h3 with ⟨_, rfl, rfl⟩ | ⟨h3, _⟩
  · rw [h0]
    have : Datum.integral .down (.number (sgn x) 0 (-1074)) = .number (sgn x) 0 0 := by
      unfold Datum.integral Toward.cut
      simp
    rw [this]
    show dbl.nearest (sgn x) 0 0 = x
    unfold Format.nearest
    rw [if_pos rfl, ← h0]
    exact word_self hx
  · omega

theorem flr_big {x : Nat} (hx : x < two64) (hr : x % two63 < 9218868437227405312) (hb : 4503599627370496 * 2 ^ 1074 ≤ rungV (x % two63)) : flr x = x := by
  have hw := write_read hx (not_nan hr)
  obtain ⟨m, i, h1, h2, h3⟩ := read_num hr
  have hv : magV m i = rungV (x % two63) := by
    obtain ⟨m', i', e1, _, e3⟩ := read_rung hr
    rw [h1] at e1; cases e1; exact e3
  have hm0 : m ≠ 0 := by
    intro e; subst e
    simp only [magV, Nat.zero_mul] at hv
    rw [← hv] at hb
    exact absurd hb (by decide +kernel)
  have hm : m < 9007199254740992 := by rcases h3 with ⟨_, rfl, _⟩ | ⟨_, rfl, _⟩ <;> omega
  have hi : 0 ≤ i := by
    rcases Int.lt_or_le i 0 with h | h
    · exfalso
      rw [← hv] at hb
      unfold magV at hb
      have h4 := Nat.pow_le_pow_right (n := 2) (show 0 < 2 by decide) (show (i + 1074).toNat ≤ 1073 by omega)
      have h5 : m * 2 ^ (i + 1074).toNat ≤ m * 2 ^ 1073 := Nat.mul_le_mul_left _ h4
      have key : ∀ E : Nat, 0 < E → m * E < 9007199254740992 * E := fun E hE => Nat.mul_lt_mul_of_pos_right hm hE
      have h6 := key _ (Nat.two_pow_pos 1073)
      have h7 : 9007199254740992 * 2 ^ 1073 = 4503599627370496 * 2 ^ 1074 := by decide +kernel
      omega
    · exact h
  unfold flr
  rw [h1] at hw ⊢
  have : Datum.integral .down (.number (sgn x) m i) = .number (sgn x) (m * 2 ^ i.toNat) 0 := by
    show Datum.number (sgn x) (Toward.down.cut (sgn x) (m <<< i.toNat) (-i).toNat) 0 = _
    rw [show (-i).toNat = 0 by omega, cut_exact, Nat.shiftLeft_eq]
  rw [this]
  show dbl.nearest (sgn x) (m * 2 ^ i.toNat) 0 = x
  have hs := near_scale hm0 (sgn x) i i.toNat
  rw [show i - (i.toNat : Int) = 0 by omega] at hs
  rw [hs]
  exact hw

theorem cmp_gt {a b : Int} : (some (compare a b) == some Ordering.gt) = decide (b < a) := by
  rw [cmp_def]
  by_cases h1 : a < b
  · rw [if_pos h1]; have : ¬ b < a := by omega
    simp [this]
  · rw [if_neg h1]
    by_cases h2 : a = b
    · rw [if_pos h2]; have : ¬ b < a := by omega
      simp [this]
    · rw [if_neg h2]; have : b < a := by omega
      simp [this]
theorem cmp_lt {a b : Int} : (some (compare a b) == some Ordering.lt) = decide (a < b) := by
  rw [cmp_def]
  by_cases h1 : a < b
  · rw [if_pos h1]; simp [h1]
  · rw [if_neg h1]
    by_cases h2 : a = b
    · rw [if_pos h2]; simp [h1]
    · rw [if_neg h2]; simp [h1]
theorem cmp_eqb {a b : Int} : (some (compare a b) == some Ordering.eq) = decide (a = b) := by
  rw [cmp_def]
  by_cases h1 : a < b
  · rw [if_pos h1]; have : ¬ a = b := by omega
    simp [this]
  · rw [if_neg h1]
    by_cases h2 : a = b
    · rw [if_pos h2]; simp [h2]
    · rw [if_neg h2]; simp [h2]

/-- Numbers that are turned into whole ones. -/
theorem flr_main {x : Nat} (hx : x < two64) (hr : x % two63 < 9218868437227405312) (h0 : x % two63 ≠ 0) (hb : rungV (x % two63) < 4503599627370496 * 2 ^ 1074) :
    ∃ n : Int, (dbl.read x).toInt .zero = some n ∧ -4503599627370496 ≤ n ∧ n ≤ 4503599627370496 ∧ isN (flr x) = false ∧
      ((gtF (FloatKind.f64.nearest n) x = false ∧ FloatKind.f64.nearest n = flr x) ∨ (gtF (FloatKind.f64.nearest n) x = true ∧ dbl.sub (FloatKind.f64.nearest n) oneB = some (flr x))) := by
  obtain ⟨m, i, h1, h2, h3⟩ := read_num hr
  have hv : magV m i = rungV (x % two63) := by
    obtain ⟨m', i', e1, _, e3⟩ := read_rung hr
    rw [h1] at e1; cases e1; exact e3
  have hm0 : m ≠ 0 := by
    rcases h3 with ⟨_, rfl, _⟩ | ⟨_, rfl, _⟩ <;> omega
  have hi : i < 0 := by
    rcases Int.lt_or_le i 0 with h | h
    · exact h
    · exfalso
      rcases h3 with ⟨_, _, e⟩ | ⟨h3, e, _⟩
      · omega
      · rw [← hv] at hb
        unfold magV at hb
        have h4 := Nat.pow_le_pow_right (n := 2) (show 0 < 2 by decide) (show 1074 ≤ (i + 1074).toNat by omega)
        have key : ∀ E F : Nat, E ≤ F → 4503599627370496 * E ≤ m * F := fun E F hE => Nat.mul_le_mul (by omega) hE
        have h5 := key _ _ h4
        omega
  obtain ⟨d, hd⟩ : ∃ d : Nat, i = -(d : Int) := ⟨(-i).toNat, by omega⟩
  subst hd
  have hd1 : d ≤ 1074 := by omega
  have hint : ∀ w : Toward, Datum.integral w (.number (sgn x) m (-(d : Int))) = .number (sgn x) (w.cut (sgn x) m d) 0 := by
    intro w
    show Datum.number (sgn x) (w.cut (sgn x) (m <<< (-(d : Int)).toNat) (- -(d : Int)).toNat) 0 = _
    rw [show (-(d : Int)).toNat = 0 by omega, show (- -(d : Int)).toNat = d by omega, Nat.shiftLeft_zero]
  have hmag : magV m (-(d : Int)) = m * 2 ^ (1074 - d) := by
    unfold magV; congr 2; omega
  rw [hmag] at hv
  -- the whole part
  have hq := Nat.div_add_mod m (2 ^ d)
  have hrest : m % 2 ^ d < 2 ^ d := Nat.mod_lt _ (Nat.two_pow_pos d)
  have hqs : rungV (x % two63) = (m / 2 ^ d) * 2 ^ 1074 + (m % 2 ^ d) * 2 ^ (1074 - d) := by
    rw [← hv]
    have e : 2 ^ 1074 = 2 ^ d * 2 ^ (1074 - d) := by rw [← Nat.pow_add]; congr 1; omega
    calc m * 2 ^ (1074 - d) = (2 ^ d * (m / 2 ^ d) + m % 2 ^ d) * 2 ^ (1074 - d) := by rw [hq]
      _ = (m / 2 ^ d) * (2 ^ d * 2 ^ (1074 - d)) + (m % 2 ^ d) * 2 ^ (1074 - d) := by rw [Nat.add_mul, Nat.mul_comm (2 ^ d) (m / 2 ^ d), Nat.mul_assoc]
      _ = _ := by rw [← e]
  have hqb : m / 2 ^ d < 4503599627370496 := by
    rcases Nat.lt_or_ge (m / 2 ^ d) 4503599627370496 with h | h
    · exact h
    · have := Nat.mul_le_mul_right (2 ^ 1074) h
      omega
  have hpos : 0 < 2 ^ (1074 - d) := Nat.two_pow_pos _
  have hflr : flr x = dbl.nearest (sgn x) (m / 2 ^ d + (sgn x && decide (m % 2 ^ d ≠ 0)).toNat) 0 := by
    unfold flr
    rw [h1, hint, cut_down hm0]
    rfl
  have htoInt : (dbl.read x).toInt .zero = some (signed (sgn x) (m / 2 ^ d) 0) := by
    unfold Datum.toInt
    rw [h1, hint, cut_zero hm0]
  generalize hQ : m / 2 ^ d = Q at *
  generalize hR : m % 2 ^ d = R at *
  have hsig : signed (sgn x) Q 0 = if sgn x then -(Q : Int) else (Q : Int) := by unfold signed; simp
  refine ⟨_, htoInt, by rw [hsig]; split <;> omega, by rw [hsig]; split <;> omega, ?_, ?_⟩
  · rw [hflr]
    have : Q + (sgn x && decide (R ≠ 0)).toNat < 9007199254740992 := by cases (sgn x && decide (R ≠ 0)) <;> simp <;> omega
    exact not_nan (write_whole (sgn x) this).2.2.1
  · have hx1 : (sval x) = if sgn x then -((Q * 2 ^ 1074 + R * 2 ^ (1074 - d) : Nat) : Int) else ((Q * 2 ^ 1074 + R * 2 ^ (1074 - d) : Nat) : Int) := by
      unfold sval; rw [hqs]
    cases hs : sgn x with
    | false =>
      left
      rw [hs] at hsig hflr hx1
      simp only [Bool.false_and, Bool.toNat_false, Nat.add_zero, Bool.false_eq_true, if_false] at hflr hsig hx1
      rw [hsig]
      have hnear : FloatKind.f64.nearest (Q : Int) = dbl.nearest false Q 0 := by
        unfold FloatKind.nearest FloatKind.encode
        rw [show (decide ((Q : Int) < 0)) = false by simp, Int.natAbs_natCast]
        rfl
      rw [hnear, hflr]
      refine ⟨?_, rfl⟩
      obtain ⟨_, w2, w3, w4⟩ := write_whole false (q := Q) (by omega)
      unfold gtF
      rw [order_val w3 hr, cmp_gt, hx1]
      have : sval (dbl.nearest false Q 0) = (Q * 2 ^ 1074 : Nat) := by unfold sval; rw [w2, w4]; exact if_neg Bool.false_ne_true
      rw [this]
      simp only [decide_eq_false_iff_not]
      omega
    | true =>
      rw [hs] at hsig hflr hx1
      simp only [Bool.true_and, if_true] at hflr hsig hx1
      rw [hsig]
      have hnear : FloatKind.f64.nearest (-(Q : Int)) = dbl.nearest (decide (0 < Q)) Q 0 := by
        unfold FloatKind.nearest FloatKind.encode
        have : decide (-(Q : Int) < 0) = decide (0 < Q) := by rw [Bool.eq_iff_iff]; simp
        rw [this, Int.natAbs_neg, Int.natAbs_natCast]
        rfl
      rw [hnear]
      obtain ⟨_, w2, w3, w4⟩ := write_whole (decide (0 < Q)) (q := Q) (by omega)
      have hsv : sval (dbl.nearest (decide (0 < Q)) Q 0) = -((Q * 2 ^ 1074 : Nat) : Int) := by
        unfold sval; rw [w2, w4]
        exact neg_part Q _
      by_cases hR0 : R = 0
      · left
        have hQ0 : 0 < Q := by
          rcases Nat.eq_zero_or_pos Q with h | h
          · rw [h, hR0] at hq; simp at hq; omega
          · exact h
        rw [hflr, hR0]
        simp only [hQ0, decide_true, ne_eq, not_true_eq_false, decide_false, Bool.toNat_false, Nat.add_zero]
        simp only [hQ0, decide_true] at hsv w3
        refine ⟨?_, trivial⟩
        unfold gtF
        rw [order_val w3 hr, cmp_gt, hsv, hx1, hR0]
        exact zero_tail Q _ _
      · right
        constructor
        · unfold gtF
          rw [order_val w3 hr, cmp_gt, hsv, hx1]
          have : 0 < R * 2 ^ (1074 - d) := Nat.mul_pos (by omega) hpos
          simp only [decide_eq_true_eq]
          omega
        · rw [hflr]
          simp only [hR0, ne_eq, not_false_eq_true, decide_true, Bool.toNat_true]
          obtain ⟨a, j, e1, e2, e3⟩ := read_rung w3
          rw [w4] at e3
          rw [w2] at e1
          unfold Format.sub
          rw [e1]
          have one : dbl.read oneB = .number false 4503599627370496 (-52) := by decide +kernel
          rw [one]
          show Option.map dbl.write (some _) = _
          simp only [Option.map_some, Option.some.injEq]
          have hb1 : -1074 ≤ min j (-52) := by omega
          have s1 := signed_scale (s := decide (0 < Q)) (m := a) hb1 (Int.min_le_left j (-52))
          have s2 := signed_scale (s := true) (m := 4503599627370496) hb1 (Int.min_le_right j (-52))
          have v1 : sigV (decide (0 < Q)) a j = -((Q * 2 ^ 1074 : Nat) : Int) := by
            unfold sigV; rw [e3]; exact neg_part Q _
          have v2 : sigV true 4503599627370496 (-52) = -((2 ^ 1074 : Nat) : Int) := by decide +kernel
          rw [v1] at s1
          rw [v2] at s2
          simp only [Bool.not_false]
          generalize hA : signed (decide (0 < Q)) a (j - min j (-52)).toNat = A at s1 ⊢
          generalize hB : signed true 4503599627370496 (-52 - min j (-52)).toNat = B at s2 ⊢
          have hc : 0 < 2 ^ (min j (-52) + 1074).toNat := Nat.two_pow_pos _
          generalize hC : 2 ^ (min j (-52) + 1074).toNat = C at s1 s2 hc
          have hsum : (A + B) * (C : Int) = -(((Q + 1) * 2 ^ 1074 : Nat) : Int) := by
            rw [Int.add_mul, ← s1, ← s2]; exact sum_part Q _
          have hneg : A + B < 0 := by
            rcases Int.lt_or_le (A + B) 0 with h | h
            · exact h
            · exfalso
              have h4 : 0 ≤ (A + B) * (C : Int) := Int.mul_nonneg h (Int.natCast_nonneg C)
              have key : ∀ E : Nat, 0 < E → 0 < (Q + 1) * E := fun E h => Nat.mul_pos (by omega) h
              have h5 := key _ (Nat.two_pow_pos 1074)
              omega
          rw [if_neg (by omega), show decide (A + B < 0) = true by simpa using hneg]
          show dbl.nearest true (A + B).natAbs (min j (-52)) = dbl.nearest true (Q + 1) 0
          refine near_mag (by omega) (by omega) hb1 (by omega) ?_ true
          unfold magV
          rw [hC, show ((0 : Int) + 1074).toNat = 1074 from rfl]
          have h6 : (((A + B).natAbs * C : Nat) : Int) = (((Q + 1) * 2 ^ 1074 : Nat) : Int) := by
            have : ((A + B).natAbs : Int) = -(A + B) := by omega
            rw [Int.natCast_mul, this, Int.neg_mul, hsum]
            exact Int.neg_neg _
          exact Int.ofNat_inj.1 h6
end Go.Ab
