/- Floats: what words stand for, on one scale; who is equal is one word but for the zeros' signs. -/
import Derived.Test.YtcinmjajfccbaaaGreatDoorFa
namespace Go.Ab
open Go.RowKit Ieee

/-- A number's magnitude, in units of the least one. -/
def magV (m : Nat) (i : Int) : Nat := m * 2 ^ (i + 1074).toNat
/-- With its sign. -/
def sigV (s : Bool) (m : Nat) (i : Int) : Int := if s then -(magV m i : Int) else (magV m i : Int)

theorem signed_eq (s : Bool) (m k : Nat) : signed s m k = (if s then -1 else 1) * ((m * 2 ^ k : Nat) : Int) := by
  unfold signed
  rw [Nat.shiftLeft_eq]
  cases s <;> simp

theorem sigV_eq (s : Bool) (m : Nat) (i : Int) : sigV s m i = (if s then -1 else 1) * ((magV m i : Nat) : Int) := by
  unfold sigV
  cases s <;> simp

theorem signed_scale {s : Bool} {m : Nat} {i b : Int} (hb : -1074 ≤ b) (hi : b ≤ i) : sigV s m i = signed s m (i - b).toNat * ((2 ^ (b + 1074).toNat : Nat) : Int) := by
  rw [sigV_eq, signed_eq]
  unfold magV
  have : (i + 1074).toNat = (i - b).toNat + (b + 1074).toNat := by omega
  rw [this, Nat.pow_add, Int.mul_assoc]
  congr 1
  push_cast
  rw [Int.mul_assoc]

theorem cmp_def (a b : Int) : compare a b = if a < b then .lt else if a = b then .eq else .gt := rfl

theorem compare_scale (a b : Int) {c : Int} (hc : 0 < c) : compare (a * c) (b * c) = compare a b := by
  rw [cmp_def, cmp_def]
  rcases Int.lt_trichotomy a b with h | h | h
  · rw [if_pos h, if_pos (Int.mul_lt_mul_of_pos_right h hc)]
  · subst h; simp
  · have := Int.mul_lt_mul_of_pos_right h hc
    rw [if_neg (by omega), if_neg (by omega), if_neg (by omega), if_neg (by omega)]

theorem cmp_eq {a b : Int} (h : compare a b = .eq) : a = b := by
  rw [cmp_def] at h
  split at h
  · cases h
  · split at h
    · assumption
    · cases h

/-- The order of two numbers. -/
theorem order_num {s t : Bool} {m n : Nat} {i j : Int} (hi : -1074 ≤ i) (hj : -1074 ≤ j) : (Datum.number s m i).order (.number t n j) = some (compare (sigV s m i) (sigV t n j)) := by
  unfold Datum.order
  have hb : -1074 ≤ min i j := by omega
  rw [signed_scale hb (Int.min_le_left i j), signed_scale hb (Int.min_le_right i j), compare_scale _ _ (Int.ofNat_lt.2 (Nat.two_pow_pos _))]

theorem dbl_place : dbl.leastPlace = -1074 := by decide +kernel
theorem dbl_binade : dbl.binade = 4503599627370496 := by decide +kernel
theorem dbl_inf : dbl.infRung = 9218868437227405312 := by decide +kernel
theorem dbl_sign : dbl.signWeight = 9223372036854775808 := by decide +kernel

/-- What a word below infinity stands for. -/
theorem read_num {x : Nat} (h : x % two63 < 9218868437227405312) : ∃ m i, dbl.read x = .number (sgn x) m i ∧ -1074 ≤ i ∧
    ((x % two63 < 4503599627370496 ∧ m = x % two63 ∧ i = -1074) ∨
     (4503599627370496 ≤ x % two63 ∧ m = 4503599627370496 + x % two63 % 4503599627370496 ∧ i = -1074 + (x % two63 / 4503599627370496 - 1 : Nat))) := by
  unfold Format.read
  rw [dbl_sign, dbl_binade, dbl_inf, dbl_place]
  unfold two63 at *
  by_cases h1 : x % 9223372036854775808 < 4503599627370496
  · rw [if_pos h1]
    exact ⟨_, _, rfl, by omega, .inl ⟨h1, rfl, rfl⟩⟩
  · rw [if_neg h1, if_pos h]
    exact ⟨_, _, rfl, by omega, .inr ⟨by omega, rfl, rfl⟩⟩

theorem read_inf {x : Nat} (h : x % two63 = 9218868437227405312) : dbl.read x = .infinity (sgn x) := by
  unfold Format.read
  rw [dbl_sign, dbl_binade, dbl_inf]
  unfold two63 at *
  rw [if_neg (by omega), if_neg (by omega), if_pos h]
  rfl

theorem read_nan {x : Nat} (h : 9218868437227405312 < x % two63) : isN x = true := by
  rw [isN_iff]
  unfold Format.read
  rw [dbl_sign, dbl_binade, dbl_inf]
  unfold two63 at *
  rw [if_neg (by omega), if_neg (by omega), if_neg (by omega)]
  rfl

theorem isN_false {x : Nat} (h : isN x = false) : x % two63 < 9218868437227405312 ∨ x % two63 = 9218868437227405312 := by
  rcases Nat.lt_or_ge 9218868437227405312 (x % two63) with h1 | h1
  · rw [read_nan h1] at h; cases h
  · omega

/-- The magnitude that a rung has. -/
def rungV (r : Nat) : Nat := if r < 4503599627370496 then r else (4503599627370496 + r % 4503599627370496) * 2 ^ (r / 4503599627370496 - 1)

theorem read_rung {x : Nat} (h : x % two63 < 9218868437227405312) : ∃ m i, dbl.read x = .number (sgn x) m i ∧ -1074 ≤ i ∧ magV m i = rungV (x % two63) := by
  obtain ⟨m, i, h1, h2, h3⟩ := read_num h
  refine ⟨m, i, h1, h2, ?_⟩
  unfold magV rungV
  rcases h3 with ⟨h3, rfl, rfl⟩ | ⟨h3, rfl, rfl⟩
  · rw [if_pos h3]; simp
  · rw [if_neg (by omega)]
    have : (-1074 + ((x % two63 / 4503599627370496 - 1 : Nat) : Int) + 1074).toNat = x % two63 / 4503599627370496 - 1 := by omega
    rw [this]

theorem rung_lt {a b : Nat} (h : a < b) : rungV a < rungV b := by
  unfold rungV
  by_cases ha : a < 4503599627370496
  · rw [if_pos ha]
    by_cases hb : b < 4503599627370496
    · rw [if_pos hb]; exact h
    · rw [if_neg hb]
      have : 1 ≤ 2 ^ (b / 4503599627370496 - 1) := Nat.one_le_two_pow
      have := Nat.mul_le_mul (Nat.le_add_right 4503599627370496 (b % 4503599627370496)) this
      omega
  · rw [if_neg ha, if_neg (by omega)]
    rcases Nat.lt_or_ge (a / 4503599627370496) (b / 4503599627370496) with h1 | h1
    · have e1 : b / 4503599627370496 - 1 = (b / 4503599627370496 - 1 - (a / 4503599627370496)) + (a / 4503599627370496 - 1) + 1 := by omega
      have h2 : (4503599627370496 + a % 4503599627370496) < 2 * 4503599627370496 := by omega
      have hp : 0 < 2 ^ (a / 4503599627370496 - 1) := Nat.two_pow_pos _
      have h3 : (4503599627370496 + a % 4503599627370496) * 2 ^ (a / 4503599627370496 - 1) < 2 * 4503599627370496 * 2 ^ (a / 4503599627370496 - 1) := Nat.mul_lt_mul_of_pos_right h2 hp
      refine Nat.lt_of_lt_of_le h3 ?_
      rw [e1, Nat.pow_succ, Nat.pow_add]
      have h4 : 1 ≤ 2 ^ (b / 4503599627370496 - 1 - (a / 4503599627370496)) := Nat.one_le_two_pow
      have h5 : 2 ^ (a / 4503599627370496 - 1) ≤ 2 ^ (b / 4503599627370496 - 1 - (a / 4503599627370496)) * 2 ^ (a / 4503599627370496 - 1) := Nat.le_mul_of_pos_left _ h4
      calc 2 * 4503599627370496 * 2 ^ (a / 4503599627370496 - 1) = 4503599627370496 * (2 ^ (a / 4503599627370496 - 1) * 2) := by
            rw [Nat.mul_comm 2 4503599627370496, Nat.mul_assoc, Nat.mul_comm 2]
        _ ≤ (4503599627370496 + b % 4503599627370496) * (2 ^ (b / 4503599627370496 - 1 - a / 4503599627370496) * 2 ^ (a / 4503599627370496 - 1) * 2) :=
            Nat.mul_le_mul (Nat.le_add_right _ _) (Nat.mul_le_mul_right 2 h5)
    · have e1 : a / 4503599627370496 = b / 4503599627370496 := by
        have := Nat.div_le_div_right (c := 4503599627370496) (Nat.le_of_lt h)
        omega
      rw [e1]
      exact Nat.mul_lt_mul_of_pos_right (by omega) (Nat.two_pow_pos _)

theorem rung_inj {a b : Nat} (h : rungV a = rungV b) : a = b := by
  rcases Nat.lt_trichotomy a b with h1 | h1 | h1
  · have := rung_lt h1; omega
  · exact h1
  · have := rung_lt h1; omega

theorem word_eq {x y : Nat} (hx : x < two64) (hy : y < two64) (hs : sgn x = sgn y) (hr : x % two63 = y % two63) : x = y := by
  rw [sgn_iff hx, sgn_iff hy] at hs
  unfold two64 two63 at *
  have : (9223372036854775808 ≤ x) ↔ (9223372036854775808 ≤ y) := by simpa using hs
  omega

theorem toNat_inj {a b : Bool} (h : a.toNat = b.toNat) : a = b := by cases a <;> cases b <;> simp_all

/-- Equal numbers of one sign are one word. -/
theorem eq_word {x y : Nat} (hx : x < two64) (hy : y < two64) (h : eqF x y = true) (hs : sgn x = sgn y) : x = y := by
  have h : dbl.order x y = some .eq := by simpa [eqF] using h
  have nx : isN x = false := by
    cases hn : isN x with
    | false => rfl
    | true => rw [order_nan_l hn] at h; cases h
  have ny : isN y = false := by
    cases hn : isN y with
    | false => rfl
    | true => rw [order_nan_r hn] at h; cases h
  refine word_eq hx hy hs ?_
  unfold Format.order at h
  rcases isN_false nx with h1 | h1 <;> rcases isN_false ny with h2 | h2
  · obtain ⟨m, i, e1, hi, hm⟩ := read_rung h1
    obtain ⟨n, j, e2, hj, hn⟩ := read_rung h2
    rw [e1, e2, order_num hi hj] at h
    have h3 : sigV (sgn x) m i = sigV (sgn y) n j := cmp_eq (Option.some.inj h)
    rw [hs] at h3
    unfold sigV at h3
    apply rung_inj
    rw [← hm, ← hn]
    cases hsy : sgn y <;> simp [hsy] at h3 <;> omega
  · obtain ⟨m, i, e1, hi, hm⟩ := read_rung h1
    rw [e1, read_inf h2] at h
    cases hsy : sgn y <;> simp [Datum.order, hsy] at h
  · obtain ⟨m, i, e1, hi, hm⟩ := read_rung h2
    rw [e1, read_inf h1] at h
    cases hsx : sgn x <;> simp [Datum.order, hsx] at h
  · rw [h1, h2]

/-- Of two that are not none one is less, or they are equal. -/
theorem order_some {x y : Nat} (hx : isN x = false) (hy : isN y = false) : ∃ o, dbl.order x y = some o := by
  rw [isN_iff] at hx hy
  unfold Format.order
  cases h1 : dbl.read x with
  | nan s t => rw [h1] at hx; cases hx
  | infinity s => cases h2 : dbl.read y with
    | nan s t => rw [h2] at hy; cases hy
    | _ => exact ⟨_, rfl⟩
  | number s m i => cases h2 : dbl.read y with
    | nan s t => rw [h2] at hy; cases hy
    | _ => exact ⟨_, rfl⟩

/-! ### The lesser one, the greater one -/
def b2i (b : Bool) : Int := if b then 1 else 0
/-- formularyref3.Order -/
def r3Ord (x y : Nat) : Int :=
  if canonS x = canonS y then 0 else if isN x then 1 else if isN y then -1 else if ltF x y then -1 else if gtF x y then 1 else if sgn x then -1 else 1
/-- num.Order -/
def nOrd (x y : Nat) : Int :=
  if ltF x y then -1 else if gtF x y then 1 else if eqF x y then b2i (sgn y) - b2i (sgn x) else b2i (isN x) - b2i (isN y)
def r3Min (x y : Nat) : Nat := if isN x then nanB else if isN y then nanB else if r3Ord x y ≤ 0 then x else y
def r3Max (x y : Nat) : Nat := if isN x then nanB else if isN y then nanB else if r3Ord x y ≥ 0 then x else y
/-- num.first -/
def nFst (x y : Nat) (o : Int) : Nat := if isN x then canonS x else if eqF y y then (if o * nOrd x y ≤ 0 then canonS x else canonS y) else canonS y

theorem eqF_self {x : Nat} : eqF x x = !(isN x) := by
  unfold eqF isN
  cases dbl.order x x with
  | none => rfl
  | some o => cases o <;> rfl

theorem ord_cases {x y : Nat} (hx : isN x = false) (hy : isN y = false) : (ltF x y = true ∧ gtF x y = false ∧ eqF x y = false ∧ x ≠ y) ∨ (ltF x y = false ∧ gtF x y = true ∧ eqF x y = false ∧ x ≠ y) ∨ (ltF x y = false ∧ gtF x y = false ∧ eqF x y = true) := by
  obtain ⟨o, ho⟩ := order_some hx hy
  have hne : o ≠ .eq → x ≠ y := fun h e => by
    subst e
    have h1 : eqF x x = !(isN x) := eqF_self
    rw [hx] at h1
    unfold eqF at h1
    rw [ho] at h1
    cases o <;> simp_all
  unfold ltF gtF eqF
  rw [ho]
  cases o with
  | lt => exact .inl ⟨rfl, rfl, rfl, hne (by simp)⟩
  | gt => exact .inr (.inl ⟨rfl, rfl, rfl, hne (by simp)⟩)
  | eq => exact .inr (.inr ⟨rfl, rfl, rfl⟩)

theorem first_nan {x y : Nat} {o : Int} (h : isN x = true ∨ isN y = true) : nFst (canonS x) (canonS y) o = nanB := by
  unfold nFst
  rw [isN_canon]
  cases hx : isN x with
  | true => simp [canon_canon, canon_nan hx, canon_nan isN_nan]
  | false =>
    have hy : isN y = true := by rcases h with h | h <;> simp_all
    have : eqF (canonS y) (canonS y) = false := by rw [eqF_self, isN_canon, hy]; rfl
    rw [if_neg (by simp), this, if_neg (by simp), canon_canon, canon_nan hy]

theorem min_same {x y : Nat} (hx : x < two64) (hy : y < two64) : r3Min x y = nFst (canonS x) (canonS y) 1 := by
  cases nx : isN x with
  | true => rw [first_nan (.inl nx)]; simp [r3Min, nx]
  | false =>
    cases ny : isN y with
    | true => rw [first_nan (.inr ny)]; simp [r3Min, nx, ny]
    | false =>
      rw [canon_of nx, canon_of ny]
      have e2 : eqF y y = true := by rw [eqF_self, ny]; rfl
      unfold r3Min nFst
      simp only [nx, ny, Bool.false_eq_true, if_false, e2, if_true, canon_of nx, canon_of ny, Int.one_mul]
      unfold r3Ord nOrd
      simp only [nx, ny, Bool.false_eq_true, if_false, canon_of nx, canon_of ny]
      rcases ord_cases nx ny with ⟨h1, h2, h3, h4⟩ | ⟨h1, h2, h3, h4⟩ | ⟨h1, h2, h3⟩
      · simp [h1, h4]
      · simp [h1, h2, h4]
      · simp only [h1, h2, h3, Bool.false_eq_true, if_false, if_true]
        by_cases he : x = y
        · subst he; simp
        · have hs : sgn x ≠ sgn y := fun hs => he (eq_word hx hy h3 hs)
          cases h5 : sgn x <;> cases h6 : sgn y <;> simp_all [b2i]

theorem max_same {x y : Nat} (hx : x < two64) (hy : y < two64) : r3Max x y = nFst (canonS x) (canonS y) (-1) := by
  cases nx : isN x with
  | true => rw [first_nan (.inl nx)]; simp [r3Max, nx]
  | false =>
    cases ny : isN y with
    | true => rw [first_nan (.inr ny)]; simp [r3Max, nx, ny]
    | false =>
      rw [canon_of nx, canon_of ny]
      have e2 : eqF y y = true := by rw [eqF_self, ny]; rfl
      unfold r3Max nFst
      simp only [nx, ny, Bool.false_eq_true, if_false, e2, if_true, canon_of nx, canon_of ny]
      unfold r3Ord nOrd
      simp only [nx, ny, Bool.false_eq_true, if_false, canon_of nx, canon_of ny]
      rcases ord_cases nx ny with ⟨h1, h2, h3, h4⟩ | ⟨h1, h2, h3, h4⟩ | ⟨h1, h2, h3⟩
      · simp [h1, h4]
      · simp [h1, h2, h4]
      · simp only [h1, h2, h3, Bool.false_eq_true, if_false, if_true]
        by_cases he : x = y
        · subst he; simp
        · have hs : sgn x ≠ sgn y := fun hs => he (eq_word hx hy h3 hs)
          cases h5 : sgn x <;> cases h6 : sgn y <;> simp_all [b2i]
end Go.Ab
