/- Floats: numbers that are none, signs, order. No program here. -/
import Derived.Test.YtcinmjajfccbaaaGreatDoorCa
namespace Go.Ab
open Go.RowKit Ieee

abbrev dbl := Ieee.double

def nanB : Nat := 9221120237041090561
/-- Is it none? -/
def isN (x : Nat) : Bool := dbl.order x x != some .eq
def canonS (x : Nat) : Nat := if isN x then nanB else x
def flS (r : Option Nat) : Nat := match r with | some z => canonS z | none => nanB
def ltF (x y : Nat) : Bool := dbl.order x y == some .lt
def gtF (x y : Nat) : Bool := dbl.order x y == some .gt
def eqF (x y : Nat) : Bool := dbl.order x y == some .eq
def sgn (x : Nat) : Bool := x / 9223372036854775808 % 2 == 1

theorem order_self (d : Datum) : d.order d = if d.isNaN then none else some .eq := by
  cases d with
  | nan s t => rfl
  | infinity s => simp [Datum.order, Datum.isNaN]
  | number s m i => simp [Datum.order, Datum.isNaN]

theorem isN_iff (x : Nat) : isN x = (dbl.read x).isNaN := by
  unfold isN Format.order
  rw [order_self]
  cases (dbl.read x).isNaN <;> rfl

theorem isN_nan : isN nanB = true := by decide +kernel

theorem nan_of {d : Datum} (h : d.isNaN = true) : ∃ s t, d = .nan s t := by
  cases d <;> first | exact ⟨_, _, rfl⟩ | cases h

theorem order_nan_l {x y : Nat} (h : isN x = true) : dbl.order x y = none := by
  rw [isN_iff] at h
  obtain ⟨s, t, h⟩ := nan_of h
  unfold Format.order
  rw [h]
  rfl

theorem order_nan_r {x y : Nat} (h : isN y = true) : dbl.order x y = none := by
  rw [isN_iff] at h
  obtain ⟨s, t, h⟩ := nan_of h
  unfold Format.order
  rw [h]
  cases dbl.read x <;> rfl

theorem sum_nan_l {x y : Nat} (h : isN x = true) : dbl.add x y = none := by
  rw [isN_iff] at h
  obtain ⟨s, t, h⟩ := nan_of h
  unfold Format.add
  rw [h]
  rfl

theorem sum_nan_r {x y : Nat} (h : isN y = true) : dbl.add x y = none := by
  rw [isN_iff] at h
  obtain ⟨s, t, h⟩ := nan_of h
  unfold Format.add
  rw [h]
  cases dbl.read x <;> rfl

theorem sub_nan_l {x y : Nat} (h : isN x = true) : dbl.sub x y = none := by
  rw [isN_iff] at h
  obtain ⟨s, t, h⟩ := nan_of h
  unfold Format.sub
  rw [h]
  rfl

theorem sub_nan_r {x y : Nat} (h : isN y = true) : dbl.sub x y = none := by
  rw [isN_iff] at h
  obtain ⟨s, t, h⟩ := nan_of h
  unfold Format.sub
  rw [h]
  cases dbl.read x <;> rfl

theorem mul_nan_l {x y : Nat} (h : isN x = true) : dbl.mul x y = none := by
  rw [isN_iff] at h
  obtain ⟨s, t, h⟩ := nan_of h
  unfold Format.mul
  rw [h]
  rfl

theorem mul_nan_r {x y : Nat} (h : isN y = true) : dbl.mul x y = none := by
  rw [isN_iff] at h
  obtain ⟨s, t, h⟩ := nan_of h
  unfold Format.mul
  rw [h]
  cases dbl.read x <;> rfl

theorem div_nan_l {x y : Nat} (h : isN x = true) : dbl.div x y = none := by
  rw [isN_iff] at h
  obtain ⟨s, t, h⟩ := nan_of h
  unfold Format.div
  rw [h]
  cases dbl.read y <;> rfl

theorem div_nan_r {x y : Nat} (h : isN y = true) : dbl.div x y = none := by
  rw [isN_iff] at h
  obtain ⟨s, t, h⟩ := nan_of h
  unfold Format.div
  rw [h]
  cases dbl.read x <;> rfl

theorem canon_of {x : Nat} (h : isN x = false) : canonS x = x := by simp [canonS, h]
theorem canon_nan {x : Nat} (h : isN x = true) : canonS x = nanB := by simp [canonS, h]
theorem isN_canon (x : Nat) : isN (canonS x) = isN x := by
  cases h : isN x with
  | true => rw [canon_nan h, isN_nan]
  | false => rw [canon_of h, h]
theorem canon_canon (x : Nat) : canonS (canonS x) = canonS x := by
  cases h : isN x with
  | true => rw [canon_nan h]; exact canon_nan isN_nan
  | false => rw [canon_of h]; exact canon_of h
theorem canon_flS (r : Option Nat) : canonS (flS r) = flS r := by
  cases r with
  | none => exact canon_nan isN_nan
  | some z => exact canon_canon z

/-- A partial operation that comes to none where an operand is none does not ask which none. -/
theorem op_canon {op : Nat → Nat → Option Nat} (hl : ∀ x y, isN x = true → op x y = none) (hr : ∀ x y, isN y = true → op x y = none) (x y : Nat) : op (canonS x) (canonS y) = op x y := by
  cases hx : isN x with
  | true => rw [hl x y hx, hl _ _ (by rw [isN_canon, hx])]
  | false =>
    cases hy : isN y with
    | true => rw [hr x y hy, hr _ _ (by rw [isN_canon, hy])]
    | false => rw [canon_of hx, canon_of hy]

theorem add_canon (x y : Nat) : dbl.add (canonS x) (canonS y) = dbl.add x y := op_canon (fun _ _ => sum_nan_l) (fun _ _ => sum_nan_r) x y
theorem sub_canon (x y : Nat) : dbl.sub (canonS x) (canonS y) = dbl.sub x y := op_canon (fun _ _ => sub_nan_l) (fun _ _ => sub_nan_r) x y
theorem mul_canon (x y : Nat) : dbl.mul (canonS x) (canonS y) = dbl.mul x y := op_canon (fun _ _ => mul_nan_l) (fun _ _ => mul_nan_r) x y
theorem div_canon (x y : Nat) : dbl.div (canonS x) (canonS y) = dbl.div x y := op_canon (fun _ _ => div_nan_l) (fun _ _ => div_nan_r) x y

theorem order_canon (x y : Nat) : dbl.order (canonS x) (canonS y) = dbl.order x y := by
  cases hx : isN x with
  | true => rw [order_nan_l hx, order_nan_l (by rw [isN_canon, hx])]
  | false =>
    cases hy : isN y with
    | true => rw [order_nan_r hy, order_nan_r (by rw [isN_canon, hy])]
    | false => rw [canon_of hx, canon_of hy]

/-! ### The sign -/
def two64 : Nat := 18446744073709551616
def two63 : Nat := 9223372036854775808

theorem neg_div (x : Nat) : negA x / two63 % 2 = 1 - x / two63 % 2 := by
  have : negA x = x ^^^ 2 ^ 63 := rfl
  rw [this, show two63 = 2 ^ 63 from rfl, Nat.xor_div_two_pow]
  rw [show 2 ^ 63 / 2 ^ 63 = 1 from rfl]
  generalize x / 2 ^ 63 = y
  have h := Nat.xor_mod_two_pow (a := y) (b := 1) (n := 1)
  rw [show (2 : Nat) ^ 1 = 2 from rfl] at h
  rw [h]
  rcases Nat.mod_two_eq_zero_or_one y with h0 | h0 <;> rw [h0] <;> rfl

theorem neg_mod (x : Nat) : negA x % two63 = x % two63 := by
  have : negA x = x ^^^ 2 ^ 63 := rfl
  rw [this, show two63 = 2 ^ 63 from rfl, Nat.xor_mod_two_pow]
  rw [show 2 ^ 63 % 2 ^ 63 = 0 from rfl, Nat.xor_zero]

theorem read_neg (x : Nat) : dbl.read (negA x) = (dbl.read x).opposite := by
  unfold Format.read
  have e1 : dbl.signWeight = two63 := by decide +kernel
  rw [e1, neg_mod, neg_div]
  have hs : (1 - x / two63 % 2 == 1) = !(x / two63 % 2 == 1) := by
    rcases Nat.mod_two_eq_zero_or_one (x / two63) with h0 | h0 <;> rw [h0] <;> rfl
  rw [hs]
  simp only
  split
  · rfl
  · split
    · rfl
    · split <;> rfl

theorem isN_neg (x : Nat) : isN (negA x) = isN x := by
  rw [isN_iff, isN_iff, read_neg]
  cases dbl.read x <;> rfl

theorem neg_canon (x : Nat) : canonS (negA (canonS x)) = canonS (negA x) := by
  cases hx : isN x with
  | true => rw [canon_nan hx, canon_nan (by rw [isN_neg, isN_nan]), canon_nan (by rw [isN_neg, hx])]
  | false => rw [canon_of hx]

theorem neg_ge {x : Nat} (h : x < two64) : negA x = if two63 ≤ x then x - two63 else x + two63 := by
  have h1 := neg_div x
  have h2 := neg_mod x
  have h3 : negA x < two64 := by
    have : negA x = x ^^^ 2 ^ 63 := rfl
    rw [this]
    exact Nat.xor_lt_two_pow (n := 64) h (by decide)
  have e1 := Nat.div_add_mod (negA x) two63
  have e2 := Nat.div_add_mod x two63
  unfold two64 at h h3
  unfold two63 at *
  split <;> omega

/-- What '&^ 1<<63' leaves. -/
def absB (x : Nat) : Nat := x % two63
theorem isN_abs (x : Nat) : isN (absB x) = isN x := by
  rw [isN_iff, isN_iff]
  unfold Format.read
  have e1 : dbl.signWeight = two63 := by decide +kernel
  rw [e1]
  unfold absB
  rw [Nat.mod_mod]
  simp only
  split
  · rfl
  · split
    · rfl
    · split <;> rfl
theorem abs_canon (x : Nat) : canonS (absB (canonS x)) = canonS (absB x) := by
  cases hx : isN x with
  | true => rw [canon_nan hx, canon_nan (by rw [isN_abs, isN_nan]), canon_nan (by rw [isN_abs, hx])]
  | false => rw [canon_of hx]

theorem sgn_iff {x : Nat} (h : x < two64) : sgn x = decide (two63 ≤ x) := by
  unfold sgn two64 two63 at *
  by_cases h1 : 9223372036854775808 ≤ x
  · have : x / 9223372036854775808 = 1 := by omega
    simp [this, h1]
  · have : x / 9223372036854775808 = 0 := by omega
    simp [this, h1]

/-- The number without its sign, as chapter 3's reference has it. -/
theorem abs_ref {x : Nat} (h : x < two64) : (if sgn x then canonS (negA x) else canonS x) = canonS (absB x) := by
  rw [sgn_iff h, neg_ge h]
  unfold absB
  by_cases h1 : two63 ≤ x
  · have : x % two63 = x - two63 := by unfold two63 two64 at *; omega
    simp [h1, this]
  · have : x % two63 = x := by unfold two63 at *; omega
    simp [h1, this]
end Go.Ab
