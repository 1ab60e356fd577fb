/- Chapter 3's numbers: what the reference's functions and the program's come to. -/
import Derived.Test.YtcinmjajfccbaaaGreatDoorRa
import Derived.Test.YtcinmjajfccbaaaGreatDoorFc
namespace Go.Proofs.YtcinmjajfccbaaaGreatDoor
open Go Go.Ab Go.RowKit



theorem eb {e b : Bool} (h : e = b) : some (AV.b e) = some (AV.b b) := by rw [h]
theorem ef {q : Option Nat} {r : Option Nat} (h : q = r) : some (fl q) = some (fl r) := by rw [h]
theorem ei {k : IntKind} {q r : Int} (h : q = r) : some (AV.i k q) = some (AV.i k r) := by rw [h]

theorem p_r3canon (x : Nat) : Pure Tryz.prog 20 [.f x] (.f (canonS x)) := by
  cases h : isN x with
  | true => rw [canon_nan h]; exact r3canon_0 [.f x] rfl trivial ⟨eb h, trivial⟩ rfl rfl
  | false => rw [canon_of h]; exact r3canon_1 [.f x] rfl trivial ⟨eb h, trivial⟩ rfl rfl

theorem p_ncanon (x : Nat) : Pure Tryz.prog 82 [.f x] (.f (canonS x)) := by
  cases h : isN x with
  | true => rw [canon_nan h]; exact ncanon_0 [.f x] rfl trivial ⟨eb h, trivial⟩ rfl rfl
  | false => rw [canon_of h]; exact ncanon_1 [.f x] rfl trivial ⟨eb h, trivial⟩ rfl rfl

theorem p_r3add (x y : Nat) : Pure Tryz.prog 21 [.f x, .f y] (.f (flS (dbl.add x y))) := by
  cases hz : dbl.add x y with
  | none => exact r3add_2 [.f x, .f y] rfl trivial ⟨ef hz, trivial⟩ rfl rfl
  | some z =>
    show Pure Tryz.prog _ _ (.f (canonS z))
    cases h : isN z with
    | true => rw [canon_nan h]; exact r3add_0 [.f x, .f y, .f z] rfl trivial ⟨ef hz, eb h, trivial⟩ rfl rfl
    | false => rw [canon_of h]; exact r3add_1 [.f x, .f y, .f z] rfl trivial ⟨ef hz, eb h, trivial⟩ rfl rfl

theorem p_r3sub (x y : Nat) : Pure Tryz.prog 22 [.f x, .f y] (.f (flS (dbl.sub x y))) := by
  cases hz : dbl.sub x y with
  | none => exact r3sub_2 [.f x, .f y] rfl trivial ⟨ef hz, trivial⟩ rfl rfl
  | some z =>
    show Pure Tryz.prog _ _ (.f (canonS z))
    cases h : isN z with
    | true => rw [canon_nan h]; exact r3sub_0 [.f x, .f y, .f z] rfl trivial ⟨ef hz, eb h, trivial⟩ rfl rfl
    | false => rw [canon_of h]; exact r3sub_1 [.f x, .f y, .f z] rfl trivial ⟨ef hz, eb h, trivial⟩ rfl rfl

theorem p_r3mul (x y : Nat) : Pure Tryz.prog 23 [.f x, .f y] (.f (flS (dbl.mul x y))) := by
  cases hz : dbl.mul x y with
  | none => exact r3mul_2 [.f x, .f y] rfl trivial ⟨ef hz, trivial⟩ rfl rfl
  | some z =>
    show Pure Tryz.prog _ _ (.f (canonS z))
    cases h : isN z with
    | true => rw [canon_nan h]; exact r3mul_0 [.f x, .f y, .f z] rfl trivial ⟨ef hz, eb h, trivial⟩ rfl rfl
    | false => rw [canon_of h]; exact r3mul_1 [.f x, .f y, .f z] rfl trivial ⟨ef hz, eb h, trivial⟩ rfl rfl

theorem p_r3div (x y : Nat) : Pure Tryz.prog 24 [.f x, .f y] (.f (flS (dbl.div x y))) := by
  cases hz : dbl.div x y with
  | none => exact r3div_2 [.f x, .f y] rfl trivial ⟨ef hz, trivial⟩ rfl rfl
  | some z =>
    show Pure Tryz.prog _ _ (.f (canonS z))
    cases h : isN z with
    | true => rw [canon_nan h]; exact r3div_0 [.f x, .f y, .f z] rfl trivial ⟨ef hz, eb h, trivial⟩ rfl rfl
    | false => rw [canon_of h]; exact r3div_1 [.f x, .f y, .f z] rfl trivial ⟨ef hz, eb h, trivial⟩ rfl rfl

theorem p_nadd (x y : Nat) : Pure Tryz.prog 123 [.f x, .f y] (.f (flS (dbl.add x y))) := by
  cases hz : dbl.add x y with
  | none => exact nadd_2 [.f x, .f y] rfl trivial ⟨ef hz, trivial⟩ rfl rfl
  | some z =>
    show Pure Tryz.prog _ _ (.f (canonS z))
    cases h : isN z with
    | true => rw [canon_nan h]; exact nadd_0 [.f x, .f y, .f z] rfl trivial ⟨ef hz, eb h, trivial⟩ rfl rfl
    | false => rw [canon_of h]; exact nadd_1 [.f x, .f y, .f z] rfl trivial ⟨ef hz, eb h, trivial⟩ rfl rfl

theorem p_nsub (x y : Nat) : Pure Tryz.prog 124 [.f x, .f y] (.f (flS (dbl.sub x y))) := by
  cases hz : dbl.sub x y with
  | none => exact nsub_2 [.f x, .f y] rfl trivial ⟨ef hz, trivial⟩ rfl rfl
  | some z =>
    show Pure Tryz.prog _ _ (.f (canonS z))
    cases h : isN z with
    | true => rw [canon_nan h]; exact nsub_0 [.f x, .f y, .f z] rfl trivial ⟨ef hz, eb h, trivial⟩ rfl rfl
    | false => rw [canon_of h]; exact nsub_1 [.f x, .f y, .f z] rfl trivial ⟨ef hz, eb h, trivial⟩ rfl rfl

theorem p_nmul (x y : Nat) : Pure Tryz.prog 125 [.f x, .f y] (.f (flS (dbl.mul x y))) := by
  cases hz : dbl.mul x y with
  | none => exact nmul_2 [.f x, .f y] rfl trivial ⟨ef hz, trivial⟩ rfl rfl
  | some z =>
    show Pure Tryz.prog _ _ (.f (canonS z))
    cases h : isN z with
    | true => rw [canon_nan h]; exact nmul_0 [.f x, .f y, .f z] rfl trivial ⟨ef hz, eb h, trivial⟩ rfl rfl
    | false => rw [canon_of h]; exact nmul_1 [.f x, .f y, .f z] rfl trivial ⟨ef hz, eb h, trivial⟩ rfl rfl

theorem p_ndiv (x y : Nat) : Pure Tryz.prog 126 [.f x, .f y] (.f (flS (dbl.div x y))) := by
  cases hz : dbl.div x y with
  | none => exact ndiv_2 [.f x, .f y] rfl trivial ⟨ef hz, trivial⟩ rfl rfl
  | some z =>
    show Pure Tryz.prog _ _ (.f (canonS z))
    cases h : isN z with
    | true => rw [canon_nan h]; exact ndiv_0 [.f x, .f y, .f z] rfl trivial ⟨ef hz, eb h, trivial⟩ rfl rfl
    | false => rw [canon_of h]; exact ndiv_1 [.f x, .f y, .f z] rfl trivial ⟨ef hz, eb h, trivial⟩ rfl rfl


/-! ### Bits -/
theorem natb (x y : Nat) : ((x : Int) == (y : Int)) = decide (x = y) := by
  rw [Bool.eq_iff_iff, beq_iff_eq, decide_eq_true_eq]; exact Int.ofNat_inj
theorem p_bits (x : Nat) : Pure Tryz.prog 50 [.f x] (.i .u64 x) := fun w =>
  let ⟨fn, hf, hn, hb, hnx, hfe⟩ := placed.bits
  .inl ⟨.int .u64 x, w, by show Sem.run _ (callFunc places.bits #[Value.float .f64 x]) w = _; rw [run_callFunc_extern hf hn hb hnx hfe]; rfl, rfl, .refl _ _⟩
theorem p_frombits (x : Nat) : Pure Tryz.prog 49 [.i .u64 x] (.f x) := fun w =>
  let ⟨fn, hf, hn, hb, hnx, hfe⟩ := placed.from_
  .inl ⟨.float .f64 x, w, by show Sem.run _ (callFunc places.from_ #[Value.int .u64 x]) w = _; rw [run_callFunc_extern hf hn hb hnx hfe]; rfl, rfl, .refl _ _⟩

theorem p_r3same (x y : Nat) : Pure Tryz.prog 40 [.f x, .f y] (.b (decide (canonS x = canonS y))) := by
  have key := natb (canonS x) (canonS y)
  cases h : decide (canonS x = canonS y) with
  | true =>
    exact r3same_0 [.f x, .f y, .f (canonS x), .i .u64 (canonS x), .f (canonS y), .i .u64 (canonS y)] rfl
      ⟨⟨rfl, rfl, p_r3canon x⟩, ⟨rfl, rfl, p_bits _⟩, ⟨rfl, rfl, p_r3canon y⟩, ⟨rfl, rfl, p_bits _⟩, trivial⟩ ⟨eb (key.trans h), trivial⟩ rfl rfl
  | false =>
    exact r3same_1 [.f x, .f y, .f (canonS x), .i .u64 (canonS x), .f (canonS y), .i .u64 (canonS y)] rfl
      ⟨⟨rfl, rfl, p_r3canon x⟩, ⟨rfl, rfl, p_bits _⟩, ⟨rfl, rfl, p_r3canon y⟩, ⟨rfl, rfl, p_bits _⟩, trivial⟩ ⟨eb (key.trans h), trivial⟩ rfl rfl

theorem p_vbits (x y : Nat) : Pure Tryz.prog 81 [.f x, .f y] (.b (decide (x = y))) := by
  have key := natb x y
  cases h : decide (x = y) with
  | true => exact vbits_0 [.f x, .f y, .i .u64 x, .i .u64 y] rfl ⟨⟨rfl, rfl, p_bits _⟩, ⟨rfl, rfl, p_bits _⟩, trivial⟩ ⟨eb (key.trans h), trivial⟩ rfl rfl
  | false => exact vbits_1 [.f x, .f y, .i .u64 x, .i .u64 y] rfl ⟨⟨rfl, rfl, p_bits _⟩, ⟨rfl, rfl, p_bits _⟩, trivial⟩ ⟨eb (key.trans h), trivial⟩ rfl rfl

theorem shr63 {x : Nat} (hx : x < two64) : ((x : Int).fdiv (2 ^ (min (63 : Int).toNat IntKind.u64.bits)) == 1) = sgn x := by
  have : (x : Int).fdiv (2 ^ (min (63 : Int).toNat IntKind.u64.bits)) = ((x / 9223372036854775808 : Nat) : Int) := by
    show (x : Int).fdiv ((9223372036854775808 : Nat) : Int) = _
    rw [Int.fdiv_eq_ediv_of_nonneg _ (by omega)]
    rfl
  rw [this, sgn_iff hx]
  unfold two63 two64 at *
  rw [Bool.eq_iff_iff]
  simp
  omega

theorem p_r3below {x : Nat} (hx : x < two64) : Pure Tryz.prog 51 [.f x] (.b (sgn x)) := by
  have key := shr63 hx
  cases h : sgn x with
  | true => exact r3below_0 [.f x, .i .u64 x, .i .u64 ((x : Int).fdiv (2 ^ (min (63 : Int).toNat IntKind.u64.bits)))] rfl ⟨⟨rfl, rfl, p_bits _⟩, trivial⟩ ⟨rfl, eb (key.trans h), trivial⟩ rfl rfl
  | false => exact r3below_1 [.f x, .i .u64 x, .i .u64 ((x : Int).fdiv (2 ^ (min (63 : Int).toNat IntKind.u64.bits)))] rfl ⟨⟨rfl, rfl, p_bits _⟩, trivial⟩ ⟨rfl, eb (key.trans h), trivial⟩ rfl rfl

theorem xor63 {x : Nat} (hx : x < two64) : IntKind.u64.wrap ((BitVec.ofInt IntKind.u64.bits x ^^^ BitVec.ofInt IntKind.u64.bits 9223372036854775808).toNat : Int) = (negA x : Int) := by
  have e1 : (BitVec.ofInt IntKind.u64.bits x ^^^ BitVec.ofInt IntKind.u64.bits 9223372036854775808).toNat = negA x := by
    rw [BitVec.toNat_xor]
    have a1 : (BitVec.ofInt IntKind.u64.bits (x : Int)).toNat = x := by
      show (BitVec.ofInt 64 (x : Int)).toNat = x
      rw [BitVec.ofInt_natCast, BitVec.toNat_ofNat]
      exact Nat.mod_eq_of_lt hx
    rw [a1]
    rfl
  rw [e1]
  have h2 : negA x < two64 := by
    rw [neg_ge hx]; unfold two64 two63 at *; split <;> omega
  show IntKind.u64.wrap (negA x : Int) = _
  unfold IntKind.wrap
  simp [IntKind.signed, IntKind.bits]
  unfold two64 at h2
  omega

theorem p_r3neg {x : Nat} (hx : x < two64) : Pure Tryz.prog 27 [.f x] (.f (canonS (negA x))) :=
  r3neg_0 [.f x, .i .u64 x, .i .u64 (negA x), .f (negA x), .f (canonS (negA x))] rfl
    ⟨⟨rfl, rfl, p_bits _⟩, ⟨rfl, rfl, p_frombits _⟩, ⟨rfl, rfl, p_r3canon _⟩, trivial⟩ ⟨ei (xor63 hx), trivial⟩ rfl rfl

theorem p_nneg (x : Nat) : Pure Tryz.prog 59 [.f x] (.f (canonS (negA x))) :=
  nneg_0 [.f x, .f (negA x), .f (canonS (negA x))] rfl ⟨⟨rfl, rfl, p_ncanon _⟩, trivial⟩ ⟨rfl, trivial⟩ rfl rfl

theorem p_r3abs {x : Nat} (hx : x < two64) : Pure Tryz.prog 28 [.f x] (.f (canonS (absB x))) := by
  rw [← abs_ref hx]
  cases h : sgn x with
  | true => exact r3abs_0 [.f x, .f (canonS (negA x))] rfl ⟨⟨rfl, rfl, h ▸ p_r3below hx⟩, ⟨rfl, rfl, p_r3neg hx⟩, trivial⟩ trivial rfl rfl
  | false => exact r3abs_1 [.f x, .f (canonS x)] rfl ⟨⟨rfl, rfl, h ▸ p_r3below hx⟩, ⟨rfl, rfl, p_r3canon x⟩, trivial⟩ trivial rfl rfl

theorem andnot63 {x : Nat} (hx : x < two64) : IntKind.u64.wrap ((BitVec.ofInt IntKind.u64.bits x &&& ~~~(BitVec.ofInt IntKind.u64.bits 9223372036854775808)).toNat : Int) = (absB x : Int) := by
  have e1 : (BitVec.ofInt IntKind.u64.bits x &&& ~~~(BitVec.ofInt IntKind.u64.bits 9223372036854775808)).toNat = absB x := by
    rw [BitVec.toNat_and]
    have a1 : (BitVec.ofInt IntKind.u64.bits (x : Int)).toNat = x := by
      show (BitVec.ofInt 64 (x : Int)).toNat = x
      rw [BitVec.ofInt_natCast, BitVec.toNat_ofNat]
      exact Nat.mod_eq_of_lt hx
    rw [a1]
    show x &&& 9223372036854775807 = _
    exact Nat.and_two_pow_sub_one_eq_mod x 63
  rw [e1]
  have h2 : absB x < two63 := Nat.mod_lt _ (by unfold two63; omega)
  unfold IntKind.wrap
  simp [IntKind.signed, IntKind.bits]
  unfold two63 at h2
  omega

theorem p_nabs {x : Nat} (hx : x < two64) : Pure Tryz.prog 93 [.f x] (.f (canonS (absB x))) :=
  nabs_0 [.f x, .i .u64 x, .i .u64 (absB x), .f (absB x), .f (canonS (absB x))] rfl
    ⟨⟨rfl, rfl, p_bits _⟩, ⟨rfl, rfl, p_frombits _⟩, ⟨rfl, rfl, p_ncanon _⟩, trivial⟩ ⟨ei (andnot63 hx), trivial⟩ rfl rfl

/-! ### Order -/
theorem dk {b : Bool} {p : Prop} [Decidable p] (h : decide p = b) : some (AV.b (decide p)) = some (AV.b b) := by rw [h]

theorem p_r3order {x y : Nat} (hx : x < two64) : Pure Tryz.prog 48 [.f x, .f y] (.i .i64 (r3Ord x y)) := by
  have hs := p_r3same x y
  unfold r3Ord
  by_cases h1 : canonS x = canonS y
  · rw [if_pos h1]
    rw [decide_eq_true h1] at hs
    exact r3order_0 [.f x, .f y] rfl ⟨⟨rfl, rfl, hs⟩, trivial⟩ trivial rfl rfl
  · rw [if_neg h1]
    rw [decide_eq_false h1] at hs
    cases h2 : isN x with
    | true => exact r3order_1 [.f x, .f y] rfl ⟨⟨rfl, rfl, hs⟩, trivial⟩ ⟨eb h2, trivial⟩ rfl rfl
    | false =>
      cases h3 : isN y with
      | true => exact r3order_2 [.f x, .f y] rfl ⟨⟨rfl, rfl, hs⟩, trivial⟩ ⟨eb h2, eb h3, trivial⟩ rfl rfl
      | false =>
        cases h4 : ltF x y with
        | true => exact r3order_3 [.f x, .f y] rfl ⟨⟨rfl, rfl, hs⟩, trivial⟩ ⟨eb h2, eb h3, eb h4, trivial⟩ rfl rfl
        | false =>
          cases h5 : gtF x y with
          | true => exact r3order_4 [.f x, .f y] rfl ⟨⟨rfl, rfl, hs⟩, trivial⟩ ⟨eb h2, eb h3, eb h4, eb h5, trivial⟩ rfl rfl
          | false =>
            cases h6 : sgn x with
            | true => exact r3order_5 [.f x, .f y] rfl ⟨⟨rfl, rfl, hs⟩, ⟨rfl, rfl, h6 ▸ p_r3below hx⟩, trivial⟩ ⟨eb h2, eb h3, eb h4, eb h5, trivial⟩ rfl rfl
            | false => exact r3order_6 [.f x, .f y] rfl ⟨⟨rfl, rfl, hs⟩, ⟨rfl, rfl, h6 ▸ p_r3below hx⟩, trivial⟩ ⟨eb h2, eb h3, eb h4, eb h5, trivial⟩ rfl rfl

theorem p_r3min {x y : Nat} (hx : x < two64) : Pure Tryz.prog 25 [.f x, .f y] (.f (r3Min x y)) := by
  unfold r3Min
  cases h2 : isN x with
  | true => exact r3min_0 [.f x, .f y] rfl trivial ⟨eb h2, trivial⟩ rfl rfl
  | false =>
    cases h3 : isN y with
    | true => exact r3min_1 [.f x, .f y] rfl trivial ⟨eb h2, eb h3, trivial⟩ rfl rfl
    | false =>
      simp only [Bool.false_eq_true, if_false]
      by_cases h : r3Ord x y ≤ 0
      · rw [if_pos h]; exact r3min_2 [.f x, .f y, .i .i64 (r3Ord x y)] rfl ⟨⟨rfl, rfl, p_r3order hx⟩, trivial⟩ ⟨eb h2, eb h3, dk (decide_eq_true h), trivial⟩ rfl rfl
      · rw [if_neg h]; exact r3min_3 [.f x, .f y, .i .i64 (r3Ord x y)] rfl ⟨⟨rfl, rfl, p_r3order hx⟩, trivial⟩ ⟨eb h2, eb h3, dk (decide_eq_false h), trivial⟩ rfl rfl

theorem p_r3max {x y : Nat} (hx : x < two64) : Pure Tryz.prog 26 [.f x, .f y] (.f (r3Max x y)) := by
  unfold r3Max
  cases h2 : isN x with
  | true => exact r3max_0 [.f x, .f y] rfl trivial ⟨eb h2, trivial⟩ rfl rfl
  | false =>
    cases h3 : isN y with
    | true => exact r3max_1 [.f x, .f y] rfl trivial ⟨eb h2, eb h3, trivial⟩ rfl rfl
    | false =>
      simp only [Bool.false_eq_true, if_false]
      by_cases h : r3Ord x y ≥ 0
      · rw [if_pos h]; exact r3max_2 [.f x, .f y, .i .i64 (r3Ord x y)] rfl ⟨⟨rfl, rfl, p_r3order hx⟩, trivial⟩ ⟨eb h2, eb h3, dk (decide_eq_true h), trivial⟩ rfl rfl
      · rw [if_neg h]; exact r3max_3 [.f x, .f y, .i .i64 (r3Ord x y)] rfl ⟨⟨rfl, rfl, p_r3order hx⟩, trivial⟩ ⟨eb h2, eb h3, dk (decide_eq_false h), trivial⟩ rfl rfl

theorem sgn64 {x : Nat} (hx : x < two64) : decide (IntKind.i64.wrap (x : Int) < 0) = sgn x := by
  rw [sgn_iff hx, Bool.eq_iff_iff]
  unfold IntKind.wrap
  simp [IntKind.signed, IntKind.bits]
  unfold two64 at hx
  unfold two63
  split <;> omega

theorem p_nsign {x : Nat} (hx : x < two64) : Pure Tryz.prog 200 [.f x] (.i .i64 (b2i (sgn x))) := by
  have key := sgn64 hx
  cases h : sgn x with
  | true => exact nsign_0 [.f x, .i .u64 x, .i .i64 (IntKind.i64.wrap x)] rfl ⟨⟨rfl, rfl, p_bits _⟩, trivial⟩ ⟨by kernel_rfl, eb (key.trans h), trivial⟩ rfl rfl
  | false => exact nsign_1 [.f x, .i .u64 x, .i .i64 (IntKind.i64.wrap x)] rfl ⟨⟨rfl, rfl, p_bits _⟩, trivial⟩ ⟨by kernel_rfl, eb (key.trans h), trivial⟩ rfl rfl

theorem p_ntruth (b : Bool) : Pure Tryz.prog 201 [.b b] (.i .i64 (b2i b)) := by
  cases b with
  | true => exact ntrutht_0 [] rfl trivial trivial rfl rfl
  | false => exact ntruthf_0 [] rfl trivial trivial rfl rfl

theorem p_norder {x y : Nat} (hx : x < two64) (hy : y < two64) : Pure Tryz.prog 172 [.f x, .f y] (.i .i64 (nOrd x y)) := by
  have hw : ∀ a b : Bool, IntKind.i64.wrap (b2i a - b2i b) = b2i a - b2i b := by intro a b; cases a <;> cases b <;> rfl
  unfold nOrd
  cases h1 : ltF x y with
  | true => exact norder_0 [.f x, .f y] rfl trivial ⟨eb h1, trivial⟩ rfl rfl
  | false =>
    cases h2 : gtF x y with
    | true => exact norder_1 [.f x, .f y] rfl trivial ⟨eb h1, eb h2, trivial⟩ rfl rfl
    | false =>
      simp only [Bool.false_eq_true, if_false]
      cases h3 : eqF x y with
      | true => exact norder_2 [.f x, .f y, .i .i64 (b2i (sgn y)), .i .i64 (b2i (sgn x)), .i .i64 (b2i (sgn y) - b2i (sgn x))] rfl ⟨⟨rfl, rfl, p_nsign hy⟩, ⟨rfl, rfl, p_nsign hx⟩, trivial⟩ ⟨eb h1, eb h2, eb h3, ei (hw _ _), trivial⟩ rfl rfl
      | false =>
        cases h4 : isN x <;> cases h5 : isN y
        · exact norder_6 [.f x, .f y, .i .i64 (b2i false), .i .i64 (b2i false - b2i false)] rfl ⟨⟨rfl, rfl, p_ntruth false⟩, trivial⟩ ⟨eb h1, eb h2, eb h3, eb h4, eb h5, ei (hw _ _), trivial⟩ rfl rfl
        · exact norder_5 [.f x, .f y, .i .i64 (b2i false), .i .i64 (b2i true), .i .i64 (b2i false - b2i true)] rfl ⟨⟨rfl, rfl, p_ntruth false⟩, ⟨rfl, rfl, p_ntruth true⟩, trivial⟩ ⟨eb h1, eb h2, eb h3, eb h4, eb h5, ei (hw _ _), trivial⟩ rfl rfl
        · exact norder_4 [.f x, .f y, .i .i64 (b2i true), .i .i64 (b2i false), .i .i64 (b2i true - b2i false)] rfl ⟨⟨rfl, rfl, p_ntruth true⟩, ⟨rfl, rfl, p_ntruth false⟩, trivial⟩ ⟨eb h1, eb h2, eb h3, eb h4, eb h5, ei (hw _ _), trivial⟩ rfl rfl
        · exact norder_3 [.f x, .f y, .i .i64 (b2i true), .i .i64 (b2i true - b2i true)] rfl ⟨⟨rfl, rfl, p_ntruth true⟩, trivial⟩ ⟨eb h1, eb h2, eb h3, eb h4, eb h5, ei (hw _ _), trivial⟩ rfl rfl

theorem nOrd_small (x y : Nat) : nOrd x y = -1 ∨ nOrd x y = 0 ∨ nOrd x y = 1 := by
  unfold nOrd b2i
  split <;> (try split) <;> (try split) <;> (try split) <;> (try split) <;> simp

theorem p_nfirst {x y : Nat} (hx : x < two64) (hy : y < two64) (o : Int) (ho : o = 1 ∨ o = -1) : Pure Tryz.prog 140 [.f x, .f y, .i .i64 o] (.f (nFst x y o)) := by
  have hw : IntKind.i64.wrap (o * nOrd x y) = o * nOrd x y := by
    rcases ho with rfl | rfl <;> rcases nOrd_small x y with h | h | h <;> rw [h] <;> rfl
  unfold nFst
  cases h1 : isN x with
  | true => exact nfirst_0 [.f x, .f y, .i .i64 o, .f (canonS x)] rfl ⟨⟨rfl, rfl, p_ncanon x⟩, trivial⟩ ⟨eb h1, trivial⟩ rfl rfl
  | false =>
    simp only [Bool.false_eq_true, if_false]
    cases h2 : eqF y y with
    | false => exact nfirst_3 [.f x, .f y, .i .i64 o, .f (canonS y)] rfl ⟨⟨rfl, rfl, p_ncanon y⟩, trivial⟩ ⟨eb h1, eb h2, trivial⟩ rfl rfl
    | true =>
      simp only [if_true]
      by_cases h3 : o * nOrd x y ≤ 0
      · rw [if_pos h3]; exact nfirst_1 [.f x, .f y, .i .i64 o, .i .i64 (nOrd x y), .i .i64 (o * nOrd x y), .f (canonS x)] rfl ⟨⟨rfl, rfl, p_norder hx hy⟩, ⟨rfl, rfl, p_ncanon x⟩, trivial⟩ ⟨eb h1, eb h2, ei hw, dk (decide_eq_true h3), trivial⟩ rfl rfl
      · rw [if_neg h3]; exact nfirst_2 [.f x, .f y, .i .i64 o, .i .i64 (nOrd x y), .i .i64 (o * nOrd x y), .f (canonS y)] rfl ⟨⟨rfl, rfl, p_norder hx hy⟩, ⟨rfl, rfl, p_ncanon y⟩, trivial⟩ ⟨eb h1, eb h2, ei hw, dk (decide_eq_false h3), trivial⟩ rfl rfl

theorem p_nmin {x y : Nat} (hx : x < two64) (hy : y < two64) : Pure Tryz.prog 95 [.f x, .f y] (.f (nFst x y 1)) :=
  nmin_0 [.f x, .f y, .f (nFst x y 1)] rfl ⟨⟨rfl, rfl, p_nfirst hx hy 1 (.inl rfl)⟩, trivial⟩ trivial rfl rfl
theorem p_nmax {x y : Nat} (hx : x < two64) (hy : y < two64) : Pure Tryz.prog 94 [.f x, .f y] (.f (nFst x y (-1))) :=
  nmax_0 [.f x, .f y, .f (nFst x y (-1))] rfl ⟨⟨rfl, rfl, p_nfirst hx hy (-1) (.inr rfl)⟩, trivial⟩ trivial rfl rfl

theorem p_nless (x y : Nat) : Pure Tryz.prog 122 [.f x, .f y] (.b (ltF x y)) := by
  cases h : ltF x y with
  | true => exact nless_0 [.f x, .f y] rfl trivial ⟨eb h, trivial⟩ rfl rfl
  | false => exact nless_1 [.f x, .f y] rfl trivial ⟨eb h, trivial⟩ rfl rfl
theorem p_nequal (x y : Nat) : Pure Tryz.prog 120 [.f x, .f y] (.b (eqF x y)) := by
  cases h : eqF x y with
  | true => exact nequal_0 [.f x, .f y] rfl trivial ⟨eb h, trivial⟩ rfl rfl
  | false => exact nequal_1 [.f x, .f y] rfl trivial ⟨eb h, trivial⟩ rfl rfl
end Go.Proofs.YtcinmjajfccbaaaGreatDoor
