/- EvalReckons: true of any two numbers. -/
import Derived.Test.YtcinmjajfccbaaaGreatDoorGb
import Derived.Test.YtcinmjajfccbaaaGreatDoorAw
import Derived.Test.YtcinmjajfccbaaaGreatDoorRp0
import Derived.Test.YtcinmjajfccbaaaGreatDoorRp1
import Derived.Test.YtcinmjajfccbaaaGreatDoorRp2
import Derived.Test.YtcinmjajfccbaaaGreatDoorRp3
import Derived.Test.YtcinmjajfccbaaaGreatDoorRbLt
import Derived.Test.YtcinmjajfccbaaaGreatDoorRbEq
import Derived.Test.YtcinmjajfccbaaaGreatDoorRbGt
import Derived.Test.YtcinmjajfccbaaaGreatDoorRbUn
import Derived.Test.YtcinmjajfccbaaaGreatDoorRbUm
namespace Go.Proofs.YtcinmjajfccbaaaGreatDoor
open Go Go.Ab Go.RowKit

theorem canon_lt {x : Nat} (hx : x < two64) : canonS x < two64 := by
  unfold canonS
  split
  · decide
  · exact hx

theorem order_swap (x y : Nat) : dbl.order y x = (dbl.order x y).map Ordering.swap := by
  unfold Ieee.Format.order
  cases dbl.read x with
  | nan s t => cases dbl.read y <;> rfl
  | infinity s =>
    cases dbl.read y with
    | nan s t => rfl
    | infinity t => cases s <;> cases t <;> rfl
    | number t n j => cases s <;> rfl
  | number s m i =>
    cases dbl.read y with
    | nan s t => rfl
    | infinity t => cases t <;> rfl
    | number t n j =>
      simp only [Ieee.Datum.order, Option.map_some, Option.some.injEq]
      rw [Int.min_comm j i]
      generalize Ieee.signed s m _ = a
      generalize Ieee.signed t n _ = b
      rw [cmp_def, cmp_def]
      rcases Int.lt_trichotomy a b with h | h | h
      · rw [if_pos h, if_neg (by omega), if_neg (by omega)]; rfl
      · subst h; simp
      · rw [if_pos h, if_neg (by omega), if_neg (by omega)]; rfl

theorem lt_swap (x y : Nat) : ltF y x = gtF x y := by
  unfold ltF gtF
  rw [order_swap x y]
  cases dbl.order x y with
  | none => rfl
  | some o => cases o <;> rfl

theorem lt_canon (x y : Nat) : ltF (canonS x) (canonS y) = ltF x y := by unfold ltF; rw [order_canon]
theorem eq_canon (x y : Nat) : eqF (canonS x) (canonS y) = eqF x y := by unfold eqF; rw [order_canon]
theorem isN_canonF (x : Nat) : (dbl.order (canonS x) (canonS x) != some .eq) = isN x := isN_canon x

theorem canon_first (x y : Nat) (o : Int) : canonS (nFst (canonS x) (canonS y) o) = nFst (canonS x) (canonS y) o := by
  unfold nFst
  repeat' split
  all_goals exact canon_canon _
theorem canon_min {x y : Nat} (hx : x < two64) (hy : y < two64) : canonS (r3Min x y) = r3Min x y := by rw [min_same hx hy]; exact canon_first ..
theorem canon_max {x y : Nat} (hx : x < two64) (hy : y < two64) : canonS (r3Max x y) = r3Max x y := by rw [max_same hx hy]; exact canon_first ..

theorem same_canon {x : Nat} (h : canonS x = x) : Pure Tryz.prog 82 [.f x] (.f x) := by have := p_ncanon x; rwa [h] at this
theorem same_self (x : Nat) : Pure Tryz.prog 40 [.f x, .f x] (.b true) := by have := p_r3same x x; rwa [decide_eq_true rfl] at this
theorem bits_self (x : Nat) : Pure Tryz.prog 81 [.f x, .f x] (.b true) := by have := p_vbits x x; rwa [decide_eq_true rfl] at this

/-- What the tokens stand for. -/
def reckTk (x y : Nat) : List AV :=
  [.f x, .f y, .f (canonS x), .f (canonS y), .f (flS (dbl.add x y)), .f (flS (dbl.sub x y)), .f (flS (dbl.mul x y)), .f (flS (dbl.div x y)), .f (r3Min x y), .f (r3Max x y), .f (canonS (negA x)), .f (canonS (absB x)), .f (floorS x)]

theorem reck_ps {x y : Nat} (hx : x < two64) (hy : y < two64) {lt eq gt : Bool} (h1 : ltF x y = lt) (h2 : eqF x y = eq) (h3 : gtF x y = gt) : PsOK Tryz.prog (reckTk x y)
    [⟨17, [], .b true⟩, ⟨20, [.sy 0], .sy 2⟩, ⟨20, [.sy 1], .sy 3⟩, ⟨21, [.sy 0, .sy 1], .sy 4⟩, ⟨22, [.sy 0, .sy 1], .sy 5⟩, ⟨23, [.sy 0, .sy 1], .sy 6⟩, ⟨24, [.sy 0, .sy 1], .sy 7⟩, ⟨25, [.sy 0, .sy 1], .sy 8⟩, ⟨26, [.sy 0, .sy 1], .sy 9⟩, ⟨27, [.sy 0], .sy 10⟩, ⟨28, [.sy 0], .sy 11⟩, ⟨29, [.sy 0], .sy 12⟩, ⟨123, [.sy 2, .sy 3], .sy 4⟩, ⟨124, [.sy 2, .sy 3], .sy 5⟩, ⟨125, [.sy 2, .sy 3], .sy 6⟩, ⟨126, [.sy 2, .sy 3], .sy 7⟩, ⟨95, [.sy 2, .sy 3], .sy 8⟩, ⟨94, [.sy 2, .sy 3], .sy 9⟩, ⟨59, [.sy 2], .sy 10⟩, ⟨93, [.sy 2], .sy 11⟩, ⟨92, [.sy 2], .sy 12⟩, ⟨82, [.sy 2], .sy 2⟩, ⟨82, [.sy 3], .sy 3⟩, ⟨82, [.sy 4], .sy 4⟩, ⟨82, [.sy 5], .sy 5⟩, ⟨82, [.sy 6], .sy 6⟩, ⟨82, [.sy 7], .sy 7⟩, ⟨82, [.sy 8], .sy 8⟩, ⟨82, [.sy 9], .sy 9⟩, ⟨82, [.sy 10], .sy 10⟩, ⟨82, [.sy 11], .sy 11⟩, ⟨82, [.sy 12], .sy 12⟩, ⟨40, [.sy 4, .sy 4], .b true⟩, ⟨40, [.sy 5, .sy 5], .b true⟩, ⟨40, [.sy 6, .sy 6], .b true⟩, ⟨40, [.sy 7, .sy 7], .b true⟩, ⟨40, [.sy 8, .sy 8], .b true⟩, ⟨40, [.sy 9, .sy 9], .b true⟩, ⟨40, [.sy 10, .sy 10], .b true⟩, ⟨40, [.sy 11, .sy 11], .b true⟩, ⟨40, [.sy 12, .sy 12], .b true⟩, ⟨81, [.sy 2, .sy 2], .b true⟩, ⟨81, [.sy 3, .sy 3], .b true⟩, ⟨122, [.sy 2, .sy 3], .b lt⟩, ⟨122, [.sy 3, .sy 2], .b gt⟩, ⟨120, [.sy 2, .sy 3], .b eq⟩] :=
  ⟨⟨rfl, rfl, p_known⟩,
    ⟨rfl, rfl, p_r3canon x⟩,
    ⟨rfl, rfl, p_r3canon y⟩,
    ⟨rfl, rfl, p_r3add x y⟩,
    ⟨rfl, rfl, p_r3sub x y⟩,
    ⟨rfl, rfl, p_r3mul x y⟩,
    ⟨rfl, rfl, p_r3div x y⟩,
    ⟨rfl, rfl, p_r3min hx⟩,
    ⟨rfl, rfl, p_r3max hx⟩,
    ⟨rfl, rfl, p_r3neg hx⟩,
    ⟨rfl, rfl, p_r3abs hx⟩,
    ⟨rfl, rfl, p_r3floor hx⟩,
    ⟨rfl, rfl, (by have := p_nadd (canonS x) (canonS y); rwa [add_canon] at this)⟩,
    ⟨rfl, rfl, (by have := p_nsub (canonS x) (canonS y); rwa [sub_canon] at this)⟩,
    ⟨rfl, rfl, (by have := p_nmul (canonS x) (canonS y); rwa [mul_canon] at this)⟩,
    ⟨rfl, rfl, (by have := p_ndiv (canonS x) (canonS y); rwa [div_canon] at this)⟩,
    ⟨rfl, rfl, (by have := p_nmin (canon_lt hx) (canon_lt hy); rwa [← min_same hx hy] at this)⟩,
    ⟨rfl, rfl, (by have := p_nmax (canon_lt hx) (canon_lt hy); rwa [← max_same hx hy] at this)⟩,
    ⟨rfl, rfl, (by have := p_nneg (canonS x); rwa [neg_canon] at this)⟩,
    ⟨rfl, rfl, (by have := p_nabs (canon_lt hx); rwa [abs_canon] at this)⟩,
    ⟨rfl, rfl, p_nfloor hx⟩,
    ⟨rfl, rfl, same_canon (canon_canon x)⟩,
    ⟨rfl, rfl, same_canon (canon_canon y)⟩,
    ⟨rfl, rfl, same_canon (canon_flS _)⟩,
    ⟨rfl, rfl, same_canon (canon_flS _)⟩,
    ⟨rfl, rfl, same_canon (canon_flS _)⟩,
    ⟨rfl, rfl, same_canon (canon_flS _)⟩,
    ⟨rfl, rfl, same_canon (canon_min hx hy)⟩,
    ⟨rfl, rfl, same_canon (canon_max hx hy)⟩,
    ⟨rfl, rfl, same_canon (canon_canon _)⟩,
    ⟨rfl, rfl, same_canon (canon_canon _)⟩,
    ⟨rfl, rfl, same_canon (canon_floor x hx)⟩,
    ⟨rfl, rfl, same_self _⟩,
    ⟨rfl, rfl, same_self _⟩,
    ⟨rfl, rfl, same_self _⟩,
    ⟨rfl, rfl, same_self _⟩,
    ⟨rfl, rfl, same_self _⟩,
    ⟨rfl, rfl, same_self _⟩,
    ⟨rfl, rfl, same_self _⟩,
    ⟨rfl, rfl, same_self _⟩,
    ⟨rfl, rfl, same_self _⟩,
    ⟨rfl, rfl, bits_self _⟩,
    ⟨rfl, rfl, bits_self _⟩,
    ⟨rfl, rfl, (by have := p_nless (canonS x) (canonS y); rwa [lt_canon, h1] at this)⟩,
    ⟨rfl, rfl, (by have := p_nless (canonS y) (canonS x); rwa [lt_canon, lt_swap, h3] at this)⟩,
    ⟨rfl, rfl, (by have := p_nequal (canonS x) (canonS y); rwa [eq_canon, h2] at this)⟩, trivial⟩

theorem reck_os {x y : Nat} {lt eq gt nx le ne ge : Bool} (h1 : ltF x y = lt) (h2 : eqF x y = eq) (h3 : gtF x y = gt) (h4 : isN x = nx) (h5 : (lt || eq) = le) (h6 : (!eq) = ne) (h7 : (gt || eq) = ge) : OsOK Tryz.prog (reckTk x y)
    [⟨.bin .lss 22, [.sy 0, .sy 1], .b lt⟩, ⟨.bin .leq 22, [.sy 0, .sy 1], .b le⟩, ⟨.bin .eql 22, [.sy 0, .sy 1], .b eq⟩, ⟨.bin .neq 22, [.sy 0, .sy 1], .b ne⟩, ⟨.bin .geq 22, [.sy 0, .sy 1], .b ge⟩, ⟨.bin .gtr 22, [.sy 0, .sy 1], .b gt⟩,
     ⟨.bin .neq 22, [.sy 0, .sy 0], .b nx⟩, ⟨.bin .neq 22, [.sy 2, .sy 2], .b nx⟩] := by
  have h8 : (ltF x y || eqF x y) = le := by rw [h1, h2, h5]
  have h9 : (!(eqF x y)) = ne := by rw [h2, h6]
  have h10 : (gtF x y || eqF x y) = ge := by rw [h3, h2, h7]
  exact ⟨eb h1, eb h8, eb h2, eb h9, eb h10, eb h3, eb h4, eb ((isN_canonF x).trans h4), trivial⟩

theorem reck_rs (x y : Nat) : RsOK Tryz.prog (reckTk x y) reckRs :=
  ⟨parse0_0, parse1_0, parse2_0, parse3_0, parse4_0, parse5_0, parse6_0, parse7_0, parse8_0, parse9_0, parse10_0, parse11_0, parse12_0, parse13_0, parse14_0, parse15_0, istree0_0, istree1_0, istree2_0, istree3_0, istree4_0, istree5_0, istree6_0, istree7_0, istree8_0, istree9_0, istree10_0, istree11_0, istree12_0, istree13_0, istree14_0, istree15_0, trivial⟩

theorem none_un {x y : Nat} (h : isN x = true ∨ isN y = true) : ltF x y = false ∧ eqF x y = false ∧ gtF x y = false := by
  have : dbl.order x y = none := by rcases h with h | h; exact order_nan_l h; exact order_nan_r h
  unfold ltF eqF gtF
  rw [this]
  exact ⟨rfl, rfl, rfl⟩

theorem p_reckons {x y : Nat} (hx : x < two64) (hy : y < two64) : Pure Tryz.prog 6 [.f x, .f y] (.b true) := by
  cases nx : isN x with
  | true =>
    obtain ⟨h1, h2, h3⟩ := none_un (y := y) (.inl nx)
    exact reckUn_0 (reckTk x y) rfl (reck_rs x y) (reck_ps hx hy h1 h2 h3) (reck_os h1 h2 h3 nx rfl rfl rfl) rfl rfl
  | false =>
    cases ny : isN y with
    | true =>
      obtain ⟨h1, h2, h3⟩ := none_un (x := x) (.inr ny)
      exact reckUm_0 (reckTk x y) rfl (reck_rs x y) (reck_ps hx hy h1 h2 h3) (reck_os h1 h2 h3 nx rfl rfl rfl) rfl rfl
    | false =>
      rcases ord_cases nx ny with ⟨h1, h3, h2, _⟩ | ⟨h1, h3, h2, _⟩ | ⟨h1, h3, h2⟩
      · exact reckLt_0 (reckTk x y) rfl (reck_rs x y) (reck_ps hx hy h1 h2 h3) (reck_os h1 h2 h3 nx rfl rfl rfl) rfl rfl
      · exact reckGt_0 (reckTk x y) rfl (reck_rs x y) (reck_ps hx hy h1 h2 h3) (reck_os h1 h2 h3 nx rfl rfl rfl) rfl rfl
      · exact reckEq_0 (reckTk x y) rfl (reck_rs x y) (reck_ps hx hy h1 h2 h3) (reck_os h1 h2 h3 nx rfl rfl rfl) rfl rfl
end Go.Proofs.YtcinmjajfccbaaaGreatDoor
