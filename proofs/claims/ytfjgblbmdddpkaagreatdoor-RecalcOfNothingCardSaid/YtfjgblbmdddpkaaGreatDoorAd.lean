/- Operations that turn no abstract memory: what the interpreter says of them is what the model does. -/
import Derived.Test.YtfjgblbmdddpkaaGreatDoorAc
namespace Go.Ab
open Go.RowKit

/-- Two worlds of which only the count of draws differs. -/
structure Sm (w w' : World) : Prop where
  heap : w'.heap = w.heap
  os : w'.os = w.os
  tape : w'.tape = w.tape
  output : w'.output = w.output

theorem Sm.refl (w : World) : Sm w w := ⟨rfl, rfl, rfl, rfl⟩
theorem Sm.drew (w : World) : Sm w w.drew := ⟨rfl, rfl, rfl, rfl⟩
theorem Sm.cell {w w' : World} (h : Sm w w') (a : Addr) : w'.cell? a = w.cell? a := by simp [World.cell?, h.heap]

theorem R.sm {P : Program} {w0 : Base} {r : RC} {h : AH} {w w' : World} (hR : R P w0 r h w) (hs : Sm w w') : R P w0 r h w' where
  len := hR.len
  cs k B l h1 h2 := by rw [hs.heap]; exact hR.cs k B l h1 h2
  mp k B es h1 h2 := by rw [hs.heap]; exact hR.mp k B es h1 h2
  it k B s pos h1 h2 := by rw [hs.heap]; exact hR.it k B s pos h1 h2
  tk k B n e h1 h2 := by rw [hs.heap]; exact hR.tk k B n e h1 h2
  imm B o V h := by rw [hs.cell]; exact hR.imm B o V h
  dis := hR.dis
  nd := hR.nd
  new := hR.new
  rho := hR.rho
  old := hR.old
  bel := ⟨hs.os.trans hR.bel.os, hs.tape.trans hR.bel.tape, hs.output.trans hR.bel.output, by rw [hs.heap]; exact hR.bel.size, fun k hk ho => by rw [hs.heap]; exact hR.bel.block k hk ho⟩

/-! ### Numbers that are none -/
theorem order_none {x : Nat} (hx : 9218868437227405312 < x % 9223372036854775808) : isNan x := by
  have hr : (Ieee.double.read x).order = (Ieee.Datum.nan (x / 9223372036854775808 % 2 == 1) (x % 9223372036854775808 - 9218868437227405312)).order := by
    unfold Ieee.Format.read
    have e1 : Ieee.double.signWeight = 9223372036854775808 := by decide
    have e2 : Ieee.double.binade = 4503599627370496 := by decide
    have e3 : Ieee.double.infRung = 9218868437227405312 := by decide
    simp only [e1, e2, e3]
    rw [if_neg (by omega), if_neg (by omega), if_neg (by omega)]
  have hr' : Ieee.double.read x = Ieee.Datum.nan (x / 9223372036854775808 % 2 == 1) (x % 9223372036854775808 - 9218868437227405312) := by
    unfold Ieee.Format.read
    have e1 : Ieee.double.signWeight = 9223372036854775808 := by decide
    have e2 : Ieee.double.binade = 4503599627370496 := by decide
    have e3 : Ieee.double.infRung = 9218868437227405312 := by decide
    simp only [e1, e2, e3]
    rw [if_neg (by omega), if_neg (by omega), if_neg (by omega)]
  intro y
  constructor
  · show (Ieee.double.read x).order (Ieee.double.read y) = none
    rw [hr']; rfl
  · show (Ieee.double.read y).order (Ieee.double.read x) = none
    rw [hr']
    cases Ieee.double.read y <;> rfl

theorem nanBits_isNan (x y t : Nat) : isNan ((Question.nanBits .f64 x y).cut t) := by
  apply order_none
  simp only [Question.cut]
  have := Nat.mod_lt (t / 2) (show 0 < 2 ^ 52 - 1 by decide)
  have h2 : t % 2 = 0 ∨ t % 2 = 1 := Nat.mod_two_eq_zero_or_one t
  rcases h2 with h | h <;> rw [h] <;> omega

/-! ### Arithmetic -/
section
variable {P : Program} {w : World} {r : RC}

/-- A computation that gives a value that is told, and turns no memory. -/
def Gives (P : Program) (r : RC) (w : World) (s : Sem Value) (v : AV) : Prop := ∃ V w', s.run P w = .ok V w' ∧ Sm w w' ∧ VRel r v V

theorem Gives.now {s : Sem Value} {v : AV} {V : Value} (h : s.run P w = .ok V w) (hv : VRel r v V) : Gives P r w s v := ⟨V, w, h, .refl w, hv⟩

theorem int_gives {op : BinOp} {t : TypeId} {k : IntKind} {x y : Int} {v : AV} (h : aInt op k x y = some v) : Gives P r w (binOp op t (.int k x) (.int k y)) v := by
  cases op <;> simp only [aInt, Option.some.injEq] at h
  case quo =>
    split at h
    · cases h
    · rename_i hy
      cases h
      exact .now (V := .int k (k.wrap (x.tdiv y))) (by simp [binOp, Op.intDiv, hy]) (.i _ _)
  case rem =>
    split at h
    · cases h
    · rename_i hy
      cases h
      exact .now (V := .int k (x.tmod y)) (by simp [binOp, Op.intDiv, hy]) (.i _ _)
  case shl => cases h
  case shr => cases h
  all_goals (subst h; first | exact .now (V := .int k _) (by simp [binOp, Op.intArith, Op.intBits]; done) (.i _ _) | exact .now (V := .bool _) (by simp [binOp, Op.intCmp]; done) (.b _))

theorem shift_gives {op : BinOp} {t : TypeId} {k j : IntKind} {x y : Int} {v : AV} (ho : op = .shl ∨ op = .shr) (h : aShift op k x y = some v) : Gives P r w (binOp op t (.int k x) (.int j y)) v := by
  unfold aShift at h
  split at h
  · cases h
  · rename_i hy
    rcases ho with rfl | rfl
    · cases h
      exact .now (V := .int k _) (by simp [binOp, Op.shift, hy]; done) (.i _ _)
    · cases h
      exact .now (V := .int k _) (by simp [binOp, Op.shift, hy]; done) (.i _ _)

theorem float_gives {op : BinOp} {t : TypeId} {x y : Nat} {v : AV} (h : aFloat op x y = some v) : Gives P r w (binOp op t (.float .f64 x) (.float .f64 y)) v := by
  have arith : ∀ (o : Option Nat), (op = .add ∨ op = .sub ∨ op = .mul ∨ op = .quo) → (Op.floatArith op .f64 x y = (match o with | some r => pure (.float .f64 r) | none => do pure (.float .f64 (← choose (.nanBits .f64 x y))))) →
      Gives P r w (binOp op t (.float .f64 x) (.float .f64 y)) (fl o) := by
    intro o ho he
    have hb : binOp op t (.float .f64 x) (.float .f64 y) = Op.floatArith op .f64 x y := by rcases ho with rfl | rfl | rfl | rfl <;> simp [binOp]
    rw [hb, he]
    cases o with
    | some q => exact .now (V := .float .f64 q) rfl (.f q)
    | none => exact ⟨.float .f64 ((Question.nanBits .f64 x y).cut (w.tape w.drawn (.nanBits .f64 x y))), w.drew, by simp [Question.forced], .drew w, .nan _ (nanBits_isNan x y _)⟩
  cases op <;> simp only [aFloat, Option.some.injEq] at h
  case add => subst h; exact arith _ (by simp) (by simp only [Op.floatArith, bind, pure, Sem.bind]; cases FloatKind.f64.format.add x y <;> rfl)
  case sub => subst h; exact arith _ (by simp) (by simp only [Op.floatArith, bind, pure, Sem.bind]; cases FloatKind.f64.format.sub x y <;> rfl)
  case mul => subst h; exact arith _ (by simp) (by simp only [Op.floatArith, bind, pure, Sem.bind]; cases FloatKind.f64.format.mul x y <;> rfl)
  case quo => subst h; exact arith _ (by simp) (by simp only [Op.floatArith, bind, pure, Sem.bind]; cases FloatKind.f64.format.div x y <;> rfl)
  all_goals first | (cases h; done) | (subst h; exact .now (V := .bool _) (by simp [binOp, Op.floatCmp]; done) (.b _))

theorem nan_gives {op : BinOp} {t : TypeId} {x y : Nat} {v : AV} (h : aNan op = some v) (hn : FloatKind.f64.format.order x y = none) : Gives P r w (binOp op t (.float .f64 x) (.float .f64 y)) v := by
  cases op <;> simp only [aNan, Option.some.injEq] at h
  all_goals first | (cases h; done) | (subst h; refine .now (V := .bool _) ?_ (.b _); simp [binOp, Op.floatCmp, hn]; done) | (subst h; refine .now (V := .bool _) ?_ (.b _); simp [binOp, Op.floatCmp, hn]; rfl)

theorem str_gives {op : BinOp} {t : TypeId} {x y : List UInt8} {v : AV} (h : aStr op x y = some v) : Gives P r w (binOp op t (.string ⟨x.toArray⟩) (.string ⟨y.toArray⟩)) v := by
  cases op <;> simp only [aStr, Option.some.injEq] at h
  case add =>
    split at h
    · rename_i hl
      cases h
      refine .now (V := .string ⟨(x ++ y).toArray⟩) ?_ (.s _)
      have h1 : (⟨x.toArray⟩ : ByteArray).size = x.length := by simp [ByteArray.size]
      have h2 : (⟨y.toArray⟩ : ByteArray).size = y.length := by simp [ByteArray.size]
      have h3 : ¬ (9223372036854775807 < ((x.length : Int) + (y.length : Int))) := by omega
      have h4 : (⟨x.toArray⟩ : ByteArray) ++ ⟨y.toArray⟩ = ⟨(x ++ y).toArray⟩ := by
        apply ByteArray.ext
        apply Array.ext'
        simp [ByteArray.data_append]
      simp [binOp, Op.stringOp, h1, h2, h3, h4]
    · cases h
  all_goals first | (cases h; done) | (subst h; exact .now (V := .bool _) (by simp [binOp, Op.stringOp]; done) (.b _))
end
end Go.Ab
