/- EvalReckons: the row's contract. -/
import Derived.Test.YtcinmjajfccbaaaGreatDoorBb
import Derived.Test.YtcinmjajfccbaaaGreatDoorGd
namespace Go.Proofs.YtcinmjajfccbaaaGreatDoor.evalReckons
open Go.ChangeShapes Go.WideShapes Go.ChangeAt Go.RowKit Go.Ab

theorem walk {x y : Nat} (hx : x < two64) (hy : y < two64) (w : World) : Calls Tryz.prog 6 #[.float .f64 x, .float .f64 y] w fun e w' => e = .returned (.bool true) ∧ Below w.heap.size w w' :=
  (p_reckons hx hy).calls named Tryz.func6 (cd := Tryz.f6.body.getD .skip) rfl w

theorem read22 : Tryz.prog.readableRec 22 = true := by kernel_rfl
theorem row22 : 22 < Tryz.prog.types.size := of_decide_eq_true (by kernel_rfl)
theorem readable : ∀ t ∈ Tryz.f6.params.toList, Tryz.prog.readableRec t = true ∧ t < Tryz.prog.types.size := by
  rw [Tryz.params6]
  intro t ht
  have : t = 22 := by simpa using ht
  rw [this]
  exact ⟨read22, row22⟩

set_option maxRecDepth 100000 in
theorem contract (H : Type) (enc : TypeId × Value → H) (W : World) (base : Nat) (args : Array Value) (ds gs : List (DataW H)) (before : List MemPlace)
    (hval : ∀ (j : Nat) t v, Tryz.f6.params[j]? = some t → args[j]? = some v → Value.okWide Tryz.prog W .any base t v)
    (hW : DataW.Whole enc Tryz.prog Tryz.f6.params.toList Rows.evalReckonsSpec.vars false W args.toList ds gs before) :
    Calls Tryz.prog 6 args W fun e W' => ∃ v, e = .returned v ∧ Rows.evalReckonsSpec.post enc Tryz.prog Tryz.f6 false true false false W args v W' := by
  have hW' := hW
  obtain ⟨p, q, hA0, hV, rfl, hfz, hnd⟩ := hW
  have hA : DataW.TrodAll enc Tryz.prog W 0 (fun _ => true) true Tryz.f6.params.toList args.toList ds p := hA0
  rw [Tryz.params6] at hA hval
  obtain ⟨v0, vs0, d0, ds0, p0, q0, hargs, rfl, rfl, h0, r0⟩ := trodAll_cons hA
  obtain ⟨v1, vs1, d1, ds1, p1, q1, rfl, rfl, rfl, h1, r1⟩ := trodAll_cons r0
  obtain ⟨rfl, rfl, rfl⟩ := trodAll_nil r1
  obtain rfl : args = #[v0, v1] := by cases args; simp_all
  have k0 : Value.okWide Tryz.prog W .any base 22 v0 := hval 0 22 v0 rfl rfl
  have k1 : Value.okWide Tryz.prog W .any base 22 v1 := hval 1 22 v1 rfl rfl
  obtain ⟨x, hx, hdx, hpx, wx⟩ := open_float Tryz.underlying22 k0 h0
  obtain ⟨y, hy, hdy, hpy, wy⟩ := open_float Tryz.underlying22 k1 h1
  subst hx; subst hy
  have bx : x < two64 := by simpa [Lit.wf, two64] using wx
  have by' : y < two64 := by simpa [Lit.wf, two64] using wy
  refine (walk bx by' W).mono fun e W' ⟨he, hb⟩ => ?_
  subst he
  exact ⟨_, rfl, law_post hW' rfl rfl laidOut readable hb rfl Tryz.underlying4⟩

end Go.Proofs.YtcinmjajfccbaaaGreatDoor.evalReckons
