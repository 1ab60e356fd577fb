/- SemOfNothing: any name and any cells. No condition beside the row's own. -/
import Derived.Test.YtfjgblbmdddpkaaGreatDoorHe
import Derived.Test.YtfjgblbmdddpkaaGreatDoorHh
import Derived.ChangeMaps5
namespace Go.Proofs.YtfjgblbmdddpkaaGreatDoor.semOfNothing
open Go.ChangeShapes Go.WideShapes Go.ChangeAt Go.RowKit Go.Ab

theorem readable : ∀ t ∈ Tryz.f6.params.toList, Tryz.prog.readableRec t = true ∧ t < Tryz.prog.types.size := by
  rw [Tryz.params6]
  intro t ht
  have : t = 9 ∨ t = 25 := by simpa using ht
  rcases this with rfl | rfl
  · exact ⟨by kernel_rfl, of_decide_eq_true (by kernel_rfl)⟩
  · exact ⟨by kernel_rfl, of_decide_eq_true (by kernel_rfl)⟩

set_option maxRecDepth 100000 in
theorem contract (H : Type) (enc : TypeId × Value → H) (W : World) (base : Nat) (args : Array Value) (ds gs : List (DataW H)) (before : List MemPlace)
    (hval : ∀ (j : Nat) t v, Tryz.f6.params[j]? = some t → args[j]? = some v → Value.okWide Tryz.prog W .any base t v)
    (hW : DataW.Whole enc Tryz.prog Tryz.f6.params.toList Rows.semOfNothingSpec.vars false W args.toList ds gs before) :
    Calls Tryz.prog 6 args W fun e W' => ∃ v, e = .returned v ∧ Rows.semOfNothingSpec.post enc Tryz.prog Tryz.f6 false true false false W args v W' := by
  have hW' := hW
  obtain ⟨p, q, hA0, hV, rfl, hfz, hnd⟩ := hW
  have hA : DataW.TrodAll enc Tryz.prog W 0 (fun _ => true) true Tryz.f6.params.toList args.toList ds p := hA0
  rw [Tryz.params6] at hA hval
  obtain ⟨v0, vs0, d0, ds0, p0, q0, hargs, rfl, rfl, h0, r0⟩ := trodAll_cons hA
  obtain ⟨v1, vs1, d1, ds1, p1, q1, rfl, rfl, rfl, h1, r1⟩ := trodAll_cons r0
  obtain ⟨rfl, rfl, rfl⟩ := trodAll_nil r1
  obtain rfl : args = #[v0, v1] := by cases args; simp_all
  have k0 : Value.okWide Tryz.prog W .any base 9 v0 := hval 0 9 v0 rfl rfl
  have k1 : Value.okWide Tryz.prog W .any base 25 v1 := hval 1 25 v1 rfl rfl
  obtain ⟨s, rfl, hd0, hp0, _⟩ := Go.ChangeMaps.open_string Tryz.underlying9 k0 h0
  obtain ⟨a, n, c, rfl⟩ := okWide_slice Tryz.underlying25 k1
  obtain ⟨fuel, hf⟩ := h1
  have hp : ∀ (x : AV) (V : Value), Row Tryz.prog 6 [.s s.data.toList, x] (.ret (.b true)) → VRel (.start (Base.told W [])) x V →
      Calls Tryz.prog 6 #[.string s, V] W fun e w' => e = .returned (.bool true) ∧ Below W.heap.size W w' := fun x V hr hv =>
    hr.calls named Tryz.func6 (cd := Tryz.f6.body.getD .skip) rfl rfl W (Vs := [.string s, V]) (VRels.cons (.s s.data.toList) (VRels.cons hv .nil))
  have hc : Calls Tryz.prog 6 #[.string s, .slice a n c] W fun e w' => e = .returned (.bool true) ∧ Below W.heap.size W w' := by
    rcases open_cells (v := .slice a n c) hf (fun a' n' c' h => slice_spot Tryz.underlying25 (h ▸ k1)) with h | ⟨l, hl, h⟩
    · rw [h]
      exact hp _ _ (row_son_nil _) .ln
    · exact hp _ _ (row_son _ l hl) (h _ rfl)
  refine hc.mono fun e W' ⟨he, hb⟩ => ?_
  subst he
  exact ⟨_, rfl, law_post hW' rfl rfl laidOut readable hb rfl Tryz.underlying4⟩

def z0 : Array Value := #[.string ⟨#[]⟩, .slice none 0 0]

theorem laid_met (os : Os) : laidMet Tryz.prog Rows.semOfNothingRow.laid ((laidWorld os).forCall (fun _ _ => 0) ⟨#[], z0, []⟩).memory :=
  laidMet_of_run' 8 (by kernel_rfl) (by kernel_rfl)
theorem reads (os : Os) {H : Type} (enc : TypeId × Value → H) : ∃ places, DataW.whole enc Tryz.prog ((laidWorld os).forCall (fun _ _ => 0) ⟨#[], z0, []⟩).memory Tryz.f6.params.toList Rows.semOfNothingSpec.vars false z0.toList 8 = some ([.lit (.string []), .nil], [], places) :=
  ⟨[], by kernel_rfl⟩

set_option maxRecDepth 100000 in
theorem lifted (os : Os) (started : os.Started) (H : Type) (enc : TypeId × Value → H) (F : Stop.Interp) :
    ReturnsInHanded {} Tryz.checked os 6 .any ((OpenSpec.ofChange Rows.semOfNothingSpec).preRow enc Tryz.prog Tryz.f6 Rows.semOfNothingRow.domain false Rows.semOfNothingRow.laid) (((OpenSpec.ofChange Rows.semOfNothingSpec).at F).post enc Tryz.prog Tryz.f6 false true false false) := by
  obtain ⟨places, hx⟩ := reads os enc
  refine returnsInHanded_of_row (C := Tryz.checked) (s := OpenSpec.ofChange Rows.semOfNothingSpec) own started (by kernel_rfl) Tryz.func6
    (witness_row_atRef (enc := enc) (C := Tryz.checked) false (laidWorld os) z0 rfl (by kernel_rfl) (by kernel_rfl) (by kernel_rfl)
      (OpenSpec.preRow_of_cond 8 hx (by kernel_rfl) (fun k hk => by cases hk) (by kernel_rfl) (laid_met os))) ?_
  intro W base args ds gs before hval hW _ _ _ hL _ _
  exact contract H enc W base args ds gs before hval hW

theorem wrap : Tryz.f6.isWrapper Tryz.prog Rows.semOfNothingRow.wrapper Rows.semOfNothingRow.mainSum := by
  unfold Func.isWrapper
  first | (rw [if_pos (by decide +kernel)]; kernel_rfl) | (rw [if_neg (by decide +kernel)]; exact ⟨rfl, rfl⟩)

theorem closed : joinedFacts Tryz.prog son Tryz.f6 (OpenSpec.ofChange Rows.semOfNothingSpec).bare Rows.semOfNothingRow = true := by
  unfold joinedFacts
  simp only [Bool.and_eq_true]
  repeat' apply And.intro
  all_goals first | with_reducible exact f10 | with_reducible exact f11 | with_reducible exact f12 | with_reducible exact f13 | with_reducible exact mr | with_reducible exact laidOut | kernel_rfl

theorem said : Rows.SemOfNothingSaid :=
  OpenClaim.holds_of_cond 6 Tryz.f6 rfl rfl rfl rfl rfl rfl rfl ⟨rfl, rfl, rfl, rfl, rfl⟩ rfl rfl rfl rfl rfl (by kernel_rfl) Tryz.func6 closed
    (of_decide_eq_true (by kernel_rfl)) wrap
    (fun os started H enc _ F => by rw [OpenClaim.pre_eq_preRow]; exact lifted os started H enc F)

theorem plain (f : FuncId) (fn : Func) (hf : Tryz.pinned.checked.prog.funcNamed "formulary/formularylaw11.SemOfNothing" = some f) (hfn : Tryz.pinned.checked.prog.funcs[f]? = some fn) :
    true = Tryz.pinned.checked.prog.looks [] ∧ ∀ (j : Nat) t, fn.params[j]? = some t → Tryz.pinned.checked.prog.wantsStandIn t = false := by
  obtain rfl : f = 6 := Option.some.inj ((show Tryz.prog.funcNamed "formulary/formularylaw11.SemOfNothing" = some 6 by kernel_rfl).symm.trans hf) |>.symm
  obtain rfl : fn = Tryz.f6 := (Option.some.inj (Tryz.func6.symm.trans hfn)).symm
  refine ⟨looks0, fun j t ht => ?_⟩
  rw [Tryz.params6] at ht
  have : t = 9 ∨ t = 25 := by have := Array.mem_of_getElem? ht; simpa using this
  rcases this with rfl | rfl
  · exact (show Tryz.prog.wantsStandIn 9 = false by kernel_rfl)
  · exact (show Tryz.prog.wantsStandIn 25 = false by kernel_rfl)

theorem card : Rows.SemOfNothingCardSaid :=
  Claim7.holds_tied_plain_at .later [] _ _ _ _ said (fun _ h => by cases h) wft (fun _ h => by cases h) semOfNothing_row_tie rfl ⟨rfl, rfl⟩ main rfl plain goes
end Go.Proofs.YtfjgblbmdddpkaaGreatDoor.semOfNothing
