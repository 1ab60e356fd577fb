/- Closed runs in parts: a call that was run once is looked up afterwards. -/
import Derived.Test.YtfjgblbmdddpkaaGreatDoorCb
namespace Go.Ab
open Go.RowKit

/-- A call that was run: with these arguments, in this memory. -/
structure MEnt where
  f : FuncId
  args : List AV
  s : HS
  q : CR
  s' : HS

def CallT.memo (tab : CallT) (e : MEnt) : CallT := { tab with fn := fun f args s => if Nat.beq f e.f && AV.beqs args e.args && listBeq AO.beq s.h e.s.h && decide (s.esc = e.s.esc) then some (e.q, e.s') else tab.fn f args s }

section
variable {P : Program}

theorem memo_ok {b : Base} {tab : CallT} (hmx : P.follows .mixedOrders = true) (hnm : Named P) (hT : SoundC P b tab ∧ GrowC tab) {e : MEnt} {n : Nat} (hrun : callF P tab n e.f e.args e.s = some (e.q, e.s')) : SoundC P b (tab.memo e) ∧ GrowC (tab.memo e) := by
  have key : ∀ {f : FuncId} {args : List AV} {s : HS}, (Nat.beq f e.f && AV.beqs args e.args && listBeq AO.beq s.h e.s.h && decide (s.esc = e.s.esc)) = true → f = e.f ∧ args = e.args ∧ s = e.s := by
    intro f args s h
    simp only [Bool.and_eq_true, decide_eq_true_eq] at h
    obtain ⟨⟨⟨h1, h2⟩, h3⟩, h4⟩ := h
    refine ⟨Nat.eq_of_beq_eq_true h1, AV.eq_of_beqs h2, ?_⟩
    have h5 := list_eq (fun _ _ => AO.eq_of_beq) h3
    cases s
    cases hs : e.s
    simp_all
  refine ⟨⟨fun f args s res s' h r w Vs hR hv => ?_, hT.1.op⟩, ⟨fun f args s res s' h => ?_, hT.2.lo⟩⟩
  · simp only [CallT.memo] at h
    split at h
    · rename_i hc
      obtain ⟨rfl, rfl, rfl⟩ := key hc
      cases h
      exact (call_sound hmx hnm hT.1 hT.2 n).fn _ _ _ _ _ hrun r w Vs hR hv
    · exact hT.1.fn f args s res s' h r w Vs hR hv
  · simp only [CallT.memo] at h
    split at h
    · rename_i hc
      obtain ⟨rfl, rfl, rfl⟩ := key hc
      cases h
      exact (call_grow hT.2 n).fn _ _ _ _ _ hrun
    · exact hT.2.fn f args s res s' h

/-- A run that comes to one value. -/
theorem pure_of_tab {tab : CallT} (hmx : P.follows .mixedOrders = true) (hnm : Named P) (hT : ∀ b : Base, SoundC P b tab ∧ GrowC tab) {n : Nat} {f : FuncId} {fn : Func} {cd : Code} (hf : P.funcs[f]? = some fn) (hb : fn.body = some cd)
    {args : List AV} {v : AV} {s' : HS} (hrun : callF P tab n f args { h := [], esc := none } = some (.ret v, s')) (h1 : stableAs args = true) (h2 : stableA v = true) : Pure P f args v := by
  intro w
  refine .inr ⟨enter_run hf (hnm _ _ hf) hb _ w, ?_⟩
  have := calls_plain (b := Base.told w []) hmx hnm (hT (Base.told w [])).1 (hT (Base.told w [])).2 (fun _ _ _ h => h) (fun _ => rfl) hf hb hrun (Vs := valAs args) (VRels.ofStables h1)
  refine this.mono fun e w' ⟨r', V, he, hv, hle, _, hb'⟩ => ⟨?_, hb'⟩
  rw [he, VRel.stable_eq h2 hv]

/-! ### What operations come to on what is told -/
theorem ek_len_l {t e : TypeId} {k : Tk} {cs : List AV} {n : Nat} (hu : P.underlying t = some (.slice e)) : evalK P (.len t) [.l k cs n] = some (.i .i64 n) := by
  show (match P.underlying t with | some (.slice _) => some (AV.i .i64 n) | _ => none) = _
  rw [hu]
theorem ek_len_s {t : TypeId} {l : List UInt8} (hu : P.underlying t = some .string) : evalK P (.len t) [.s l] = some (.i .i64 l.length) := by
  show (match P.underlying t with | some .string => some (AV.i .i64 l.length) | _ => none) = _
  rw [hu]
theorem ek_index {t e : TypeId} {k : Tk} {cs : List AV} {n sz : Nat} {kk : IntKind} {i : Int} (hu : P.underlying t = some (.slice e)) (hs : sizeA P e = some sz) (h0 : 0 ≤ i) (h1 : i < n) : evalK P (.indexAddr t) [.l k cs n, .i kk i] = some (.r cs (i.toNat * sz)) := by
  show indexAddrA P t (.l k cs n) (.i kk i) = _
  simp only [indexAddrA, hu, hs]
  rw [if_pos ⟨h0, h1⟩]
theorem ek_load {t : TypeId} {cs : List AV} {off : Nat} (ha : isAggA P t = some false) : evalK P (.load t) [.r cs off] = cs[off]? := by
  show partA P t cs off = _
  unfold partA
  rw [ha]

/-- From a row to the calls that a law's row asks for. -/
theorem Row.calls {f : FuncId} {fn : Func} {cd : Code} {args : List AV} {v : AV} (hp : Row P f args (.ret v)) (hnm : Named P) (hf : P.funcs[f]? = some fn) (hb : fn.body = some cd) (hv : stableA v = true) (w : World) {Vs : List Value}
    (ha : VRels (.start (Base.told w [])) args Vs) : Calls P f Vs.toArray w fun e w' => e = .returned (valA v) ∧ Below w.heap.size w w' := by
  rcases hp (Base.told w []) (.start (Base.told w [])) [] w Vs (R.start fun _ _ _ h => h) ha with ⟨V, w', h1, _⟩ | ⟨_, h2⟩
  · rw [enter_run hf (hnm _ _ hf) hb] at h1; cases h1
  · refine h2.mono fun e w' ⟨r', h3, h4, h5⟩ => ?_
    cases e with
    | returned V => exact ⟨by rw [VRel.stable_eq hv h5], h4.bel.below fun _ => rfl⟩
    | panicked ch => exact h5.elim
    | outgrown => exact h5.elim
end
end Go.Ab
