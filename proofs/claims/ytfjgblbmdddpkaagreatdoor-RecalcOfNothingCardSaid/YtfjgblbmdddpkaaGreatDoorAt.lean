/- Calls, second part: the whole interpreter is sound. -/
import Derived.Test.YtfjgblbmdddpkaaGreatDoorAs
namespace Go.Ab
open Go.RowKit

section
variable {P : Program} {w0 : Base} {w : World} {r : RC} {h : AH} {call : CallT}

theorem enter_run {f : FuncId} {fn : Func} {c : Code} (hf : P.funcs[f]? = some fn) (hname : (fn.name == "runtime.NumGoroutine") = false) (hb : fn.body = some c) (args : Array Value) (w : World) : (callFunc f args).run P w = .ok (.enter f args) w := by
  have h1 : fn.name ≠ "runtime.NumGoroutine" := by simpa using hname
  simp [callFunc, hf, h1, hb]

/-- No function with a body is one that the machine answers itself. -/
def Named (P : Program) : Prop := ∀ (f : FuncId) (fn : Func), P.funcs[f]? = some fn → (fn.name == "runtime.NumGoroutine") = false

theorem deferred_sound (hC : SoundC P w0 call) (hlo : NoLo call) (hmx : P.follows .mixedOrders = true) {lp : Nat} {g : FuncId} {args : List AV} {m m' : MD} {s s' : HS} {Vs : List Value} {u : FrameMode} (h : deferredA P call lp g args m s = some (m', s')) (hR : R P w0 r s.h w) (hv : VRels r args Vs)
    (hM : MRel r m u) : ∃ fn c, P.funcs[g]? = some fn ∧ fn.body = some c ∧ CallsD P g Vs.toArray u w fun e u' w' => ∃ r', RLe r r' ∧ R P w0 r' s'.h w' ∧ match e with
      | .returned _ => MRel r' m' (settle u')
      | .panicked ch => MRel r' m' (raised u' ch)
      | .outgrown => False := by
  unfold deferredA at h
  split at h
  · rename_i fn hf
    split at h
    · rename_i c hb
      refine ⟨fn, c, hf, hb, ?_⟩
      split at h
      · rename_i hn
        refine callsD_of_wpS hf hb fun c₀ cs hu => ?_
        subst hu
        have go : ∀ {Q : Exit → Act → List Frame → World → Prop} {e : AE} {st : ST} {m1 : MD}, exD P call lp fn.ntmps c (startA fn args s) m = some (e, st, m1) →
            (∀ r' e' a' w' u', RLe r r' → SR P w0 r' fn.ntmps st a' w' → MRel r' m1 u' → XRel r' e e' → Q e' a' ({ c₀ with mode := u' } :: cs) w') →
            c.wpS P Q { tmps := Vs.toArray ++ Array.replicate (fn.ntmps - Vs.toArray.size) undef, defers := [] } (c₀ :: cs) w := fun hx hQ =>
          exD_sound hC hlo hmx (c₀ := c₀) (cs := cs) c hx (start_rel hR hv (by simpa using hn)) hM hQ
        have back : ∀ {st : ST} {m1 : MD} {l : List AV} {r' : RC} {a' : Act} {w' : World} {u' : FrameMode}, st.df = [] → resA P fn.results.toList st.tm st.s.h = some l → RLe r r' → SR P w0 r' fn.ntmps st a' w' → MRel r' m1 u' → ∀ {e' : Exit}, e' = .normal ∨ e' = .ret →
            bodyPostS P fn c₀ cs (fun e u' w' => ∃ r', RLe r r' ∧ R P w0 r' st.s.h w' ∧ match e with
              | .returned _ => MRel r' m1.settle (settle u')
              | .panicked ch => MRel r' m1.settle (raised u' ch)
              | .outgrown => False) e' a' ({ c₀ with mode := u' } :: cs) w' := by
          intro st m1 l r' a' w' u' hdf hl hle hS hM' e' he'
          obtain ⟨V, hV, _⟩ := results_run hS.mem hS.tm hl
          have hd : a'.defers = [] := by
            have := hS.df
            rw [hdf] at this
            cases hq : a'.defers with
            | nil => rfl
            | cons x xs => rw [hq] at this; exact this.elim
          rcases he' with rfl | rfl <;> exact ⟨hd, u', rfl, V, hV, r', hle, hS.mem, hM'.settle⟩
        split at h
        · rename_i st m1 hx
          split at h
          · rename_i hdf hl
            cases h
            exact go hx fun r' e' a' w' u' h1 h2 h3 h4 => back hdf hl h1 h2 h3 (.inl (xnm h4))
          · cases h
        · rename_i st m1 hx
          split at h
          · rename_i hdf hl
            cases h
            exact go hx fun r' e' a' w' u' h1 h2 h3 h4 => back hdf hl h1 h2 h3 (.inr (by cases e' <;> first | rfl | exact h4.elim))
          · cases h
        · rename_i v st m1 hx
          split at h
          · rename_i hdf
            cases h
            refine go hx fun r' e' a' w' u' h1 h2 h3 h4 => ?_
            cases e' with
            | panic ch =>
              have hd : a'.defers = [] := by
                have := h2.df
                rw [hdf] at this
                cases hq : a'.defers with
                | nil => rfl
                | cons x xs => rw [hq] at this; exact this.elim
              exact ⟨hd, u', rfl, r', h1, h2.mem, h3.raised h4⟩
            | _ => exact h4.elim
          · cases h
        · cases h
      · cases h
    · cases h
  · cases h

theorem leave_sound (hC : SoundC P w0 call) (hlo : NoLo call) (hmx : P.follows .mixedOrders = true) (hnm : Named P) {lp : Nat} {fn : Func} {tmps : Array Value} {Rr : Ending → World → Prop} : ∀ (df : List (FuncId × List AV)) {m m' : MD} {s s' : HS} {r : RC} {w : World} {u : FrameMode} {D : List Deferred},
    leaveA P call lp df m s = some (m', s') → R P w0 r s.h w → DRel r df D → MRel r m u → (∀ r' u' w', RLe r r' → R P w0 r' s'.h w' → MRel r' m' u' → Leaves P fn tmps Rr [] u' w') → Leaves P fn tmps Rr D u w := by
  intro df
  induction df with
  | nil =>
    intro m m' s s' r w u D h hR hD hM hk
    cases h
    cases D with
    | nil => exact hk r u w (.refl r) hR hM
    | cons d D => exact hD.elim
  | cons d df ih =>
    intro m m' s s' r w u D h hR hD hM hk
    obtain ⟨g, args⟩ := d
    simp only [leaveA] at h
    split at h
    · rename_i m1 s1 hd
      cases D with
      | nil => exact hD.elim
      | cons d D =>
        obtain ⟨⟨cap, A, rfl, hv⟩, hD'⟩ := hD
        obtain ⟨fn', c, hf, hb, hcall⟩ := deferred_sound hC hlo hmx hd hR hv hM
        have ea : (A.toList ++ cap.toList).toArray = A ++ cap := by apply Array.ext'; simp
        rw [ea] at hcall
        refine leaves_cons hM.run (f := g) (args := A ++ cap) (enter_run hf (hnm _ _ hf) hb _ w) (hcall.mono fun e u' w' ⟨r', h1, h2, h3⟩ => ?_)
        cases e with
        | returned v => exact ih h h2 (hD'.mono h1) h3 fun r2 u2 w2 h4 h5 h6 => hk r2 u2 w2 (h1.trans h4) h5 h6
        | panicked ch => exact ih h h2 (hD'.mono h1) h3 fun r2 u2 w2 h4 h5 h6 => hk r2 u2 w2 (h1.trans h4) h5 h6
        | outgrown => exact h3.elim
    · cases h

theorem settle_ok {m : MD} (v : AV) : m.settle ≠ .pan v true := by
  cases m with
  | ret => simp [MD.settle]
  | pan u x => cases x <;> simp [MD.settle]

theorem deferred_ok {lp : Nat} {g : FuncId} {args : List AV} {m m' : MD} {s s' : HS} (h : deferredA P call lp g args m s = some (m', s')) (v : AV) : m' ≠ .pan v true := by
  unfold deferredA at h
  repeat' split at h
  all_goals first
    | (cases h; done)
    | (cases h; exact settle_ok v)
    | (cases h; simp)

theorem leave_ok {lp : Nat} : ∀ (df : List (FuncId × List AV)) {m m' : MD} {s s' : HS}, leaveA P call lp df m s = some (m', s') → (∀ v, m ≠ .pan v true) → ∀ v, m' ≠ .pan v true := by
  intro df
  induction df with
  | nil => intro m m' s s' h hm; cases h; exact hm
  | cons d df ih =>
    intro m m' s s' h hm
    obtain ⟨g, args⟩ := d
    simp only [leaveA] at h
    split at h
    · rename_i hd; exact ih h (deferred_ok hd)
    · cases h

/-! ### A call's end -/
theorem ERel.st {q : CR} {e : Ending} (h : ERel r q e) : ERel r q.st e := by
  cases q with
  | ret v => cases e <;> first | exact h.elim | exact VRel.st h
  | pan v => cases e with
    | panicked ch => obtain ⟨V, tl, h1, h2, h3⟩ := h; exact ⟨V, tl, h1, h2, h3.st⟩
    | _ => exact h.elim

theorem ERel.cut {q : CR} {e : Ending} (h : ERel r q e) {n : Nat} (hc : q.cl n = true) : ERel (r.cut n) q e := by
  cases q with
  | ret v => cases e <;> first | exact h.elim | exact VRel.cut h n hc
  | pan v => cases e with
    | panicked ch => obtain ⟨V, tl, h1, h2, h3⟩ := h; exact ⟨V, tl, h1, h2, h3.cut n hc⟩
    | _ => exact h.elim

theorem cls_get {n : Nat} {l : List AV} (h : AV.cls n l = true) {j : Nat} {v : AV} (hj : l[j]? = some v) : AV.cl n v = true := cls_all.1 h v (List.mem_of_getElem? hj)

theorem VRels.cut {l : List AV} {L : List Value} (h : VRels r l L) {n : Nat} (hc : AV.cls n l = true) : VRels (r.cut n) l L := ⟨h.1, fun j v V h1 h2 => (h.2 j v V h1 h2).cut n (cls_get hc h1)⟩

theorem cut_some {n k : Nat} {x : Option Nat} (h : (r.cut n).ι[k]? = some x) : k < n ∧ r.ι[k]? = some x := by
  simp only [RC.cut, List.getElem?_take] at h
  split at h
  · rename_i hk; exact ⟨hk, h⟩
  · cases h

theorem R.cutTo (hR : R P w0 r h w) {n : Nat} (_ : n ≤ h.length) (hc : ∀ (k B : Nat) (o : AO), k < n → r.ι[k]? = some (some B) → h[k]? = some o → AO.cl n o = true) : R P w0 (r.cut n) (h.take n) w := by
  refine .mk' (by simp [RC.cut, hR.len]) (fun k B o h1 h2 => ?_) hR.imm (fun k B h1 h2 => hR.dis k B (cut_some h1).2 h2) (fun k k' B h1 h2 => hR.nd k k' B (cut_some h1).2 (cut_some h2).2) (fun k B h1 => hR.new k B (cut_some h1).2) hR.bel hR.rho hR.old
  obtain ⟨hk, h3⟩ := cut_some h1
  rw [List.getElem?_take, if_pos hk] at h2
  have hcl := hc k B o hk h3 h2
  have ho := hR.orel h3 h2
  cases o with
  | cs l => obtain ⟨a, L, el, b, d⟩ := ho; exact ⟨a, L, el, b, d.cut hcl⟩
  | mp es =>
    obtain ⟨a, E, c, b, d, f, g⟩ := ho
    simp only [AO.cl, List.all_eq_true, Bool.and_eq_true] at hcl
    refine ⟨a, E, c, b, d.cut ?_, f.cut ?_, g⟩
    · rw [cls_all]; intro v hv; obtain ⟨q, hq, rfl⟩ := List.mem_map.1 hv; exact (hcl q hq).1
    · rw [cls_all]; intro v hv; obtain ⟨q, hq, rfl⟩ := List.mem_map.1 hv; exact (hcl q hq).2
  | it s pos => exact ho
  | tk n' e => exact ho

theorem R.closed (hR : R P w0 r h w) {k B : Nat} {o : AO} (hk : r.ι[k]? = some (some B)) (ho : h[k]? = some o) : AO.cl h.length o = true := by
  have hcl : ∀ {l : List AV} {L : List Value}, VRels r l L → ∀ v ∈ l, AV.cl h.length v = true := by
    intro l L hl v hv
    obtain ⟨j, hj⟩ := List.mem_iff_getElem?.1 hv
    obtain ⟨V, _, hvv⟩ := hl.get hj
    rw [← hR.len]
    exact hvv.cl
  have := hR.orel hk ho
  cases o with
  | cs l => obtain ⟨_, L, el, _, d⟩ := this; exact cls_all.2 (hcl d)
  | mp es =>
    obtain ⟨_, E, c, _, d, f, _⟩ := this
    simp only [AO.cl, List.all_eq_true, Bool.and_eq_true]
    exact fun q hq => ⟨hcl d _ (List.mem_map.2 ⟨q, hq, rfl⟩), hcl f _ (List.mem_map.2 ⟨q, hq, rfl⟩)⟩
  | it s pos => rfl
  | tk n' e => rfl

theorem close_sound {s s1 : HS} {r1 : RC} {w1 : World} {q : CR} {e : Ending} (hR : R P w0 r s.h w) (hle : RLe r r1) (hR1 : R P w0 r1 s1.h w1) (hg : Grow { h := s.h, esc := none } s1) (hE : ERel r1 q e) :
    ∃ r', RLe r r' ∧ R P w0 r' (closeA s.h.length s.esc q s1).2.h w1 ∧ ERel r' (closeA s.h.length s.esc q s1).1 e := by
  rcases close_cases s.h.length s.esc q s1 with ⟨h0, h1, h2⟩ | h0
  · rw [h0]
    refine ⟨r1.cut s.h.length, ?_, hR1.cutTo hg.len fun k B o hk hB ho => ?_, (hE.st).cut h2⟩
    · have key : ∀ {k : Nat} {x : Option Nat}, r.ι[k]? = some x → k < s.h.length := fun h => by rw [← hR.len]; exact (List.getElem?_eq_some_iff.1 h).1
      refine ⟨⟨fun k B h3 h4 => ?_, hle.imm, fun k n c B h3 h4 => ?_, hle.rho⟩, fun k h3 => ?_⟩
      · obtain ⟨a, b⟩ := hle.ι k B h3 h4
        exact ⟨by rw [cut_get (key h3)]; exact a, b⟩
      · obtain ⟨n', c', B', a, b, d⟩ := hle.tk k n c B h3 h4
        exact ⟨n', c', B', a, by rw [cut_get (key h4)]; exact b, d⟩
      · rw [cut_get (key h3)]; exact hle.gh k h3
    · refine hg.ok s.h.length (fun k => ∃ B, r.ι[k]? = some (some B)) (Nat.le_refl _) (fun _ k o _ ⟨B, hX⟩ hx => hR.closed hX hx) h1 k o hk ?_ ho
      have hlt : k < r.ι.length := by rw [hR.len]; exact hk
      cases hq : r.ι[k] with
      | some B' => exact ⟨B', by rw [List.getElem?_eq_getElem hlt, hq]⟩
      | none =>
        have := hle.gh k (by rw [List.getElem?_eq_getElem hlt, hq])
        rw [hB] at this
        cases this
  · rw [h0]
    exact ⟨r1, hle, hR1, hE.st⟩

theorem fun_sound (hC : SoundC P w0 call) (hG : GrowC call) (hmx : P.follows .mixedOrders = true) (hnm : Named P) {lp : Nat} {f : FuncId} {fn : Func} {c : Code} {args : List AV} {s s' : HS} {res : CR} (hf : P.funcs[f]? = some fn) (hb : fn.body = some c)
    (h : funA P call lp fn c args s = some (res, s')) {Vs : List Value} (hR : R P w0 r s.h w) (hv : VRels r args Vs) : CallX P f Vs.toArray w fun e w' => ∃ r', RLe r r' ∧ R P w0 r' s'.h w' ∧ ERel r' res e := by
  refine .inr ⟨enter_run hf (hnm _ _ hf) hb _ w, ?_⟩
  obtain ⟨hn, x, st, m, m', s1, q, hx, hl, hq, hm, hend⟩ := fun_cases h
  have e1 : res = (closeA s.h.length s.esc q s1).1 := by rw [← hq]
  have e2 : s' = (closeA s.h.length s.esc q s1).2 := by rw [← hq]
  have hg := (code_grow hG c hx).trans (leave_grow hG _ hl)
  have hmok : ∀ v, m' ≠ .pan v true := leave_ok _ hl (by
    rcases hm with ⟨_, rfl⟩ | ⟨v, _, rfl⟩ <;> intro v h <;> cases h)
  refine calls_of_wp_defers hf hb (code_sound hC hmx c (noLoops hG.lo c) hx (start_rel (s := { h := s.h, esc := none }) hR hv hn) fun r1 e' a' w1 hle hS hX => ?_)
  have fin : ∀ {u : FrameMode}, MRel r1 m u → Leaves P fn a'.tmps (fun e w' => ∃ r', RLe r r' ∧ R P w0 r' s'.h w' ∧ ERel r' res e) a'.defers u w1 := by
    intro u hM
    refine leave_sound hC hG.lo hmx hnm _ hl hS.mem hS.df hM fun r2 u2 w2 h1 h2 h3 => ?_
    rcases hend with ⟨rfl, l, hl', rfl⟩ | ⟨v, y, rfl, rfl⟩
    · cases h3
      obtain ⟨V, hV, hvv⟩ := results_run h2 (hS.tm.mono h1) hl'
      rw [e1, e2]
      exact ⟨V, hV, close_sound hR (hle.trans h1) h2 hg (e := .returned V) hvv⟩
    · cases h3 with
      | pan _ V _ tl hvv ht =>
        cases y with
        | true => exact absurd rfl (hmok v)
        | false =>
          rw [e1, e2]
          exact close_sound hR (hle.trans h1) h2 hg (e := .panicked _) ⟨V, tl, rfl, ht, hvv⟩
  rcases hm with ⟨hx' | hx', rfl⟩ | ⟨v, rfl, rfl⟩
  · subst hx'
    obtain rfl := xnm hX
    exact fin .ret
  · subst hx'
    cases e' <;> first | exact hX.elim | exact fin .ret
  · cases e' with
    | panic ch =>
      obtain ⟨V, tl, rfl, h1, h2⟩ := hX
      exact fin (.pan v V false tl h2 h1)
    | _ => exact hX.elim

/-- The interpreter is sound, if its table is. -/
theorem call_sound {tab : CallT} (hmx : P.follows .mixedOrders = true) (hnm : Named P) (hT : SoundC P w0 tab) (hG : GrowC tab) : ∀ n, SoundC P w0 (callA P tab n) := by
  intro n
  induction n with
  | zero => exact ⟨fun f args s res s' h => (by cases h), hT.op⟩
  | succ n ih =>
    refine ⟨fun f args s res s' h r w Vs hR hv => ?_, hT.op⟩
    simp only [callA, callF] at h
    split at h
    · rename_i hx
      cases h
      exact hT.fn _ _ _ _ _ hx r w Vs hR hv.st
    · split at h
      · rename_i fn hf
        split at h
        · rename_i c hb
          exact fun_sound (call := { fn := callF P tab n, op := tab.op, views := tab.views, vw := tab.views.any (Nat.beq f) }) ⟨ih.fn, ih.op⟩ ⟨(call_grow hG n).fn, fun _ _ => rfl⟩ hmx hnm hf hb h hR hv.st
        · cases h
      · cases h
end
end Go.Ab
