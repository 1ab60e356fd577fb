/- Calls: what the interpreter says of them is so. -/
import Derived.Test.YtfjgblbmdddpkaaGreatDoorAr
namespace Go.Ab
open Go.RowKit

section
variable {P : Program} {w0 : Base} {w : World} {r : RC} {h : AH} {call : CallT}

/-! ### Results -/
theorem loadA_run (hR : R P w0 r h w) {t : TypeId} {x v : AV} {X : Value} (hl : loadA P t x h = some v) (hx : VRel r x X) : ∃ A V, X = .pointer (some A) ∧ (loadVar t A).run P w = .ok V w ∧ VRel r v V := by
  unfold loadA at hl
  split at hl
  · rename_i k off
    split at hl
    · rename_i l hk
      cases hx with
      | p _ _ B h1 h2 =>
        obtain ⟨L, hL, hr⟩ := hR.rd h1 hk
        obtain ⟨V, hV, hv⟩ := load_gives hl hL hr
        rw [Nat.zero_add] at hV
        exact ⟨_, V, rfl, hV, hv⟩
    · cases hl
  · cases hx with
    | r cs off B o g hi hv =>
      obtain ⟨L, hL, hr⟩ := hR.rdI hi hv
      obtain ⟨V, hV, hv⟩ := load_gives hl hL hr
      exact ⟨_, V, rfl, hV, hv⟩
  · cases hl

def resF (tmps : Array Value) : ResultVar → Sem Value
  | .tmp t => pure (tmps.getD t undef)
  | .cell a t => do loadVar t (← asAddr (tmps.getD a undef))

theorem results_eq (fn : Func) (tmps : Array Value) : results fn tmps = (do
    let vs ← fn.results.mapM (resF tmps)
    pure (if h : vs.size = 1 then vs[0] else .tuple vs)) := by
  unfold results
  congr 1

theorem resA_run (hR : R P w0 r h w) {tm : Tm} {tmps : Array Value} (ht : TRel r tm tmps) : ∀ {rs : List ResultVar} {l : List AV}, resA P rs tm h = some l → ∃ L : List Value, (rs.mapM (resF tmps)).run P w = .ok L w ∧ VRels r l L := by
  intro rs
  induction rs with
  | nil => intro l e; cases e; exact ⟨[], by simp, .nil⟩
  | cons x rs ih =>
    intro l e
    cases x with
    | tmp t =>
      simp only [resA] at e
      split at e
      · rename_i l' hl
        cases e
        obtain ⟨L, h1, h2⟩ := ih hl
        exact ⟨_ :: L, by simp only [List.mapM_cons, resF, pure_bind, Sem.run_bind, h1, Result.andThen_ok, Sem.run_pure], .cons (ht t) h2⟩
      · cases e
    | cell a t =>
      simp only [resA] at e
      split at e
      · rename_i v l' hv hl
        cases e
        obtain ⟨L, h1, h2⟩ := ih hl
        obtain ⟨A, V, h3, h4, h5⟩ := loadA_run hR hv (ht a)
        exact ⟨V :: L, by simp only [List.mapM_cons, resF, h3, asAddr, pure_bind, Sem.run_bind, h4, h1, Result.andThen_ok, Sem.run_pure], .cons h5 h2⟩
      · cases e

theorem results_run (hR : R P w0 r h w) {fn : Func} {tm : Tm} {tmps : Array Value} (ht : TRel r tm tmps) {l : List AV} (e : resA P fn.results.toList tm h = some l) : ∃ V, (results fn tmps).run P w = .ok V w ∧ VRel r (oneOf l) V := by
  obtain ⟨L, h1, h2⟩ := resA_run hR ht e
  have hm : (fn.results.mapM (resF tmps)).run P w = .ok L.toArray w := by
    rw [Array.mapM_eq_mapM_toList]
    simp only [map_eq_pure_bind, Sem.run_bind, h1, Result.andThen_ok, Sem.run_pure]
  rw [results_eq]
  simp only [Sem.run_bind, hm, Result.andThen_ok, Sem.run_pure]
  refine ⟨_, rfl, ?_⟩
  have hlen := h2.1
  match l, L, h2, hlen with
  | [v], [V], h2, _ => simpa [oneOf] using h2.head
  | [], L, h2, hlen =>
    obtain rfl := h2.nil_inv
    simpa [oneOf] using VRel.t (r := r) [] [] rfl (by simp)
  | x :: y :: l, L, h2, hlen =>
    have hne : ¬ L.toArray.size = 1 := by simp at hlen ⊢; omega
    rw [dif_neg hne]
    exact .t _ L h2.1 h2.2
  | [v], [], h2, hlen => simp at hlen
  | [v], _ :: _ :: _, h2, hlen => simp at hlen

/-! ### Modes -/
inductive MRel (r : RC) : MD → FrameMode → Prop
  | ret : MRel r .ret .returning
  | pan (v : AV) (V : Value) (x : Bool) (tl : List PanicEntry) (hv : VRel r v V) (ht : ∀ e ∈ tl, e.goexit = false) : MRel r (.pan v x) (.panicking ({ v := V, recovered := x } :: tl))

theorem MRel.mono {r r' : RC} (hle : RLe r r') {m : MD} {u : FrameMode} (h : MRel r m u) : MRel r' m u := by
  cases h with
  | ret => exact .ret
  | pan v V x tl hv ht => exact .pan v V x tl (hv.mono hle) ht

theorem MRel.settle {m : MD} {u : FrameMode} (h : MRel r m u) : MRel r m.settle (settle u) := by
  cases h with
  | ret => exact .ret
  | pan v V x tl hv ht =>
    cases x with
    | false => exact .pan v V false tl hv ht
    | true =>
      have : tl.dropWhile (!·.goexit) = [] := by
        clear hv
        induction tl with
        | nil => rfl
        | cons x tl ih => rw [List.dropWhile_cons, if_pos (by simp [ht x])]; exact ih fun e he => ht e (List.mem_cons_of_mem _ he)
      simp only [_root_.Go.settle, this]
      exact .ret

theorem MRel.raised {m : MD} {u : FrameMode} (h : MRel r m u) {v : AV} {ch : List PanicEntry} (hp : PanRel r v ch) : MRel r (.pan v false) (raised u ch) := by
  obtain ⟨V, tl, rfl, h1, h2⟩ := hp
  cases h with
  | ret => exact .pan v V false tl h2 h1
  | pan v' V' x tl' hv ht =>
    refine .pan v V false (tl ++ _) h2 fun e he => ?_
    rcases List.mem_append.1 he with he | he
    · exact h1 e he
    · rcases List.mem_cons.1 he with he | he
      · rw [he]
      · exact ht e he

theorem MRel.run {m : MD} {u : FrameMode} (h : MRel r m u) : u ≠ .run := by cases h <;> simp

/-! ### Deferred code -/
theorem xthenS {x : AE} {e : Exit} {K : Act → List Frame → World → Prop} {Q : Exit → Act → List Frame → World → Prop} {a : Act} {cs : List Frame} {w : World} (hx : x ≠ .nm) (h : XRel r x e) (hq : Q e a cs w) : Exit.thenS K Q e a cs w := by
  cases e with
  | normal => cases x <;> first | exact absurd rfl hx | exact h.elim
  | _ => exact hq

theorem recover_op {o : Oper} (h : isRecover o = true) : o.guard = none ∧ ∃ ts, o.op = .call ⟨.builtin .recover, #[], ts⟩ := by
  unfold isRecover at h
  simp only [Bool.and_eq_true, Option.isNone_iff_eq_none] at h
  refine ⟨h.1, ?_⟩
  obtain ⟨dst, op, ty, pos, aft, gd⟩ := o
  simp only at h ⊢
  cases op <;> simp at h
  rename_i c
  obtain ⟨callee, args, ts⟩ := c
  simp only at h
  obtain ⟨_, h1, h2⟩ := h
  cases callee with
  | builtin b =>
    cases b <;> simp at h1
    exact ⟨ts, by rw [h2]⟩
  | _ => simp at h1

theorem noLoops (hlo : NoLo call) {nt : Nat} (c : Code) : ∀ c' ∈ loopsIn c, LoopOK P w0 call nt c' := fun c' _ st e st' h => by rw [hlo] at h; cases h

theorem exD_sound (hC : SoundC P w0 call) (hlo : NoLo call) (hmx : P.follows .mixedOrders = true) {nt lp : Nat} {c₀ : Frame} {cs : List Frame} (c : Code) : ∀ {st st' : ST} {e : AE} {m m' : MD} {r : RC} {a : Act} {w : World} {u : FrameMode} {Q : Exit → Act → List Frame → World → Prop},
    exD P call lp nt c st m = some (e, st', m') → SR P w0 r nt st a w → MRel r m u →
    (∀ r' e' a' w' u', RLe r r' → SR P w0 r' nt st' a' w' → MRel r' m' u' → XRel r' e e' → Q e' a' ({ c₀ with mode := u' } :: cs) w') → c.wpS P Q a ({ c₀ with mode := u } :: cs) w := by
  have plain : ∀ (c : Code) {st st' : ST} {e : AE} {m : MD} {r : RC} {a : Act} {w : World} {u : FrameMode} {Q : Exit → Act → List Frame → World → Prop}, exC P call lp nt c st = some (e, st') → SR P w0 r nt st a w → MRel r m u →
      (∀ r' e' a' w' u', RLe r r' → SR P w0 r' nt st' a' w' → MRel r' m u' → XRel r' e e' → Q e' a' ({ c₀ with mode := u' } :: cs) w') → c.wpS P Q a ({ c₀ with mode := u } :: cs) w := by
    intro c st st' e m r a w u Q h hS hM hQ
    exact wpS_of_wp (code_sound hC hmx c (noLoops hlo c) h hS fun r' e' a' w' h1 h2 h3 => hQ r' e' a' w' u h1 h2 (hM.mono h1) h3)
  induction c with
  | seq x y ihx ihy =>
    intro st st' e m m' r a w u Q h hS hM hQ
    simp only [exD] at h
    refine wpS_seq ?_
    cases hx : exD P call lp nt x st m with
    | none => rw [hx] at h; cases h
    | some q =>
      obtain ⟨e1, st1, m1⟩ := q
      rw [hx] at h
      refine ihx hx hS hM fun r1 e1' a1 w1 u1 hle h1 h2 h3 => ?_
      by_cases hn : e1 = .nm
      · subst hn
        obtain rfl := xnm h3
        exact ihy h h1 h2 fun r' e' a' w' u' h4 h5 h6 h7 => hQ r' e' a' w' u' (hle.trans h4) h5 h6 h7
      · have : some (e1, st1, m1) = some (e, st', m') := by
          rw [← h]; cases e1 <;> first | rfl | exact absurd rfl hn
        cases this
        exact xthenS hn h3 (hQ r1 e1' a1 w1 u1 hle h1 h2 h3)
  | region id ops d =>
    intro st st' e m m' r a w u Q h hS hM hQ
    have rest : (match exC P call lp nt (.region id ops d) st with | some (e, st) => some (e, st, m) | none => none) = some (e, st', m') → (Code.region id ops d).wpS P Q a ({ c₀ with mode := u } :: cs) w := by
      intro h
      split at h
      · rename_i hx; cases h; exact plain _ hx hS hM hQ
      · cases h
    unfold exD at h
    split at h
    · rename_i o hops
      split at h
      · rename_i hrec
        have hops' : ops = #[o] := by apply Array.ext'; exact hops
        subst hops'
        obtain ⟨hg, ts, hop⟩ := recover_op hrec
        refine wpS_region ?_
        have hw : Region.wanted o (yielded #[o] a.tmps) = true := by unfold Region.wanted; rw [hg]
        have hrun : (execOp a.eval o).run P w = .ok .recover w := by
          obtain ⟨dst, op, ty, pos, aft, gd⟩ := o
          simp only at hop
          subst hop
          simp [execOp, resolve, invoke, builtin]
        have hrange : List.range (#[o] : Array Oper).size = [0] := rfl
        rw [hrange]
        simp only [wpOpsS]
        have h0 : (#[o] : Array Oper)[0]? = some o := rfl
        rw [h0]
        simp only [hw, if_true, hrun]
        split at h
        · rename_i v
          cases hM with
          | pan _ V _ tl hv ht =>
            split at h
            · rename_i st1 hp
              cases h
              simp only [recoverD]
              exact hQ r .normal _ w _ (.refl r) (SR.put hS.mem hS.sz hS.tm hS.df hv hp) (.pan v V true tl hv ht) trivial
            · cases h
        · rename_i hnot
          split at h
          · rename_i st1 hp
            cases h
            have hno : recoverD ({ c₀ with mode := u } :: cs) = none := by
              cases hM with
              | ret => rfl
              | pan v V x tl hv ht => cases x with
                | true => rfl
                | false => exact absurd rfl (hnot v)
            rw [hno]
            exact hQ r .normal _ w u (.refl r) (SR.put hS.mem hS.sz hS.tm hS.df (V := .nilIface) .jn hp) hM trivial
          · cases h
      · exact rest h
    · exact rest h
  | _ =>
    intro st st' e m m' r a w u Q h hS hM hQ
    obtain ⟨h1, rfl⟩ := exD_plain (by intros; simp) (by intros; simp) h
    exact plain _ h1 hS hM hQ

/-! ### A call's start -/
theorem TRel.setO {tm : Tm} {tmps : Array Value} (h : TRel r tm tmps) {d : Nat} {v : AV} (hv : VRel r v (tmps.getD d undef)) : TRel r (tm.set d v) tmps := by
  intro k
  by_cases hk : d = k
  · subst hk
    rcases Tm.get_set_same tm d v with h1 | h1
    · rw [h1]; exact hv
    · rw [h1]; exact .un _
  · rw [Tm.get_set_other tm d k v hk]
    exact h k

theorem TRel.setAll {tmps : Array Value} : ∀ (args : List AV) (off : Nat) {tm : Tm}, TRel r tm tmps → (∀ (j : Nat) (v : AV), args[j]? = some v → VRel r v (tmps.getD (off + j) undef)) → TRel r (tm.setAll off args) tmps := by
  intro args
  induction args with
  | nil => intro off tm h _; exact h
  | cons x args ih =>
    intro off tm h hv
    simp only [Tm.setAll]
    refine ih (off + 1) (h.setO (hv 0 x rfl)) fun j v hj => ?_
    have := hv (j + 1) v (by simpa using hj)
    rwa [show off + (j + 1) = off + 1 + j by omega] at this

theorem mk_get : ∀ (n k : Nat), (Tm.mk n).get k = .un := by
  intro n
  induction n with
  | zero => intro k; rfl
  | succ n ih =>
    intro k
    cases k with
    | zero => rfl
    | succ k => rcases Nat.mod_two_eq_zero_or_one k with hk | hk <;> simp [Tm.mk, Tm.get, hk, ih]

theorem start_rel {fn : Func} {args : List AV} {Vs : List Value} {s : HS} (hR : R P w0 r s.h w) (hv : VRels r args Vs) (_hn : args.length ≤ fn.ntmps) :
    SR P w0 r fn.ntmps (startA fn args s) { tmps := Vs.toArray ++ Array.replicate (fn.ntmps - Vs.toArray.size) undef, defers := [] } w := by
  refine ⟨hR, by simp; omega, ?_, trivial⟩
  refine TRel.setAll args 0 (fun k => by rw [mk_get]; exact .un _) fun j v hj => ?_
  obtain ⟨V, hV, hvv⟩ := hv.get hj
  have hlt : j < Vs.length := (List.getElem?_eq_some_iff.1 hV).1
  have : (Vs.toArray ++ Array.replicate (fn.ntmps - Vs.toArray.size) undef).getD (0 + j) undef = V := by
    rw [Array.getD_eq_getD_getElem?, Nat.zero_add, Array.getElem?_append_left (by simpa using hlt)]
    simp [hV]
  rw [this]
  exact hvv
end
end Go.Ab
