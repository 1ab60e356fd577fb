/- A region in the text's order. -/
import Derived.Test.YtfjgblbmdddpkaaGreatDoorAj
namespace Go.Ab
open Go.RowKit

def DRel (r : RC) : List (FuncId × List AV) → List Deferred → Prop
  | [], [] => True
  | (g, args) :: d, D :: ds => (∃ (cap A : Array Value), D = { target := .fn (.func g) cap, args := A } ∧ VRels r args (A.toList ++ cap.toList)) ∧ DRel r d ds
  | _, _ => False

theorem DRel.mono {r r' : RC} (hle : RLe r r') : ∀ {d : List (FuncId × List AV)} {D : List Deferred}, DRel r d D → DRel r' d D
  | [], [], _ => trivial
  | (_, _) :: _, _ :: _, ⟨⟨cap, A, h1, h2⟩, h3⟩ => ⟨⟨cap, A, h1, h2.mono hle⟩, h3.mono hle⟩
  | [], _ :: _, h => h.elim
  | _ :: _, [], h => h.elim

/-- Slots. -/
def TRel (r : RC) (tm : Tm) (tmps : Array Value) : Prop := ∀ k, VRel r (tm.get k) (tmps.getD k undef)

theorem TRel.mono {r r' : RC} (hle : RLe r r') {tm : Tm} {tmps : Array Value} (h : TRel r tm tmps) : TRel r' tm tmps := fun k => (h k).mono hle

theorem TRel.set {r : RC} {tm : Tm} {tmps : Array Value} (h : TRel r tm tmps) {d : Nat} (hd : d < tmps.size) {v : AV} {V : Value} (hv : VRel r v V) : TRel r (tm.set d v) (tmps.setIfInBounds d V) := by
  intro k
  by_cases hk : d = k
  · subst hk
    have e : (tmps.setIfInBounds d V).getD d undef = V := by simp [hd]
    rw [e]
    rcases Tm.get_set_same tm d v with h1 | h1
    · rw [h1]; exact hv
    · rw [h1]; exact .un V
  · rw [Tm.get_set_other tm d k v hk]
    have e : (tmps.setIfInBounds d V).getD k undef = tmps.getD k undef := by
      simp only [Array.getD_eq_getD_getElem?, Array.getElem?_setIfInBounds_ne hk]
    rw [e]
    exact h k

theorem ev_rel {r : RC} {tm : Tm} {a : Act} (h : TRel r tm a.tmps) (x : Operand) : VRel r (evA tm x) (a.eval x) := by
  cases x with
  | tmp t => exact h t
  | const v => exact absC_rel v
  | global g => exact .un _
  | func f => exact .c (.func f) [] [] [] [] rfl rfl (by simp) (by simp)

structure SR (P : Program) (w0 : Base) (r : RC) (nt : Nat) (st : ST) (a : Act) (w : World) : Prop where
  mem : R P w0 r st.s.h w
  sz : nt ≤ a.tmps.size
  tm : TRel r st.tm a.tmps
  df : DRel r st.df a.defers

def XRel (r : RC) : AE → Exit → Prop
  | .nm, .normal => True
  | .ex k, .exit k' => k = k'
  | .rt, .ret => True
  | .pn v, .panic ch => PanRel r v ch
  | _, _ => False

theorem PanRel.mono {r r' : RC} (hle : RLe r r') {v : AV} {ch : List PanicEntry} (h : PanRel r v ch) : PanRel r' v ch :=
  let ⟨V, tl, h1, h2, h3⟩ := h; ⟨V, tl, h1, h2, h3.mono hle⟩

section
variable {P : Program} {w0 : Base} {call : CallT} {nt : Nat}

theorem SR.put {r : RC} {st st' : ST} {a : Act} {w : World} {dst : Option Tmp} {v : AV} {V : Value} {s : HS} (hR : R P w0 r s.h w) (hsz : nt ≤ a.tmps.size) (htm : TRel r st.tm a.tmps) (hdf : DRel r st.df a.defers) (hv : VRel r v V) (hp : ST.put nt st dst v s = some st') :
    SR P w0 r nt st' (a.put dst V) w := by
  unfold ST.put at hp
  cases dst with
  | none => cases hp; exact ⟨hR, hsz, htm, hdf⟩
  | some d =>
    simp only at hp
    split at hp
    · rename_i hd
      cases hp
      have hd' : d < nt := by simpa using hd
      exact ⟨hR, by simpa [Act.put] using hsz, htm.set (Nat.lt_of_lt_of_le hd' hsz) hv, hdf⟩
    · cases hp

theorem undef_rel {r : RC} : VRel r (.t []) undef := .t [] [] rfl (by simp)

theorem guard_rel {r : RC} {ops : Array Oper} {tm : Tm} {tmps : Array Value} {o : Oper} {b : Bool} (hg : guardA ops.toList tm o = some b)
    (ht : ∀ (j d : Nat) (want : Bool) (oj : Oper), o.guard = some (j, want) → ops.toList[j]? = some oj → oj.dst = some d → VRel r (tm.get d) (tmps.getD d undef)) : Region.wanted o (yielded ops tmps) = b := by
  unfold guardA at hg
  unfold Region.wanted
  split at hg
  · rename_i h1; cases hg; rw [h1]
  · rename_i j want h1
    rw [h1]
    simp only
    split at hg
    · rename_i oj hj
      have hj' : ops[j]? = some oj := by simpa using hj
      split at hg
      · rename_i d hd
        have hk := ht j d want oj h1 hj hd
        have e : yielded ops tmps j = (match tmps[d]? with | some (.bool b) => some b | _ => none) := by
          unfold yielded
          rw [hj']
          simp only [Option.bind_some, hd]
          cases tmps[d]? with
          | none => rfl
          | some v => cases v <;> rfl
        rw [e]
        split at hg
        · rename_i x hx
          cases hg
          rw [hx] at hk
          generalize hV : tmps.getD d undef = V at hk
          cases hk
          have : tmps[d]? = some (.bool x) := by
            cases hq : tmps[d]? with
            | none => rw [Array.getD_eq_getD_getElem?, hq] at hV; cases hV
            | some y => rw [Array.getD_eq_getD_getElem?, hq] at hV; simp at hV; rw [hV]
          rw [this]
          cases x <;> cases want <;> rfl
        · rename_i hx
          cases hg
          rw [hx] at hk
          generalize hV : tmps.getD d undef = V at hk
          cases hk with
          | t _ X hl hX =>
            have hXn : X = [] := List.eq_nil_of_length_eq_zero (by simpa using hl.symm)
            subst hXn
            cases hq : tmps[d]? with
            | none => rfl
            | some y =>
              rw [Array.getD_eq_getD_getElem?, hq] at hV
              simp at hV
              subst hV
              rfl
        · cases hg
      · cases hg
    · cases hg

theorem run_sound (hC : SoundC P w0 call) {ops : Array Oper} : ∀ (rest : List Oper) {st st' : ST} {e : AE} {r : RC} {a : Act} {w : World} {Q : Exit → Act → World → Prop}, runA P call nt ops.toList rest st = some (e, st') → SR P w0 r nt st a w →
    (∀ r' e' a' w', RLe r r' → SR P w0 r' nt st' a' w' → XRel r' e e' → Q e' a' w') → wpList P ops Q rest a w := by
  intro rest
  induction rest with
  | nil =>
    intro st st' e r a w Q h hS hQ
    cases h
    exact hQ r .normal a w (.refl r) hS trivial
  | cons o rest ih =>
    intro st st' e r a w Q h hS hQ
    simp only [runA] at h
    -- what follows a step that leaves normally
    have go : ∀ {st1 : ST} {r1 : RC} {a1 : Act} {w1 : World}, stepA P call nt ops.toList o st = some (.nm, st1) → RLe r r1 → SR P w0 r1 nt st1 a1 w1 → wpList P ops Q rest a1 w1 := by
      intro st1 r1 a1 w1 hs hle h1
      rw [hs] at h
      exact ih h h1 fun r' e' a' w' h2 h3 h4 => hQ r' e' a' w' (hle.trans h2) h3 h4
    have hw : ∀ b, guardA ops.toList st.tm o = some b → Region.wanted o (yielded ops a.tmps) = b := fun b hb => guard_rel hb fun _ d _ _ _ _ _ => hS.tm d
    cases hg : guardA ops.toList st.tm o with
    | none => simp [stepA, hg] at h
    | some b =>
      have hwb := hw b hg
      unfold wpList
      cases b with
      | false =>
        rw [if_neg (by simp [hwb])]
        cases hp : ST.put nt st o.dst (.t []) st.s with
        | none => simp [stepA, hg, hp] at h
        | some st1 => exact go (by simp [stepA, hg, hp]) (.refl r) (SR.put hS.mem hS.sz hS.tm hS.df undef_rel hp)
      | true =>
        rw [if_pos (by simp [hwb])]
        refine .inl ?_
        -- deferred or not
        by_cases hdefer : ∃ c, o.op = .defer c
        · obtain ⟨c, hc⟩ := hdefer
          cases hd : deferA (evA st.tm) c with
          | none => simp [stepA, hg, hc, hd] at h
          | some d =>
            cases hp : ST.put nt { st with df := d :: st.df } o.dst (.t []) st.s with
            | none => simp [stepA, hg, hc, hd, hp] at h
            | some st1 =>
              have hstep : stepA P call nt ops.toList o st = some (.nm, st1) := by simp [stepA, hg, hc, hd, hp]
              unfold deferA at hd
              split at hd
              · rename_i f hcal
                split at hd
                · rename_i g first cap hf
                  cases hd
                  have hfr := ev_rel hS.tm f
                  rw [hf] at hfr
                  generalize hX : a.eval f = X at hfr
                  cases hfr with
                  | c _ _ _ Y Z hy hz hY hZ =>
                    have hargs := args_rel (ev_rel hS.tm) c.args
                    have hrun : (execOp a.eval o).run P w = .ok (.defer { target := .fn (.func g) Z.toArray, args := Y.toArray ++ c.args.map a.eval }) w := by
                      obtain ⟨dst, op, ty, pos, aft, gd⟩ := o
                      simp only at hc
                      subst hc
                      simp [execOp, resolve, hcal, hX, Deferred.ofValue]
                    unfold Oper.wp
                    rw [hrun, Oper.upon_defer]
                    refine go hstep (.refl r) ?_
                    exact SR.put (a := { a with defers := { target := .fn (.func g) Z.toArray, args := Y.toArray ++ c.args.map a.eval } :: a.defers }) (st := { st with df := (g, first ++ c.args.toList.map (evA st.tm) ++ cap) :: st.df }) hS.mem hS.sz hS.tm
                      ⟨⟨Z.toArray, _, rfl, by
                        have := (VRels.append ⟨hy, hY⟩ hargs).append ⟨hz, hZ⟩
                        simpa using this⟩, hS.df⟩ undef_rel hp
                · cases hd
              · cases hd
        · -- any other one
          have hne : ∀ c, o.op ≠ .defer c := fun c hc => hdefer ⟨c, hc⟩
          have hst : stepA P call nt ops.toList o st = (match opA P call o.op (evA st.tm) st.s with
              | some (.val v, s) => match ST.put nt st o.dst v s with
                | some st => some (.nm, st)
                | none => none
              | some (.skip, s) => match ST.put nt st o.dst (.t []) s with
                | some st => some (.nm, st)
                | none => none
              | some (.pan v, s) => some (.pn v, { st with s := s })
              | none => none) := by
            simp only [stepA, hg]
            cases hq : o.op <;> first | rfl | exact absurd hq (hne _)
          cases hop : opA P call o.op (evA st.tm) st.s with
          | none => rw [hst, hop] at h; cases h
          | some q =>
            obtain ⟨res, s1⟩ := q
            refine op_sound hC hS.mem (ev_rel hS.tm) hop ?_
            intro r' w' hle hR'
            cases res with
            | val v =>
              intro V hV
              cases hp : ST.put nt st o.dst v s1 with
              | none => rw [hst, hop] at h; simp [hp] at h
              | some st1 => exact go (by rw [hst, hop]; simp [hp]) hle (SR.put hR' hS.sz (hS.tm.mono hle) (hS.df.mono hle) hV hp)
            | skip =>
              cases hp : ST.put nt st o.dst (.t []) s1 with
              | none => rw [hst, hop] at h; simp [hp] at h
              | some st1 => exact go (by rw [hst, hop]; simp [hp]) hle (SR.put hR' hS.sz (hS.tm.mono hle) (hS.df.mono hle) undef_rel hp)
            | pan v =>
              intro ch hch
              rw [hst, hop] at h
              simp at h
              obtain ⟨rfl, rfl⟩ := h
              exact hQ r' (.panic ch) a w' hle ⟨hR', hS.sz, hS.tm.mono hle, hS.df.mono hle⟩ hch
end
end Go.Ab
