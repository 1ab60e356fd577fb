/- Code: what the interpreter says of it is so. -/
import Derived.Test.YtfjgblbmdddpkaaGreatDoorAo
namespace Go.Ab
open Go.RowKit

section
variable {P : Program} {w0 : Base} {call : CallT} {nt : Nat}

theorem R.drew {r : RC} {h : AH} {w : World} (hR : R P w0 r h w) : R P w0 r h { w with drawn := w.drawn + 1 } :=
  ⟨hR.len, hR.cs, hR.mp, hR.it, hR.tk, hR.imm, hR.dis, hR.nd, hR.new, ⟨hR.bel.os, hR.bel.tape, hR.bel.output, hR.bel.size, hR.bel.block⟩, hR.rho, hR.old⟩

theorem forget_get : ∀ (ops : List Oper) (tm : Tm) (k : Nat), (forgetA ops tm).get k = .un ∨ ((∀ (i : Nat) (o : Oper), ops[i]? = some o → o.dst ≠ some k) ∧ (forgetA ops tm).get k = tm.get k) := by
  intro ops
  induction ops with
  | nil => intro tm k; exact .inr ⟨by simp, rfl⟩
  | cons o ops ih =>
    intro tm k
    unfold forgetA
    cases hd : o.dst with
    | none =>
      simp only
      rcases ih tm k with h | ⟨h1, h2⟩
      · exact .inl h
      · refine .inr ⟨fun i o' h3 => ?_, h2⟩
        cases i with
        | zero => simp at h3; subst h3; rw [hd]; simp
        | succ i => exact h1 i o' (by simpa using h3)
    | some d =>
      simp only
      rcases ih (tm.set d .un) k with h | ⟨h1, h2⟩
      · exact .inl h
      · by_cases hdk : d = k
        · subst hdk
          rw [h2]
          rcases Tm.get_set_same tm d .un with h3 | h3 <;> exact .inl h3
        · rw [Tm.get_set_other tm d k .un hdk] at h2
          refine .inr ⟨fun i o' h3 => ?_, h2⟩
          cases i with
          | zero => simp at h3; subst h3; rw [hd]; simpa using hdk
          | succ i => exact h1 i o' (by simpa using h3)

theorem draw_sound (hC : SoundC P w0 call) (hmx : P.follows .mixedOrders = true) {id : Nat} {ops : Array Oper} {st st' : ST} {e : AE} {r : RC} {a : Act} {w : World} {Q : Exit → Act → World → Prop} (h : drawA P call nt ops.toList st = some (e, st')) (hS : SR P w0 r nt st a w)
    (hQ : ∀ r' e' a' w', RLe r r' → SR P w0 r' nt st' a' w' → XRel r' e e' → Q e' a' w') : (Code.region id ops true).wp P Q a w := by
  refine wp_region_any hmx ?_
  unfold drawA at h
  split at h
  · rename_i hok
    have O := order_of hok
    unfold drawB at h
    generalize hbs : Region.before ops.toList.toArray = bs at h O
    obtain ⟨r1, hle1, hR1, hgh⟩ := pre_sound (P := P) (w0 := w0) (w := { w with drawn := w.drawn + 1 }) (if ops.toList.any fun o => isMakeOp o.op then guessA P call nt ops.toList ops.toList st else zerosIn P ops.toList) hS.mem.drew
    generalize hpre : preA P call nt ops.toList st = h1 at h
    change st.s.h ++ _ = h1 at hpre
    rw [hpre] at hR1 hgh
    generalize hd0 : ({ st := { st with s := { st.s with h := h1 } }, next := st.s.h.length, lim := h1.length, snaps := [], reads := [], lays := [] } : DS) = d0 at h
    have e1 : d0.st.s.h = h1 := by rw [← hd0]
    have e2 : d0.st.tm = st.tm := by rw [← hd0]
    have e3 : d0.st.df = st.df := by rw [← hd0]
    have e4 : d0.next = st.s.h.length := by rw [← hd0]
    have e5 : d0.lim = h1.length := by rw [← hd0]
    cases hwk : walkA P call nt ops.toList bs ops.toList 0 d0 with
    | none => rw [hwk] at h; cases h
    | some q =>
      obtain ⟨res, d⟩ := q
      obtain ⟨m, D, _, hm, hD0, hstep, hend⟩ := walk_trace _ _ _ _ _ hwk (by simp) (Nat.zero_le _)
      have T : Trace P call nt ops.toList bs d0 m D := ⟨hD0, hm, fun j o hj ho => step_inv (hstep j o (Nat.zero_le _) hj ho)⟩
      have hI : Inv P w0 nt ops.toList bs r d0 m D (fun i => (Array.replicate ops.size false).getD i false) a { w with drawn := w.drawn + 1 } r1 0 := by
        have hno : ∀ i, ¬ (Array.replicate ops.size false).getD i false = true := fun i h => by
          rw [Array.getD_eq_getD_getElem?, Array.getElem?_replicate] at h
          split at h <;> simp at h
        refine ⟨hle1, Nat.zero_le _, fun i hi => absurd hi (hno i), fun j i hj => absurd hj (hno j), fun i _ _ => ⟨fun hi => absurd hi (hno i), fun hi => absurd hi (by omega)⟩, ?_, hS.sz, ?_, fun i k o hi => absurd hi (hno i), fun k _ => ?_, fun j o hj _ ho ht => ?_⟩
        · rw [T.zero, e1]; exact hR1
        · rw [e3]; exact hS.df.mono hle1
        · rw [e2]; exact (hS.tm k).mono hle1
        · have n1 := (T.next_alloc hj ho ht).2
          have n2 := T.next_le 0 j (Nat.zero_le _) (by omega)
          rw [T.zero] at n2
          exact hgh _ (by omega) (by omega)
      have hE : Ends P w0 call nt ops.toList bs r d0 m D Q := by
        rcases hend with ⟨rfl, hmn, rfl⟩ | ⟨v, o, rfl, ho, hs, hl⟩
        · rw [hwk] at h
          simp only [Option.some.injEq, Prod.mk.injEq] at h
          obtain ⟨rfl, rfl⟩ := h
          refine ⟨fun _ r' a' w' h2 h3 h4 h5 h6 => hQ r' .normal a' w' h2 ⟨h3, h4, h6, ?_⟩ trivial, fun o ho => ?_⟩
          · rw [(T.df m (Nat.le_refl _)).1]; exact h5
          · rw [hmn] at ho; simp at ho
        · rw [hwk] at h
          simp only [Option.some.injEq, Prod.mk.injEq] at h
          obtain ⟨rfl, rfl⟩ := h
          obtain ⟨hg, hk, s1, hop, rfl⟩ := step_pan hs
          refine ⟨fun hmn => ?_, fun o' ho' => ?_⟩
          · rw [hmn] at ho; simp at ho
          · rw [ho] at ho'; cases ho'
            refine ⟨v, s1, hg, hk, hop, hl, fun r' a' w' ch h2 h3 h4 h5 h6 h7 => hQ r' (.panic ch) a' w' h2 ⟨h3, h4, fun k => ?_, ?_⟩ h7⟩
            · rcases forget_get ops.toList st.tm k with h8 | ⟨h8, h9⟩
              · simp only [h8]; exact .un _
              · simp only [h9]; rw [← e2]; exact h6 k h8
            · simp only
              rw [(T.df m (Nat.le_refl _)).1]; exact h5
      exact any_sound hC O T (by rw [e4, hS.mem.len]; exact Nat.le_refl _) hE _ _ _ _ r1 0 (by simp) (by
        have := List.countP_le_length (p := fun b => !b) (l := (Array.replicate ops.size false).toList)
        simpa using this) hI
  · cases h

theorem xnm {r : RC} {e : Exit} (h : XRel r .nm e) : e = .normal := by cases e <;> first | rfl | exact h.elim

theorem xthen {r : RC} {x : AE} {e : Exit} {K : Act → World → Prop} {Q : Exit → Act → World → Prop} {a : Act} {w : World} (hx : x ≠ .nm) (h : XRel r x e) (hq : Q e a w) : Exit.then K Q e a w := by
  cases e with
  | normal => cases x <;> first | exact absurd rfl hx | exact h.elim
  | _ => exact hq

/-- Nothing is said of loops. -/
def NoLo (call : CallT) : Prop := ∀ c st, call.lo c st = none

/-- The loops in a code, by their rounds. -/
def loopsIn : Code → List Code
  | .seq x y => loopsIn x ++ loopsIn y
  | .cond _ x y => loopsIn x ++ loopsIn y
  | .block _ c => loopsIn c
  | .loop c => c :: loopsIn c
  | _ => []

/-- What is said of a loop is so. -/
def LoopOK (P : Program) (w0 : Base) (call : CallT) (nt : Nat) (c : Code) : Prop :=
  ∀ (st : ST) (e : AE) (st' : ST), call.lo c st = some (e, st') → ∀ (r : RC) (a : Act) (w : World) (Q : Exit → Act → World → Prop), SR P w0 r nt st a w →
    (∀ r' e' a' w', RLe r r' → SR P w0 r' nt st' a' w' → XRel r' e e' → Q e' a' w') → (Code.loop c).wp P Q a w

theorem code_sound (hC : SoundC P w0 call) (hmx : P.follows .mixedOrders = true) {lp : Nat} (c : Code) (hL : ∀ c' ∈ loopsIn c, LoopOK P w0 call nt c') : ∀ {st st' : ST} {e : AE} {r : RC} {a : Act} {w : World} {Q : Exit → Act → World → Prop}, exC P call lp nt c st = some (e, st') → SR P w0 r nt st a w →
    (∀ r' e' a' w', RLe r r' → SR P w0 r' nt st' a' w' → XRel r' e e' → Q e' a' w') → c.wp P Q a w := by
  induction c with
  | skip =>
    intro st st' e r a w Q h hS hQ
    cases h
    exact wp_skip (hQ r .normal a w (.refl r) hS trivial)
  | label l =>
    intro st st' e r a w Q h hS hQ
    cases h
    exact wp_label (hQ r .normal a w (.refl r) hS trivial)
  | exit id =>
    intro st st' e r a w Q h hS hQ
    cases h
    exact wp_exit (hQ r (.exit id) a w (.refl r) hS rfl)
  | ret =>
    intro st st' e r a w Q h hS hQ
    cases h
    exact wp_ret (hQ r .ret a w (.refl r) hS trivial)
  | seq x y ihx ihy =>
    intro st st' e r a w Q h hS hQ
    simp only [exC] at h
    refine wp_seq ?_
    have ihx := @ihx (fun c' hc' => hL c' (List.mem_append_left _ hc'))
    have ihy := @ihy (fun c' hc' => hL c' (List.mem_append_right _ hc'))
    cases hx : exC P call lp nt x st with
    | none => rw [hx] at h; cases h
    | some q =>
      obtain ⟨e1, st1⟩ := q
      rw [hx] at h
      refine ihx hx hS fun r1 e1' a1 w1 hle h1 h2 => ?_
      by_cases hn : e1 = .nm
      · subst hn
        obtain rfl := xnm h2
        exact ihy h h1 fun r' e' a' w' h3 h4 h5 => hQ r' e' a' w' (hle.trans h3) h4 h5
      · have : some (e1, st1) = some (e, st') := by
          rw [← h]; cases e1 <;> first | rfl | exact absurd rfl hn
        cases this
        exact xthen hn h2 (hQ r1 e1' a1 w1 hle h1 h2)
  | cond c x y ihx ihy =>
    intro st st' e r a w Q h hS hQ
    simp only [exC] at h
    have ihx := @ihx (fun c' hc' => hL c' (List.mem_append_left _ hc'))
    have ihy := @ihy (fun c' hc' => hL c' (List.mem_append_right _ hc'))
    have hc := ev_rel hS.tm c
    split at h
    · rename_i hb
      rw [hb] at hc
      generalize hX : a.eval c = X at hc
      cases hc
      exact wp_cond hX (ihx h hS hQ)
    · rename_i hb
      rw [hb] at hc
      generalize hX : a.eval c = X at hc
      cases hc
      exact wp_cond hX (ihy h hS hQ)
    · cases h
  | block id c ih =>
    intro st st' e r a w Q h hS hQ
    simp only [exC] at h
    have ih := @ih hL
    refine wp_block ?_
    cases hx : exC P call lp nt c st with
    | none => rw [hx] at h; cases h
    | some q =>
      obtain ⟨e1, st1⟩ := q
      rw [hx] at h
      refine ih hx hS fun r1 e1' a1 w1 hle h1 h2 => ?_
      cases e1 with
      | ex k =>
        cases e1' with
        | exit k' =>
          obtain rfl : k = k' := h2
          simp only [Exit.inBlock]
          by_cases hk : k = id
          · simp only [if_pos hk, Option.some.injEq, Prod.mk.injEq] at h
            obtain ⟨rfl, rfl⟩ := h
            rw [if_pos hk]
            exact hQ r1 .normal a1 w1 hle h1 trivial
          · simp only [if_neg hk, Option.some.injEq, Prod.mk.injEq] at h
            obtain ⟨rfl, rfl⟩ := h
            rw [if_neg hk]
            exact hQ r1 (.exit k) a1 w1 hle h1 rfl
        | _ => exact h2.elim
      | nm => obtain rfl := xnm h2; cases h; exact hQ r1 _ a1 w1 hle h1 trivial
      | rt => cases e1' <;> first | exact h2.elim | (cases h; exact hQ r1 _ a1 w1 hle h1 trivial)
      | pn v => cases e1' <;> first | exact h2.elim | (cases h; exact hQ r1 _ a1 w1 hle h1 h2)
  | loop c ih =>
    intro st st' e r a w Q h hS hQ
    simp only [exC] at h
    cases hlo : call.lo c st with
    | some q =>
      rw [hlo] at h
      cases h
      exact hL c (List.mem_cons_self ..) st _ _ hlo r a w Q hS hQ
    | none =>
    rw [hlo] at h
    have ih := @ih (fun c' hc' => hL c' (List.mem_cons_of_mem _ hc'))
    refine wp_loop_rounds lp ?_
    have key : ∀ n {st : ST} {r : RC} {a : Act} {w : World}, loopA (exC P call lp nt c) n st = some (e, st') → SR P w0 r nt st a w → (∀ r' e' a' w', RLe r r' → SR P w0 r' nt st' a' w' → XRel r' e e' → Q e' a' w') → Code.rounds P c Q n a w := by
      intro n
      induction n with
      | zero => intro st r a w h; cases h
      | succ n ihn =>
        intro st r a w h hS hQ
        rw [rounds_succ]
        simp only [loopA] at h
        cases hx : exC P call lp nt c st with
        | none => rw [hx] at h; cases h
        | some q =>
          obtain ⟨e1, st1⟩ := q
          rw [hx] at h
          refine ih hx hS fun r1 e1' a1 w1 hle h1 h2 => ?_
          by_cases hn : e1 = .nm
          · subst hn
            obtain rfl := xnm h2
            exact ihn h h1 fun r' e' a' w' h3 h4 h5 => hQ r' e' a' w' (hle.trans h3) h4 h5
          · have : some (e1, st1) = some (e, st') := by
              rw [← h]; cases e1 <;> first | rfl | exact absurd rfl hn
            cases this
            exact xthen hn h2 (hQ r1 e1' a1 w1 hle h1 h2)
    exact key lp h hS hQ
  | region id ops d =>
    intro st st' e r a w Q h hS hQ
    cases d with
    | false => exact wp_region_list (run_sound hC _ h hS hQ)
    | true => exact draw_sound hC hmx h hS hQ
  | _ => intro st st' e r a w Q h; cases h
end
end Go.Ab
