/- What abstract memory keeps, second part: code and calls. -/
import Derived.Test.YtfjgblbmdddpkaaGreatDoorAq
namespace Go.Ab
open Go.RowKit

section
variable {P : Program} {call : CallT} {nt : Nat}

theorem pre_grow (zs : List (List AV)) : ∀ {h : AH} (e : Option Nat), Grow { h := h, esc := e } { h := h ++ zs.map AO.cs, esc := e } := by
  induction zs with
  | nil => intro h e; simpa using Grow.refl _
  | cons z zs ih =>
    intro h e
    have := (Grow.push { h := h, esc := e } (.cs z)).trans (ih e)
    simpa using this

theorem step_grow (hC : GrowC call) {ops : List Oper} {bs : Array Nat} {j : Nat} {o : Oper} {d d' : DS} {x : Option AV} (h : stepW P call nt ops bs j o d = some (x, d')) : Grow d.st.s d'.st.s := by
  cases x with
  | none =>
    cases step_inv h with
    | off st _ _ hp => rw [put_s hp]; exact .refl _
    | pure v s1 st _ _ _ hp => simp only; rw [put_s hp]; exact .refl _
    | read v s1 st _ _ _ _ hp => simp only; rw [put_s hp]; exact .refl _
    | new f z st _ _ _ _ _ _ hp => simp only; rw [put_s hp]; exact .refl _
    | eff v res s1 st _ _ hop _ _ _ hp => simp only; rw [put_s hp]; exact op_grow hC hop
  | some v =>
    obtain ⟨_, _, s1, hop, rfl⟩ := step_pan h
    exact op_grow hC hop

theorem walk_grow (hC : GrowC call) {ops : List Oper} {bs : Array Nat} : ∀ (rest : List Oper) (j : Nat) {d d' : DS} {x : Option AV}, walkA P call nt ops bs rest j d = some (x, d') → Grow d.st.s d'.st.s := by
  intro rest
  induction rest with
  | nil => intro j d d' x h; cases h; exact .refl _
  | cons o rest ih =>
    intro j d d' x h
    unfold walkA at h
    split at h
    · rename_i hs; exact (step_grow hC hs).trans (ih _ h)
    · rename_i hs
      split at h
      · cases h; exact step_grow hC hs
      · cases h
    · cases h

theorem draw_grow (hC : GrowC call) {ops : List Oper} {st st' : ST} {e : AE} (h : drawA P call nt ops st = some (e, st')) : Grow st.s st'.s := by
  unfold drawA at h
  split at h
  · have h0 : Grow st.s { st.s with h := preA P call nt ops st } := pre_grow _ st.s.esc
    unfold drawB at h
    split at h
    · rename_i hw; cases h; exact h0.trans (walk_grow hC _ _ hw)
    · rename_i hw; cases h; exact h0.trans (walk_grow hC _ _ hw)
    · cases h
  · cases h

theorem code_grow (hC : GrowC call) {lp : Nat} (c : Code) : ∀ {st st' : ST} {e : AE}, exC P call lp nt c st = some (e, st') → Grow st.s st'.s := by
  induction c with
  | skip => intro st st' e h; cases h; exact .refl _
  | label l => intro st st' e h; cases h; exact .refl _
  | exit id => intro st st' e h; cases h; exact .refl _
  | ret => intro st st' e h; cases h; exact .refl _
  | seq x y ihx ihy =>
    intro st st' e h
    simp only [exC] at h
    cases hx : exC P call lp nt x st with
    | none => rw [hx] at h; cases h
    | some q =>
      obtain ⟨e1, st1⟩ := q
      rw [hx] at h
      cases e1 with
      | nm => exact (ihx hx).trans (ihy h)
      | ex k => cases h; exact ihx hx
      | rt => cases h; exact ihx hx
      | pn v => cases h; exact ihx hx
  | cond c x y ihx ihy =>
    intro st st' e h
    simp only [exC] at h
    split at h
    · exact ihx h
    · exact ihy h
    · cases h
  | block id c ih =>
    intro st st' e h
    simp only [exC] at h
    cases hx : exC P call lp nt c st with
    | none => rw [hx] at h; cases h
    | some q =>
      obtain ⟨e1, st1⟩ := q
      rw [hx] at h
      cases e1 with
      | ex k =>
        simp only at h
        split at h <;> (cases h; exact ih hx)
      | nm => cases h; exact ih hx
      | rt => cases h; exact ih hx
      | pn v => cases h; exact ih hx
  | loop c ih =>
    intro st st' e h
    simp only [exC] at h
    rw [hC.lo] at h
    have key : ∀ n {st : ST}, loopA (exC P call lp nt c) n st = some (e, st') → Grow st.s st'.s := by
      intro n
      induction n with
      | zero => intro st h; cases h
      | succ n ihn =>
        intro st h
        simp only [loopA] at h
        cases hx : exC P call lp nt c st with
        | none => rw [hx] at h; cases h
        | some q =>
          obtain ⟨e1, st1⟩ := q
          rw [hx] at h
          cases e1 with
          | nm => exact (ih hx).trans (ihn h)
          | ex k => cases h; exact ih hx
          | rt => cases h; exact ih hx
          | pn v => cases h; exact ih hx
    exact key lp h
  | region id ops d =>
    intro st st' e h
    cases d with
    | false => exact run_grow hC _ h
    | true => exact draw_grow hC h
  | _ => intro st st' e h; cases h

/-- Code without 'recover' among deferred code. -/
theorem exD_plain {lp : Nat} {c : Code} {st st' : ST} {e : AE} {m m' : MD} (hs : ∀ x y, c ≠ .seq x y) (hr : ∀ id ops d, c ≠ .region id ops d) (h : exD P call lp nt c st m = some (e, st', m')) : exC P call lp nt c st = some (e, st') ∧ m' = m := by
  cases c with
  | seq x y => exact absurd rfl (hs x y)
  | region id ops d => exact absurd rfl (hr id ops d)
  | _ =>
    simp only [exD] at h
    split at h
    · rename_i hx; cases h; exact ⟨hx, rfl⟩
    · cases h

theorem exD_grow (hC : GrowC call) {lp : Nat} (c : Code) : ∀ {st st' : ST} {e : AE} {m m' : MD}, exD P call lp nt c st m = some (e, st', m') → Grow st.s st'.s := by
  induction c with
  | seq x y ihx ihy =>
    intro st st' e m m' h
    simp only [exD] at h
    cases hx : exD P call lp nt x st m with
    | none => rw [hx] at h; cases h
    | some q =>
      obtain ⟨e1, st1, m1⟩ := q
      rw [hx] at h
      cases e1 with
      | nm => exact (ihx hx).trans (ihy h)
      | ex k => cases h; exact ihx hx
      | rt => cases h; exact ihx hx
      | pn v => cases h; exact ihx hx
  | region id ops d =>
    intro st st' e m m' h
    unfold exD at h
    split at h
    · split at h
      · split at h
        · split at h
          · rename_i hp; cases h; rw [put_s hp]; exact .refl _
          · cases h
        · split at h
          · rename_i hp; cases h; rw [put_s hp]; exact .refl _
          · cases h
      · split at h
        · rename_i hx; cases h; exact code_grow hC _ hx
        · cases h
    · split at h
      · rename_i hx; cases h; exact code_grow hC _ hx
      · cases h
  | _ => intro st st' e m m' h; exact code_grow hC _ (exD_plain (by intros; simp) (by intros; simp) h).1

theorem deferred_grow (hC : GrowC call) {lp : Nat} {g : FuncId} {args : List AV} {m m' : MD} {s s' : HS} (h : deferredA P call lp g args m s = some (m', s')) : Grow s s' := by
  unfold deferredA at h
  split at h
  · split at h
    · split at h
      · split at h
        · rename_i hx
          split at h
          · cases h; exact exD_grow hC _ hx
          · cases h
        · rename_i hx
          split at h
          · cases h; exact exD_grow hC _ hx
          · cases h
        · rename_i hx
          split at h
          · cases h; exact exD_grow hC _ hx
          · cases h
        · cases h
      · cases h
    · cases h
  · cases h

theorem leave_grow (hC : GrowC call) {lp : Nat} : ∀ (df : List (FuncId × List AV)) {m m' : MD} {s s' : HS}, leaveA P call lp df m s = some (m', s') → Grow s s' := by
  intro df
  induction df with
  | nil => intro m m' s s' h; cases h; exact .refl _
  | cons d df ih =>
    intro m m' s s' h
    obtain ⟨g, args⟩ := d
    simp only [leaveA] at h
    split at h
    · rename_i hd; exact (deferred_grow hC hd).trans (ih h)
    · cases h

theorem close_cases (base : Nat) (esc : Option Nat) (r : CR) (s : HS) :
    (closeA base esc r s = (r.st, { h := s.h.take base, esc := esc }) ∧ (∀ e, s.esc = some e → base ≤ e) ∧ r.st.cl base = true) ∨
    (closeA base esc r s = (r.st, { h := s.h, esc := s.esc.elim esc (lowE esc) })) := by
  unfold closeA
  cases he : s.esc with
  | none =>
    simp only [Bool.true_and]
    by_cases hc : r.st.cl base = true
    · rw [if_pos hc]; exact .inl ⟨rfl, fun e h => (nomatch h), hc⟩
    · rw [if_neg hc]; exact .inr rfl
  | some e =>
    simp only [Bool.and_eq_true]
    by_cases hc : Nat.ble base e = true ∧ r.st.cl base = true
    · rw [if_pos hc]; exact .inl ⟨rfl, fun e' h => (by cases h; simpa using hc.1), hc.2⟩
    · rw [if_neg hc]; exact .inr rfl

theorem close_grow {s s1 : HS} {r : CR} (hlen : s.h.length ≤ s1.h.length) (hg : Grow { h := s.h, esc := none } s1) : Grow s (closeA s.h.length s.esc r s1).2 := by
  have start : ∀ b X, HOk b X s → (∀ e, s.esc = some e → b ≤ e) → HOk b X { h := s.h, esc := none } := fun b X ho he _ => ho he
  rcases close_cases s.h.length s.esc r s1 with ⟨h0, h1, _⟩ | h0
  · rw [h0]
    refine ⟨by simp only [List.length_take]; omega, fun e he => ⟨e, he, Nat.le_refl _⟩, fun b X hb ho he k o hk hX hx => ?_⟩
    simp only at he hx
    rw [List.getElem?_take, if_pos (by omega)] at hx
    refine hg.ok b X hb (start b X ho he) (fun e h2 => ?_) k o hk hX hx
    have := h1 e h2
    omega
  · rw [h0]
    refine ⟨hlen, fun e he => ?_, fun b X hb ho he k o hk hX hx => ?_⟩
    · cases h1 : s1.esc with
      | none => exact ⟨e, he, Nat.le_refl _⟩
      | some e1 =>
        obtain ⟨e2, h2⟩ := lowE_some s.esc e1
        exact ⟨e2, h2, (lowE_le h2).2 e he⟩
    · simp only at he hx
      have h1 : ∀ e, s.esc = some e → b ≤ e := by
        intro e h1
        cases h2 : s1.esc with
        | none => rw [h2] at he; exact he e h1
        | some e1 =>
          rw [h2] at he
          obtain ⟨e2, h3⟩ := lowE_some s.esc e1
          have h4 := (lowE_le h3).2 e h1
          have h5 := he e2 h3
          omega
      refine hg.ok b X hb (start b X ho h1) (fun e h2 => ?_) k o hk hX hx
      rw [h2] at he
      obtain ⟨e2, h3⟩ := lowE_some s.esc e
      have h4 := (lowE_le h3).1
      have h5 := he e2 h3
      omega

/-- The ways through a call. -/
theorem fun_cases {lp : Nat} {fn : Func} {c : Code} {args : List AV} {s : HS} {q : CR × HS} (h : funA P call lp fn c args s = some q) :
    args.length ≤ fn.ntmps ∧ ∃ e st m m' s1 r, exC P call lp fn.ntmps c (startA fn args { h := s.h, esc := none }) = some (e, st) ∧ leaveA P call lp st.df m st.s = some (m', s1) ∧ q = closeA s.h.length s.esc r s1 ∧
      (((e = .nm ∨ e = .rt) ∧ m = .ret) ∨ ∃ v, e = .pn v ∧ m = .pan v false) ∧ ((m' = .ret ∧ ∃ l, resA P fn.results.toList st.tm s1.h = some l ∧ r = .ret (oneOf l)) ∨ ∃ v x, m' = .pan v x ∧ r = .pan v) := by
  unfold funA at h
  split at h
  · rename_i hn
    refine ⟨by simpa using hn, ?_⟩
    split at h
    · rename_i st hx
      split at h
      · rename_i s1 hl
        split at h
        · rename_i l hr; cases h; exact ⟨.nm, st, .ret, .ret, s1, _, hx, hl, rfl, .inl ⟨.inl rfl, rfl⟩, .inl ⟨rfl, l, hr, rfl⟩⟩
        · cases h
      · rename_i v x s1 hl; cases h; exact ⟨.nm, st, .ret, .pan v x, s1, _, hx, hl, rfl, .inl ⟨.inl rfl, rfl⟩, .inr ⟨v, x, rfl, rfl⟩⟩
      · cases h
    · rename_i st hx
      split at h
      · rename_i s1 hl
        split at h
        · rename_i l hr; cases h; exact ⟨.rt, st, .ret, .ret, s1, _, hx, hl, rfl, .inl ⟨.inr rfl, rfl⟩, .inl ⟨rfl, l, hr, rfl⟩⟩
        · cases h
      · rename_i v x s1 hl; cases h; exact ⟨.rt, st, .ret, .pan v x, s1, _, hx, hl, rfl, .inl ⟨.inr rfl, rfl⟩, .inr ⟨v, x, rfl, rfl⟩⟩
      · cases h
    · rename_i u st hx
      split at h
      · rename_i s1 hl
        split at h
        · rename_i l hr; cases h; exact ⟨.pn u, st, .pan u false, .ret, s1, _, hx, hl, rfl, .inr ⟨u, rfl, rfl⟩, .inl ⟨rfl, l, hr, rfl⟩⟩
        · cases h
      · rename_i v x s1 hl; cases h; exact ⟨.pn u, st, .pan u false, .pan v x, s1, _, hx, hl, rfl, .inr ⟨u, rfl, rfl⟩, .inr ⟨v, x, rfl, rfl⟩⟩
      · cases h
    · cases h
  · cases h

theorem fun_grow (hC : GrowC call) {lp : Nat} {fn : Func} {c : Code} {args : List AV} {s s' : HS} {r : CR} (h : funA P call lp fn c args s = some (r, s')) : Grow s s' := by
  obtain ⟨_, e, st, m, m', s1, r', h1, h2, h3, _⟩ := fun_cases h
  have hg := (code_grow hC c h1).trans (leave_grow hC _ h2)
  have := close_grow (s := s) (r := r') hg.len hg
  rw [← h3] at this
  exact this

theorem call_grow {tab : CallT} (hT : GrowC tab) : ∀ n, GrowC (callA P tab n) := by
  intro n
  refine ⟨?_, fun _ _ => rfl⟩
  induction n with
  | zero => intro f args s res s' h; cases h
  | succ n ih =>
    intro f args s res s' h
    simp only [callA, callF] at h
    split at h
    · rename_i hx; cases h; exact hT.fn _ _ _ _ _ hx
    · split at h
      · split at h
        · exact fun_grow (call := { fn := callF P tab n, op := tab.op, views := tab.views, vw := tab.views.any (Nat.beq f) }) ⟨ih, fun _ _ => rfl⟩ h
        · cases h
      · cases h
end
end Go.Ab
