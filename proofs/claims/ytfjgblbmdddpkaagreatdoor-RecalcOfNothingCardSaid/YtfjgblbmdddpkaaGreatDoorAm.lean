/- A region whose order is open: the trace of the walk in the text's order tells what every order comes to. -/
import Derived.Test.YtfjgblbmdddpkaaGreatDoorAl
namespace Go.Ab
open Go.RowKit

section
variable {P : Program} {w0 : Base} {call : CallT} {nt : Nat} {ops : List Oper} {bs : Array Nat}

/-- A step of the walk that goes on. -/
inductive StepN (P : Program) (call : CallT) (nt : Nat) (ops : List Oper) (bs : Array Nat) (j : Nat) (o : Oper) (d : DS) : DS → Prop
  | off (st : ST) : guardA ops d.st.tm o = some false → kindOf o.op ≠ 2 → ST.put nt d.st o.dst (.t []) d.st.s = some st → StepN P call nt ops bs j o d { d with st := st }
  | pure (v : AV) (s1 : HS) (st : ST) : guardA ops d.st.tm o = some true → kindOf o.op = 0 → opA P call o.op (evA d.st.tm) d.st.s = some (.val v, s1) → ST.put nt d.st o.dst v d.st.s = some st → StepN P call nt ops bs j o d { d with st := st }
  | read (v : AV) (s1 : HS) (st : ST) : guardA ops d.st.tm o = some true → kindOf o.op = 1 → opA P call o.op (evA d.st.tm) d.st.s = some (.val v, s1) →
      (d.snaps.all fun q => (bs.getD j 0).testBit q.1 || againA P call (evA d.st.tm) q.2 o v) = true → ST.put nt d.st o.dst v d.st.s = some st → StepN P call nt ops bs j o d { d with st := st, reads := (j, o, v) :: d.reads }
  | new (f : Nat → AV) (z : List AV) (st : ST) : guardA ops d.st.tm o = some true → kindOf o.op = 2 → layA P o.op (evA d.st.tm) = some (z, f) → d.st.s.h[d.next]? = some (.cs z) → d.next < d.lim → (d.snaps.all fun q => (bs.getD j 0).testBit q.1 || liesA q.2 d.next z) = true → ST.put nt d.st o.dst (f d.next) d.st.s = some st →
      StepN P call nt ops bs j o d { d with st := st, next := d.next + 1, lays := (j, d.next, z) :: d.lays }
  | eff (v : AV) (res : OR) (s1 : HS) (st : ST) : guardA ops d.st.tm o = some true → kindOf o.op = 3 → opA P call o.op (evA d.st.tm) d.st.s = some (res, s1) → (res = .val v ∨ (res = .skip ∧ v = .t [])) →
      (d.reads.all fun q => (bs.getD j 0).testBit q.1 || againA P call (evA d.st.tm) s1.h q.2.1 q.2.2) = true → (d.lays.all fun q => (bs.getD j 0).testBit q.1 || liesA s1.h q.2.1 q.2.2) = true → ST.put nt d.st o.dst v s1 = some st → StepN P call nt ops bs j o d { d with st := st, snaps := (j, d.st.s.h) :: d.snaps }

theorem putD_inv {dst : Option Tmp} {v : AV} {s : HS} {d d' : DS} (h : putD nt dst v s d = some d') : ∃ st, ST.put nt d.st dst v s = some st ∧ d' = { d with st := st } := by
  unfold putD at h
  split at h
  · rename_i st hst; cases h; exact ⟨st, hst, rfl⟩
  · cases h

theorem putD_map {dst : Option Tmp} {v : AV} {s : HS} {d d' : DS} {q : Option AV} (h : (putD nt dst v s d).map (fun x => ((none : Option AV), x)) = some (q, d')) : q = none ∧ ∃ st, ST.put nt d.st dst v s = some st ∧ d' = { d with st := st } := by
  cases hp : putD nt dst v s d with
  | none => rw [hp] at h; cases h
  | some d1 => rw [hp] at h; cases h; exact ⟨rfl, putD_inv hp⟩

theorem step_inv {j : Nat} {o : Oper} {d d' : DS} (h : stepW P call nt ops bs j o d = some (none, d')) : StepN P call nt ops bs j o d d' := by
  unfold stepW at h
  split at h
  · rename_i hg
    unfold bodyA at h
    split at h
    · rename_i hk
      split at h
      · rename_i v s1 hop
        obtain ⟨_, st, h1, rfl⟩ := putD_map h
        exact .pure v s1 st hg hk hop h1
      · cases h
    · rename_i hk
      split at h
      · rename_i v s1 hop
        split at h
        · rename_i hall
          obtain ⟨_, st, h1, rfl⟩ := putD_map h
          exact .read v s1 st hg hk hop hall h1
        · cases h
      · cases h
    · rename_i hk
      split at h
      · rename_i z f l hz hl
        split at h
        · rename_i hc
          simp only [Bool.and_eq_true, Nat.blt_eq] at hc
          obtain rfl := AV.eq_of_beqs hc.1.1
          obtain ⟨_, st, h1, rfl⟩ := putD_map h
          exact .new f l st hg hk hz hl hc.1.2 hc.2 h1
        · cases h
      · cases h
    · rename_i hk
      split at h
      · cases h
      · rename_i v s1 hop
        split at h
        · rename_i hall
          rw [Bool.and_eq_true] at hall
          obtain ⟨_, st, h1, rfl⟩ := putD_map h
          exact .eff v _ s1 st hg hk hop (.inl rfl) hall.1 hall.2 h1
        · cases h
      · rename_i s1 hop
        split at h
        · rename_i hall
          rw [Bool.and_eq_true] at hall
          obtain ⟨_, st, h1, rfl⟩ := putD_map h
          exact .eff (.t []) _ s1 st hg hk hop (.inr ⟨rfl, rfl⟩) hall.1 hall.2 h1
        · cases h
      · cases h
    · cases h
  · rename_i hg
    split at h
    · cases h
    · rename_i hk
      obtain ⟨_, st, h1, rfl⟩ := putD_map h
      exact .off st hg hk h1
  · cases h

theorem step_pan {j : Nat} {o : Oper} {d d' : DS} {v : AV} (h : stepW P call nt ops bs j o d = some (some v, d')) :
    guardA ops d.st.tm o = some true ∧ kindOf o.op = 3 ∧ ∃ s1, opA P call o.op (evA d.st.tm) d.st.s = some (.pan v, s1) ∧ d' = { d with st := { d.st with s := s1 } } := by
  have no : ∀ {dst : Option Tmp} {u : AV} {s : HS} {d0 : DS}, (putD nt dst u s d0).map (fun x => ((none : Option AV), x)) = some (some v, d') → False := fun h => by
    have := (putD_map h).1; cases this
  unfold stepW at h
  split at h
  · rename_i hg
    unfold bodyA at h
    split at h
    · split at h
      · exact (no h).elim
      · cases h
    · split at h
      · split at h
        · exact (no h).elim
        · cases h
      · cases h
    · split at h
      · split at h
        · exact (no h).elim
        · cases h
      · cases h
    · rename_i hk
      split at h
      · rename_i v s1 hop
        cases h
        exact ⟨hg, hk, s1, hop, rfl⟩
      · split at h
        · exact (no h).elim
        · cases h
      · split at h
        · exact (no h).elim
        · cases h
      · cases h
    · cases h
  · split at h
    · cases h
    · exact (no h).elim
  · cases h

/-- The states of the walk. -/
structure Trace (P : Program) (call : CallT) (nt : Nat) (ops : List Oper) (bs : Array Nat) (d0 : DS) (m : Nat) (D : Nat → DS) : Prop where
  zero : D 0 = d0
  le : m ≤ ops.length
  step : ∀ (j : Nat) (o : Oper), j < m → ops[j]? = some o → StepN P call nt ops bs j o (D j) (D (j + 1))

theorem walk_trace : ∀ (rest : List Oper) (j : Nat) (d : DS) (res : Option AV) (d' : DS), walkA P call nt ops bs rest j d = some (res, d') → rest = ops.drop j → j ≤ ops.length →
    ∃ (m : Nat) (D : Nat → DS), j ≤ m ∧ m ≤ ops.length ∧ D j = d ∧ (∀ (i : Nat) (o : Oper), j ≤ i → i < m → ops[i]? = some o → stepW P call nt ops bs i o (D i) = some (none, D (i + 1))) ∧
      ((res = none ∧ m = ops.length ∧ d' = D m) ∨ ∃ v o, res = some v ∧ ops[m]? = some o ∧ stepW P call nt ops bs m o (D m) = some (some v, d') ∧ lastOk ops bs m = true) := by
  intro rest
  induction rest with
  | nil =>
    intro j d res d' h hr hj
    cases h
    have : ops.length ≤ j := by simpa using hr.symm
    exact ⟨j, fun _ => d, Nat.le_refl _, hj, rfl, fun i o h1 h2 => absurd h2 (by omega), .inl ⟨rfl, by omega, rfl⟩⟩
  | cons o rest ih =>
    intro j d res d' h hr hj
    have hlt : j < ops.length := by
      rcases Nat.lt_or_ge j ops.length with h1 | h1
      · exact h1
      · rw [List.drop_eq_nil_of_le h1] at hr; cases hr
    rw [List.drop_eq_getElem_cons hlt] at hr
    injection hr with h1 h2
    have hj' : ops[j]? = some o := by rw [List.getElem?_eq_getElem hlt, h1]
    unfold walkA at h
    split at h
    · rename_i d1 hs
      obtain ⟨m, D, a1, a2, a3, a4, a5⟩ := ih (j + 1) d1 res d' h h2 hlt
      refine ⟨m, fun i => if i ≤ j then d else D i, by omega, a2, by simp, fun i o' h3 h4 h5 => ?_, ?_⟩
      · by_cases hij : i = j
        · subst hij
          rw [hj'] at h5; cases h5
          dsimp only
          rw [if_pos (Nat.le_refl _), if_neg (by omega), a3]
          exact hs
        · dsimp only
          rw [if_neg (by omega), if_neg (by omega)]
          exact a4 i o' (by omega) h4 h5
      · dsimp only
        rw [if_neg (by omega)]
        exact a5
    · rename_i v d1 hs
      split at h
      · rename_i hl
        cases h
        exact ⟨j, fun _ => d, Nat.le_refl _, hj, rfl, fun i o h1 h2 => absurd h2 (by omega), .inr ⟨v, o, rfl, hj', hs, hl⟩⟩
      · cases h
    · cases h

section
variable {d0 : DS} {m : Nat} {D : Nat → DS}

theorem Trace.at (T : Trace P call nt ops bs d0 m D) {j : Nat} (hj : j < m) : ∃ o, ops[j]? = some o ∧ StepN P call nt ops bs j o (D j) (D (j + 1)) := by
  have hlt : j < ops.length := Nat.lt_of_lt_of_le hj T.le
  exact ⟨ops[j], List.getElem?_eq_getElem hlt, T.step j _ hj (List.getElem?_eq_getElem hlt)⟩

theorem put_inv {st st' : ST} {dst : Option Tmp} {v : AV} {s : HS} (h : ST.put nt st dst v s = some st') :
    st'.s = s ∧ st'.df = st.df ∧ (∀ k, dst ≠ some k → st'.tm.get k = st.tm.get k) ∧ (∀ k, dst = some k → k < nt ∧ (st'.tm.get k = v ∨ st'.tm.get k = .un)) := by
  unfold ST.put at h
  cases dst with
  | none => cases h; exact ⟨rfl, rfl, fun _ _ => rfl, fun k hk => by cases hk⟩
  | some d =>
    simp only at h
    split at h
    · rename_i hd
      cases h
      refine ⟨rfl, rfl, fun k hk => Tm.get_set_other _ _ _ _ fun e => hk (by rw [e]), fun k hk => ?_⟩
      cases hk
      exact ⟨by simpa using hd, Tm.get_set_same _ _ _⟩
    · cases h

/-- The value that a step puts. -/
theorem StepN.put {j : Nat} {o : Oper} {d d' : DS} (h : StepN P call nt ops bs j o d d') : ∃ v s, ST.put nt d.st o.dst v s = some d'.st := by
  cases h with
  | off st _ _ h => exact ⟨_, _, h⟩
  | pure v s1 st _ _ _ h => exact ⟨_, _, h⟩
  | read v s1 st _ _ _ _ h => exact ⟨_, _, h⟩
  | new f z st _ _ _ _ _ _ h => exact ⟨_, _, h⟩
  | eff v res s1 st _ _ _ _ _ _ h => exact ⟨_, _, h⟩

theorem Trace.df (T : Trace P call nt ops bs d0 m D) : ∀ j, j ≤ m → (D j).st.df = d0.st.df ∧ (D j).lim = d0.lim := by
  intro j
  induction j with
  | zero => intro _; rw [T.zero]; exact ⟨rfl, rfl⟩
  | succ j ih =>
    intro hj
    obtain ⟨o, ho, hs⟩ := T.at hj
    obtain ⟨h1, h2⟩ := ih (by omega)
    obtain ⟨v, s, hp⟩ := hs.put
    refine ⟨(put_inv hp).2.1.trans h1, ?_⟩
    rw [← h2]
    generalize D (j + 1) = d' at hs
    cases hs <;> rfl

/-- A slot that nobody writes meanwhile. -/
theorem Trace.slot (T : Trace P call nt ops bs d0 m D) (k a : Nat) : ∀ b, a ≤ b → b ≤ m → (∀ (i : Nat) (o : Oper), a ≤ i → i < b → ops[i]? = some o → o.dst ≠ some k) → (D b).st.tm.get k = (D a).st.tm.get k := by
  intro b
  induction b with
  | zero => intro h1 _ _; have : a = 0 := by omega
            rw [this]
  | succ b ih =>
    intro h1 h2 h3
    rcases Nat.lt_or_ge b a with h4 | h4
    · have : a = b + 1 := by omega
      rw [this]
    · obtain ⟨o, ho, hs⟩ := T.at (j := b) h2
      obtain ⟨v, s, hp⟩ := hs.put
      rw [(put_inv hp).2.2.1 k (h3 b o h4 (by omega) ho)]
      exact ih h4 (by omega) fun i o' h5 h6 h7 => h3 i o' h5 (by omega) h7

/-- An operation that may turn memory, and is done. -/
def Eff (ops : List Oper) (D : Nat → DS) (i : Nat) : Prop := ∃ o, ops[i]? = some o ∧ kindOf o.op = 3 ∧ guardA ops (D i).st.tm o = some true

theorem Trace.still (T : Trace P call nt ops bs d0 m D) {j : Nat} (hj : j < m) (hn : ¬ Eff ops D j) : (D (j + 1)).st.s = (D j).st.s := by
  obtain ⟨o, ho, hs⟩ := T.at hj
  generalize hd : D (j + 1) = d' at hs
  cases hs with
  | off st _ _ h => exact (put_inv h).1
  | pure v s1 st _ _ _ h => exact (put_inv h).1
  | read v s1 st _ _ _ _ h => exact (put_inv h).1
  | new f z st _ _ _ _ _ _ h => exact (put_inv h).1
  | eff v res s1 st hg hk _ _ _ _ h => exact absurd ⟨o, ho, hk, hg⟩ hn

theorem Trace.calm (T : Trace P call nt ops bs d0 m D) (a : Nat) : ∀ b, a ≤ b → b ≤ m → (∀ i, a ≤ i → i < b → ¬ Eff ops D i) → (D b).st.s = (D a).st.s := by
  intro b
  induction b with
  | zero => intro h1 _ _; have : a = 0 := by omega
            rw [this]
  | succ b ih =>
    intro h1 h2 h3
    rcases Nat.lt_or_ge b a with h4 | h4
    · have : a = b + 1 := by omega
      rw [this]
    · rw [T.still h2 (h3 b h4 (by omega))]
      exact ih h4 (by omega) fun i h5 h6 => h3 i h5 (by omega)

/-- The first that turns memory between two places, the last. -/
theorem Trace.first (T : Trace P call nt ops bs d0 m D) (b : Nat) (hb : b ≤ m) : ∀ n a, b - a = n → a ≤ b → (D b).st.s = (D a).st.s ∨ ∃ i, a ≤ i ∧ i < b ∧ Eff ops D i ∧ (D i).st.s = (D a).st.s := by
  intro n
  induction n with
  | zero => intro a h1 h2; have : a = b := by omega
            rw [this]; exact .inl rfl
  | succ n ih =>
    intro a h1 h2
    by_cases he : Eff ops D a
    · exact .inr ⟨a, Nat.le_refl _, by omega, he, rfl⟩
    · have hs := T.still (by omega) he
      rcases ih (a + 1) (by omega) (by omega) with h3 | ⟨i, h3, h4, h5, h6⟩
      · exact .inl (h3.trans hs)
      · exact .inr ⟨i, by omega, h4, h5, h6.trans hs⟩

theorem Trace.last (T : Trace P call nt ops bs d0 m D) (a : Nat) : ∀ b, a ≤ b → b ≤ m → (D b).st.s = (D a).st.s ∨ ∃ i, a ≤ i ∧ i < b ∧ Eff ops D i ∧ (D (i + 1)).st.s = (D b).st.s := by
  intro b
  induction b with
  | zero => intro h1 _; have : a = 0 := by omega
            rw [this]; exact .inl rfl
  | succ b ih =>
    intro h1 h2
    rcases Nat.lt_or_ge b a with h4 | h4
    · have : a = b + 1 := by omega
      rw [this]; exact .inl rfl
    · by_cases he : Eff ops D b
      · exact .inr ⟨b, h4, by omega, he, rfl⟩
      · have hs := T.still h2 he
        rcases ih h4 (by omega) with h3 | ⟨i, h3, h5, h6, h7⟩
        · exact .inl (hs.trans h3)
        · exact .inr ⟨i, h3, by omega, h6, h7.trans hs.symm⟩

theorem Trace.snap (T : Trace P call nt ops bs d0 m D) {i : Nat} (he : Eff ops D i) : ∀ j, i < j → j ≤ m → (i, (D i).st.s.h) ∈ (D j).snaps := by
  intro j
  induction j with
  | zero => intro h; omega
  | succ j ih =>
    intro h1 h2
    obtain ⟨o, ho, hs⟩ := T.at (j := j) h2
    generalize hd : D (j + 1) = d' at hs
    by_cases hij : i = j
    · subst hij
      obtain ⟨o', ho', hk', hg'⟩ := he
      rw [ho] at ho'; cases ho'
      cases hs with
      | off st hg _ h => rw [hg] at hg'; cases hg'
      | pure v s1 st _ hk _ h => omega
      | read v s1 st _ hk _ _ h => omega
      | new f z st _ hk _ _ _ _ h => omega
      | eff v res s1 st hg hk _ _ _ _ h => simp
    · have := ih (by omega) (by omega)
      cases hs with
      | off st hg _ h => exact this
      | pure v s1 st _ hk _ h => exact this
      | read v s1 st _ hk _ _ h => exact this
      | new f z st _ hk _ _ _ _ h => exact this
      | eff v res s1 st hg hk _ _ _ _ h => exact List.mem_cons_of_mem _ this

theorem Trace.read (T : Trace P call nt ops bs d0 m D) {i : Nat} {o : Oper} {v : AV} (hm : (i, o, v) ∈ (D (i + 1)).reads) : ∀ j, i < j → j ≤ m → (i, o, v) ∈ (D j).reads := by
  intro j
  induction j with
  | zero => intro h; omega
  | succ j ih =>
    intro h1 h2
    by_cases hij : i = j
    · subst hij; exact hm
    · obtain ⟨o, ho, hs⟩ := T.at (j := j) h2
      generalize hd : D (j + 1) = d' at hs
      have := ih (by omega) (by omega)
      cases hs with
      | off st hg _ h => exact this
      | pure v s1 st _ hk _ h => exact this
      | read v s1 st _ hk _ _ h => exact List.mem_cons_of_mem _ this
      | new f z st _ hk _ _ _ _ h => exact this
      | eff v res s1 st hg hk _ _ _ _ h => exact this

theorem Trace.lay (T : Trace P call nt ops bs d0 m D) {i k : Nat} {z : List AV} (hm : (i, k, z) ∈ (D (i + 1)).lays) : ∀ j, i < j → j ≤ m → (i, k, z) ∈ (D j).lays := by
  intro j
  induction j with
  | zero => intro h; omega
  | succ j ih =>
    intro h1 h2
    by_cases hij : i = j
    · subst hij; exact hm
    · obtain ⟨o, ho, hs⟩ := T.at (j := j) h2
      generalize hd : D (j + 1) = d' at hs
      have := ih (by omega) (by omega)
      cases hs with
      | off st hg _ h => exact this
      | pure v s1 st _ hk _ h => exact this
      | read v s1 st _ hk _ _ h => exact this
      | new f z st _ hk _ _ _ _ h => exact List.mem_cons_of_mem _ this
      | eff v res s1 st hg hk _ _ _ _ h => exact this

theorem Trace.next_le (T : Trace P call nt ops bs d0 m D) (a : Nat) : ∀ b, a ≤ b → b ≤ m → (D a).next ≤ (D b).next := by
  intro b
  induction b with
  | zero => intro h1 _; have : a = 0 := by omega
            rw [this]; exact Nat.le_refl _
  | succ b ih =>
    intro h1 h2
    rcases Nat.lt_or_ge b a with h4 | h4
    · have : a = b + 1 := by omega
      rw [this]; exact Nat.le_refl _
    · obtain ⟨o, ho, hs⟩ := T.at (j := b) h2
      generalize hd : D (b + 1) = d' at hs
      have := ih h4 (by omega)
      cases hs with
      | off st hg _ h => exact this
      | pure v s1 st _ hk _ h => exact this
      | read v s1 st _ hk _ _ h => exact this
      | new f z st _ hk _ _ _ _ h => exact Nat.le_succ_of_le this
      | eff v res s1 st hg hk _ _ _ _ h => exact this

theorem Trace.next_alloc (T : Trace P call nt ops bs d0 m D) {j : Nat} (hj : j < m) {o : Oper} (ho : ops[j]? = some o) (hk2 : kindOf o.op = 2) : (D (j + 1)).next = (D j).next + 1 ∧ (D j).next < d0.lim := by
  have hs := T.step j o hj ho
  have hl := (T.df j (by omega)).2
  generalize hd : D (j + 1) = d' at hs
  cases hs with
  | off st hg hk h => exact absurd hk2 hk
  | pure v s1 st _ hk _ h => omega
  | read v s1 st _ hk _ _ h => omega
  | new f z st _ hk _ _ hlt _ h => exact ⟨rfl, by omega⟩
  | eff v res s1 st hg hk _ _ _ _ h => omega
end
end
end Go.Ab
