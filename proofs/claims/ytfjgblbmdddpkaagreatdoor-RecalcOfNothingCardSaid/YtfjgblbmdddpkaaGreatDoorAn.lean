/- A region whose order is open, second part: every order comes to what the walk comes to. -/
import Derived.Test.YtfjgblbmdddpkaaGreatDoorAm
namespace Go.Ab
open Go.RowKit

/-- What the check of a region's orders shows. -/
structure Order (ops : List Oper) (bs : Array Nat) : Prop where
  one : ∀ (i j k : Nat) (oi oj : Oper), ops[i]? = some oi → ops[j]? = some oj → oi.dst = some k → oj.dst = some k → i = j
  look : ∀ (i j k : Nat) (oi oj : Oper), ops[i]? = some oi → ops[j]? = some oj → oi.dst = some k → k ∈ looksA ops oj →
    (i < j ∧ (bs.getD j 0).testBit i = true) ∨ (kindOf oj.op ≠ 1 ∧ (i = j ∨ (j < i ∧ (bs.getD i 0).testBit j = true)))
  eff : ∀ (i j : Nat) (oi oj : Oper), ops[i]? = some oi → ops[j]? = some oj → i < j → kindOf oi.op = 3 ∧ kindOf oj.op = 3 → (bs.getD j 0).testBit i = true
  back : ∀ (j : Nat) (oj : Oper), ops[j]? = some oj → ∀ e ∈ oj.after, Region.binds .any e = true → e.on < j
  bit : ∀ (j i : Nat) (oj : Oper), ops[j]? = some oj → i < ops.length → (bs.getD j 0).testBit i = true → ∃ e ∈ oj.after, Region.binds .any e = true ∧ (e.on = i ∨ (bs.getD e.on 0).testBit i = true)

theorem order_of {ops : List Oper} {bs : Array Nat} (h : drawOk ops bs = true) : Order ops bs := by
  have key : ∀ (j : Nat) (oj : Oper), ops[j]? = some oj → edgeOk ops.length bs j oj = true ∧ ∀ (i : Nat) (oi : Oper), ops[i]? = some oi → pairOk ops bs i j oi oj = true := by
    intro j oj hj
    unfold drawOk at h
    rw [List.all_eq_true] at h
    have := h j (List.mem_range.2 (List.getElem?_eq_some_iff.1 hj).1)
    rw [hj] at this
    simp only [Bool.and_eq_true] at this
    refine ⟨this.1, fun i oi hi => ?_⟩
    have h2 := List.all_eq_true.1 this.2 i (List.mem_range.2 (List.getElem?_eq_some_iff.1 hi).1)
    rw [hi] at h2
    exact h2
  refine ⟨fun i j k oi oj hi hj di dj => ?_, fun i j k oi oj hi hj di hk => ?_, fun i j oi oj hi hj hij hc => ?_, fun j oj hj e he heb => ?_, fun j i oj hj hi hb => ?_⟩
  · have := (key j oj hj).2 i oi hi
    unfold pairOk at this
    simp [di, dj] at this
    exact this.1.1
  · have := (key j oj hj).2 i oi hi
    unfold pairOk at this
    simp only [di, Bool.and_eq_true, Bool.or_eq_true, Bool.not_eq_true'] at this
    rcases this.1.2 with (h1 | h1) | h1
    · exact absurd hk (by simpa using h1)
    · exact .inl ⟨by simpa using h1.1, h1.2⟩
    · refine .inr ⟨by simpa using h1.1, ?_⟩
      rcases h1.2 with h2 | h2
      · exact .inl (by simpa using h2)
      · exact .inr ⟨by simpa using h2.1, h2.2⟩
  · have := (key j oj hj).2 i oi hi
    unfold pairOk at this
    simp only [Bool.and_eq_true, Bool.or_eq_true, Bool.not_eq_true'] at this
    rcases this.2 with (h1 | h1) | h1
    · rw [← Bool.not_eq_true, Nat.blt_eq] at h1; exact absurd hij h1
    · simp [hc.1, hc.2] at h1
    · exact h1
  · have := (key j oj hj).1
    unfold edgeOk at this
    simp only [Bool.and_eq_true, List.all_eq_true] at this
    simpa [heb] using this.1 e (by simpa using he)
  · have := (key j oj hj).1
    unfold edgeOk at this
    simp only [Bool.and_eq_true] at this
    have h2 := List.all_eq_true.1 this.2 i (List.mem_range.2 hi)
    rw [hb] at h2
    simp only [Bool.not_true, Bool.false_or, List.any_eq_true, Bool.and_eq_true, Bool.or_eq_true] at h2
    obtain ⟨e, he, h3, h4⟩ := h2
    exact ⟨e, by simpa using he, h3, h4.imp (fun h => by simpa using h) id⟩

section
variable {P : Program} {w0 : Base} {call : CallT} {nt : Nat} {ops : Array Oper} {bs : Array Nat} {r : RC} {d0 : DS} {m : Nat} {D : Nat → DS}

/-- How things stand when the operations in S are done. -/
structure Inv (P : Program) (w0 : Base) (nt : Nat) (ops : List Oper) (bs : Array Nat) (r : RC) (d0 : DS) (m : Nat) (D : Nat → DS) (S : Nat → Bool) (a : Act) (w : World) (r' : RC) (e : Nat) : Prop where
  le : RLe r r'
  em : e ≤ m
  sub : ∀ i, S i = true → i < m
  cl : ∀ j i, S j = true → i < ops.length → (bs.getD j 0).testBit i = true → S i = true
  cut : ∀ i, i < m → Eff ops D i → (S i = true ↔ i < e)
  mem : R P w0 r' (D e).st.s.h w
  sz : nt ≤ a.tmps.size
  df : DRel r' d0.st.df a.defers
  wr : ∀ (i k : Nat) (o : Oper), S i = true → ops[i]? = some o → o.dst = some k → VRel r' ((D m).st.tm.get k) (a.tmps.getD k undef)
  un : ∀ k : Nat, (∀ (i : Nat) (o : Oper), S i = true → ops[i]? = some o → o.dst ≠ some k) → VRel r' (d0.st.tm.get k) (a.tmps.getD k undef)
  gh : ∀ (j : Nat) (o : Oper), j < m → S j = false → ops[j]? = some o → kindOf o.op = 2 → r'.ι[(D j).next]? = some none

variable {S : Nat → Bool} {a : Act} {w : World} {r' : RC} {e : Nat}

theorem Inv.closed (O : Order ops.toList bs) (hI : Inv P w0 nt ops.toList bs r d0 m D S a w r' e) {j : Nat} {o : Oper} (ho : ops.toList[j]? = some o) (hr : ∀ x ∈ o.after, Region.binds .any x = true → S x.on = true) :
    ∀ i, i < ops.toList.length → (bs.getD j 0).testBit i = true → S i = true := by
  intro i hi hb
  obtain ⟨x, hx, h1, h2⟩ := O.bit j i o ho hi hb
  rcases h2 with h2 | h2
  · rw [← h2]; exact hr x hx h1
  · exact hI.cl x.on i (hr x hx h1) hi h2

theorem Inv.looks (O : Order ops.toList bs) (T : Trace P call nt ops.toList bs d0 m D) (hI : Inv P w0 nt ops.toList bs r d0 m D S a w r' e) {j : Nat} (hj : j ≤ m) {o : Oper} (ho : ops.toList[j]? = some o) (hS : S j = false)
    (hb : ∀ i, i < ops.toList.length → (bs.getD j 0).testBit i = true → S i = true) {k : Nat} (hk : k ∈ looksA ops.toList o) : VRel r' ((D j).st.tm.get k) (a.tmps.getD k undef) := by
  by_cases hw : ∃ (i : Nat) (oi : Oper), ops.toList[i]? = some oi ∧ oi.dst = some k
  · obtain ⟨i, oi, hi, hd⟩ := hw
    have hil : i < ops.toList.length := (List.getElem?_eq_some_iff.1 hi).1
    have hjl : j < ops.toList.length := (List.getElem?_eq_some_iff.1 ho).1
    rcases O.look i j k oi o hi ho hd hk with ⟨h1, h2⟩ | ⟨_, h2⟩
    · have h3 := hI.wr i k oi (hb i hil h2) hi hd
      rw [T.slot k j m hj (Nat.le_refl _) fun i' o' h4 h5 h6 h7 => by have := O.one i' i k o' oi h6 hi h7 hd; omega] at h3
      exact h3
    · have h3 := hI.un k fun i' o' h4 h5 h6 => by
        have hii := O.one i' i k o' oi h5 hi h6 hd
        subst hii
        rcases h2 with h2 | ⟨_, h2⟩
        · rw [h2, hS] at h4; cases h4
        · rw [hI.cl i' j h4 hjl h2] at hS; cases hS
      rw [T.slot k 0 j (Nat.zero_le _) hj fun i' o' h4 h5 h6 h7 => by
        have := O.one i' i k o' oi h6 hi h7 hd
        rcases h2 with h2 | ⟨h2, _⟩ <;> omega, T.zero]
      exact h3
  · have hno : ∀ (i : Nat) (oi : Oper), ops.toList[i]? = some oi → oi.dst ≠ some k := fun i oi h1 h2 => hw ⟨i, oi, h1, h2⟩
    rw [T.slot k 0 j (Nat.zero_le _) hj fun i' o' _ _ h6 => hno i' o' h6, T.zero]
    exact hI.un k fun i o' _ h2 => hno i o' h2

/-- The operands as they are, of all else nothing. -/
noncomputable def evO (o : Oper) (tm : Tm) (x : Operand) : AV := by classical exact if x ∈ o.op.operands then evA tm x else .un

theorem evO_congr {o : Oper} {tm : Tm} {s : HS} : opA P call o.op (evO o tm) s = opA P call o.op (evA tm) s :=
  opA_congr fun x hx => by unfold evO; rw [if_pos hx]

theorem layO_congr {o : Oper} {tm : Tm} : layA P o.op (evO o tm) = layA P o.op (evA tm) :=
  lay_congr fun x hx => by unfold evO; rw [if_pos hx]

theorem evO_rel {o : Oper} {tm : Tm} (hk : ∀ k ∈ looksA ops.toList o, VRel r' (tm.get k) (a.tmps.getD k undef)) (x : Operand) : VRel r' (evO o tm x) (a.eval x) := by
  unfold evO
  split
  · rename_i hx
    cases x with
    | tmp t => exact hk t (List.mem_append_left _ (List.mem_filterMap.2 ⟨.tmp t, by simpa using hx, rfl⟩))
    | const v => exact absC_rel v
    | global g => exact .un _
    | func f => exact .c (.func f) [] [] [] [] rfl rfl (by simp) (by simp)
  · exact .un _

theorem guard_looks {o : Oper} {tm : Tm} {b : Bool} (hk : ∀ k ∈ looksA ops.toList o, VRel r' (tm.get k) (a.tmps.getD k undef)) (hg : guardA ops.toList tm o = some b) : Region.wanted o (yielded ops a.tmps) = b :=
  guard_rel hg fun j d want oj h1 h2 h3 => hk d (List.mem_append_right _ (by rw [h1]; simp only; rw [h2]; simp [h3]))

theorem put_get {o : Oper} {V : Value} {k : Nat} (h : o.dst ≠ some k) : (a.put o.dst V).tmps.getD k undef = a.tmps.getD k undef := by
  cases hd : o.dst with
  | none => rfl
  | some d =>
    have hne : d ≠ k := fun e => h (by rw [hd, e])
    simp only [Act.put, Array.getD_eq_getD_getElem?, Array.getElem?_setIfInBounds_ne hne]

theorem Inv.step (O : Order ops.toList bs) (T : Trace P call nt ops.toList bs d0 m D) (hbase : r.ι.length ≤ d0.next) (hI : Inv P w0 nt ops.toList bs r d0 m D S a w r' e) {S' : Nat → Bool} {j : Nat} (hj : j < m) {o : Oper} (ho : ops.toList[j]? = some o) (hS : S j = false)
    (hS' : ∀ i, S' i = true ↔ (S i = true ∨ i = j)) (hb : ∀ i, i < ops.toList.length → (bs.getD j 0).testBit i = true → S i = true) {r2 : RC} {w2 : World} {v : AV} {V : Value} {s : HS} {e2 : Nat}
    (h0 : RL0 r' r2) (hgh : ∀ k : Nat, r'.ι[k]? = some none → r2.ι[k]? = some none ∨ (kindOf o.op = 2 ∧ k = (D j).next)) (hv : VRel r2 v V) (hp : ST.put nt (D j).st o.dst v s = some (D (j + 1)).st)
    (he : e2 ≤ m) (hc : ∀ i, i < m → Eff ops.toList D i → ((S i = true ∨ i = j) ↔ i < e2)) (hm : R P w0 r2 (D e2).st.s.h w2) : Inv P w0 nt ops.toList bs r d0 m D S' (a.put o.dst V) w2 r2 e2 := by
  have nx : ∀ (j' : Nat) (o' : Oper), j' < m → j' ≠ j → ops.toList[j']? = some o' → kindOf o'.op = 2 → kindOf o.op = 2 → (D j').next ≠ (D j).next := by
    intro j' o' h1 h2 h3 h4 h5
    rcases Nat.lt_or_gt_of_ne h2 with h6 | h6
    · have a1 := (T.next_alloc h1 h3 h4).1
      have a2 := T.next_le (j' + 1) j h6 (by omega)
      omega
    · have a1 := (T.next_alloc hj ho h5).1
      have a2 := T.next_le (j + 1) j' h6 (by omega)
      omega
  refine ⟨⟨hI.le.toRL0.trans h0, fun k hk => ?_⟩, he, fun i hi => ?_, fun j' i h1 h2 h3 => ?_, fun i hi hf => ?_, hm, ?_, ?_, fun i k o' h1 h2 h3 => ?_, fun k hk => ?_, fun j' o' h1 h2 h3 h4 => ?_⟩
  · rcases hgh k (hI.le.gh k hk) with h1 | ⟨_, h1⟩
    · exact h1
    · have a1 := (List.getElem?_eq_some_iff.1 hk).1
      have a2 := T.next_le 0 j (Nat.zero_le _) (by omega)
      rw [T.zero] at a2
      omega
  · rcases (hS' i).1 hi with h1 | h1
    · exact hI.sub i h1
    · omega
  · rcases (hS' j').1 h1 with h4 | h4
    · exact (hS' i).2 (.inl (hI.cl j' i h4 h2 h3))
    · subst h4; exact (hS' i).2 (.inl (hb i h2 h3))
  · rw [hS' i]; exact hc i hi hf
  · have : (a.put o.dst V).tmps.size = a.tmps.size := by cases o.dst <;> simp [Act.put]
    rw [this]; exact hI.sz
  · have : (a.put o.dst V).defers = a.defers := by cases o.dst <;> rfl
    rw [this]
    have hd := hI.df
    clear hm hc hgh hv
    generalize a.defers = X at hd
    generalize d0.st.df = Y at hd
    induction Y generalizing X with
    | nil => cases X with
      | nil => trivial
      | cons x X => exact hd.elim
    | cons y Y ih => cases X with
      | nil => exact hd.elim
      | cons x X =>
        obtain ⟨⟨cap, A, b1, b2⟩, b3⟩ := hd
        exact ⟨⟨cap, A, b1, b2.mono0 h0⟩, ih X b3⟩
  · rcases (hS' i).1 h1 with h4 | h4
    · have hne : o.dst ≠ some k := fun h5 => by
        have := O.one i j k o' o h2 ho h3 h5
        rw [this, hS] at h4; cases h4
      rw [put_get hne]
      exact (hI.wr i k o' h4 h2 h3).mono0 h0
    · subst h4
      rw [ho] at h2; cases h2
      obtain ⟨h5, h6⟩ := (put_inv hp).2.2.2 k h3
      rw [T.slot k (i + 1) m hj (Nat.le_refl _) fun i' o2 b1 b2 b3 b4 => by have := O.one i' i k o2 o b3 ho b4 h3; omega]
      have e1 : (a.put o.dst V).tmps.getD k undef = V := by
        rw [h3]
        have : k < a.tmps.size := Nat.lt_of_lt_of_le h5 hI.sz
        simp [Act.put, this]
      rw [e1]
      rcases h6 with h6 | h6
      · rw [h6]; exact hv
      · rw [h6]; exact .un V
  · have hne : o.dst ≠ some k := hk j o ((hS' j).2 (.inr rfl)) ho
    rw [put_get hne]
    exact (hI.un k fun i o' h1 => hk i o' ((hS' i).2 (.inl h1))).mono0 h0
  · have hSj' : S j' = false := by
      cases hq : S j' with
      | false => rfl
      | true => rw [(hS' j').2 (.inl hq)] at h2; cases h2
    have hne : j' ≠ j := fun h => by rw [(hS' j').2 (.inr h)] at h2; cases h2
    rcases hgh _ (hI.gh j' o' h1 hSj' h3 h4) with h5 | ⟨h5, h6⟩
    · exact h5
    · exact absurd h6 (nx j' o' h1 hne h3 h4 h5)

theorem cut_eq (T : Trace P call nt ops.toList bs d0 m D) {e1 e2 : Nat} (h1 : e1 ≤ m) (h2 : e2 ≤ m) (c1 : ∀ i, i < m → Eff ops.toList D i → (S i = true ↔ i < e1)) (c2 : ∀ i, i < m → Eff ops.toList D i → (S i = true ↔ i < e2)) : (D e1).st.s = (D e2).st.s := by
  have go : ∀ {e1 e2 : Nat}, e1 ≤ e2 → e2 ≤ m → (∀ i, i < m → Eff ops.toList D i → (S i = true ↔ i < e1)) → (∀ i, i < m → Eff ops.toList D i → (S i = true ↔ i < e2)) → (D e2).st.s = (D e1).st.s := by
    intro e1 e2 h h2 c1 c2
    rcases T.first e2 h2 _ e1 rfl h with h3 | ⟨i, h3, h4, h5, _⟩
    · exact h3
    · have := (c1 i (by omega) h5).1 ((c2 i (by omega) h5).2 h4)
      omega
  rcases Nat.le_total e1 e2 with h | h
  · exact (go h h2 c1 c2).symm
  · exact go h h1 c2 c1

theorem Inv.cutAt (O : Order ops.toList bs) (hI : Inv P w0 nt ops.toList bs r d0 m D S a w r' e) {j : Nat} {o : Oper} (ho : ops.toList[j]? = some o) (hk : kindOf o.op = 3) (hS : S j = false)
    (hb : ∀ i, i < ops.toList.length → (bs.getD j 0).testBit i = true → S i = true) : ∀ i, i < m → Eff ops.toList D i → (S i = true ↔ i < j) := by
  intro i hi ⟨oi, h1, h2, _⟩
  have hil : i < ops.toList.length := (List.getElem?_eq_some_iff.1 h1).1
  have hjl : j < ops.toList.length := (List.getElem?_eq_some_iff.1 ho).1
  constructor
  · intro hs
    rcases Nat.lt_trichotomy i j with h3 | h3 | h3
    · exact h3
    · rw [h3, hS] at hs; cases hs
    · have := O.eff j i o oi ho h1 h3 ⟨hk, h2⟩
      rw [hI.cl i j hs hjl this] at hS; cases hS
  · intro h3
    exact hb i hil (O.eff i j oi o h1 ho h3 ⟨h2, hk⟩)
end
end Go.Ab
