/- A region whose order is open, third part. -/
import Derived.Test.YtfjgblbmdddpkaaGreatDoorAn
namespace Go.Ab
open Go.RowKit

section
variable {P : Program} {w0 : Base} {call : CallT} {nt : Nat} {ops : Array Oper} {bs : Array Nat} {r : RC} {d0 : DS} {m : Nat} {D : Nat → DS}
variable {S : Nat → Bool} {a : Act} {w : World} {r' : RC} {e : Nat} {Q : Exit → Act → World → Prop}

theorem again_val {ev : Operand → AV} {h : AH} {o : Oper} {v : AV} (hk : kindOf o.op = 1) (h1 : againA P call ev h o v = true) : ∀ s : HS, s.h = h → opA P call o.op ev s = some (.val v, s) := by
  intro s hs
  unfold againA at h1
  split at h1
  · rename_i u s1 hop
    obtain ⟨u', h2, _, h4⟩ := kind1 hk hop
    cases h2
    obtain rfl := AV.eq_of_beq h1
    exact h4 s hs
  · cases h1

/-- A read comes to the same wherever it is done. -/
theorem Inv.reads (O : Order ops.toList bs) (T : Trace P call nt ops.toList bs d0 m D) (hI : Inv P w0 nt ops.toList bs r d0 m D S a w r' e) {j : Nat} (hj : j < m) {o : Oper} (ho : ops.toList[j]? = some o) (hS : S j = false)
    (hb : ∀ i, i < ops.toList.length → (bs.getD j 0).testBit i = true → S i = true) {v : AV} {s1 : HS} (hk : kindOf o.op = 1) (hop : opA P call o.op (evA (D j).st.tm) (D j).st.s = some (.val v, s1))
    (hsn : ((D j).snaps.all fun q => (bs.getD j 0).testBit q.1 || againA P call (evA (D j).st.tm) q.2 o v) = true) (hrd : (j, o, v) ∈ (D (j + 1)).reads) : opA P call o.op (evA (D j).st.tm) (D e).st.s = some (.val v, (D e).st.s) := by
  obtain ⟨u, hu, _, hsame⟩ := kind1 hk hop
  cases hu
  have hjl : j < ops.toList.length := (List.getElem?_eq_some_iff.1 ho).1
  rcases Nat.le_total e j with h | h
  · rcases T.first j (by omega) _ e rfl h with h1 | ⟨i, h1, h2, h3, h4⟩
    · exact hsame _ (by rw [h1])
    · have hin := T.snap h3 j h2 (by omega)
      have h5 := List.all_eq_true.1 hsn _ hin
      simp only [Bool.or_eq_true] at h5
      rcases h5 with h5 | h5
      · have := (hI.cut i (by omega) h3).1 (hb i (by omega) h5)
        omega
      · exact again_val hk h5 _ (by rw [h4])
  · rcases T.last j e h hI.em with h1 | ⟨i, h1, h2, h3, h4⟩
    · exact hsame _ (by rw [h1])
    · have him : i < m := by have := hI.em; omega
      obtain ⟨oi, hoi, hki, hgi⟩ := h3
      by_cases hij : i = j
      · subst hij; rw [ho] at hoi; cases hoi; omega
      · have hin := T.read hrd i (by omega) (by omega)
        have hs := T.step i oi him hoi
        generalize hd : D (i + 1) = d' at hs h4
        cases hs with
        | off st hg _ h => rw [hg] at hgi; cases hgi
        | pure v s1 st _ hk' _ h => omega
        | read v s1 st _ hk' _ _ h => omega
        | new f z st _ hk' _ _ _ _ h => omega
        | eff v' res s2 st hg hk' _ _ hall _ h =>
          have h5 := List.all_eq_true.1 hall _ hin
          simp only [Bool.or_eq_true] at h5
          have hSi : S i = true := (hI.cut i him ⟨oi, hoi, hki, hgi⟩).2 h2
          rcases h5 with h5 | h5
          · rw [hI.cl i j hSi hjl h5] at hS; cases hS
          · have hev : ∀ x ∈ o.op.operands, evA (D j).st.tm x = evA (D i).st.tm x := by
              intro x hx
              cases x with
              | tmp t =>
                have ht : t ∈ looksA ops.toList o := List.mem_append_left _ (List.mem_filterMap.2 ⟨.tmp t, by simpa using hx, rfl⟩)
                refine (T.slot t j i (by omega) (by omega) fun i' o' h6 h7 h8 h9 => ?_).symm
                rcases O.look i' j t o' o h8 ho h9 ht with ⟨h10, _⟩ | ⟨h10, _⟩
                · omega
                · exact h10 hk
              | const v => rfl
              | global g => rfl
              | func f => rfl
            rw [opA_congr hev]
            refine again_val hk h5 _ ?_
            rw [← h4]
            show st.s.h = s2.h
            rw [(put_inv h).1]

theorem lies_get {h : AH} {k : Nat} {z : List AV} (hl : liesA h k z = true) : h[k]? = some (.cs z) := by
  unfold liesA at hl
  split at hl
  · rename_i l hk; rw [hk, AV.eq_of_beqs hl]
  · cases hl

/-- What is laid ahead lies there wherever it is laid. -/
theorem Inv.lies (_ : Order ops.toList bs) (T : Trace P call nt ops.toList bs d0 m D) (hI : Inv P w0 nt ops.toList bs r d0 m D S a w r' e) {j : Nat} (hj : j < m) {o : Oper} (ho : ops.toList[j]? = some o) (hS : S j = false)
    (hb : ∀ i, i < ops.toList.length → (bs.getD j 0).testBit i = true → S i = true) {z : List AV} (hk : kindOf o.op = 2) (hh : (D j).st.s.h[(D j).next]? = some (.cs z))
    (hsn : ((D j).snaps.all fun q => (bs.getD j 0).testBit q.1 || liesA q.2 (D j).next z) = true) (hrd : (j, (D j).next, z) ∈ (D (j + 1)).lays) : (D e).st.s.h[(D j).next]? = some (.cs z) := by
  have hjl : j < ops.toList.length := (List.getElem?_eq_some_iff.1 ho).1
  rcases Nat.le_total e j with h | h
  · rcases T.first j (by omega) _ e rfl h with h1 | ⟨i, h1, h2, h3, h4⟩
    · rw [← h1]; exact hh
    · have hin := T.snap h3 j h2 (by omega)
      have h5 := List.all_eq_true.1 hsn _ hin
      simp only [Bool.or_eq_true] at h5
      rcases h5 with h5 | h5
      · have := (hI.cut i (by omega) h3).1 (hb i (by omega) h5)
        omega
      · rw [← h4]; exact lies_get h5
  · rcases T.last j e h hI.em with h1 | ⟨i, h1, h2, h3, h4⟩
    · rw [h1]; exact hh
    · have him : i < m := by have := hI.em; omega
      obtain ⟨oi, hoi, hki, hgi⟩ := h3
      by_cases hij : i = j
      · subst hij; rw [ho] at hoi; cases hoi; omega
      · have hin := T.lay hrd i (by omega) (by omega)
        have hs := T.step i oi him hoi
        generalize hd : D (i + 1) = d' at hs h4
        cases hs with
        | off st hg _ h => rw [hg] at hgi; cases hgi
        | pure v s1 st _ hk' _ h => omega
        | read v s1 st _ hk' _ _ h => omega
        | new f z st _ hk' _ _ _ _ h => omega
        | eff v' res s2 st hg hk' _ _ _ hall h =>
          have h5 := List.all_eq_true.1 hall _ hin
          simp only [Bool.or_eq_true] at h5
          have hSi : S i = true := (hI.cut i him ⟨oi, hoi, hki, hgi⟩).2 h2
          rcases h5 with h5 | h5
          · rw [hI.cl i j hSi hjl h5] at hS; cases hS
          · rw [← h4]
            show st.s.h[_]? = _
            rw [(put_inv h).1]
            exact lies_get h5

/-- One operation that is ready. -/
theorem Inv.next (hC : SoundC P w0 call) (O : Order ops.toList bs) (T : Trace P call nt ops.toList bs d0 m D) (hbase : r.ι.length ≤ d0.next) (hI : Inv P w0 nt ops.toList bs r d0 m D S a w r' e) {S' : Nat → Bool} {j : Nat} (hj : j < m) {o : Oper}
    (ho : ops.toList[j]? = some o) (hS : S j = false) (hS' : ∀ i, S' i = true ↔ (S i = true ∨ i = j)) (hb : ∀ i, i < ops.toList.length → (bs.getD j 0).testBit i = true → S i = true) {K : Act → World → Prop}
    (hK : ∀ a2 w2 r2 e2, Inv P w0 nt ops.toList bs r d0 m D S' a2 w2 r2 e2 → K a2 w2) : wpOp P ops Q j K a w := by
  have hlk : ∀ k ∈ looksA ops.toList o, VRel r' ((D j).st.tm.get k) (a.tmps.getD k undef) := fun k hk => hI.looks O T (by omega) ho hS hb hk
  have hev := evO_rel (ops := ops) hlk
  have ho' : ops[j]? = some o := by simpa using ho
  have keep : ∀ k : Nat, r'.ι[k]? = some none → r'.ι[k]? = some none ∨ (kindOf o.op = 2 ∧ k = (D j).next) := fun k hk => .inl hk
  have noEff : ¬ Eff ops.toList D j → ∀ i, i < m → Eff ops.toList D i → ((S i = true ∨ i = j) ↔ i < e) := fun hn i hi hf => by
    rw [← hI.cut i hi hf]
    exact ⟨fun h => h.elim id fun h => absurd (h ▸ hf) hn, .inl⟩
  have noEffK : kindOf o.op ≠ 3 → ¬ Eff ops.toList D j := fun hk ⟨o', h1, h2, _⟩ => by rw [ho] at h1; cases h1; exact hk h2
  unfold wpOp
  simp only [ho']
  have hs := T.step j o hj ho
  have hrun : ∀ {b}, guardA ops.toList (D j).st.tm o = some b → Region.wanted o (yielded ops a.tmps) = b := fun h => guard_looks hlk h
  generalize hd : D (j + 1) = d' at hs
  cases hs with
  | off st hg hk hp =>
    rw [if_neg (by simp [hrun hg])]
    refine hK _ _ r' e (hI.step O T hbase hj ho hS hS' hb (.refl r') keep (v := .t []) undef_rel (by rw [hd]; exact hp) hI.em (noEff ?_) hI.mem)
    rintro ⟨o', h1, _, h3⟩
    rw [ho] at h1; cases h1
    rw [hg] at h3; cases h3
  | pure v s1 st hg hk hop hp =>
    rw [if_pos (hrun hg)]
    refine .inl (op_sound hC hI.mem hev (s' := (D e).st.s) (res := .val v) (by rw [evO_congr]; exact (kind0 hk hop).2 _) fun r2 w2 hle hR2 V hV => ?_)
    exact hK _ _ r2 e (hI.step O T hbase hj ho hS hS' hb hle.toRL0 (fun k hk => .inl (hle.gh k hk)) hV (by rw [hd]; exact hp) hI.em (noEff (noEffK (by omega))) hR2)
  | read v s1 st hg hk hop hall hp =>
    rw [if_pos (hrun hg)]
    have hop' := hI.reads O T hj ho hS hb hk hop hall (by rw [hd]; simp)
    refine .inl (op_sound hC hI.mem hev (s' := (D e).st.s) (res := .val v) (by rw [evO_congr]; exact hop') fun r2 w2 hle hR2 V hV => ?_)
    exact hK _ _ r2 e (hI.step O T hbase hj ho hS hS' hb hle.toRL0 (fun k hk => .inl (hle.gh k hk)) hV (by rw [hd]; exact hp) hI.em (noEff (noEffK (by omega))) hR2)
  | new f z st hg hk hz hh hlt hsn hp =>
    rw [if_pos (hrun hg)]
    have hm := hI.mem
    have hh := hI.lies O T hj ho hS hb hk hh hsn (by rw [hd]; simp)
    have hg0 := hI.gh j o hj hS ho hk
    obtain ⟨L, el, V0, hzr, hV0, hi⟩ := lay_run (P := P) (w := w) (r := r') (a := a) (ev := evO o (D j).st.tm) (by rw [layO_congr]; exact hz) hev
    obtain ⟨r2, h1, h2, h3, h4, h5⟩ := hm.fill hg0 hh hzr el
    have h6 := hV0 r2 _ h4 h5
    have fin : ∀ (r3 : RC) (w3 : World), RLe r2 r3 → R P w0 r3 (D e).st.s.h w3 → ∀ V, VRel r3 (f (D j).next) V → K (a.put o.dst V) w3 := by
      intro r3 w3 hle hR3 V hV
      refine hK _ _ r3 e (hI.step O T hbase hj ho hS hS' hb (h1.trans hle.toRL0) (fun k hk' => ?_) hV (by rw [hd]; exact hp) hI.em (noEff (noEffK (by omega))) hR3)
      by_cases hkn : k = (D j).next
      · exact .inr ⟨hk, hkn⟩
      · exact .inl (hle.gh k (by rw [h2 k hkn]; exact hk'))
    obtain ⟨dst, op, ty, pos, aft, gd⟩ := o
    rcases hi with ⟨t, rfl, hgo⟩ | ⟨t, x, y, rfl, hgo⟩
    · exact .inl (val_soundH (S := Instr.alloc t true (.tuple #[])) (V := V0) (w' := w.alloc (.cells L.toArray el)) (r := r2) (r' := r2) (s' := (D e).st.s) (v := f (D j).next) rfl hgo (.refl _) h3 h6 fin)
    · exact .inl (val_soundH (S := Instr.makeSlice t (a.eval x) (a.eval y)) (V := V0) (w' := w.alloc (.cells L.toArray el)) (r := r2) (r' := r2) (s' := (D e).st.s) (v := f (D j).next) rfl hgo (.refl _) h3 h6 fin)
  | eff v res s1 st hg hk hop hres hall _ hp =>
    rw [if_pos (hrun hg)]
    have hc := hI.cutAt O ho hk hS hb
    have hm := hI.mem
    rw [cut_eq T hI.em (by omega) hI.cut hc] at hm
    have hc2 : ∀ i, i < m → Eff ops.toList D i → ((S i = true ∨ i = j) ↔ i < j + 1) := fun i hi hf => by rw [hc i hi hf]; omega
    have hst : (D (j + 1)).st.s = s1 := by rw [hd]; exact (put_inv hp).1
    refine .inl (op_sound hC hm hev (by rw [evO_congr]; exact hop) fun r2 w2 hle hR2 => ?_)
    have fin : ∀ V, VRel r2 v V → K (a.put o.dst V) w2 := fun V hV =>
      hK _ _ r2 (j + 1) (hI.step O T hbase hj ho hS hS' hb hle.toRL0 (fun k hk => .inl (hle.gh k hk)) hV (by rw [hd]; exact hp) hj hc2 (by rw [hst]; exact hR2))
    rcases hres with rfl | ⟨rfl, rfl⟩
    · exact fun V hV => fin V hV
    · exact fin undef undef_rel

/-- What is to be shown at the end. -/
structure Ends (P : Program) (w0 : Base) (call : CallT) (nt : Nat) (ops : List Oper) (bs : Array Nat) (r : RC) (d0 : DS) (m : Nat) (D : Nat → DS) (Q : Exit → Act → World → Prop) : Prop where
  nm : m = ops.length → ∀ r' a w, RLe r r' → R P w0 r' (D m).st.s.h w → nt ≤ a.tmps.size → DRel r' d0.st.df a.defers → TRel r' (D m).st.tm a.tmps → Q .normal a w
  pn : ∀ o, ops[m]? = some o → ∃ v s1, guardA ops (D m).st.tm o = some true ∧ kindOf o.op = 3 ∧ opA P call o.op (evA (D m).st.tm) (D m).st.s = some (.pan v, s1) ∧ lastOk ops bs m = true ∧
    ∀ r' a w ch, RLe r r' → R P w0 r' s1.h w → nt ≤ a.tmps.size → DRel r' d0.st.df a.defers → (∀ k : Nat, (∀ (i : Nat) (o : Oper), ops[i]? = some o → o.dst ≠ some k) → VRel r' (d0.st.tm.get k) (a.tmps.getD k undef)) → PanRel r' v ch → Q (.panic ch) a w

theorem Inv.panic (hC : SoundC P w0 call) (O : Order ops.toList bs) (T : Trace P call nt ops.toList bs d0 m D) (E : Ends P w0 call nt ops.toList bs r d0 m D Q) (hI : Inv P w0 nt ops.toList bs r d0 m D S a w r' e) {o : Oper}
    (ho : ops.toList[m]? = some o) (hS : S m = false) (hb : ∀ i, i < ops.toList.length → (bs.getD m 0).testBit i = true → S i = true) {K : Act → World → Prop} : wpOp P ops Q m K a w := by
  obtain ⟨v, s1, hg, hk, hop, _, hQ⟩ := E.pn o ho
  have hlk : ∀ k ∈ looksA ops.toList o, VRel r' ((D m).st.tm.get k) (a.tmps.getD k undef) := fun k hk => hI.looks O T (Nat.le_refl _) ho hS hb hk
  have hev := evO_rel (ops := ops) hlk
  have ho' : ops[m]? = some o := by simpa using ho
  unfold wpOp
  simp only [ho']
  rw [if_pos (guard_looks hlk hg)]
  have hc := hI.cutAt O ho hk hS hb
  have hm := hI.mem
  rw [cut_eq T hI.em (Nat.le_refl _) hI.cut hc] at hm
  refine .inl (op_sound hC hm hev (s' := s1) (res := .pan v) (by rw [evO_congr]; exact hop) fun r2 w2 hle hR2 ch hch => ?_)
  exact hQ r2 a w2 ch (hI.le.trans hle) hR2 hI.sz (hI.df.mono hle) (fun k hk => (hI.un k fun i o' _ h2 => hk i o' h2).mono hle) hch

theorem any_sound (hC : SoundC P w0 call) (O : Order ops.toList bs) (T : Trace P call nt ops.toList bs d0 m D) (hbase : r.ι.length ≤ d0.next) (E : Ends P w0 call nt ops.toList bs r d0 m D Q) :
    ∀ (fuel : Nat) (listed : Array Bool) (a : Act) (w : World) (r' : RC) (e : Nat), listed.size = ops.size → listed.toList.countP (fun b => !b) ≤ fuel → Inv P w0 nt ops.toList bs r d0 m D (fun i => listed.getD i false) a w r' e →
      wpAny P .any ops Q fuel listed a w := by
  have done : ∀ (listed : Array Bool) (a : Act) (w : World) (r' : RC) (e : Nat), listed.size = ops.size → Inv P w0 nt ops.toList bs r d0 m D (fun i => listed.getD i false) a w r' e → Region.ready .any ops listed = [] → Q .normal a w := by
    intro listed a w r' e hsz hI hr
    have all : ∀ n j, j < n → j < ops.size → listed.getD j false = true := by
      intro n
      induction n with
      | zero => intro j h; omega
      | succ n ih =>
        intro j h1 h2
        cases hq : listed.getD j false with
        | true => rfl
        | false =>
          have hm : j ∈ Region.ready .any ops listed := by
            rw [mem_ready]
            refine ⟨by simpa [hsz, h2] using hq, ops[j], by simp [h2], fun x hx hb => ?_⟩
            have hlt := O.back j ops[j] (by simp [h2]) x hx hb
            exact ih x.on (by omega) (by omega)
          rw [hr] at hm
          cases hm
    have hmn : m = ops.toList.length := by
      rcases Nat.lt_or_ge m ops.toList.length with h1 | h1
      · have := hI.sub m (all (m + 1) m (by omega) (by simpa using h1))
        omega
      · have := T.le; omega
    have hem : (D e).st.s = (D m).st.s := cut_eq T hI.em (Nat.le_refl _) hI.cut fun i hi _ => ⟨fun _ => hi, fun _ => all (i + 1) i (by omega) (by simp at hmn; omega)⟩
    have hmem := hI.mem
    rw [hem] at hmem
    refine E.nm hmn r' a w hI.le hmem hI.sz hI.df fun k => ?_
    by_cases hw : ∃ (i : Nat) (oi : Oper), ops.toList[i]? = some oi ∧ oi.dst = some k
    · obtain ⟨i, oi, h1, h2⟩ := hw
      have h3 : i < ops.size := by have := (List.getElem?_eq_some_iff.1 h1).1; simpa using this
      exact hI.wr i k oi (all (i + 1) i (by omega) h3) h1 h2
    · have hno : ∀ (i : Nat) (oi : Oper), ops.toList[i]? = some oi → oi.dst ≠ some k := fun i oi h1 h2 => hw ⟨i, oi, h1, h2⟩
      rw [T.slot k 0 m (Nat.zero_le _) (Nat.le_refl _) fun i o _ _ h => hno i o h, T.zero]
      exact hI.un k fun i o _ h => hno i o h
  intro fuel
  induction fuel with
  | zero =>
    intro listed a w r' e hsz hcnt hI
    have hr : Region.ready .any ops listed = [] := by
      rw [List.eq_nil_iff_forall_not_mem]
      intro j hj
      obtain ⟨h1, _⟩ := mem_ready.1 hj
      have hlt : j < listed.size := by
        rcases Nat.lt_or_ge j listed.size with h | h
        · exact h
        · simp [Array.getElem?_eq_none h] at h1
      have h2 : listed[j] = false := by simpa [hlt] using h1
      have h3 : 0 < listed.toList.countP (fun b => !b) := List.countP_pos_iff.2 ⟨false, by rw [← h2]; simp, rfl⟩
      omega
    exact ⟨hr, done listed a w r' e hsz hI hr⟩
  | succ fuel ih =>
    intro listed a w r' e hsz hcnt hI
    refine ⟨fun hr => done listed a w r' e hsz hI hr, fun j hj => ?_⟩
    obtain ⟨h1, o, ho', hr⟩ := mem_ready.1 hj
    have ho : ops.toList[j]? = some o := by simpa using ho'
    have hlt : j < listed.size := by
      rcases Nat.lt_or_ge j listed.size with h | h
      · exact h
      · simp [Array.getElem?_eq_none h] at h1
    have h2 : listed[j] = false := by simpa [hlt] using h1
    have hS : listed.getD j false = false := by simp [hlt, h2]
    have hb := hI.closed O ho hr
    have hjl : j < ops.toList.length := (List.getElem?_eq_some_iff.1 ho).1
    rcases Nat.lt_trichotomy j m with h3 | h3 | h3
    · refine hI.next hC O T hbase h3 ho hS (S' := fun i => (listed.setIfInBounds j true).getD i false) (fun i => ?_) hb fun a2 w2 r2 e2 hI2 => ih _ a2 w2 r2 e2 (by simpa using hsz) ?_ hI2
      · by_cases hij : i = j
        · subst hij; simp [hlt]
        · rw [getD_set_ne false (Ne.symm hij)]; simp [hij]
      · have hlt' : j < listed.toList.length := by simpa using hlt
        rw [Array.toList_setIfInBounds, List.countP_set hlt']
        have h4 : listed.toList[j] = false := by simpa using h2
        have h5 : 0 < listed.toList.countP (fun b => !b) := List.countP_pos_iff.2 ⟨false, by rw [← h4]; simp, rfl⟩
        rw [h4]
        simp only [Bool.not_false, Bool.not_true, if_true, Bool.false_eq_true, if_false]
        omega
    · subst h3
      exact hI.panic hC O T E ho hS hb
    · exfalso
      have hml : m < ops.toList.length := by omega
      obtain ⟨v, s1, _, _, _, hl, _⟩ := E.pn _ (List.getElem?_eq_getElem hml)
      unfold lastOk at hl
      have := List.all_eq_true.1 hl j (List.mem_range.2 hjl)
      simp only [Bool.or_eq_true, Nat.ble_eq] at this
      rcases this with h4 | h4
      · omega
      · have := hI.sub m (hb m hml h4)
        omega
end
end Go.Ab
