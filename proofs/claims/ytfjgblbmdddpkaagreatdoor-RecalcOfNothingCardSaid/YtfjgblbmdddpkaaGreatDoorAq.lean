/- What abstract memory keeps: blocks below a bound name blocks below the bound, unless it is told. -/
import Derived.Test.YtfjgblbmdddpkaaGreatDoorAp
namespace Go.Ab
open Go.RowKit

def AO.cl (b : Nat) : AO → Bool
  | .cs l => AV.cls b l
  | .mp es => es.all fun q => AV.cl b q.1 && AV.cl b q.2
  | _ => true

def HOk (b : Nat) (X : Nat → Prop) (s : HS) : Prop := (∀ e, s.esc = some e → b ≤ e) → ∀ (k : Nat) (o : AO), k < b → X k → s.h[k]? = some o → AO.cl b o = true

structure Grow (s s' : HS) : Prop where
  len : s.h.length ≤ s'.h.length
  esc : ∀ e, s.esc = some e → ∃ e', s'.esc = some e' ∧ e' ≤ e
  ok : ∀ b X, b ≤ s.h.length → HOk b X s → HOk b X s'

theorem Grow.refl (s : HS) : Grow s s := ⟨Nat.le_refl _, fun e h => ⟨e, h, Nat.le_refl _⟩, fun _ _ _ h => h⟩
theorem Grow.trans {a b c : HS} (h : Grow a b) (k : Grow b c) : Grow a c :=
  ⟨Nat.le_trans h.len k.len, fun e he => by
    obtain ⟨e1, h1, h2⟩ := h.esc e he
    obtain ⟨e2, h3, h4⟩ := k.esc e1 h1
    exact ⟨e2, h3, Nat.le_trans h4 h2⟩, fun x X hx ho => k.ok x X (Nat.le_trans hx h.len) (h.ok x X hx ho)⟩

mutual
theorem cl_mono {n m : Nat} (hnm : n ≤ m) : ∀ {v : AV}, AV.cl n v = true → AV.cl m v = true
  | .un, _ => rfl
  | .b _, _ => rfl
  | .i _ _, _ => rfl
  | .f _, _ => rfl
  | .nan, _ => rfl
  | .s _, _ => rfl
  | .pn, _ => rfl
  | .p k _, h => by simp [AV.cl] at h ⊢; omega
  | .r cs _, h => by simp only [AV.cl] at h ⊢; exact cls_mono hnm h
  | .ln, _ => rfl
  | .l tk cs _, h => by
    simp only [AV.cl, Bool.and_eq_true] at h ⊢
    refine ⟨?_, cls_mono hnm h.2⟩
    cases tk with
    | id k => have := h.1; simp at this ⊢; omega
    | _ => rfl
  | .v k _ _ _, h => by simp [AV.cl] at h ⊢; omega
  | .mn, _ => rfl
  | .m k, h => by simp [AV.cl] at h ⊢; omega
  | .cn, _ => rfl
  | .c _ x y, h => by
    simp only [AV.cl, Bool.and_eq_true] at h ⊢
    exact ⟨cls_mono hnm h.1, cls_mono hnm h.2⟩
  | .jn, _ => rfl
  | .j _ x, h => by simp only [AV.cl] at h ⊢; exact cl_mono hnm h
  | .a cs, h => by simp only [AV.cl] at h ⊢; exact cls_mono hnm h
  | .t cs, h => by simp only [AV.cl] at h ⊢; exact cls_mono hnm h
  | .sy _, _ => rfl
theorem cls_mono {n m : Nat} (hnm : n ≤ m) : ∀ {v : List AV}, AV.cls n v = true → AV.cls m v = true
  | [], _ => rfl
  | x :: xs, h => by
    simp only [AV.cls, Bool.and_eq_true] at h ⊢
    exact ⟨cl_mono hnm h.1, cls_mono hnm h.2⟩
end

theorem cls_all {n : Nat} {l : List AV} : AV.cls n l = true ↔ ∀ v ∈ l, AV.cl n v = true := by
  induction l with
  | nil => simp [AV.cls]
  | cons x l ih => simp [AV.cls, ih]

theorem Grow.push (s : HS) (o : AO) : Grow s { s with h := s.h ++ [o] } :=
  ⟨by simp, fun e h => ⟨e, h, Nat.le_refl _⟩, fun b X hb ho he k o' hk hX hg => by
    rw [List.getElem?_append_left (by omega)] at hg
    exact ho he k o' hk hX hg⟩

theorem Grow.app (s : HS) (l : AH) : Grow s { s with h := s.h ++ l } :=
  ⟨by simp, fun e h => ⟨e, h, Nat.le_refl _⟩, fun b X hb ho he k o' hk hX hg => by
    simp only at hg
    rw [List.getElem?_append_left (by omega)] at hg
    exact ho he k o' hk hX hg⟩

theorem lowE_le {x : Option Nat} {b e : Nat} (h : lowE x b = some e) : e ≤ b ∧ ∀ e', x = some e' → e ≤ e' := by
  cases x with
  | none => cases h; exact ⟨Nat.le_refl _, fun e' h => by cases h⟩
  | some e0 => simp [lowE] at h; exact ⟨by omega, fun e' h' => by cases h'; omega⟩

theorem lowE_some (x : Option Nat) (b : Nat) : ∃ e, lowE x b = some e := by cases x <;> exact ⟨_, rfl⟩

/-- One block turned. -/
theorem Grow.set {s : HS} {k : Nat} {o o' : AO} {c : Bool} (hk : s.h[k]? = some o) (hc : ∀ b, k < b → (c = true) → AO.cl b o = true → AO.cl b o' = true) :
    Grow s { h := s.h.set k o', esc := if c then s.esc else lowE s.esc k } := by
  refine ⟨by simp, fun e h => ?_, fun b X hb ho he j x hj hX hg => ?_⟩
  · cases c with
    | true => exact ⟨e, by simpa using h, Nat.le_refl _⟩
    | false =>
      obtain ⟨e', he'⟩ := lowE_some s.esc k
      exact ⟨e', by simpa using he', (lowE_le he').2 e h⟩
  · have hold : ∀ e, s.esc = some e → b ≤ e := by
      intro e h
      cases c with
      | true => exact he e (by simpa using h)
      | false =>
        obtain ⟨e', he'⟩ := lowE_some s.esc k
        have h1 := he e' (by simpa using he')
        have h2 := (lowE_le he').2 e h
        omega
    by_cases hkj : k = j
    · subst hkj
      have hlt := (List.getElem?_eq_some_iff.1 hk).1
      simp [hlt] at hg
      subst hg
      cases c with
      | true => exact hc b hj rfl (ho hold k o hj hX hk)
      | false =>
        obtain ⟨e', he'⟩ := lowE_some s.esc k
        have h1 := he e' (by simpa using he')
        have h2 := (lowE_le he').1
        omega
    · rw [List.getElem?_set, if_neg hkj] at hg
      exact ho hold j x hj hX hg

theorem store_grow {P : Program} {t : TypeId} {x v : AV} {s s' : HS} (h : storeA P t x v s = some s') : Grow s s' := by
  unfold storeA at h
  split at h
  · rename_i k off cs n hc hn
    split at h
    · rename_i l hk
      split at h
      · cases h
        refine Grow.set hk fun b hb hcl hl => ?_
        simp only [AO.cl, splice] at hl ⊢
        rw [cls_all] at hl ⊢
        intro v hv
        simp only [List.mem_append] at hv
        rcases hv with (hv | hv) | hv
        · exact hl v (List.mem_of_mem_take hv)
        · exact cls_all.1 (cls_mono hb hcl) v hv
        · exact hl v (List.mem_of_mem_drop hv)
      · cases h
    · cases h
  · cases h

theorem put_mem {t : TypeDesc} {k v : AV} : ∀ {es es' : List (AV × AV)}, putA t k v es = some es' → ∀ q ∈ es', q ∈ es ∨ q = (k, v) := by
  intro es
  induction es with
  | nil => intro es' h q hq; cases h; simp at hq; exact .inr hq
  | cons e es ih =>
    intro es' h q hq
    simp only [putA] at h
    split at h
    · cases h
      rcases List.mem_cons.1 hq with h1 | h1
      · exact .inr h1
      · exact .inl (List.mem_cons_of_mem _ h1)
    · split at h
      · rename_i es1 he
        cases h
        rcases List.mem_cons.1 hq with h1 | h1
        · rw [h1]; exact .inl (List.mem_cons_self ..)
        · rcases ih he q h1 with h2 | h2
          · exact .inl (List.mem_cons_of_mem _ h2)
          · exact .inr h2
      · cases h
    · cases h

theorem keyOk_cl {t : TypeDesc} {k : AV} (h : keyOk t k = true) (b : Nat) : AV.cl b k = true := by
  unfold keyOk at h
  split at h <;> first | rfl | cases h

theorem mapPut_grow {P : Program} {t : TypeId} {x k v : AV} {s s' : HS} (h : mapPutA P t x k v s = some s') : Grow s s' := by
  unfold mapPutA at h
  split at h
  · split at h
    · rename_i es hk
      split at h
      · rename_i hko
        split at h
        · rename_i es' hp
          cases h
          refine Grow.set hk fun b hb hcl hl => ?_
          simp only [AO.cl, List.all_eq_true] at hl ⊢
          intro q hq
          rcases put_mem hp q hq with h1 | h1
          · exact hl q h1
          · rw [h1]; simp [keyOk_cl hko, cl_mono hb hcl]
        · cases h
      · cases h
    · cases h
  · cases h

theorem absC_cl (v : Value) (b : Nat) : AV.cl b (absC v) = true := by
  unfold absC
  repeat' split
  all_goals rfl

theorem zeroA_cl {P : Program} {t : TypeId} {z : AV} (h : zeroA P t = some z) (b : Nat) : AV.cl b z = true := by
  unfold zeroA at h
  split at h
  · split at h
    · cases h
      unfold absV
      split
      · simp only [AV.cl]
        rw [cls_all]
        intro v hv
        obtain ⟨u, _, rfl⟩ := List.mem_map.1 hv
        exact absC_cl u b
      · exact absC_cl _ b
    · cases h
  · cases h

theorem slot_mem {t : TypeDesc} {k : AV} : ∀ {es : List (AV × AV)} {i : Nat} {v : AV}, slotA t k es = some (some (i, v)) → ∃ q ∈ es, q.2 = v := by
  intro es
  induction es with
  | nil => intro i v h; cases h
  | cons e es ih =>
    intro i v h
    simp only [slotA] at h
    split at h
    · cases h; exact ⟨e, List.mem_cons_self .., rfl⟩
    · split at h
      · rename_i h2
        cases h
        obtain ⟨q, h3, h4⟩ := ih h2
        exact ⟨q, List.mem_cons_of_mem _ h3, h4⟩
      · cases h
      · cases h
    · cases h

theorem mapEntry_grow {P : Program} {t : TypeId} {x k v : AV} {s s' : HS} (h : mapEntryA P t x k s = some (v, s')) : Grow s s' := by
  unfold mapEntryA at h
  split at h
  · rename_i b _
    split at h
    · rename_i es _ hk
      split at h
      · rename_i hko
        split at h
        · rename_i i u hsl
          cases h
          have := Grow.set (s := s) (c := true) (o' := .mp (es.set i (k, u))) hk (fun b hb _ hl => by
            simp only [AO.cl, List.all_eq_true] at hl ⊢
            intro q hq
            rcases List.mem_or_eq_of_mem_set hq with h1 | h1
            · exact hl q h1
            · obtain ⟨q', h2, h3⟩ := slot_mem hsl
              have := hl q' h2
              simp only [Bool.and_eq_true] at this
              rw [h1]; simp [keyOk_cl hko, ← h3, this.2])
          simpa using this
        · split at h
          · rename_i z hz
            cases h
            have := Grow.set (s := s) (c := true) (o' := .mp (es ++ [(k, z)])) hk (fun b hb _ hl => by
              simp only [AO.cl, List.all_eq_true] at hl ⊢
              intro q hq
              rcases List.mem_append.1 hq with h1 | h1
              · exact hl q h1
              · simp at h1; rw [h1]; simp [keyOk_cl hko, zeroA_cl hz])
            simpa using this
          · cases h
        · cases h
      · cases h
    · cases h
  · cases h

theorem entryStore_grow {x st v : AV} {s s' : HS} (h : entryStoreA x st v s = some s') : Grow s s' := by
  unfold entryStoreA at h
  split at h
  · split at h
    · rename_i es hk
      split at h
      · split at h
        · rename_i q hq
          cases h
          refine Grow.set hk fun b hb hcl hl => ?_
          simp only [AO.cl, List.all_eq_true] at hl ⊢
          intro q' hq'
          rcases List.mem_or_eq_of_mem_set hq' with h1 | h1
          · exact hl q' h1
          · have := hl q (List.mem_of_getElem? hq)
            simp only [Bool.and_eq_true] at this
            rw [h1]; simp [this.1, cl_mono hb hcl]
        · cases h
      · cases h
    · cases h
  · cases h

theorem range_grow {P : Program} {t : TypeId} {x v : AV} {s s' : HS} (h : rangeA P t x s = some (v, s')) : Grow s s' := by
  unfold rangeA at h
  split at h
  · cases h; exact .push _ _
  · cases h

theorem next_grow {x v : AV} {b : Bool} {s s' : HS} (h : nextA x b s = some (v, s')) : Grow s s' := by
  unfold nextA at h
  split at h
  · split at h
    · rename_i l pos hk
      split at h
      · cases h
        have := Grow.set (s := s) (c := true) (o' := .it l (pos + (Utf8.decode ⟨l.toArray⟩ pos).2)) hk (fun b _ _ _ => rfl)
        simpa using this
      · cases h; exact .refl _
    · cases h
  · cases h

theorem tk_grow {s : HS} {k n m : Nat} {e e' : TypeId} (hk : s.h[k]? = some (.tk n e)) : Grow s { s with h := s.h.set k (.tk m e') } := by
  have := Grow.set (s := s) (c := true) (o' := .tk m e') hk (fun b _ _ _ => rfl)
  simpa using this

theorem append_grow {P : Program} {vw : Bool} {ts : List TypeId} {x y v : AV} {s s' : HS} (h : appendA P vw ts x y s = some (v, s')) : Grow s s' := by
  unfold appendA at h
  repeat' split at h
  all_goals first
    | (cases h; done)
    | (cases h; exact .refl _)
    | (cases h; exact .push _ _)
    | skip
  rename_i hb _
  cases h
  exact tk_grow hb

theorem make_grow {P : Program} {t : TypeId} {x y v : AV} {s s' : HS} (h : makeA P t x y s = some (v, s')) : Grow s s' := by
  unfold makeA at h
  repeat' split at h
  all_goals first
    | (cases h; done)
    | (cases h; exact .push _ _)

structure GrowC (call : CallT) : Prop where
  fn : ∀ f args s res s', call.fn f args s = some (res, s') → Grow s s'
  lo : NoLo call

section
variable {P : Program} {call : CallT}

theorem v1_grow {x : Option AV} {s s' : HS} {res : OR} (h : v1 x s = some (res, s')) : Grow s s' := by
  cases x with
  | none => cases h
  | some v => cases h; exact .refl _

theorem opB_grow (hC : GrowC call) {op : Op} {ev : Operand → AV} {s s' : HS} {res : OR} (h : opB P call op ev s = some (res, s')) : Grow s s' := by
  have u : ∀ {x : Option HS}, u1 x = some (res, s') → x = some s' := fun h => by
    cases hx : (by assumption : Option HS) with
    | none => rw [hx] at h; cases h
    | some v => rw [hx] at h; cases h; rfl
  cases op <;> simp only [opB] at h <;> first
    | (cases h; done)
    | exact v1_grow h
    | (cases h; exact .refl _)
    | exact store_grow (u h)
    | exact mapPut_grow (u h)
    | exact entryStore_grow (u h)
    | (split at h <;> first
        | (cases h; done)
        | (cases h; exact .refl _)
        | (cases h; exact .push _ _)
        | exact v1_grow h)
    | skip
  case makeSlice t x y =>
    split at h
    · rename_i hm; cases h; exact make_grow hm
    · cases h
  case range t x =>
    split at h
    · rename_i hm; cases h; exact range_grow hm
    · cases h
  case next x b =>
    split at h
    · rename_i hm; cases h; exact next_grow hm
    · cases h
  case mapEntry t m k =>
    split at h
    · rename_i hm; cases h; exact mapEntry_grow hm
    · cases h
  case makeMap t z =>
    cases z with
    | some z => cases h
    | none => cases h; exact .push _ _
  case call c =>
    split at h
    · unfold builtinA at h
      repeat' split at h
      all_goals first
        | (cases h; done)
        | exact v1_grow h
        | (rename_i hap; cases h; exact append_grow hap)
    · unfold applyA at h
      split at h
      · split at h
        · rename_i hc
          cases h
          exact hC.fn _ _ _ _ _ hc
        · cases h
      · cases h
    · cases h

theorem op_grow (hC : GrowC call) {op : Op} {ev : Operand → AV} {s s' : HS} {res : OR} (h : opA P call op ev s = some (res, s')) : Grow s s' := by
  unfold opA at h
  split at h
  · rename_i hb; cases h; exact opB_grow hC hb
  · exact v1_grow h

theorem put_s {nt : Nat} {st st' : ST} {dst : Option Tmp} {v : AV} {s : HS} (h : ST.put nt st dst v s = some st') : st'.s = s := (put_inv h).1

theorem run_grow (hC : GrowC call) {nt : Nat} {ops : List Oper} : ∀ (rest : List Oper) {st st' : ST} {e : AE}, runA P call nt ops rest st = some (e, st') → Grow st.s st'.s := by
  intro rest
  induction rest with
  | nil => intro st st' e h; cases h; exact .refl _
  | cons o rest ih =>
    intro st st' e h
    simp only [runA] at h
    have stp : ∀ {e1 : AE} {st1 : ST}, stepA P call nt ops o st = some (e1, st1) → Grow st.s st1.s := by
      intro e1 st1 hs
      unfold stepA at hs
      repeat' split at hs
      all_goals first
        | (cases hs; done)
        | (rename_i hp; cases hs; rw [put_s hp]; first | exact .refl _ | (rename_i hop _; exact op_grow hC hop))
        | (rename_i hop; cases hs; exact op_grow hC hop)
        | (rename_i hop _ _ hp; cases hs; rw [put_s hp]; exact op_grow hC hop)
        | skip
    cases hs : stepA P call nt ops o st with
    | none => rw [hs] at h; cases h
    | some q =>
      obtain ⟨e1, st1⟩ := q
      have h1 := stp hs
      rw [hs] at h
      cases e1 with
      | nm => exact h1.trans (ih h)
      | ex k => cases h; exact h1
      | rt => cases h; exact h1
      | pn v => cases h; exact h1
end
end Go.Ab
