/- Operations that turn abstract memory, second part: maps that are written, append. -/
import Derived.Test.YtfjgblbmdddpkaaGreatDoorAh
import Derived.Maps.AppendAt
namespace Go.Ab
open Go.RowKit

section
variable {P : Program} {w0 : Base} {w : World} {r : RC} {h : AH}

theorem sameBits_of {kd : TypeDesc} {K O : Value} (hs : Instr.sameNow kd K O = some true) (n : Nat) : Instr.sameBits n O K = true := by
  unfold Instr.sameNow at hs
  split at hs
  · split at hs
    · rename_i e
      subst e
      simp at hs
      subst hs
      cases n <;> simp [Instr.sameBits]
    · cases hs
  · rename_i a b
    have hab : a.toList = b.toList := by
      have h1 : (a == b) = true := by simpa using hs
      rw [beq_toListBytes] at h1
      simpa using h1
    cases n <;> simp only [Instr.sameBits] <;> rw [beq_toListBytes, hab] <;> simp
  · simp at hs
    subst hs
    cases n <;> simp [Instr.sameBits]
  · cases hs

theorem putA_now {kd : TypeDesc} {k v : AV} {K : Value} (hk : VRel r k K) : ∀ {es es' : List (AV × AV)} {E : List MapEntry} (i : Nat), putA kd k v es = some es' → VRels r (es.map (·.1)) (E.map (·.key)) → VRels r (es.map (·.2)) (E.map (·.val)) →
    (∃ (j : Nat) (e : MapEntry), E[j]? = some e ∧ es' = es.set j (k, v) ∧ Instr.findNow kd K E i = some (some (i + j, e.val)) ∧ Instr.sameNow kd K e.key = some true) ∨ (es' = es ++ [(k, v)] ∧ Instr.findNow kd K E i = some none) := by
  intro es
  induction es with
  | nil =>
    intro es' E i hp h1 _
    cases hp
    cases E with
    | nil => exact .inr ⟨rfl, rfl⟩
    | cons e E => exact absurd h1.1 (by simp)
  | cons e es ih =>
    intro es' E i hp h1 h2
    cases E with
    | nil => exact absurd h1.1 (by simp)
    | cons e' E =>
      simp only [List.map_cons] at h1 h2
      simp only [putA] at hp
      split at hp
      · rename_i hs
        cases hp
        have hsn := sameKey_now hs hk h1.head
        exact .inl ⟨0, e', rfl, rfl, by simp [Instr.findNow, hsn], hsn⟩
      · rename_i hs
        have hsn := sameKey_now hs hk h1.head
        split at hp
        · rename_i es2 hp2
          cases hp
          rcases ih (i + 1) hp2 h1.tail h2.tail with ⟨j, e2, h3, rfl, h4, h5⟩ | ⟨rfl, h4⟩
          · exact .inl ⟨j + 1, e2, by simpa using h3, rfl, by simp [Instr.findNow, hsn, h4]; omega, h5⟩
          · exact .inr ⟨rfl, by simp [Instr.findNow, hsn, h4]⟩
        · cases hp
      · cases hp

theorem Born.modify {E : Array MapEntry} {c j : Nat} {f : MapEntry → MapEntry} (h : Born E c) (hf : ∀ e, (f e).born = e.born) : Born (E.modify j f) c :=
  ⟨by rw [h.1]; simp, fun i e he => by
    rw [Array.getElem?_modify] at he
    split at he
    · cases hq : E[i]? with
      | none => rw [hq] at he; cases he
      | some e0 => rw [hq] at he; cases he; rw [hf]; exact h.2 i e0 hq
    · exact h.2 i e he⟩

theorem Born.push {E : Array MapEntry} {c : Nat} {e : MapEntry} (h : Born E c) (he : e.born = c) : Born (E.push e) (c + 1) :=
  ⟨by rw [h.1]; simp, fun i x hx => by
    rw [Array.getElem?_push] at hx
    split at hx
    · rename_i hi; cases hx; rw [he, h.1, hi]
    · exact h.2 i x hx⟩

theorem mapPut_run (hR : R P w0 r h w) {t : TypeId} {x k v : AV} {s s' : HS} {X K V : Value} (hs : s.h = h) (hp : mapPutA P t x k v s = some s') (hx : VRel r x X) (hk : VRel r k K) (hv : VRel r v V) :
    ∃ w', (Instr.mapUpdate t X K V).run P w = .ok () w' ∧ R P w0 r s'.h w' := by
  unfold mapPutA at hp
  split at hp
  · rename_i kt et b hu
    split at hp
    · rename_i kd es hkd hb
      split at hp
      · rename_i hok
        split at hp
        · rename_i es' hput
          cases hp
          rw [hs] at hb
          cases hx with
          | m _ B h1 h2 =>
            obtain ⟨_, E, c, hE, h4, h5, hbn⟩ := hR.mp _ B es h1 hb
            have hchk : (Instr.checkKey false 10000 kt K).run P w = .ok () w := check_run hkd hok hk false 9999
            have hBlt : B < w.heap.size := (Array.getElem?_eq_some_iff.1 hE).1
            have hlen : es.length = E.size := by have := h4.1; simpa using this
            rcases putA_now hk 0 hput h4 h5 with ⟨j, e, hj, rfl, hf, hsn⟩ | ⟨rfl, hf⟩
            · have hj' : E[j]? = some e := by simpa using hj
              have hjlt : j < E.size := (Array.getElem?_eq_some_iff.1 hj').1
              refine ⟨{ w with heap := w.heap.setIfInBounds B (.map (E.modify j fun e => { e with key := K, val := V }) c) }, ?_, ?_⟩
              · have hkts : (Instr.keyThatStays e.key K).run P w = .ok K w := by simp [Instr.keyThatStays, sameBits_of hsn 10000]
                simp only [Nat.zero_add] at hf
                simp [Instr.mapUpdate, run_underlying hu, getObj, setObj, Sem.run, hE, hchk, Instr.findKey, run_underlying hkd, hf, hj', hkts]
              · simp only [hs]
                refine hR.upd (o' := .mp (es.set j (k, v))) (w' := { w with heap := w.heap.setIfInBounds B (.map (E.modify j fun e => { e with key := K, val := V }) c) }) h1 h2 (fun i hi => by simp [Ne.symm hi]) (by simp) rfl rfl rfl ⟨rfl, E.modify j fun e => { e with key := K, val := V }, c, by simp [hBlt], ?_, ?_, hbn.modify fun _ => rfl⟩
                · have e1 : (es.set j (k, v)).map (·.1) = (es.map (·.1)).set j k := by simp [List.map_set]
                  have e2 : (E.modify j fun e => { e with key := K, val := V }).toList.map (·.key) = (E.toList.map (·.key)).set j K := by
                    apply List.ext_getElem?
                    intro q
                    simp only [List.getElem?_map, List.getElem?_set, Array.getElem?_toList, Array.getElem?_modify, List.length_map, Array.length_toList]
                    by_cases hq : j = q
                    · subst hq; simp [hjlt]
                    · simp [hq]
                  rw [e1, e2]
                  exact h4.set j hk
                · have e1 : (es.set j (k, v)).map (·.2) = (es.map (·.2)).set j v := by simp [List.map_set]
                  have e2 : (E.modify j fun e => { e with key := K, val := V }).toList.map (·.val) = (E.toList.map (·.val)).set j V := by
                    apply List.ext_getElem?
                    intro q
                    simp only [List.getElem?_map, List.getElem?_set, Array.getElem?_toList, Array.getElem?_modify, List.length_map, Array.length_toList]
                    by_cases hq : j = q
                    · subst hq; simp [hjlt]
                    · simp [hq]
                  rw [e1, e2]
                  exact h5.set j hv
            · refine ⟨{ w with heap := w.heap.setIfInBounds B (.map (E.push { key := K, val := V, born := c }) (c + 1)) }, ?_, ?_⟩
              · simp [Instr.mapUpdate, run_underlying hu, getObj, setObj, Sem.run, hE, hchk, Instr.findKey, run_underlying hkd, hf]
              · simp only [hs]
                refine hR.upd (o' := .mp (es ++ [(k, v)])) (w' := { w with heap := w.heap.setIfInBounds B (.map (E.push { key := K, val := V, born := c }) (c + 1)) }) h1 h2 (fun i hi => by simp [Ne.symm hi]) (by simp) rfl rfl rfl ⟨rfl, E.push { key := K, val := V, born := c }, c + 1, by simp [hBlt], ?_, ?_, hbn.push rfl⟩
                · simp only [List.map_append, List.map_cons, List.map_nil, Array.toList_push]
                  exact h4.append (.cons hk .nil)
                · simp only [List.map_append, List.map_cons, List.map_nil, Array.toList_push]
                  exact h5.append (.cons hv .nil)
        · cases hp
      · cases hp
    · cases hp
  · cases hp

theorem slotA_now {kd : TypeDesc} {k : AV} {K : Value} (hk : VRel r k K) : ∀ {es : List (AV × AV)} {E : List MapEntry} {q : Option (Nat × AV)} (i : Nat), slotA kd k es = some q → VRels r (es.map (·.1)) (E.map (·.key)) → VRels r (es.map (·.2)) (E.map (·.val)) →
    (∃ (j : Nat) (e : MapEntry) (v : AV), q = some (j, v) ∧ E[j]? = some e ∧ VRel r v e.val ∧ Instr.findNow kd K E i = some (some (i + j, e.val)) ∧ Instr.sameNow kd K e.key = some true) ∨ (q = none ∧ Instr.findNow kd K E i = some none) := by
  intro es
  induction es with
  | nil =>
    intro E q i hp h1 _
    cases hp
    cases E with
    | nil => exact .inr ⟨rfl, rfl⟩
    | cons e E => exact absurd h1.1 (by simp)
  | cons e es ih =>
    intro E q i hp h1 h2
    cases E with
    | nil => exact absurd h1.1 (by simp)
    | cons e' E =>
      simp only [List.map_cons] at h1 h2
      simp only [slotA] at hp
      split at hp
      · rename_i hs
        cases hp
        have hsn := sameKey_now hs hk h1.head
        exact .inl ⟨0, e', _, rfl, rfl, h2.head, by simp [Instr.findNow, hsn], hsn⟩
      · rename_i hs
        have hsn := sameKey_now hs hk h1.head
        split at hp
        · rename_i j v hp2
          cases hp
          rcases ih (i + 1) hp2 h1.tail h2.tail with ⟨j', e2, v', h3, h4, h5, h6, h7⟩ | ⟨h3, _⟩
          · cases h3
            exact .inl ⟨j + 1, e2, v, rfl, by simpa using h4, h5, by simp [Instr.findNow, hsn, h6]; omega, h7⟩
          · cases h3
        · rename_i hp2
          cases hp
          rcases ih (i + 1) hp2 h1.tail h2.tail with ⟨j', e2, v', h3, _⟩ | ⟨_, h4⟩
          · cases h3
          · exact .inr ⟨rfl, by simp [Instr.findNow, hsn, h4]⟩
        · cases hp
      · cases hp

theorem mapEntry_run (hR : R P w0 r h w) {t : TypeId} {x k v : AV} {s s' : HS} {X K : Value} (hs : s.h = h) (hp : mapEntryA P t x k s = some (v, s')) (hx : VRel r x X) (hk : VRel r k K) :
    ∃ V w', (Instr.mapEntry t X K).run P w = .ok V w' ∧ R P w0 r s'.h w' ∧ VRel r v V := by
  have tup : ∀ {a : AV} {A : Value} {n : Nat}, VRel r a A → VRel r (.t [a, .i .i64 n]) (.tuple #[A, .int .i64 n]) := fun ha =>
    .t _ [_, _] rfl (VRels.cons ha (.cons (.i _ _) .nil)).2
  unfold mapEntryA at hp
  split at hp
  · rename_i kt et b hu
    split at hp
    · rename_i kd es hkd hb
      split at hp
      · rename_i hok
        cases hx with
        | m _ B h1 h2 =>
          rw [hs] at hb
          obtain ⟨_, E, c, hE, h4, h5, hbn⟩ := hR.mp _ B es h1 hb
          have hchk : (Instr.checkKey false 10000 kt K).run P w = .ok () w := check_run hkd hok hk false 9999
          have hBlt : B < w.heap.size := (Array.getElem?_eq_some_iff.1 hE).1
          have hlen : es.length = E.size := by have := h4.1; simpa using this
          split at hp
          · rename_i i u hsl
            cases hp
            rcases slotA_now hk 0 hsl h4 h5 with ⟨j, e, v', h6, hj, hv', hf, hsn⟩ | ⟨h6, _⟩
            · cases h6
              have hj' : E[i]? = some e := by simpa using hj
              have hjlt : i < E.size := (Array.getElem?_eq_some_iff.1 hj').1
              refine ⟨.tuple #[e.val, .int .i64 i], { w with heap := w.heap.setIfInBounds B (.map (E.modify i fun e => { e with key := K }) c) }, ?_, ?_, tup hv'⟩
              · have hkts : (Instr.keyThatStays e.key K).run P w = .ok K w := by simp [Instr.keyThatStays, sameBits_of hsn 10000]
                have hbr := hbn.2 i e hj'
                simp only [Nat.zero_add] at hf
                simp [Instr.mapEntry, run_underlying hu, getObj, setObj, Sem.run, hE, hchk, Instr.findKey, run_underlying hkd, hf, hj', hkts, hbr, goInt]
              · simp only [hs]
                refine hR.upd (o' := .mp (es.set i (k, u))) (w' := { w with heap := w.heap.setIfInBounds B (.map (E.modify i fun e => { e with key := K }) c) }) h1 h2 (fun i hi => by simp [Ne.symm hi]) (by simp) rfl rfl rfl ⟨rfl, E.modify i fun e => { e with key := K }, c, by simp [hBlt], ?_, ?_, hbn.modify fun _ => rfl⟩
                · have e1 : (es.set i (k, u)).map (·.1) = (es.map (·.1)).set i k := by simp [List.map_set]
                  have e2 : (E.modify i fun e => { e with key := K }).toList.map (·.key) = (E.toList.map (·.key)).set i K := by
                    apply List.ext_getElem?
                    intro q
                    simp only [List.getElem?_map, List.getElem?_set, Array.getElem?_toList, Array.getElem?_modify, List.length_map, Array.length_toList]
                    by_cases hq : i = q
                    · subst hq; simp [hjlt]
                    · simp [hq]
                  rw [e1, e2]
                  exact h4.set i hk
                · have e1 : (es.set i (k, u)).map (·.2) = (es.map (·.2)).set i u := by simp [List.map_set]
                  have e2 : (E.modify i fun e => { e with key := K }).toList.map (·.val) = (E.toList.map (·.val)).set i e.val := by
                    apply List.ext_getElem?
                    intro q
                    simp only [List.getElem?_map, List.getElem?_set, Array.getElem?_toList, Array.getElem?_modify, List.length_map, Array.length_toList]
                    by_cases hq : i = q
                    · subst hq
                      have he : E[i] = e := by rw [Array.getElem?_eq_getElem hjlt] at hj'; exact Option.some.inj hj'
                      simp [hjlt, he]
                    · simp [hq]
                  rw [e1, e2]
                  exact h5.set i hv'
            · cases h6
          · rename_i hsl
            split at hp
            · rename_i z hz
              cases hp
              obtain ⟨Z, hZ, hzr⟩ := zeroA_run (w := w) (r := r) hz
              rcases slotA_now hk 0 hsl h4 h5 with ⟨j, e, v', h6, _⟩ | ⟨_, hf⟩
              · cases h6
              · refine ⟨.tuple #[Z, .int .i64 es.length], { w with heap := w.heap.setIfInBounds B (.map (E.push { key := K, val := Z, born := c }) (c + 1)) }, ?_, ?_, tup hzr⟩
                · have hc : c = es.length := by rw [hbn.1, hlen]
                  simp [Instr.mapEntry, run_underlying hu, getObj, setObj, Sem.run, hE, hchk, Instr.findKey, run_underlying hkd, hf, hZ, goInt, hc]
                · simp only [hs]
                  refine hR.upd (o' := .mp (es ++ [(k, z)])) (w' := { w with heap := w.heap.setIfInBounds B (.map (E.push { key := K, val := Z, born := c }) (c + 1)) }) h1 h2 (fun i hi => by simp [Ne.symm hi]) (by simp) rfl rfl rfl ⟨rfl, E.push { key := K, val := Z, born := c }, c + 1, by simp [hBlt], ?_, ?_, hbn.push rfl⟩
                  · simp only [List.map_append, List.map_cons, List.map_nil, Array.toList_push]
                    exact h4.append (.cons hk .nil)
                  · simp only [List.map_append, List.map_cons, List.map_nil, Array.toList_push]
                    exact h5.append (.cons hzr .nil)
            · cases hp
          · cases hp
      · cases hp
    · cases hp
  · cases hp

theorem find_born {E : Array MapEntry} {c i : Nat} (hb : Born E c) (hi : i < E.size) : E.findIdx? (fun e => (e.born : Int) == (i : Int)) = some i := by
  rw [Array.findIdx?_eq_some_iff_getElem]
  refine ⟨hi, ?_, fun j hj => ?_⟩
  · have := hb.2 i E[i] (by simp [hi]); simp [this]
  · have := hb.2 j (E[j]'(by omega)) (by simp [show j < E.size by omega])
    simp [this]
    omega

theorem entryStore_run (hR : R P w0 r h w) {t : TypeId} {x st v : AV} {s s' : HS} {X ST V : Value} (hs : s.h = h) (hp : entryStoreA x st v s = some s') (hx : VRel r x X) (hst : VRel r st ST) (hv : VRel r v V) :
    ∃ w', (Instr.entryStore t X ST V).run P w = .ok () w' ∧ R P w0 r s'.h w' := by
  unfold entryStoreA at hp
  split at hp
  · rename_i b kk n
    split at hp
    · rename_i es hb
      split at hp
      · rename_i hn
        split at hp
        · rename_i q hq
          cases hp
          rw [hs] at hb
          cases hst
          cases hx with
          | m _ B h1 h2 =>
            obtain ⟨_, E, c, hE, h4, h5, hbn⟩ := hR.mp _ B es h1 hb
            have hBlt : B < w.heap.size := (Array.getElem?_eq_some_iff.1 hE).1
            have hlen : es.length = E.size := by have := h4.1; simpa using this
            obtain ⟨m, rfl⟩ : ∃ m : Nat, n = m := ⟨n.toNat, by omega⟩
            simp only [Int.toNat_natCast] at hq ⊢
            have hm : m < E.size := by rw [← hlen]; exact (List.getElem?_eq_some_iff.1 hq).1
            refine ⟨{ w with heap := w.heap.setIfInBounds B (.map (E.modify m fun e => { e with val := V }) c) }, ?_, ?_⟩
            · simp [Instr.entryStore, getObj, setObj, Sem.run, hE, asInt, asIntOf, find_born hbn hm]
            · simp only [hs]
              refine hR.upd (o' := .mp (es.set m (q.1, v))) (w' := { w with heap := w.heap.setIfInBounds B (.map (E.modify m fun e => { e with val := V }) c) }) h1 h2 (fun i hi => by simp [Ne.symm hi]) (by simp) rfl rfl rfl ⟨rfl, E.modify m fun e => { e with val := V }, c, by simp [hBlt], ?_, ?_, hbn.modify fun _ => rfl⟩
              · have e1 : (es.set m (q.1, v)).map (·.1) = (es.map (·.1)) := by
                  rw [List.map_set]
                  apply List.ext_getElem?
                  intro j
                  rw [List.getElem?_set]
                  split
                  · rename_i hj; subst hj; have hl : m < es.length := by omega
                    simp [hl]; rw [List.getElem?_eq_getElem hl] at hq; rw [Option.some.inj hq]
                  · rfl
                have e2 : (E.modify m fun e => { e with val := V }).toList.map (·.key) = (E.toList.map (·.key)) := by
                  apply List.ext_getElem?
                  intro j
                  simp only [List.getElem?_map, Array.getElem?_toList, Array.getElem?_modify]
                  by_cases hj : m = j
                  · subst hj; simp [hm]
                  · simp [hj]
                rw [e1, e2]
                exact h4
              · have e1 : (es.set m (q.1, v)).map (·.2) = (es.map (·.2)).set m v := by simp [List.map_set]
                have e2 : (E.modify m fun e => { e with val := V }).toList.map (·.val) = (E.toList.map (·.val)).set m V := by
                  apply List.ext_getElem?
                  intro j
                  simp only [List.getElem?_map, List.getElem?_set, Array.getElem?_toList, Array.getElem?_modify, List.length_map, Array.length_toList]
                  by_cases hj : m = j
                  · subst hj; simp [hm]
                  · simp [hj]
                rw [e1, e2]
                exact h5.set m hv
        · cases hp
      · cases hp
    · cases hp
  · cases hp

/-! ### Iterators of strings -/
theorem range_run (hR : R P w0 r h w) {t : TypeId} {x v : AV} {s s' : HS} {X : Value} (hs : s.h = h) (hp : rangeA P t x s = some (v, s')) (hx : VRel r x X) :
    ∃ V w' r', (Instr.range t X).run P w = .ok V w' ∧ RLe r r' ∧ R P w0 r' s'.h w' ∧ VRel r' v V := by
  unfold rangeA at hp
  split at hp
  · rename_i l hu
    cases hp
    cases hx
    have hobj : R P w0 r h (w.alloc (.stringIter ⟨l.toArray⟩ 0)) := by
      refine .mk' hR.len (fun k B o h1 h2 => ?_) (fun B o V hi => ?_) hR.dis hR.nd hR.new (hR.bel.alloc _) hR.rho hR.old
      · exact (hR.orel h1 h2).mono (.refl r) (_root_.Go.heap_alloc_old w _ (hR.heap_lt h1 h2)) fun _ _ _ _ hx => hx
      · have := hR.imm B o V hi
        have hlt := hR.lt hi
        simp only [World.cell?, _root_.Go.heap_alloc_old w _ hlt] at this ⊢
        exact this
    have hR2 := hobj.track (.it l 0) none w.heap.size hR.untracked (.inl hR.bel.size) ⟨rfl, _root_.Go.heap_alloc_new w _⟩ (fun _ x => by
      cases hx : r.imm w.heap.size x with
      | none => rfl
      | some V => exact absurd (hR.lt hx) (by omega))
    refine ⟨.pointer (some ⟨w.heap.size, 0, none⟩), w.alloc (.stringIter ⟨l.toArray⟩ 0), _, ?_, RLe.push _ _ _, by simp only [hs]; exact hR2, ?_⟩
    · simp [Instr.range, run_underlying hu]
    · have := push_new (r := r) (B := some w.heap.size) (t := none)
      rw [hR.len] at this
      rw [hs]
      exact .p _ _ _ this.1 this.2
  · cases hp

theorem next_run (hR : R P w0 r h w) {ty : TypeId} {x v : AV} {b : Bool} {s s' : HS} {X : Value} (hs : s.h = h) (hp : nextA x b s = some (v, s')) (hx : VRel r x X) :
    ∃ V w', (Instr.next X b ty).run P w = .ok V w' ∧ R P w0 r s'.h w' ∧ VRel r v V := by
  unfold nextA at hp
  split at hp
  · rename_i k
    split at hp
    · rename_i l pos hk
      rw [hs] at hk
      cases hx with
      | p _ _ B h1 h2 =>
        obtain ⟨_, hB⟩ := hR.it k B l pos h1 hk
        have hBlt : B < w.heap.size := (Array.getElem?_eq_some_iff.1 hB).1
        have hsz : (⟨l.toArray⟩ : ByteArray).size = l.length := by simp [← ByteArray.size_data]
        split at hp
        · rename_i hlt
          cases hp
          refine ⟨.tuple #[.bool true, .int .i64 pos, .int .i32 (Utf8.decode ⟨l.toArray⟩ pos).1], { w with heap := w.heap.setIfInBounds B (.stringIter ⟨l.toArray⟩ (pos + (Utf8.decode ⟨l.toArray⟩ pos).2)) }, ?_, ?_, ?_⟩
          · simp [Instr.next, getObj, setObj, Sem.run, hB, hsz, hlt, goInt]
          · simp only [hs]
            exact hR.upd (o' := .it l (pos + (Utf8.decode ⟨l.toArray⟩ pos).2)) (w' := { w with heap := w.heap.setIfInBounds B (.stringIter ⟨l.toArray⟩ (pos + (Utf8.decode ⟨l.toArray⟩ pos).2)) }) h1 h2 (fun i hi => by simp [Ne.symm hi]) (by simp) rfl rfl rfl ⟨rfl, by simp [hBlt]⟩
          · exact .t _ [_, _, _] rfl (VRels.cons (.b _) (.cons (.i _ _) (.cons (.i _ _) .nil))).2
        · rename_i hge
          cases hp
          refine ⟨.tuple #[.bool false], w, ?_, hs ▸ hR, .t _ [_] rfl (VRels.cons (.b _) .nil).2⟩
          simp [Instr.next, getObj, Sem.run, hB, hsz, hge]
    · cases hp
  · cases hp

/-! ### append -/
/-- A new row that is written afterwards. -/
theorem R.newView (hR : R P w0 r h w) {w' : World} {C : Array Value} {L M : List Value} {l : List AV} {e : TypeId} (hm : More w w' C) (hnew : w'.heap[w.heap.size]? = some (.cells C e (0, 0))) (hC : C.toList = L ++ M) (hl : VRels r l L) :
    ∃ r', RLe r r' ∧ R P w0 r' (h ++ [.cs l]) w' ∧ r'.ι[h.length]? = some (some w.heap.size) ∧ r'.tk h.length = none := by
  obtain ⟨hle, hR1⟩ := hR.row hm 0
  have hf : ∀ k : Nat, (r.row w.heap.size (C.toList.take 0)).ι[k]? ≠ some (some w.heap.size) := hR.untracked
  have hR2 := hR1.track (.cs l) none w.heap.size hf (.inl hR.bel.size) ⟨rfl, L, e, ⟨M, by rw [← hC, Array.toArray_toList]; exact hnew⟩, hl.mono hle⟩ (fun _ x => by rw [RC.row_at]; simp)
  refine ⟨_, hle.trans (RLe.push _ _ _), hR2, ?_⟩
  have := push_new (r := r.row w.heap.size (C.toList.take 0)) (B := some w.heap.size) (t := none)
  have hlen : (r.row w.heap.size (C.toList.take 0)).ι.length = h.length := hR.len
  rw [hlen] at this
  exact ⟨this.1, this.2⟩

/-- The cells of what is appended. -/
theorem news_of (hR : R P w0 r h w) {sz : Nat} {x : AV} {X : Value} {cs : List AV} {m : Nat} (hn : newsA sz x h = some (cs, m)) (hx : VRel r x X) :
    (X = .slice none 0 0 ∧ cs = [] ∧ m = 0) ∨ ∃ B o c L, X = .slice (some ⟨B, o, none⟩) m c ∧ VRels r cs L ∧ Rd w B o L ∧ L.length = m * sz := by
  unfold newsA at hn
  split at hn
  · cases hx; cases hn; exact .inl ⟨rfl, rfl, rfl⟩
  · cases hx with
    | l _ _ _ B o cap g hn' hi hv hf ht =>
      split at hn
      · rename_i hl
        cases hn
        obtain ⟨L, hL, hrd⟩ := hR.rdI hi hv
        exact .inr ⟨B, o, cap, L, rfl, hL, hrd, by rw [← hL.1]; exact hl⟩
      · cases hn
  · rename_i b off n cap
    cases hx with
    | v _ _ _ _ B C hn' h1 h2 hC =>
      split at hn
      · rename_i l hk
        split at hn
        · rename_i hl
          cases hn
          obtain ⟨L, hL, hrd⟩ := hR.rd h1 hk
          have h3 := (hL.drop off).take (m * sz)
          have h4 := (hrd.drop off).take (m * sz)
          rw [Nat.zero_add] at h4
          refine .inr ⟨B, off, C, _, rfl, h3, h4, ?_⟩
          have := hL.1
          simp
          omega
        · cases hn
      · cases hn
  · cases hn

/-- A row whose token is new, behind a world with one block more. -/
theorem R.newTok (hR : R P w0 r h w) {w' : World} {C : Array Value} {e : TypeId} {i : TypeInfo} {cs : List AV} {n cap : Nat} (hm : More w w' C) (hel : w'.heap[w.heap.size]? = some (.cells C e (0, 0))) (hi : P.info? e = some i)
    (hn : n ≤ cap) (hc : cap ≤ maxLen) (hsz : C.size = cap * i.size) (hcs : VRels r cs (C.toList.take (n * i.size))) :
    ∃ r', RLe r r' ∧ R P w0 r' (h ++ [.tk n e]) w' ∧ VRel r' (.l (.id h.length) cs n) (.slice (some ⟨w.heap.size, 0, none⟩) n cap) := by
  obtain ⟨hle, hR1⟩ := hR.row hm (n * i.size)
  have hf : ∀ k : Nat, (r.row w.heap.size (C.toList.take (n * i.size))).ι[k]? ≠ some (some w.heap.size) := hR.untracked
  have hR2 := hR1.track (.tk n e) (some (n, cap)) w.heap.size hf (.inl hR.bel.size) ⟨cap, i, rfl, hi, hn, hc, ⟨C, hel, hsz⟩, fun o ho => by
    rw [RC.row_at, List.getElem?_take, if_neg (by omega)]⟩ (by simp)
  have hpn := push_new (r := r.row w.heap.size (C.toList.take (n * i.size))) (B := some w.heap.size) (t := some (n, cap))
  have hlen : (r.row w.heap.size (C.toList.take (n * i.size))).ι.length = h.length := hR.len
  rw [hlen] at hpn
  refine ⟨_, hle.trans (RLe.push _ _ _), hR2, ?_⟩
  refine .l _ cs n w.heap.size 0 cap (fun j => (C.toList.take (n * i.size)).getD j undef) hn (fun j v hj => ?_) (fun j v hj => ?_) (by simp) (fun k hk => ?_)
  · obtain ⟨V, hV, _⟩ := hcs.get hj
    show (r.row w.heap.size (C.toList.take (n * i.size))).imm w.heap.size (0 + j) = _
    rw [Nat.zero_add, RC.row_at, hV]
    simp [List.getD, hV]
  · obtain ⟨V, hV, hv⟩ := hcs.get hj
    rw [List.getD, hV]
    exact hv.mono (hle.trans (RLe.push _ _ _))
  · cases hk
    exact ⟨n, cap, w.heap.size, hpn.2, hpn.1, Nat.le_refl _, fun _ => ⟨rfl, rfl, rfl⟩⟩

/-- A row whose token goes on in place, or in another block. -/
def RC.goOn (r : RC) (k B : Nat) (n c : Nat) (L : List Value) : RC :=
  { ι := r.ι.set k (some B), imm := fun B' o => if B' = B ∧ o < L.length then L[o]? else r.imm B' o, tk := fun k' => if k' = k then some (n, c) else r.tk k', ρ := r.ρ }

theorem R.goOn (hR : R P w0 r h w) {k B0 n0 c0 B1 n1 c1 : Nat} {e : TypeId} {i : TypeInfo} {w' : World} {C : Array Value} {L : List Value} (hk : r.ι[k]? = some (some B0)) (ht : r.tk k = some (n0, c0)) (hi : P.info? e = some i)
    (hold : ∀ B, B ≠ B1 → B < w.heap.size → w'.heap[B]? = w.heap[B]?) (hs : w.heap.size ≤ w'.heap.size) (h1 : w'.os = w.os) (h2 : w'.tape = w.tape) (h3 : w'.output = w.output) (hB : B1 = B0 ∨ B1 = w.heap.size)
    (hC : w'.heap[B1]? = some (.cells C e (0, 0))) (hCs : C.size = c1 * i.size) (hn : n1 ≤ c1) (hc : c1 ≤ maxLen) (hlt : n0 < n1) (hL : L.length = n1 * i.size) (htake : ∀ (j : Nat) (V : Value), L[j]? = some V → C[j]? = some V)
    (himm : B1 = B0 → ∀ (o : Nat) (V : Value), r.imm B0 o = some V → L[o]? = some V) :
    RLe r (r.goOn k B1 n1 c1 L) ∧ R P w0 (r.goOn k B1 n1 c1 L) (h.set k (.tk n1 e)) w' := by
  have hklt : k < r.ι.length := (List.getElem?_eq_some_iff.1 hk).1
  have imm1 : ∀ B o V, r.imm B o = some V → (r.goOn k B1 n1 c1 L).imm B o = some V := by
    intro B o V hv
    simp only [RC.goOn]
    split
    · rename_i hb
      rcases hB with hB | hB
      · exact himm hB o V (by rw [← hB, ← hb.1]; exact hv)
      · have := hR.lt hv; omega
    · exact hv
  have none1 : ∀ B o, B ≠ B1 → r.imm B o = none → (r.goOn k B1 n1 c1 L).imm B o = none := by
    intro B o hb hv
    simp only [RC.goOn]
    rw [if_neg (fun hc => hb hc.1)]
    exact hv
  have get1 : ∀ {k' : Nat} {x : Option Nat}, (r.goOn k B1 n1 c1 L).ι[k']? = some x → (k' = k ∧ x = some B1) ∨ (k' ≠ k ∧ r.ι[k']? = some x) := by
    intro k' x hx
    simp only [RC.goOn] at hx
    by_cases hkk : k' = k
    · subst hkk; simp [hklt] at hx; exact .inl ⟨rfl, hx.symm⟩
    · rw [List.getElem?_set, if_neg (Ne.symm hkk)] at hx; exact .inr ⟨hkk, hx⟩
  have hle : RLe r (r.goOn k B1 n1 c1 L) := by
    refine ⟨⟨fun k' B h4 h5 => ?_, imm1, fun k' n c B h4 h5 => ?_, rfl⟩, fun k' h4 => ?_⟩
    · have hkk : k' ≠ k := fun e => by rw [e, ht] at h5; cases h5
      simp only [RC.goOn]
      rw [List.getElem?_set, if_neg (Ne.symm hkk), if_neg hkk]
      exact ⟨h4, h5⟩
    · by_cases hkk : k' = k
      · subst hkk
        rw [ht] at h4; cases h4
        refine ⟨n1, c1, B1, by simp [RC.goOn], by simp [RC.goOn, hklt], by omega, fun e => by omega⟩
      · exact ⟨n, c, B, by simp [RC.goOn, hkk, h4], by simp [RC.goOn, Ne.symm hkk, h5], Nat.le_refl _, fun _ => ⟨rfl, rfl⟩⟩
    · have hkk : k' ≠ k := fun e => by rw [e, hk] at h4; cases h4
      simp only [RC.goOn]
      rw [List.getElem?_set, if_neg (Ne.symm hkk)]
      exact h4
  refine ⟨hle, .mk' (by simp [RC.goOn, hR.len]) (fun k' B o h4 h5 => ?_) (fun B o V hv => ?_) (fun k' B h4 h5 o => ?_) (fun k' k'' B h4 h5 => ?_) (fun k' B h4 => ?_) ?_ hR.rho (fun B o V hv => ?_)⟩
  · rcases get1 h4 with ⟨rfl, h6⟩ | ⟨hkk, h6⟩
    · cases h6
      have hkl : k' < h.length := by rw [← hR.len]; exact hklt
      simp [hkl] at h5
      subst h5
      refine ⟨c1, i, by simp [RC.goOn], hi, hn, hc, ⟨C, hC, hCs⟩, fun o ho => ?_⟩
      simp only [RC.goOn]
      rw [if_neg (by omega)]
      rcases hB with hB | hB
      · cases hv : r.imm B1 o with
        | none => rfl
        | some V =>
          have := himm hB o V (by rw [← hB]; exact hv)
          rw [List.getElem?_eq_none (by omega)] at this
          cases this
      · cases hv : r.imm B1 o with
        | none => rfl
        | some V => have := hR.lt hv; omega
    · rw [List.getElem?_set, if_neg (Ne.symm hkk)] at h5
      have hne : B ≠ B1 := by
        rcases hB with hB | hB
        · intro e; exact hkk (hR.nd k' k B0 (by rw [← hB, ← e]; exact h6) hk)
        · have := hR.lt' h6; omega
      have e1 : (r.goOn k B1 n1 c1 L).tk k' = r.tk k' := by simp [RC.goOn, hkk]
      rw [e1]
      exact (hR.orel h6 h5).mono hle (hold B hne (hR.lt' h6)) fun _ _ _ x hx => none1 B x hne hx
  · simp only [RC.goOn] at hv
    split at hv
    · rename_i hb
      rw [hb.1]
      simp only [World.cell?, hC]
      simpa using htake o V hv
    · rename_i hb
      by_cases hBB : B = B1
      · subst hBB
        rcases hB with hB | hB
        · have hv' := himm hB o V (by rw [← hB]; exact hv)
          simp only [World.cell?, hC]
          simpa using htake o V hv'
        · have := hR.lt hv; omega
      · have := hR.imm B o V hv
        simp only [World.cell?, hold B hBB (hR.lt hv)] at this ⊢
        exact this
  · rcases get1 h4 with ⟨rfl, h6⟩ | ⟨hkk, h6⟩
    · simp [RC.goOn] at h5
    · have hne : B ≠ B1 := by
        rcases hB with hB | hB
        · intro e; exact hkk (hR.nd k' k B0 (by rw [← hB, ← e]; exact h6) hk)
        · have := hR.lt' h6; omega
      have h7 : r.tk k' = none := by simpa [RC.goOn, hkk] using h5
      exact none1 B o hne (hR.dis k' B h6 h7 o)
  · have aux : ∀ {k' : Nat}, r.ι[k']? = some (some B1) → k' ≠ k → False := by
      intro k' h6 hkk
      rcases hB with hB | hB
      · exact hkk (hR.nd k' k B0 (by rw [← hB]; exact h6) hk)
      · have := hR.lt' h6; omega
    rcases get1 h4 with ⟨rfl, h6⟩ | ⟨hkk, h6⟩ <;> rcases get1 h5 with ⟨rfl, h7⟩ | ⟨hkk', h7⟩
    · rfl
    · cases h6; exact (aux h7 hkk').elim
    · cases h7; exact (aux h6 hkk).elim
    · exact hR.nd k' k'' B h6 h7
  · rcases get1 h4 with ⟨rfl, h6⟩ | ⟨hkk, h6⟩
    · cases h6
      rcases hB with hB | hB
      · rw [hB]; exact hR.new k' B0 hk
      · rw [hB]; exact .inl hR.bel.size
    · exact hR.new k' B h6
  · refine ⟨h1.trans hR.bel.os, h2.trans hR.bel.tape, h3.trans hR.bel.output, Nat.le_trans hR.bel.size hs, fun j hj hown => ?_⟩
    have hjlt : j < w.heap.size := Nat.lt_of_lt_of_le hj hR.bel.size
    have hne : j ≠ B1 := by
      rcases hB with hB | hB
      · intro e; exact (hR.new k B0 hk).elim (fun h => by omega) fun h => by rw [e, hB, h] at hown; cases hown
      · omega
    exact (hold j hne hjlt).trans (hR.bel.block j hj hown)
  · simp only [RC.goOn] at hv
    split at hv
    · rename_i hb
      left
      rw [hb.1]
      rcases hB with hB | hB
      · rw [hB]; exact hR.new k B0 hk
      · rw [hB]; exact .inl hR.bel.size
    · exact hR.old B o V hv

theorem goOn_val {k B1 n1 c1 : Nat} {L : List Value} {cs : List AV} (hk : k < r.ι.length) (hcs : VRels (r.goOn k B1 n1 c1 L) cs L) (hn : n1 ≤ c1) : VRel (r.goOn k B1 n1 c1 L) (.l (.id k) cs n1) (.slice (some ⟨B1, 0, none⟩) n1 c1) := by
  refine .l _ cs n1 B1 0 c1 (fun j => L.getD j undef) hn (fun j v hj => ?_) (fun j v hj => ?_) (by simp) (fun k' hk' => ?_)
  · obtain ⟨V, hV, _⟩ := hcs.get hj
    have hlt : j < L.length := (List.getElem?_eq_some_iff.1 hV).1
    simp [RC.goOn, hlt, List.getD]
  · obtain ⟨V, hV, hv⟩ := hcs.get hj
    rw [List.getD, hV]
    exact hv
  · cases hk'
    exact ⟨n1, c1, B1, by simp [RC.goOn], by simp [RC.goOn, hk], Nat.le_refl _, fun _ => ⟨rfl, rfl, rfl⟩⟩

/-- 'append' of nothing gives the slice back. -/
theorem append_none {t ty e : TypeId} {i : TypeInfo} (ht : P.underlying t = some (.slice e)) (hi : P.info? e = some i) {a : Option Addr} {n c : Nat} (hn : n ≤ c) {x : Value} (hx : x = .slice none 0 0 ∨ ∃ b c', x = .slice (some b) 0 c') :
    (Builtin.append_ #[t, t] ty #[.slice a n c, x]).run P w = .ok (.slice a n c) w := by
  rcases hx with rfl | ⟨b, c', rfl⟩ <;> cases a <;>
    simp [Builtin.append_, run_underlying ht, sizeOf, typeInfo, hi, Builtin.lenOf, hn, Builtin.firstCells, loadCells, loadCellsFrom, storeCells]

theorem append_run (hR : R P w0 r h w) {ts : Array TypeId} {ty : TypeId} {x y v : AV} {s s' : HS} {X Y : Value} (hs : s.h = h) {vw : Bool} (ha : appendA P vw ts.toList x y s = some (v, s')) (hx : VRel r x X) (hy : VRel r y Y) :
    ∃ V w' r', (Builtin.append_ ts ty #[X, Y]).run P w = .ok V w' ∧ RLe r r' ∧ R P w0 r' s'.h w' ∧ VRel r' v V := by
  unfold appendA at ha
  split at ha
  · rename_i t u hts
    have ets : ts = #[t, u] := by apply Array.ext'; exact hts
    subst ets
    split at ha
    · rename_i htu
      subst htu
      split at ha
      · rename_i e he
        have hu : P.underlying t = some (.slice e) := by
          unfold elemA at he
          split at he
          · rename_i h1; cases he; exact h1
          · cases he
        split at ha
        · rename_i i hi
          split at ha
          · rename_i cs m hnews
            rw [hs] at hnews
            split at ha
            · rename_i hcc
              simp only [Bool.and_eq_true] at hcc
              obtain ⟨hel, hone⟩ := hcc
              unfold okElem at hel
              simp only [Bool.and_eq_true, Nat.ble_eq] at hel
              obtain ⟨⟨hz, hby⟩, hsz⟩ := hel
              obtain ⟨z, hz1, hz2⟩ : ∃ z, i.zero = some z ∧ z.cells.size = i.size := by
                split at hz
                · rename_i z hzz; exact ⟨z, hzz, by simpa using hz⟩
                · cases hz
              have hnw := news_of hR hnews hy
              -- nothing is appended
              have nothing : ∀ {a : Option Addr} {n c : Nat}, n ≤ c → m = 0 → (Builtin.append_ #[t, t] ty #[.slice a n c, Y]).run P w = .ok (.slice a n c) w := by
                intro a n c hnc hm0
                refine append_none hu hi hnc ?_
                rcases hnw with ⟨h1, _, _⟩ | ⟨B, o, c', L, h1, _, _, _⟩
                · exact .inl h1
                · subst hm0; exact .inr ⟨_, _, h1⟩
              split at ha
              · -- onto nil
                cases hx
                split at ha
                · rename_i hm0
                  cases ha
                  exact ⟨_, w, r, nothing (Nat.le_refl _) hm0, .refl r, by rw [hs]; exact hR, .ln⟩
                · rename_i hm0
                  split at ha
                  · rename_i hb
                    cases ha
                    rcases hnw with ⟨_, _, h0⟩ | ⟨B, o, c', L, rfl, hL, hrd, hLl⟩
                    · exact absurd h0 hm0
                    · have hm48 : m ≤ 140737488355328 := Nat.le_trans (Nat.le_mul_of_pos_right _ hby) hb
                      have hrun := run_append_nil (P := P) w t ty e i z hu hi hz1 ⟨B, o, none⟩ m c' L hLl (fun j V hj => by rw [addr_add]; exact hrd j V hj) (by omega) (by omega) (by omega)
                      have hge := grownCap_ge w m 0 e
                      have hmx : grownCap w m 0 e ≤ maxLen := grownCap_le_maxLen w m 0 e (by simp only [maxLen]; omega)
                      obtain ⟨r', h1, h2, h3⟩ := hR.newTok (w' := w.drew.alloc (.cells (L.toArray ++ Builtin.zeroCells z.cells (grownCap w m 0 e - m)) e)) (e := e) (i := i) (cs := cs) (n := m) (cap := grownCap w m 0 e)
                        (More.drew (More.alloc w.drew _ e (0, 0))) (_root_.Go.heap_alloc_new w.drew _) hi hge hmx
                        (by simp only [Array.size_append, List.size_toArray, size_zeroCells, hz2, hLl, ← Nat.add_mul]; congr 1; omega)
                        (by rw [Array.toList_append, List.toList_toArray, ← hLl, List.take_left]; exact hL)
                      rw [hs]
                      exact ⟨_, _, r', hrun, h1, h2, h3⟩
                  · cases ha
              · -- onto a row
                rename_i tk old n
                split at ha
                · rename_i hold
                  cases hx with
                  | l _ _ _ B0 o0 cap g hnc hgi hgv hf ht =>
                  split at ha
                  · rename_i hm0
                    cases ha
                    exact ⟨_, w, r, nothing hnc hm0, .refl r, by rw [hs]; exact hR, .l tk old n B0 o0 cap g hnc hgi hgv hf ht⟩
                  · rename_i hm0
                    split at ha
                    · rename_i hb
                      rcases hnw with ⟨_, _, h0⟩ | ⟨B, o, c', L, rfl, hL, hrd, hLl⟩
                      · exact absurd h0 hm0
                      · have hm48 : n + m ≤ 140737488355328 := Nat.le_trans (Nat.le_mul_of_pos_right _ hby) hb
                        have hbb : n * i.bytes + m * i.bytes = (n + m) * i.bytes := (Nat.add_mul n m i.bytes).symm
                        obtain ⟨O, hO, hOrd⟩ := hR.rdI hgi hgv
                        have hOl : O.length = n * i.size := by rw [← hO.1]; exact hold
                        -- the row is made anew
                        have grows : cap < n + m → (Builtin.append_ #[t, t] ty #[.slice (some ⟨B0, o0, none⟩) n cap, .slice (some ⟨B, o, none⟩) m c']).run P w =
                            .ok (.slice (some ⟨w.heap.size, 0, none⟩) (n + m) (grownCap w (n + m) cap e)) (w.drew.alloc (.cells (O.toArray ++ L.toArray ++ Builtin.zeroCells z.cells (grownCap w (n + m) cap e - (n + m))) e)) := fun hcap =>
                          run_append_grow (P := P) w t ty e i z hu hi hz1 ⟨B0, o0, none⟩ n cap O hOl (fun j V hj => by rw [addr_add]; exact hOrd j V hj) ⟨B, o, none⟩ m c' L hLl (fun j V hj => by rw [addr_add]; exact hrd j V hj) hcap (by omega) (growslice_fits hcap hb)
                        have hge := grownCap_ge w (n + m) cap e
                        have hmx : grownCap w (n + m) cap e ≤ maxLen := grownCap_le_maxLen w (n + m) cap e (by simp only [maxLen]; omega)
                        have hall : VRels r (old ++ cs) (O ++ L) := hO.append hL
                        have halll : (O ++ L).length = (n + m) * i.size := by rw [List.length_append, hOl, hLl, Nat.add_mul]
                        have hCsz : (O.toArray ++ L.toArray ++ Builtin.zeroCells z.cells (grownCap w (n + m) cap e - (n + m))).size = grownCap w (n + m) cap e * i.size := by
                          simp only [Array.size_append, List.size_toArray, size_zeroCells, hz2, hOl, hLl, ← Nat.add_mul]; congr 1; omega
                        split at ha
                        · -- its capacity is its length
                          have hcap := hf rfl
                          split at ha
                          · cases ha
                            obtain ⟨r', h1, h2, h3, h4⟩ := hR.newView (w' := w.drew.alloc (.cells (O.toArray ++ L.toArray ++ Builtin.zeroCells z.cells (grownCap w (n + m) cap e - (n + m))) e)) (e := e) (L := O ++ L)
                              (More.drew (More.alloc w.drew _ e (0, 0))) (_root_.Go.heap_alloc_new w.drew _) (by rw [Array.toList_append, Array.toList_append, List.toList_toArray, List.toList_toArray]) hall
                            rw [hs]
                            exact ⟨_, _, r', grows (by omega), h1, h2, .v _ 0 _ _ _ _ (Nat.le_refl _) h3 h4 hge⟩
                          cases ha
                          obtain ⟨r', h1, h2, h3⟩ := hR.newTok (w' := w.drew.alloc (.cells (O.toArray ++ L.toArray ++ Builtin.zeroCells z.cells (grownCap w (n + m) cap e - (n + m))) e)) (e := e) (i := i) (cs := old ++ cs) (n := n + m) (cap := grownCap w (n + m) cap e)
                            (More.drew (More.alloc w.drew _ e (0, 0))) (_root_.Go.heap_alloc_new w.drew _) hi hge hmx hCsz
                            (by rw [Array.toList_append, Array.toList_append, List.toList_toArray, List.toList_toArray, ← halll, List.take_left]; exact hall)
                          rw [hs]
                          exact ⟨_, _, r', grows (by omega), h1, h2, h3⟩
                        · -- a token's row
                          rename_i k
                          rw [hs] at ha
                          split at ha
                          · rename_i n' e' hk
                            split at ha
                            · rename_i hcc
                              simp only [Bool.and_eq_true, decide_eq_true_eq] at hcc
                              obtain ⟨rfl, rfl⟩ := hcc
                              cases ha
                              obtain ⟨n0, c0, B1, h1, h2, h3, h4⟩ := ht k rfl
                              obtain ⟨c2, i2, h5, h6, h7, h8, ⟨C, hC, hCs⟩, h9⟩ := hR.tk k B1 _ _ h2 hk
                              rw [h1] at h5
                              cases h5
                              rw [hi] at h6
                              cases h6
                              obtain ⟨rfl, rfl, rfl⟩ := h4 rfl
                              have hklt : k < r.ι.length := (List.getElem?_eq_some_iff.1 h2).1
                              have himmO : ∀ (x : Nat) (V : Value), r.imm B0 x = some V → (O ++ L)[x]? = some V := by
                                intro x V hx
                                have hxl : x < n' * i.size := by
                                  rcases Nat.lt_or_ge x (n' * i.size) with h | h
                                  · exact h
                                  · rw [h9 x h] at hx; cases hx
                                have e1 := hR.imm B0 x V hx
                                have e2 := hOrd x O[x] (by simp [hOl, hxl])
                                rw [Nat.zero_add] at e2
                                rw [e1] at e2
                                cases e2
                                rw [List.getElem?_append_left (by omega)]
                                simp [hOl, hxl]
                              by_cases hroom : n' + m ≤ cap
                              · have hfit : n' * i.size + L.length ≤ C.size := by rw [hLl, hCs, ← Nat.add_mul]; exact Nat.mul_le_mul_right _ hroom
                                have hrun := run_append_room (P := P) w t ty e' i hu hi B0 n' cap C hC ⟨B, o, none⟩ m c' L hLl (fun j V hj => by rw [addr_add]; exact hrd j V hj) (ones_rel hone hL) hroom hfit
                                have htk : C.toList.take (n' * i.size) = O := by
                                  apply List.ext_getElem?
                                  intro j
                                  rw [List.getElem?_take]
                                  split
                                  · rename_i hj
                                    have e2 := hOrd j O[j] (by simp [hOl, hj])
                                    simp only [World.cell?, hC, Nat.zero_add] at e2
                                    simp [hOl, hj] at e2 ⊢
                                    exact e2
                                  · rename_i hj
                                    rw [List.getElem?_eq_none (by omega)]
                                rw [htk] at hrun
                                obtain ⟨g1, g2⟩ := hR.goOn (k := k) (B1 := B0) (n1 := n' + m) (c1 := cap) (e := e') (i := i) (L := O ++ L) h2 h1 hi (w' := w.setRow B0 (O ++ L ++ C.toList.drop (n' * i.size + L.length)).toArray)
                                  (fun Bx hx _ => setRow_other w B0 Bx _ hx) (by simp [World.setRow]) rfl rfl rfl (.inl rfl) (setRow_heap w B0 C _ e' _ hC)
                                  (by simp only [List.size_toArray, List.length_append, List.length_drop, Array.length_toList]; omega) hroom h8 (by omega) halll
                                  (fun j V hj => by
                                    have hjl := (List.getElem?_eq_some_iff.1 hj).1
                                    simp only [List.getElem?_toArray]
                                    rw [List.getElem?_append_left hjl]; exact hj) (fun _ => himmO)
                                exact ⟨_, _, _, hrun, g1, g2, goOn_val hklt (hall.mono g1) hroom⟩
                              · obtain ⟨g1, g2⟩ := hR.goOn (k := k) (B1 := w.heap.size) (n1 := n' + m) (c1 := grownCap w (n' + m) cap e') (e := e') (i := i) (L := O ++ L) h2 h1 hi
                                  (w' := w.drew.alloc (.cells (O.toArray ++ L.toArray ++ Builtin.zeroCells z.cells (grownCap w (n' + m) cap e' - (n' + m))) e'))
                                  (fun Bx _ hlt => _root_.Go.heap_alloc_old w.drew _ hlt) (by simp) rfl rfl rfl (.inr rfl) (_root_.Go.heap_alloc_new w.drew _) hCsz hge hmx (by omega) halll
                                  (fun j V hj => by
                                    have hjl := (List.getElem?_eq_some_iff.1 hj).1
                                    have e3 : (O.toArray ++ L.toArray ++ Builtin.zeroCells z.cells (grownCap w (n' + m) cap e' - (n' + m)))[j]? = (O ++ L)[j]? := by
                                      rw [← Array.getElem?_toList, Array.toList_append, Array.toList_append, List.toList_toArray, List.toList_toArray, List.getElem?_append_left hjl]
                                    rw [e3]; exact hj) (fun e => by have := hR.lt' h2; omega)
                                exact ⟨_, _, _, grows (by omega), g1, g2, goOn_val hklt (hall.mono g1) hge⟩
                            · cases ha
                          · cases ha
                        · cases ha
                    · cases ha
                · cases ha
              · cases ha
            · cases ha
          · cases ha
        · cases ha
      · cases ha
    · cases ha
  · cases ha

theorem make_rel {zv : Value} {z : List AV} {n : Nat} (hzl : z = zv.cells.toList.map absC) : VRels r ((List.range n).map fun j => z.getD (j % z.length) .un) (madeCells zv.cells n).toList := by
  refine ⟨by simp [madeCells], fun j v V h4 h5 => ?_⟩
  simp only [madeCells, Array.toList_map, Array.toList_range, List.getElem?_map] at h4 h5
  cases hq : (List.range n)[j]? with
  | none => rw [hq] at h4; cases h4
  | some q =>
    rw [hq] at h4 h5
    simp only [Option.map_some, Option.some.injEq] at h4 h5
    subst h4; subst h5
    subst hzl
    by_cases hlt : q % zv.cells.size < zv.cells.size
    · have e1 : (zv.cells.toList.map absC).getD (q % (zv.cells.toList.map absC).length) .un = absC zv.cells[q % zv.cells.size] := by
        simp [List.getD_eq_getElem?_getD, hlt]
      have e2 : zv.cells[q % zv.cells.size]! = zv.cells[q % zv.cells.size] := by simp [hlt]
      rw [e1, e2]
      exact absC_rel _
    · have e1 : (zv.cells.toList.map absC).getD (q % (zv.cells.toList.map absC).length) .un = .un := by
        simp only [List.length_map, Array.length_toList, List.getD_eq_getElem?_getD, List.getElem?_map]
        rw [List.getElem?_eq_none (by simpa using hlt)]
        rfl
      rw [e1]
      exact .un _

theorem make_run (hR : R P w0 r h w) {t : TypeId} {x y v : AV} {s s' : HS} {X Y : Value} (hs : s.h = h) (hm : makeA P t x y s = some (v, s')) (hx : VRel r x X) (hy : VRel r y Y) :
    ∃ V w' r', (Instr.makeSlice t X Y).run P w = .ok V w' ∧ RLe r r' ∧ R P w0 r' s'.h w' ∧ VRel r' v V := by
  unfold makeA at hm
  split at hm
  · rename_i e kl l kc c hu
    cases hx
    cases hy
    split at hm
    · rename_i inf z hi hz
      split at hm
      · rename_i hc
        obtain ⟨h0, h1, h2, h3⟩ := hc
        obtain ⟨Z, hZ, hzl⟩ : ∃ Z, inf.zero = some Z ∧ z = Z.cells.toList.map absC := by
          unfold zerosA at hz
          rw [hi] at hz
          simp only at hz
          split at hz
          · rename_i Z hZ; cases hz; exact ⟨Z, hZ, rfl⟩
          · cases hz
        have hrun := run_make (P := P) w t e inf Z hu hi hZ kl kc l c h0 h1 h2 (by omega)
        split at hm
        · rename_i hl
          cases hm
          subst hl
          obtain ⟨r', a, b, d⟩ := hR.newTok (n := 0) (cap := c.toNat) (cs := []) (More.alloc w (madeCells Z.cells (c.toNat * inf.size)) e (0, 0)) (_root_.Go.heap_alloc_new w _) hi (Nat.zero_le _) (by simp only [maxLen]; omega) (size_madeCells _ _) (by simpa using VRels.nil)
          rw [hs]
          exact ⟨_, _, r', hrun, a, b, d⟩
        · cases hm
          have hrel : VRels r ((List.range (c.toNat * inf.size)).map fun j => z.getD (j % z.length) .un) (madeCells Z.cells (c.toNat * inf.size)).toList := make_rel hzl
          obtain ⟨r', a, b, d⟩ := hR.newCells hrel e
          rw [hs]
          refine ⟨_, _, r', hrun, a, by simpa using b, ?_⟩
          cases d with
          | p _ _ _ g1 g2 => exact .v _ 0 _ _ _ _ (by omega) g1 g2 (Nat.le_refl _)
      · cases hm
    · cases hm
  · cases hm
end
end Go.Ab
