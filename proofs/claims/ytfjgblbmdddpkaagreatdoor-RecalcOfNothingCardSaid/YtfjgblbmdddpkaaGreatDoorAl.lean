/- What regions whose order is open need: blocks that are laid ahead, operations that look at their operands alone, the trace of the walk. -/
import Derived.Test.YtfjgblbmdddpkaaGreatDoorAk
namespace Go.Ab
open Go.RowKit

section
variable {P : Program} {w0 : Base} {w : World} {r : RC} {h : AH} {call : CallT}

/-! ### Blocks laid ahead -/

def RC.fill (r : RC) (k B : Nat) : RC := { ι := r.ι.set k (some B), imm := r.imm, tk := fun x => if x = k then none else r.tk x, ρ := r.ρ }

theorem fill_old {k B x : Nat} (hx : x ≠ k) : (r.fill k B).ι[x]? = r.ι[x]? ∧ (r.fill k B).tk x = r.tk x := by
  simp [RC.fill, Ne.symm hx, hx]

theorem RL0.fill {k : Nat} (hk : r.ι[k]? = some none) (B : Nat) : RL0 r (r.fill k B) where
  ι x B' h1 h2 := by
    have hx : x ≠ k := fun e => by rw [e, hk] at h1; cases h1
    obtain ⟨a, b⟩ := fill_old (r := r) (B := B) hx
    exact ⟨a.trans h1, b.trans h2⟩
  imm _ _ _ h := h
  rho := rfl
  tk x n c B' h1 h2 := by
    have hx : x ≠ k := fun e => by rw [e, hk] at h2; cases h2
    obtain ⟨a, b⟩ := fill_old (r := r) (B := B) hx
    exact ⟨n, c, B', b.trans h1, a.trans h2, Nat.le_refl _, fun _ => ⟨rfl, rfl⟩⟩

theorem ORel.mono0 {r r' : RC} {w : World} {B : Nat} {t : Option (Nat × Nat)} {o : AO} (ho : ORel P r w B t o) (hle : RL0 r r') (hi : r'.imm = r.imm) : ORel P r' w B t o := by
  cases o with
  | cs l => obtain ⟨h1, L, el, ⟨M, h2⟩, h3⟩ := ho; exact ⟨h1, L, el, ⟨M, h2⟩, h3.mono0 hle⟩
  | mp es => obtain ⟨h1, E, c, h2, h3, h4, h5⟩ := ho; exact ⟨h1, E, c, h2, h3.mono0 hle, h4.mono0 hle, h5⟩
  | it s pos => exact ho
  | tk n e =>
    obtain ⟨c, i, h1, h2, h3, h4, h5, h7⟩ := ho
    exact ⟨c, i, h1, h2, h3, h4, h5, fun x hx => by rw [hi]; exact h7 x hx⟩

/-- A block that was laid ahead is laid. -/
theorem R.fill (hR : R P w0 r h w) {k : Nat} (hk : r.ι[k]? = some none) {l : List AV} {L : List Value} (hh : h[k]? = some (.cs l)) (hl : VRels r l L) (el : TypeId) :
    ∃ r', RL0 r r' ∧ (∀ x, x ≠ k → r'.ι[x]? = r.ι[x]?) ∧ R P w0 r' h (w.alloc (.cells L.toArray el)) ∧ r'.ι[k]? = some (some w.heap.size) ∧ r'.tk k = none := by
  obtain ⟨hle, hR1⟩ := hR.row (More.alloc w L.toArray el (0, 0)) 0
  generalize hr1 : r.row w.heap.size (L.toArray.toList.take 0) = r1 at hle hR1
  have hι : r1.ι = r.ι := by rw [← hr1]; rfl
  have hk1 : r1.ι[k]? = some none := by rw [hι]; exact hk
  have hf : ∀ x : Nat, r1.ι[x]? ≠ some (some w.heap.size) := by rw [hι]; exact hR.untracked
  have him : ∀ x, r1.imm w.heap.size x = none := fun x => by rw [← hr1, RC.row_at]; simp
  have hlt : k < r1.ι.length := (List.getElem?_eq_some_iff.1 hk1).1
  have h0 := RL0.fill hk1 w.heap.size
  have hself : (r1.fill k w.heap.size).ι[k]? = some (some w.heap.size) := by simp [RC.fill, hlt]
  have hselft : (r1.fill k w.heap.size).tk k = none := by simp [RC.fill]
  refine ⟨r1.fill k w.heap.size, hle.toRL0.trans h0, fun x hx => by rw [(fill_old hx).1, hι], ?_, hself, hselft⟩
  refine .mk' (by simp [RC.fill, hR1.len]) (fun x B o h1 h2 => ?_) hR1.imm (fun x B h1 h2 y => ?_) (fun x y B h1 h2 => ?_) (fun x B h1 => ?_) hR1.bel hR1.rho hR1.old
  · by_cases hx : x = k
    · subst hx
      rw [hself] at h1; cases h1
      rw [hh] at h2; cases h2
      rw [hselft]
      exact ⟨rfl, L, el, ⟨[], by rw [List.append_nil]; exact _root_.Go.heap_alloc_new w _⟩, (hl.mono hle).mono0 h0⟩
    · obtain ⟨e1, e2⟩ := fill_old (r := r1) (B := w.heap.size) hx
      rw [e1] at h1
      rw [e2]
      exact (hR1.orel h1 h2).mono0 h0 rfl
  · by_cases hx : x = k
    · subst hx
      rw [hself] at h1; cases h1
      exact him y
    · obtain ⟨e1, e2⟩ := fill_old (r := r1) (B := w.heap.size) hx
      rw [e1] at h1
      rw [e2] at h2
      exact hR1.dis x B h1 h2 y
  · by_cases hx : x = k <;> by_cases hy : y = k
    · rw [hx, hy]
    · subst hx
      rw [hself] at h1; cases h1
      rw [(fill_old hy).1] at h2
      exact absurd h2 (hf y)
    · subst hy
      rw [hself] at h2; cases h2
      rw [(fill_old hx).1] at h1
      exact absurd h1 (hf x)
    · rw [(fill_old hx).1] at h1
      rw [(fill_old hy).1] at h2
      exact hR1.nd x y B h1 h2
  · by_cases hx : x = k
    · subst hx
      rw [hself] at h1; cases h1
      exact .inl hR.bel.size
    · rw [(fill_old hx).1] at h1
      exact hR1.new x B h1

/-- Blocks that are laid ahead. -/
theorem pre_sound : ∀ (zs : List (List AV)) {h : AH} {r : RC}, R P w0 r h w → ∃ r', RLe r r' ∧ R P w0 r' (h ++ zs.map AO.cs) w ∧ ∀ k, h.length ≤ k → k < (h ++ zs.map AO.cs).length → r'.ι[k]? = some none := by
  intro zs
  induction zs with
  | nil => intro h r hR; exact ⟨r, .refl r, by simpa using hR, fun k h1 h2 => absurd h2 (by simp; omega)⟩
  | cons z zs ih =>
    intro h r hR
    have hR1 : R P w0 (r.push none none) (h ++ [.cs z]) w := by
      have hle := RLe.push r none none
      refine .mk' (by simp [RC.push, hR.len]) (fun k B' o' h1 h2 => ?_) hR.imm (fun k B' h1 h2 x => ?_) (fun k k' B' h1 h2 => ?_) (fun k B' h1 => ?_) hR.bel hR.rho hR.old
      · rcases push_cases h1 with ⟨h3, hlt⟩ | ⟨rfl, h3⟩
        · rw [List.getElem?_append_left (by rw [← hR.len]; exact hlt)] at h2
          rw [(push_old h3).2]
          exact (hR.orel h3 h2).mono hle rfl fun _ _ _ _ hx => hx
        · cases h3
      · rcases push_cases h1 with ⟨h3, hlt⟩ | ⟨rfl, h3⟩
        · rw [(push_old h3).2] at h2; exact hR.dis k B' h3 h2 x
        · cases h3
      · rcases push_cases h1 with ⟨h3, hlt⟩ | ⟨rfl, h3⟩ <;> rcases push_cases h2 with ⟨h4, hlt'⟩ | ⟨rfl, h4⟩
        · exact hR.nd k k' B' h3 h4
        · cases h4
        · cases h3
        · rfl
      · rcases push_cases h1 with ⟨h3, hlt⟩ | ⟨rfl, h3⟩
        · exact hR.new k B' h3
        · cases h3
    obtain ⟨r', h1, h2, h3⟩ := ih hR1
    rw [List.append_assoc] at h2 h3
    refine ⟨r', (RLe.push _ _ _).trans h1, h2, fun k h4 h5 => ?_⟩
    rcases Nat.lt_or_ge h.length k with h6 | h6
    · exact h3 k (by simp; omega) h5
    · have hk : k = r.ι.length := by rw [hR.len]; omega
      subst hk
      exact h1.gh _ push_new.1

/-- What is laid down is what the operation lays. -/
theorem lay_run {op : Op} {ev : Operand → AV} {a : Act} {z : List AV} {f : Nat → AV} (hl : layA P op ev = some (z, f)) (hev : ∀ x, VRel r (ev x) (a.eval x)) :
    ∃ (L : List Value) (el : TypeId) (V : Value), VRels r z L ∧ (∀ (r2 : RC) (k : Nat), r2.ι[k]? = some (some w.heap.size) → r2.tk k = none → VRel r2 (f k) V) ∧
      ((∃ t, op = .alloc t ∧ (Instr.alloc t true (.tuple #[])).run P w = .ok V (w.alloc (.cells L.toArray el))) ∨ (∃ t x y, op = .makeSlice t x y ∧ (Instr.makeSlice t (a.eval x) (a.eval y)).run P w = .ok V (w.alloc (.cells L.toArray el)))) := by
  unfold layA at hl
  split at hl
  · rename_i t
    split at hl
    · rename_i z' hz
      cases hl
      obtain ⟨Z, hZ, hzr⟩ := zeros_run (P := P) (w := w) (r := r) hz
      exact ⟨Z.cells.toList, t, .pointer (some ⟨w.heap.size, 0, none⟩), hzr, fun r2 k h1 h2 => .p _ _ _ h1 h2, .inl ⟨t, rfl, by simp [Instr.alloc, hZ, newVar, newRow]⟩⟩
    · cases hl
  · rename_i t x y
    split at hl
    · rename_i e kl l kc c hu hx hy
      have vx := hev x
      have vy := hev y
      rw [hx] at vx
      rw [hy] at vy
      generalize hX : a.eval x = X at vx
      generalize hY : a.eval y = Y at vy
      cases vx
      cases vy
      split at hl
      · rename_i inf z' hi hz
        split at hl
        · rename_i hc
          obtain ⟨h0, h1, h2, h3⟩ := hc
          cases hl
          obtain ⟨Z, hZ, hzl⟩ : ∃ Z, inf.zero = some Z ∧ z' = Z.cells.toList.map absC := by
            unfold zerosA at hz
            rw [hi] at hz
            simp only at hz
            split at hz
            · rename_i Z hZ; cases hz; exact ⟨Z, hZ, rfl⟩
            · cases hz
          have hrun := run_make (P := P) w t e inf Z hu hi hZ kl kc l c h0 h1 h2 (by omega)
          refine ⟨(madeCells Z.cells (c.toNat * inf.size)).toList, e, _, make_rel hzl, fun r2 k g1 g2 => .v k 0 _ _ _ _ (by omega) g1 g2 (Nat.le_refl _), .inr ⟨t, x, y, rfl, ?_⟩⟩
          rw [hX, hY]
          exact hrun
        · cases hl
      · cases hl
    · cases hl
  · cases hl

/-! ### Operations look at their operands alone -/

theorem opB_congr {op : Op} {ev ev' : Operand → AV} {s : HS} (h : ∀ x ∈ op.operands, ev x = ev' x) : opB P call op ev s = opB P call op ev' s := by
  have pairs : ∀ ps : Array (Nat × Operand), (∀ x ∈ ps.map (·.2), ev x = ev' x) → (ps.toList.map fun q => (q.1, ev q.2)) = (ps.toList.map fun q => (q.1, ev' q.2)) := fun ps hp =>
    List.map_congr_left fun p hm => by rw [hp p.2 (Array.mem_map.2 ⟨p, by simpa using hm, rfl⟩)]
  have arr : ∀ ps : Array Operand, (∀ x ∈ ps, ev x = ev' x) → ps.toList.map ev = ps.toList.map ev' := fun ps hp =>
    List.map_congr_left fun p hm => hp p (by simpa using hm)
  cases op <;> simp only [Op.operands] at h <;> simp only [opB]
  case build t ps => rw [pairs ps fun x hx => h x (by simpa using hx)]
  case buildSlice t n ps => rw [pairs ps fun x hx => h x (by simpa using hx)]
  case makeFunc fn first captured => rw [arr first fun x hx => h x (by simp [hx]), arr captured fun x hx => h x (by simp [hx])]
  case call c =>
    cases hc : c.callee with
    | builtin b => simp only; rw [arr c.args fun x hx => h x (by simp [Call.operands, hx])]
    | value f => simp only; rw [arr c.args fun x hx => h x (by simp [Call.operands, hx]), h f (by simp [Call.operands, hc])]
    | invoke x y => rfl
  case slice t x lo hi mx => cases lo <;> cases hi <;> cases mx <;> simp_all
  case makeMap t z => cases z <;> rfl
  all_goals (first | rfl | (simp_all; done))

theorem lay_congr {op : Op} {ev ev' : Operand → AV} (h : ∀ x ∈ op.operands, ev x = ev' x) : layA P op ev = layA P op ev' := by
  cases op <;> simp only [Op.operands] at h <;> simp only [layA]
  case makeSlice t x y => rw [h x (by simp), h y (by simp)]

theorem key_congr {op : Op} {ev ev' : Operand → AV} (h : ∀ x ∈ op.operands, ev x = ev' x) : keyOf op ev = keyOf op ev' := by
  cases op <;> simp only [Op.operands] at h <;> simp only [keyOf]
  case call c =>
    have arr : ∀ x ∈ c.args.toList, ev x = ev' x := fun x hx => h x (by simp [Call.operands]; exact .inr (by simpa using hx))
    split
    · rename_i x _ _ h3; rw [h3] at arr; simp at arr; simp [*]
    · rename_i x y _ h3; rw [h3] at arr; simp at arr; simp [*]
    · rename_i x y _ h3; rw [h3] at arr; simp at arr; simp [*]
    · rfl
  case slice t x lo hi mx => cases lo <;> cases hi <;> cases mx <;> simp_all
  all_goals (first | rfl | (simp_all; done))

theorem opA_congr {op : Op} {ev ev' : Operand → AV} {s : HS} (h : ∀ x ∈ op.operands, ev x = ev' x) : opA P call op ev s = opA P call op ev' s := by
  unfold opA askA
  rw [opB_congr h, key_congr h]

theorem v1_val {x : Option AV} {s s1 : HS} {res : OR} (h : v1 x s = some (res, s1)) : ∃ v, res = .val v ∧ s1 = s ∧ ∀ s2, v1 x s2 = some (.val v, s2) := by
  cases x with
  | none => cases h
  | some v => cases h; exact ⟨v, rfl, rfl, fun _ => rfl⟩

/-- Operations of kind 0 and 1 come to a value, or to nothing; memory stays. -/
theorem kind01 {op : Op} {ev : Operand → AV} (hk : kindOf op = 0 ∨ kindOf op = 1) : ∃ f : AH → Option AV, (kindOf op = 0 → ∀ h h', f h = f h') ∧ ∀ s, opB P call op ev s = v1 (f s.h) s := by
  have no : ∀ {p : Prop}, ∃ f : AH → Option AV, (p → ∀ h h', f h = f h') ∧ ∀ s : HS, (none : Option (OR × HS)) = v1 (f s.h) s := fun {p} => ⟨fun _ => none, fun _ _ _ => rfl, fun _ => rfl⟩
  cases op <;> simp only [kindOf] at hk ⊢ <;> first
    | (exfalso; omega)
    | (simp only [opB]; first
        | exact ⟨fun _ => _, fun _ _ _ => rfl, fun _ => rfl⟩
        | exact ⟨fun _ => some _, fun _ _ _ => rfl, fun _ => rfl⟩
        | exact ⟨fun h => _, fun x => by omega, fun _ => rfl⟩
        | (split <;> first
            | exact ⟨fun _ => _, fun _ _ _ => rfl, fun _ => rfl⟩
            | exact ⟨fun _ => some _, fun _ _ _ => rfl, fun _ => rfl⟩
            | exact ⟨fun _ => none, fun _ _ _ => rfl, fun _ => rfl⟩))
    | skip
  case makeSlice t x y => exfalso; split at hk <;> omega
  case call c =>
    simp only [opB]
    split at hk <;> rename_i hc <;> first
      | (exfalso; omega)
      | skip
    · simp only [hc]
      generalize c.args.toList.map ev = xs
      generalize c.argTypes.toList = ts
      match xs, ts with
      | [x], [t] => exact ⟨fun h => lenA P t x h, fun x => by omega, fun _ => rfl⟩
      | [x], [] => exact no
      | [x], _ :: _ :: _ => exact no
      | [], _ => exact no
      | _ :: _ :: _, _ => exact no
    · simp only [hc, builtinA]
      exact ⟨fun _ => _, fun _ _ _ => rfl, fun _ => rfl⟩
    · simp only [hc, builtinA]
      exact ⟨fun _ => _, fun _ _ _ => rfl, fun _ => rfl⟩

theorem kind01A {op : Op} {ev : Operand → AV} (hk : kindOf op = 0 ∨ kindOf op = 1) : ∃ f : AH → Option AV, (kindOf op = 0 → ∀ h h', f h = f h') ∧ ∀ s, opA P call op ev s = v1 (f s.h) s := by
  obtain ⟨f, h1, h2⟩ := kind01 (P := P) (call := call) (ev := ev) hk
  refine ⟨fun h => (f h).or (askA call op ev), fun h0 x y => by simp only [h1 h0 x y], fun s => ?_⟩
  unfold opA
  rw [h2]
  show _ = v1 ((f s.h).or (askA call op ev)) s
  cases f s.h <;> rfl

theorem kind0 {op : Op} {ev : Operand → AV} {s s1 : HS} {v : AV} (hk : kindOf op = 0) (h : opA P call op ev s = some (.val v, s1)) : s1 = s ∧ ∀ s2, opA P call op ev s2 = some (.val v, s2) := by
  obtain ⟨f, h1, h2⟩ := kind01A (P := P) (call := call) (ev := ev) (.inl hk)
  rw [h2] at h
  obtain ⟨u, h3, h4, h5⟩ := v1_val h
  cases h3
  exact ⟨h4, fun s2 => by rw [h2, h1 hk s2.h s.h]; exact h5 s2⟩

theorem kind1 {op : Op} {ev : Operand → AV} {s s1 : HS} {res : OR} (hk : kindOf op = 1) (h : opA P call op ev s = some (res, s1)) : ∃ v, res = .val v ∧ s1 = s ∧ ∀ s2 : HS, s2.h = s.h → opA P call op ev s2 = some (.val v, s2) := by
  obtain ⟨f, h1, h2⟩ := kind01A (P := P) (call := call) (ev := ev) (.inr hk)
  rw [h2] at h
  obtain ⟨u, h3, h4, h5⟩ := v1_val h
  exact ⟨u, h3, h4, fun s2 e => by rw [h2, e]; exact h5 s2⟩
end
end Go.Ab
