/- Operations that turn abstract memory: new blocks, stores, maps that are written, append. -/
import Derived.Test.YtfjgblbmdddpkaaGreatDoorAg
namespace Go.Ab
open Go.RowKit

section
variable {P : Program} {w0 : Base} {w : World} {r : RC} {h : AH}

/-- How an abstract block stands to a block. -/
def ORel (P : Program) (r : RC) (w : World) (B : Nat) (t : Option (Nat × Nat)) : AO → Prop
  | .cs l => t = none ∧ ∃ L el, (∃ M, w.heap[B]? = some (.cells (L ++ M).toArray el (0, 0))) ∧ VRels r l L
  | .mp es => t = none ∧ ∃ E clk, w.heap[B]? = some (.map E clk) ∧ VRels r (es.map (·.1)) (E.toList.map (·.key)) ∧ VRels r (es.map (·.2)) (E.toList.map (·.val)) ∧ Born E clk
  | .it s pos => t = none ∧ w.heap[B]? = some (.stringIter ⟨s.toArray⟩ pos)
  | .tk n e => ∃ c i, t = some (n, c) ∧ P.info? e = some i ∧ n ≤ c ∧ c ≤ maxLen ∧ (∃ C, w.heap[B]? = some (.cells C e (0, 0)) ∧ C.size = c * i.size) ∧ ∀ o, n * i.size ≤ o → r.imm B o = none

theorem R.orel (hR : R P w0 r h w) {k B : Nat} {o : AO} (h1 : r.ι[k]? = some (some B)) (h2 : h[k]? = some o) : ORel P r w B (r.tk k) o := by
  cases o with
  | cs l => exact hR.cs k B l h1 h2
  | mp es => exact hR.mp k B es h1 h2
  | it s pos => exact hR.it k B s pos h1 h2
  | tk n e => exact hR.tk k B n e h1 h2

/-- The same relation out of its parts. -/
theorem R.mk' (len : r.ι.length = h.length) (ho : ∀ (k B : Nat) (o : AO), r.ι[k]? = some (some B) → h[k]? = some o → ORel P r w B (r.tk k) o)
    (imm : ∀ B o V, r.imm B o = some V → w.cell? ⟨B, o, none⟩ = some V) (dis : ∀ (k B : Nat), r.ι[k]? = some (some B) → r.tk k = none → ∀ o, r.imm B o = none)
    (nd : ∀ (k k' B : Nat), r.ι[k]? = some (some B) → r.ι[k']? = some (some B) → k = k') (new : ∀ (k B : Nat), r.ι[k]? = some (some B) → w0.may B) (bel : Kept w0 w) (rho : r.ρ = w0.ρ) (old : ∀ B o V, r.imm B o = some V → w0.may B ∨ w0.im B o = some V) : R P w0 r h w where
  len := len
  cs k B _ h1 h2 := ho k B _ h1 h2
  mp k B _ h1 h2 := ho k B _ h1 h2
  it k B _ _ h1 h2 := ho k B _ h1 h2
  tk k B _ _ h1 h2 := ho k B _ h1 h2
  imm := imm
  dis := dis
  nd := nd
  new := new
  bel := bel
  rho := rho
  old := old

theorem ORel.mono {r r' : RC} {w w' : World} {B : Nat} {t : Option (Nat × Nat)} {o : AO} (ho : ORel P r w B t o) (hle : RLe r r') (hw : w'.heap[B]? = w.heap[B]?) (hi : ∀ n e, o = .tk n e → ∀ x, r.imm B x = none → r'.imm B x = none) : ORel P r' w' B t o := by
  cases o with
  | cs l => obtain ⟨h1, L, el, ⟨M, h2⟩, h3⟩ := ho; exact ⟨h1, L, el, ⟨M, by rw [hw]; exact h2⟩, h3.mono hle⟩
  | mp es => obtain ⟨h1, E, c, h2, h3, h4, h5⟩ := ho; exact ⟨h1, E, c, by rw [hw]; exact h2, h3.mono hle, h4.mono hle, h5⟩
  | it s pos => obtain ⟨h1, h2⟩ := ho; exact ⟨h1, by rw [hw]; exact h2⟩
  | tk n e =>
    obtain ⟨c, i, h1, h2, h3, h4, ⟨C, h5, h6⟩, h7⟩ := ho
    exact ⟨c, i, h1, h2, h3, h4, ⟨C, by rw [hw]; exact h5, h6⟩, fun x hx => hi n e rfl x (h7 x hx)⟩

def RC.push (r : RC) (B : Option Nat) (t : Option (Nat × Nat)) : RC := { ι := r.ι ++ [B], imm := r.imm, tk := fun k => if k = r.ι.length then t else r.tk k, ρ := r.ρ }

theorem push_old {B : Option Nat} {t : Option (Nat × Nat)} {k : Nat} {x : Option Nat} (hk : r.ι[k]? = some x) : (r.push B t).ι[k]? = some x ∧ (r.push B t).tk k = r.tk k := by
  have hlt : k < r.ι.length := (List.getElem?_eq_some_iff.1 hk).1
  refine ⟨?_, ?_⟩
  · simp only [RC.push]; rw [List.getElem?_append_left hlt]; exact hk
  · simp only [RC.push]; rw [if_neg (by omega)]

theorem push_new {B : Option Nat} {t : Option (Nat × Nat)} : (r.push B t).ι[r.ι.length]? = some B ∧ (r.push B t).tk r.ι.length = t := by simp [RC.push]

theorem RLe.push (r : RC) (B : Option Nat) (t : Option (Nat × Nat)) : RLe r (r.push B t) where
  ι k B' h1 h2 := by obtain ⟨a, b⟩ := push_old (B := B) (t := t) h1; exact ⟨a, b.trans h2⟩
  imm _ _ _ h := h
  rho := rfl
  tk k n c B' h1 h2 := by
    obtain ⟨a, b⟩ := push_old (B := B) (t := t) h2
    exact ⟨n, c, B', b.trans h1, a, Nat.le_refl _, fun _ => ⟨rfl, rfl⟩⟩
  gh k h1 := (push_old h1).1

theorem push_cases {B : Option Nat} {t : Option (Nat × Nat)} {k : Nat} {x : Option Nat} (hk : (r.push B t).ι[k]? = some x) : (r.ι[k]? = some x ∧ k < r.ι.length) ∨ (k = r.ι.length ∧ x = B) := by
  simp only [RC.push] at hk
  rcases Nat.lt_or_ge k r.ι.length with h | h
  · rw [List.getElem?_append_left h] at hk; exact .inl ⟨hk, h⟩
  · rw [List.getElem?_append_right h] at hk
    rcases Nat.eq_zero_or_pos (k - r.ι.length) with h0 | h0
    · rw [h0] at hk; simp at hk; exact .inr ⟨by omega, hk.symm⟩
    · rw [List.getElem?_eq_none (by simp; omega)] at hk; cases hk

/-- A block that is there is told by a new abstract one. -/
theorem R.track (hR : R P w0 r h w) (o : AO) (t : Option (Nat × Nat)) (B : Nat) (hfree : ∀ k : Nat, r.ι[k]? ≠ some (some B)) (hnew : w0.may B) (hobj : ORel P r w B t o) (himm : t = none → ∀ x, r.imm B x = none) :
    R P w0 (r.push (some B) t) (h ++ [o]) w := by
  have hle := RLe.push r (some B) t
  refine .mk' (by simp [RC.push, hR.len]) (fun k B' o' h1 h2 => ?_) hR.imm (fun k B' h1 h2 x => ?_) (fun k k' B' h1 h2 => ?_) (fun k B' h1 => ?_) hR.bel hR.rho hR.old
  · rcases push_cases h1 with ⟨h3, hlt⟩ | ⟨rfl, h3⟩
    · rw [List.getElem?_append_left (by rw [← hR.len]; exact hlt)] at h2
      rw [(push_old h3).2]
      exact (hR.orel h3 h2).mono hle rfl fun _ _ _ _ hx => hx
    · cases h3
      rw [hR.len] at h2
      simp at h2
      subst h2
      rw [push_new.2]
      exact hobj.mono hle rfl fun _ _ _ _ hx => hx
  · rcases push_cases h1 with ⟨h3, hlt⟩ | ⟨rfl, h3⟩
    · rw [(push_old h3).2] at h2; exact hR.dis k B' h3 h2 x
    · cases h3; rw [push_new.2] at h2; exact himm h2 x
  · rcases push_cases h1 with ⟨h3, hlt⟩ | ⟨rfl, h3⟩ <;> rcases push_cases h2 with ⟨h4, hlt'⟩ | ⟨rfl, h4⟩
    · exact hR.nd k k' B' h3 h4
    · cases h4; exact absurd h3 (hfree k)
    · cases h3; exact absurd h4 (hfree k')
    · rfl
  · rcases push_cases h1 with ⟨h3, hlt⟩ | ⟨rfl, h3⟩
    · exact hR.new k B' h3
    · cases h3; exact hnew

theorem R.untracked (hR : R P w0 r h w) (k : Nat) : r.ι[k]? ≠ some (some w.heap.size) := fun hk => absurd (hR.lt' hk) (by omega)

/-- What a new block of cells adds, told by a new abstract block. -/
theorem R.newCells (hR : R P w0 r h w) {l : List AV} {L : List Value} (hl : VRels r l L) (el : TypeId) :
    ∃ r', RLe r r' ∧ R P w0 r' (h ++ [.cs l]) (w.alloc (.cells L.toArray el)) ∧ VRel r' (.p h.length 0) (.pointer (some ⟨w.heap.size, 0, none⟩)) := by
  obtain ⟨hle, hR1⟩ := hR.row (More.alloc w L.toArray el (0, 0)) 0
  have hf : ∀ k : Nat, (r.row w.heap.size (L.toArray.toList.take 0)).ι[k]? ≠ some (some w.heap.size) := hR.untracked
  have hR2 := hR1.track (.cs l) none w.heap.size hf (.inl hR.bel.size) ⟨rfl, L, el, ⟨[], by rw [List.append_nil]; exact _root_.Go.heap_alloc_new w _⟩, hl.mono hle⟩ (fun _ x => by rw [RC.row_at]; simp)
  refine ⟨_, hle.trans (RLe.push _ _ _), hR2, ?_⟩
  have := push_new (r := r.row w.heap.size (L.toArray.toList.take 0)) (B := some w.heap.size) (t := none)
  have hlen : (r.row w.heap.size (L.toArray.toList.take 0)).ι.length = h.length := hR.len
  rw [hlen] at this
  exact .p _ _ _ this.1 this.2

theorem R.newMap (hR : R P w0 r h w) : ∃ r', RLe r r' ∧ R P w0 r' (h ++ [.mp []]) (w.alloc (.map #[] 0)) ∧ VRel r' (.m h.length) (.map (some w.heap.size)) := by
  have hobj : R P w0 r h (w.alloc (.map #[] 0)) := by
    refine .mk' hR.len (fun k B o h1 h2 => ?_) (fun B o V hi => ?_) hR.dis hR.nd hR.new (hR.bel.alloc _) hR.rho hR.old
    · exact (hR.orel h1 h2).mono (.refl r) (_root_.Go.heap_alloc_old w _ (hR.heap_lt h1 h2)) fun _ _ _ _ hx => hx
    · have := hR.imm B o V hi
      have hlt := hR.lt hi
      simp only [World.cell?, _root_.Go.heap_alloc_old w _ hlt] at this ⊢
      exact this
  have hR2 := hobj.track (.mp []) none w.heap.size hR.untracked (.inl hR.bel.size) ⟨rfl, #[], 0, _root_.Go.heap_alloc_new w _, .nil, .nil, rfl, fun i e h => by simp at h⟩ (fun _ x => by
    cases hx : r.imm w.heap.size x with
    | none => rfl
    | some V => exact absurd (hR.lt hx) (by omega))
  refine ⟨_, RLe.push _ _ _, hR2, ?_⟩
  have := push_new (r := r) (B := some w.heap.size) (t := none)
  rw [hR.len] at this
  exact .m _ _ this.1 this.2

/-- One block is another one. -/
theorem R.upd (hR : R P w0 r h w) {k B : Nat} (hk : r.ι[k]? = some (some B)) (ht : r.tk k = none) {w' : World} (ho : ∀ i, i ≠ B → w'.heap[i]? = w.heap[i]?) (hs : w'.heap.size = w.heap.size) (h1 : w'.os = w.os) (h2 : w'.tape = w.tape) (h3 : w'.output = w.output)
    {o' : AO} (hobj : ORel P r w' B none o') : R P w0 r (h.set k o') w' := by
  refine .mk' (by simp [hR.len]) (fun k' B' o h4 h5 => ?_) (fun B' o V hi => ?_) hR.dis hR.nd hR.new ?_ hR.rho hR.old
  · by_cases hkk : k = k'
    · subst hkk
      rw [hk] at h4; cases h4
      have hlt : k < h.length := by rw [← hR.len]; exact (List.getElem?_eq_some_iff.1 hk).1
      simp [hlt] at h5
      subst h5
      rw [ht]; exact hobj
    · rw [List.getElem?_set, if_neg hkk] at h5
      have hne : B' ≠ B := fun e => hkk (hR.nd k k' B hk (e ▸ h4))
      exact (hR.orel h4 h5).mono (.refl r) (ho B' hne) fun _ _ _ _ hx => hx
  · have hne : B' ≠ B := fun e => by have := hR.dis k B hk ht o; rw [e, this] at hi; cases hi
    have := hR.imm B' o V hi
    simp only [World.cell?, ho B' hne] at this ⊢
    exact this
  · exact ⟨h1.trans hR.bel.os, h2.trans hR.bel.tape, h3.trans hR.bel.output, by rw [hs]; exact hR.bel.size, fun i hi hown => by
      rw [ho i (fun e => (hR.new k B hk).elim (fun h => by omega) fun h => by rw [e, h] at hown; cases hown)]; exact hR.bel.block i hi hown⟩

theorem store_run (hR : R P w0 r h w) {t : TypeId} {x v : AV} {s s' : HS} {X V : Value} (hs : s.h = h) (hst : storeA P t x v s = some s') (hx : VRel r x X) (hv : VRel r v V) :
    ∃ w', (Instr.storeAt t X V).run P w = .ok () w' ∧ R P w0 r s'.h w' := by
  unfold storeA at hst
  split at hst
  · rename_i k off cs n hc hn
    split at hst
    · rename_i l hk
      split at hst
      · rename_i hcc
        simp only [Bool.and_eq_true, decide_eq_true_eq, Nat.ble_eq] at hcc
        obtain ⟨⟨hcl, hone⟩, hfit⟩ := hcc
        cases hst
        rw [hs] at hk
        cases hx with
        | p _ _ B h1 h2 =>
          obtain ⟨_, L, el, ⟨M, hL⟩, hl⟩ := hR.cs _ B l h1 hk
          obtain ⟨D, hD, hd⟩ := cells_rel hc hv
          have hdl := hd.1
          have hll := hl.1
          have hrun := run_storeCells_at P B off el D 0 (L ++ M).toArray w hL (by simp; omega) (ones_rel hone hd)
          simp only [Nat.add_zero] at hrun
          have hspl : (L ++ M).take off ++ D ++ (L ++ M).drop (off + D.length) = (L.take off ++ D ++ L.drop (off + D.length)) ++ M := by
            rw [List.take_append_of_le_length (by omega), List.drop_append_of_le_length (by omega), List.append_assoc]
            simp only [List.append_assoc]
          rw [hspl] at hrun
          refine ⟨w.setRow B ((L.take off ++ D ++ L.drop (off + D.length)) ++ M).toArray, ?_, ?_⟩
          · have hne : ¬ (V.cells.size ≠ n) := by rw [hD]; simp; omega
            simp only [Instr.storeAt, Instr.sureAddr, Sem.run_bind, Sem.run_pure, Result.andThen_ok, storeVar, size_run hn, if_neg hne]
            rw [hD]
            exact hrun
          · simp only [hs]
            refine hR.upd h1 h2 (fun i hi => setRow_other w B i _ hi) (by simp [World.setRow]) rfl rfl rfl ⟨rfl, _, el, ⟨M, setRow_heap w B _ _ el _ hL⟩, ?_⟩
            exact splice_rel hl hd
      · cases hst
    · cases hst
  · cases hst
end
end Go.Ab
