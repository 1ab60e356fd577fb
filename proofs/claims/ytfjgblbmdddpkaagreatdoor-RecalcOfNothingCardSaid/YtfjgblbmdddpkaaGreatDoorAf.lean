/- Operations that turn no abstract memory, third part: slices, conversions, composite values, maps that are read; what a new row that nobody writes adds. -/
import Derived.Test.YtfjgblbmdddpkaaGreatDoorAe
import Derived.Lib.ConvBytes
namespace Go.Ab
open Go.RowKit

section
variable {P : Program} {w0 : Base} {w : World} {r : RC} {h : AH}

/-- A computation that gives a value that is told; abstract memory is as it was. -/
def GivesR (P : Program) (w0 : Base) (r : RC) (h : AH) (w : World) (s : Sem Value) (v : AV) : Prop :=
  ∃ V w' r', s.run P w = .ok V w' ∧ RLe r r' ∧ R P w0 r' h w' ∧ VRel r' v V

theorem Gives.toR {s : Sem Value} {v : AV} (hR : R P w0 r h w) (hg : Gives P r w s v) : GivesR P w0 r h w s v := by
  obtain ⟨V, w', h1, h2, h3⟩ := hg
  exact ⟨V, w', r, h1, .refl r, hR.sm h2, h3⟩

/-! ### A new row that nobody writes -/
def RC.row (r : RC) (B : Nat) (L : List Value) : RC := { r with imm := fun B' o => if B' = B then L[o]? else r.imm B' o }

theorem R.lt (hR : R P w0 r h w) {B o : Nat} {V : Value} (hi : r.imm B o = some V) : B < w.heap.size := World.block_lt_of_cell? w _ (hR.imm B o V hi)

/-- What is needed of a world in which one block more lies than in another one. -/
structure More (w w' : World) (C : Array Value) : Prop where
  old : ∀ k, k < w.heap.size → w'.heap[k]? = w.heap[k]?
  new : ∃ el fr, w'.heap[w.heap.size]? = some (.cells C el fr)
  size : w.heap.size ≤ w'.heap.size
  os : w'.os = w.os
  tape : w'.tape = w.tape
  output : w'.output = w.output

theorem More.alloc (w : World) (C : Array Value) (el : TypeId) (fr : Nat × Nat) : More w (w.alloc (.cells C el fr)) C where
  old k hk := _root_.Go.heap_alloc_old w _ hk
  new := ⟨el, fr, _root_.Go.heap_alloc_new w _⟩
  size := by simp
  os := rfl
  tape := rfl
  output := rfl

theorem More.drew {w w' : World} {C : Array Value} (hm : More w.drew w' C) : More w w' C := ⟨hm.old, hm.new, hm.size, hm.os, hm.tape, hm.output⟩

theorem R.heap_lt (hR : R P w0 r h w) {k B : Nat} {o : AO} (h1 : r.ι[k]? = some (some B)) (h2 : h[k]? = some o) : B < w.heap.size := by
  have aux : ∀ {X : Obj}, w.heap[B]? = some X → B < w.heap.size := fun hx => (Array.getElem?_eq_some_iff.1 hx).1
  cases o with
  | cs l => obtain ⟨_, L, el, ⟨M, hL⟩, _⟩ := hR.cs k B l h1 h2; exact aux hL
  | mp es => obtain ⟨_, E, c, hE, _⟩ := hR.mp k B es h1 h2; exact aux hE
  | it s pos => exact aux (hR.it k B s pos h1 h2).2
  | tk n e => obtain ⟨c, i, _, _, _, _, ⟨C, hC, _⟩, _⟩ := hR.tk k B n e h1 h2; exact aux hC

theorem R.obj (hR : R P w0 r h w) {k B : Nat} (h1 : r.ι[k]? = some (some B)) : ∃ o, h[k]? = some o := by
  have hlt : k < r.ι.length := (List.getElem?_eq_some_iff.1 h1).1
  rw [hR.len] at hlt
  exact ⟨h[k], by simp [hlt]⟩

theorem R.lt' (hR : R P w0 r h w) {k B : Nat} (h1 : r.ι[k]? = some (some B)) : B < w.heap.size := by
  obtain ⟨o, ho⟩ := hR.obj h1
  exact hR.heap_lt h1 ho

theorem R.row (hR : R P w0 r h w) {w' : World} {C : Array Value} (hm : More w w' C) (n : Nat) :
    RLe r (r.row w.heap.size (C.toList.take n)) ∧ R P w0 (r.row w.heap.size (C.toList.take n)) h w' := by
  have hle : RLe r (r.row w.heap.size (C.toList.take n)) := by
    refine ⟨⟨fun k B h1 h2 => ⟨h1, h2⟩, fun B o V hi => ?_, fun k n c B h1 h2 => ⟨n, c, B, h1, h2, Nat.le_refl _, fun _ => ⟨rfl, rfl⟩⟩, rfl⟩, fun k hk => hk⟩
    have := hR.lt hi
    simp only [RC.row]
    rw [if_neg (by omega)]
    exact hi
  refine ⟨hle, ?_⟩
  exact {
    len := hR.len
    cs := fun k B l h1 h2 => by
      obtain ⟨h3, L, el, ⟨M, hL⟩, hl⟩ := hR.cs k B l h1 h2
      exact ⟨h3, L, el, ⟨M, by rw [hm.old B (hR.heap_lt h1 h2)]; exact hL⟩, hl.mono hle⟩
    mp := fun k B es h1 h2 => by
      obtain ⟨h3, E, c, hE, h4, h5, h6⟩ := hR.mp k B es h1 h2
      exact ⟨h3, E, c, by rw [hm.old B (hR.heap_lt h1 h2)]; exact hE, h4.mono hle, h5.mono hle, h6⟩
    it := fun k B s pos h1 h2 => by
      obtain ⟨h3, h4⟩ := hR.it k B s pos h1 h2
      exact ⟨h3, by rw [hm.old B (hR.heap_lt h1 h2)]; exact h4⟩
    tk := fun k B n' e h1 h2 => by
      have hlt := hR.heap_lt h1 h2
      obtain ⟨c, i, h3, h4, h5, h6, ⟨C', hC, hs⟩, h7⟩ := hR.tk k B n' e h1 h2
      refine ⟨c, i, h3, h4, h5, h6, ⟨C', by rw [hm.old B hlt]; exact hC, hs⟩, fun o ho => ?_⟩
      simp only [RC.row]
      rw [if_neg (by omega)]
      exact h7 o ho
    imm := fun B o V hi => by
      simp only [RC.row] at hi
      split at hi
      · rename_i he
        subst he
        obtain ⟨el, fr, hn⟩ := hm.new
        rw [List.getElem?_take] at hi
        split at hi
        · simp only [World.cell?, hn]
          simpa using hi
        · cases hi
      · have hlt := hR.lt hi
        have := hR.imm B o V hi
        simp only [World.cell?, hm.old B hlt] at this ⊢
        exact this
    dis := fun k B h1 h2 o => by
      have hlt := hR.lt' h1
      simp only [RC.row]
      rw [if_neg (by omega)]
      exact hR.dis k B h1 h2 o
    nd := hR.nd
    new := hR.new
    rho := hR.rho
    old := fun B o V hi => by
      simp only [RC.row] at hi
      split at hi
      · rename_i he
        exact .inl (.inl (by rw [he]; exact hR.bel.size))
      · exact hR.old B o V hi
    bel := ⟨hm.os.trans hR.bel.os, hm.tape.trans hR.bel.tape, hm.output.trans hR.bel.output, Nat.le_trans hR.bel.size hm.size,
      fun k hk ho => (hm.old k (Nat.lt_of_lt_of_le hk hR.bel.size)).trans (hR.bel.block k hk ho)⟩ }

theorem RC.row_at (r : RC) (B : Nat) (L : List Value) (o : Nat) : (r.row B L).imm B o = L[o]? := by simp [RC.row]

/-- The slice over a new row. -/
theorem VRel.newRow {cs : List AV} {n cap : Nat} {C : Array Value} {m B : Nat} {r' : RC} (tk : Tk) (hr' : r' = r.row B (C.toList.take m)) (hle : RLe r r') (hL : VRels r cs (C.toList.take m)) (hn : n ≤ cap) (hf : tk = .full → cap = n) (ht : ∀ k, tk ≠ .id k) :
    VRel r' (.l tk cs n) (.slice (some ⟨B, 0, none⟩) n cap) := by
  refine .l tk cs n B 0 cap (fun j => (C.toList.take m).getD j undef) hn (fun j v hj => ?_) (fun j v hj => ?_) hf (fun k hk => absurd hk (ht k))
  · obtain ⟨V, hV, _⟩ := hL.get hj
    rw [hr', Nat.zero_add, RC.row_at, hV]
    simp [List.getD, hV]
  · obtain ⟨V, hV, hv⟩ := hL.get hj
    rw [List.getD, hV]
    exact hv.mono hle

/-! ### Slices -/
def OVRel (r : RC) (x : Option AV) (X : Option Value) : Prop := match x, X with | none, none => True | some x, some X => VRel r x X | _, _ => False

theorem bound_run {x : Option AV} {d n y : Nat} {X : Option Value} (hx : boundA x d = some n) (hX : OVRel r x X) (code : BoundsCode) (hn : n ≤ y) :
    (match X with | some v => Instr.sliceBound v y code | none => pure d).run P w = .ok n w := by
  cases x with
  | none =>
    cases X with
    | none => simp [boundA] at hx; subst hx; rfl
    | some X => exact hX.elim
  | some x =>
    cases X with
    | none => exact hX.elim
    | some X =>
      have hX' : VRel r x X := hX
      cases hX' <;> simp only [boundA] at hx <;> first | (cases hx; done) | skip
      rename_i k m
      by_cases h0 : 0 ≤ m
      · rw [if_pos h0] at hx
        cases hx
        have h1 : m ≤ (y : Int) := by omega
        simp [Instr.sliceBound, asIntOf, h0, h1]
      · rw [if_neg h0] at hx; cases hx

theorem bounds_run {lo hi : Option AV} {a b n cap : Nat} {LO HI : Option Value} (hlo : boundA lo 0 = some a) (hhi : boundA hi n = some b) (h1 : OVRel r lo LO) (h2 : OVRel r hi HI) (hab : a ≤ b) (hb : b ≤ cap) (isSlice : Bool) :
    (Instr.sliceBounds isSlice n cap LO HI none).run P w = .ok (a, b, cap) w := by
  have e1 : ∀ code, (match LO with | some v => Instr.sliceBound v b code | none => pure 0).run P w = .ok a w := fun code => bound_run hlo h1 code hab
  have e2 : ∀ code, (match HI with | some v => Instr.sliceBound v cap code | none => pure n).run P w = .ok b w := fun code => bound_run hhi h2 code hb
  unfold Instr.sliceBounds
  cases HI with
  | none =>
    have e2' : b = n := by
      have := e2 .index
      simp at this
      exact this.symm
    subst e2'
    cases LO with
    | none => have := e1 .index; simp at this; subst this; simp
    | some L => have := e1 .sliceB; simp at this; simp [this]
  | some H =>
    have e2' : ∀ code, (Instr.sliceBound H cap code).run P w = .ok b w := e2
    cases LO with
    | none => have := e1 .index; simp at this; subst this; simp [e2']
    | some L =>
      have e1' : ∀ code, (Instr.sliceBound L b code).run P w = .ok a w := e1
      simp [e2', e1']

theorem slice_gives {t : TypeId} {x v : AV} {lo hi mx : Option AV} {X : Value} {LO HI MX : Option Value} (hs : sliceA P t x lo hi mx = some v) (hx : VRel r x X) (hlo : OVRel r lo LO) (hhi : OVRel r hi HI) (hmx : OVRel r mx MX) :
    Gives P r w (Instr.sliceAt t X LO HI MX) v := by
  unfold sliceA at hs
  split at hs
  · -- a string
    rename_i l hu
    cases MX with
    | some _ => exact hmx.elim
    | none =>
    split at hs
    · rename_i a b ha hb
      split at hs
      · rename_i hc
        simp only [Bool.and_eq_true, decide_eq_true_eq, Nat.ble_eq] at hc
        cases hs
        cases hx
        have hsz : (⟨l.toArray⟩ : ByteArray).size = l.length := by simp [ByteArray.size]
        have hb' := bounds_run (P := P) (w := w) (r := r) (n := l.length) (cap := l.length) ha hb hlo hhi hc.1 hc.2 false
        refine .now (V := .string ⟨((l.take b).drop a).toArray⟩) ?_ (.s _)
        simp only [Instr.sliceAt, Sem.run_bind, run_underlying hu, Result.andThen_ok, Instr.slice, hsz, Option.isSome_none, Bool.false_eq_true, if_false, hb', Sem.run_pure]
        congr 2
        rw [List.drop_take]
        apply ByteArray.ext
        apply Array.ext'
        simp [ByteArray.data_extract]
      · cases hs
    · cases hs
  · -- a row that nobody writes
    rename_i e tk cs n hu
    cases MX with
    | some _ => exact hmx.elim
    | none =>
    split at hs
    · rename_i a b sz ha hb hsz
      split at hs
      · rename_i hc
        simp only [Bool.and_eq_true, decide_eq_true_eq, Nat.ble_eq, beq_iff_eq] at hc
        obtain ⟨⟨hab, hbn⟩, hlen⟩ := hc
        cases hs
        cases hx with
        | l _ _ _ B o cap g hn hi' hv hf ht =>
          have hb' := bounds_run (P := P) (w := w) (r := r) (n := n) (cap := cap) ha hb hlo hhi hab (by omega) true
          have hcell : ∀ (j : Nat) (v : AV), ((cs.take (b * sz)).drop (a * sz))[j]? = some v → cs[a * sz + j]? = some v := by
            intro j v hj
            rw [List.getElem?_drop, List.getElem?_take] at hj
            split at hj
            · exact hj
            · cases hj
          have hlt : ∀ (j : Nat) (v : AV), ((cs.take (b * sz)).drop (a * sz))[j]? = some v → a < b := by
            intro j v hj
            have h1 := (List.getElem?_eq_some_iff.1 hj).1
            simp only [List.length_drop, List.length_take] at h1
            rcases Nat.lt_or_ge a b with h2 | h2
            · exact h2
            · have : b * sz ≤ a * sz := Nat.mul_le_mul_right _ h2
              omega
          refine .now (V := .slice (some (if cap = a then ⟨B, o, none⟩ else ⟨B, o + a * sz, none⟩)) (b - a) (cap - a)) ?_ ?_
          · simp only [Instr.sliceAt, Sem.run_bind, run_underlying hu, Result.andThen_ok, Instr.slice, hb', size_run hsz, Sem.run_pure, Option.map_some, addr_add]
            split <;> rfl
          · have fin : ∀ o', (cap = a → o' = o) → (cap ≠ a → o' = o + a * sz) → VRel r (.l (if (decide (a = 0) && decide (b = n)) = true then tk else .no) ((cs.take (b * sz)).drop (a * sz)) (b - a)) (.slice (some ⟨B, o', none⟩) (b - a) (cap - a)) := by
              intro o' hz ho
              refine .l _ _ _ B o' _ (fun j => g (a * sz + j)) (by omega) (fun j v hj => ?_) (fun j v hj => hv _ v (hcell j v hj)) ?_ ?_
              · have h1 := hlt j v hj
                rw [ho (by omega), Nat.add_assoc]
                exact hi' _ v (hcell j v hj)
              · intro htk
                split at htk
                · rename_i hcc
                  simp only [Bool.and_eq_true, decide_eq_true_eq] at hcc
                  have := hf htk
                  omega
                · cases htk
              · intro k htk
                split at htk
                · rename_i hcc
                  simp only [Bool.and_eq_true, decide_eq_true_eq] at hcc
                  obtain ⟨n0, c0, B0, h1, h2, h3, h4⟩ := ht k htk
                  refine ⟨n0, c0, B0, h1, h2, by omega, fun e => ?_⟩
                  obtain ⟨e1, e2, e3⟩ := h4 (by omega)
                  refine ⟨e1, ?_, by omega⟩
                  by_cases hca : cap = a
                  · rw [hz hca]; exact e2
                  · rw [ho hca, e2, hcc.1]; simp
                · cases htk
            by_cases hca : cap = a
            · rw [if_pos hca]; exact fin o (fun _ => rfl) (fun hne => absurd hca hne)
            · rw [if_neg hca]; exact fin _ (fun he => absurd he hca) (fun _ => rfl)
      · cases hs
    · cases hs
  · -- nil
    rename_i e hu
    cases MX with
    | some _ => exact hmx.elim
    | none =>
    split at hs
    · rename_i ha hb hsz
      cases hs
      cases hx
      have hb' := bounds_run (P := P) (w := w) (r := r) (n := 0) (cap := 0) ha hb hlo hhi (Nat.le_refl _) (Nat.le_refl _) true
      exact .now (V := .slice none 0 0) (by simp [Instr.sliceAt, run_underlying hu, Instr.slice, hb', size_run hsz]) .ln
    · cases hs
  · -- a view
    rename_i e b off n cap hu
    cases MX with
    | some _ => exact hmx.elim
    | none =>
    split at hs
    · rename_i x y sz ha hb hsz
      split at hs
      · rename_i hc
        simp only [Bool.and_eq_true, decide_eq_true_eq, Nat.ble_eq] at hc
        cases hs
        cases hx with
        | v _ _ _ _ B C hn h1 h2 hC =>
          have hb' := bounds_run (P := P) (w := w) (r := r) (n := n) (cap := C) ha hb hlo hhi hc.1.1 (by omega) true
          have hne : C ≠ x := by omega
          refine .now (V := .slice (some ⟨B, off + x * (sz + 1), none⟩) (y - x) (C - x)) ?_ (.v _ _ _ _ B (C - x) (by omega) h1 h2 (by omega))
          simp [Instr.sliceAt, run_underlying hu, Instr.slice, hb', size_run hsz, addr_add, hne]
      · cases hs
    · cases hs
  · -- an array's address
    rename_i len e b off hu
    cases MX with
    | some _ => exact hmx.elim
    | none =>
    split at hs
    · rename_i x y sz ha hb hsz
      split at hs
      · rename_i hc
        simp only [Bool.and_eq_true, decide_eq_true_eq, Nat.ble_eq] at hc
        cases hs
        cases hx with
        | p _ _ B h1 h2 =>
          have hb' := bounds_run (P := P) (w := w) (r := r) (n := len) (cap := len) ha hb hlo hhi hc.1.1 hc.1.2 false
          have hne : len ≠ x := by omega
          refine .now (V := .slice (some ⟨B, off + x * (sz + 1), none⟩) (y - x) (len - x)) ?_ (.v _ _ _ _ B (len - x) (by omega) h1 h2 (Nat.le_refl _))
          simp [Instr.sliceAt, run_underlying hu, Instr.sureAddr, hb', size_run hsz, addr_add, hne]
      · cases hs
    · cases hs
  · cases hs
end
end Go.Ab
