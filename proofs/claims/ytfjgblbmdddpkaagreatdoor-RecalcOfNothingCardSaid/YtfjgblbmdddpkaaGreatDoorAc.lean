/- What abstract values and abstract memory stand for; what is kept when memory grows. -/
import Derived.Test.YtfjgblbmdddpkaaGreatDoorAb
namespace Go.Ab
open Go.RowKit

/-! ### Values that name no token and no block -/
mutual
/-- It names no token, and no block. -/
def cleanA : AV → Bool
  | .sy _ | .p _ _ | .v _ _ _ _ | .m _ => false
  | .r qs _ => cleanAs qs
  | .l k qs _ => (match k with | .id _ => false | _ => true) && cleanAs qs
  | .c _ x y => cleanAs x && cleanAs y
  | .j _ q => cleanA q
  | .a qs => cleanAs qs
  | .t qs => cleanAs qs
  | _ => true
def cleanAs : List AV → Bool
  | [] => true
  | q :: qs => cleanA q && cleanAs qs
end

theorem clean_get {qs : List AV} (h : cleanAs qs = true) {j : Nat} {q : AV} (hj : qs[j]? = some q) : cleanA q = true := by
  induction qs generalizing j with
  | nil => simp at hj
  | cons a qs ih =>
    simp only [cleanAs, Bool.and_eq_true] at h
    cases j with
    | zero => simp at hj; subst hj; exact h.1
    | succ j => exact ih h.2 (by simpa using hj)

mutual
theorem clean_cl (n : Nat) : ∀ {q : AV}, cleanA q = true → AV.cl n q = true
  | .un, _ => rfl
  | .b _, _ => rfl
  | .i _ _, _ => rfl
  | .f _, _ => rfl
  | .nan, _ => rfl
  | .s _, _ => rfl
  | .pn, _ => rfl
  | .p _ _, h => by cases h
  | .r qs _, h => by simp only [cleanA] at h; simp only [AV.cl]; exact clean_cls n h
  | .ln, _ => rfl
  | .l k qs _, h => by
    simp only [cleanA, Bool.and_eq_true] at h
    simp only [AV.cl, Bool.and_eq_true]
    refine ⟨?_, clean_cls n h.2⟩
    cases k with
    | id k => cases h.1
    | _ => rfl
  | .v _ _ _ _, h => by cases h
  | .mn, _ => rfl
  | .m _, h => by cases h
  | .cn, _ => rfl
  | .c _ x y, h => by
    simp only [cleanA, Bool.and_eq_true] at h
    simp only [AV.cl, Bool.and_eq_true]
    exact ⟨clean_cls n h.1, clean_cls n h.2⟩
  | .jn, _ => rfl
  | .j _ q, h => by simp only [cleanA] at h; simp only [AV.cl]; exact clean_cl n h
  | .a qs, h => by simp only [cleanA] at h; simp only [AV.cl]; exact clean_cls n h
  | .t qs, h => by simp only [cleanA] at h; simp only [AV.cl]; exact clean_cls n h
  | .sy _, h => by cases h
theorem clean_cls (n : Nat) : ∀ {qs : List AV}, cleanAs qs = true → AV.cls n qs = true
  | [], _ => rfl
  | q :: qs, h => by
    simp only [cleanAs, Bool.and_eq_true] at h
    simp only [AV.cls, Bool.and_eq_true]
    exact ⟨clean_cl n h.1, clean_cls n h.2⟩
end

/-- The blocks of the abstract blocks (none: not laid yet); the cells that nobody writes; of each token how much of its row is taken, and the row's capacity. -/
structure RC where
  ι : List (Option Nat)
  imm : Nat → Nat → Option Value
  tk : Nat → Option (Nat × Nat)
  ρ : Nat → AV

/-- Where a run begins: the world; what the opaque values are; the cells that nobody writes; the blocks of that world that may turn. -/
structure Base where
  w : World
  ρ : Nat → AV
  im : Nat → Nat → Option Value := fun B o => w.cell? ⟨B, o, none⟩
  own : Nat → Bool := fun _ => false

/-- What was in memory, and may not turn, is as it was. -/
structure Kept (b : Base) (w' : World) : Prop where
  os : w'.os = b.w.os
  tape : w'.tape = b.w.tape
  output : w'.output = b.w.output
  size : b.w.heap.size ≤ w'.heap.size
  block : ∀ k, k < b.w.heap.size → b.own k = false → w'.heap[k]? = b.w.heap[k]?

/-- A block that may turn. -/
def Base.may (b : Base) (B : Nat) : Prop := b.w.heap.size ≤ B ∨ b.own B = true

theorem Kept.alloc {b : Base} {w : World} (h : Kept b w) (o : Obj) : Kept b (w.alloc o) :=
  ⟨h.os, h.tape, h.output, Nat.le_trans h.size (by simp), fun k hk ho => (Below.heap_alloc w o k (Nat.lt_of_lt_of_le hk h.size)).trans (h.block k hk ho)⟩

theorem Kept.below {b : Base} {w : World} (h : Kept b w) (ho : ∀ k, b.own k = false) : Below b.w.heap.size b.w w := ⟨h.os, h.tape, h.output, h.size, fun k hk => h.block k hk (ho k)⟩

def isNan (x : Nat) : Prop := ∀ y, FloatKind.f64.format.order x y = none ∧ FloatKind.f64.format.order y x = none

inductive VRel (r : RC) : AV → Value → Prop
  | un (V : Value) : VRel r .un V
  | b (x : Bool) : VRel r (.b x) (.bool x)
  | i (k : IntKind) (n : Int) : VRel r (.i k n) (.int k n)
  | f (x : Nat) : VRel r (.f x) (.float .f64 x)
  | nan (x : Nat) (h : isNan x) : VRel r .nan (.float .f64 x)
  | s (x : List UInt8) : VRel r (.s x) (.string ⟨x.toArray⟩)
  | pn : VRel r .pn (.pointer none)
  | p (k off B : Nat) (h : r.ι[k]? = some (some B)) (ht : r.tk k = none) : VRel r (.p k off) (.pointer (some ⟨B, off, none⟩))
  | r (cs : List AV) (off B o : Nat) (g : Nat → Value) (hi : ∀ (j : Nat) (v : AV), cs[j]? = some v → r.imm B (o + j) = some (g j)) (hv : ∀ (j : Nat) (v : AV), cs[j]? = some v → VRel r v (g j)) :
      VRel r (.r cs off) (.pointer (some ⟨B, o + off, none⟩))
  | ln : VRel r .ln (.slice none 0 0)
  | l (tk : Tk) (cs : List AV) (n B o cap : Nat) (g : Nat → Value) (hn : n ≤ cap) (hi : ∀ (j : Nat) (v : AV), cs[j]? = some v → r.imm B (o + j) = some (g j)) (hv : ∀ (j : Nat) (v : AV), cs[j]? = some v → VRel r v (g j))
      (hf : tk = .full → cap = n)
      (ht : ∀ k, tk = .id k → ∃ n0 c0 B0, r.tk k = some (n0, c0) ∧ r.ι[k]? = some (some B0) ∧ n ≤ n0 ∧ (n = n0 → B = B0 ∧ o = 0 ∧ cap = c0)) :
      VRel r (.l tk cs n) (.slice (some ⟨B, o, none⟩) n cap)
  | v (k off n cap B C : Nat) (hn : n ≤ cap) (h : r.ι[k]? = some (some B)) (ht : r.tk k = none) (hC : cap ≤ C) : VRel r (.v k off n cap) (.slice (some ⟨B, off, none⟩) n C)
  | mn : VRel r .mn (.map none)
  | m (k B : Nat) (h : r.ι[k]? = some (some B)) (ht : r.tk k = none) : VRel r (.m k) (.map (some B))
  | cn : VRel r .cn .nilFunc
  | c (fn : Fn) (x y : List AV) (X Y : List Value) (hx : x.length = X.length) (hy : y.length = Y.length) (hX : ∀ (j : Nat) (v : AV) (V : Value), x[j]? = some v → X[j]? = some V → VRel r v V) (hY : ∀ (j : Nat) (v : AV) (V : Value), y[j]? = some v → Y[j]? = some V → VRel r v V) :
      VRel r (.c fn x y) (.func fn X.toArray Y.toArray)
  | jn : VRel r .jn .nilIface
  | j (t : TypeId) (v : AV) (V : Value) (h : VRel r v V) : VRel r (.j t v) (.iface t V)
  | a (x : List AV) (X : List Value) (hl : x.length = X.length) (hX : ∀ (j : Nat) (v : AV) (V : Value), x[j]? = some v → X[j]? = some V → VRel r v V) : VRel r (.a x) (.agg X.toArray)
  | t (x : List AV) (X : List Value) (hl : x.length = X.length) (hX : ∀ (j : Nat) (v : AV) (V : Value), x[j]? = some v → X[j]? = some V → VRel r v V) : VRel r (.t x) (.tuple X.toArray)
  | sy (k : Nat) (V : Value) (h0 : cleanA (r.ρ k) = true) (h : VRel r (r.ρ k) V) (h1 : V.oneCell' = true) (h2 : V.cells = #[V]) : VRel r (.sy k) V

/-- Lists, place by place. -/
def VRels (r : RC) (x : List AV) (X : List Value) : Prop := x.length = X.length ∧ ∀ (j : Nat) (v : AV) (V : Value), x[j]? = some v → X[j]? = some V → VRel r v V

theorem VRels.nil {r : RC} : VRels r [] [] := ⟨rfl, fun _ _ _ h => by simp at h⟩
theorem VRels.cons {r : RC} {x : AV} {X : Value} {xs : List AV} {Xs : List Value} (h : VRel r x X) (hs : VRels r xs Xs) : VRels r (x :: xs) (X :: Xs) :=
  ⟨by simp [hs.1], fun j v V h1 h2 => by
    cases j with
    | zero => simp at h1 h2; subst h1; subst h2; exact h
    | succ j => simp at h1 h2; exact hs.2 j v V h1 h2⟩
theorem VRels.head {r : RC} {x : AV} {X : Value} {xs : List AV} {Xs : List Value} (h : VRels r (x :: xs) (X :: Xs)) : VRel r x X := h.2 0 x X rfl rfl
theorem VRels.tail {r : RC} {x : AV} {X : Value} {xs : List AV} {Xs : List Value} (h : VRels r (x :: xs) (X :: Xs)) : VRels r xs Xs :=
  ⟨by simpa using h.1, fun j v V h1 h2 => h.2 (j + 1) v V (by simpa using h1) (by simpa using h2)⟩
theorem VRels.nil_inv {r : RC} {X : List Value} (h : VRels r [] X) : X = [] := List.eq_nil_of_length_eq_zero (by simpa using h.1.symm)
theorem VRels.cons_inv {r : RC} {x : AV} {xs : List AV} {X : List Value} (h : VRels r (x :: xs) X) : ∃ Y Ys, X = Y :: Ys ∧ VRel r x Y ∧ VRels r xs Ys := by
  cases X with
  | nil => exact absurd h.1 (by simp)
  | cons Y Ys => exact ⟨Y, Ys, rfl, h.head, h.tail⟩
theorem VRels.append {r : RC} {x y : List AV} {X Y : List Value} (h : VRels r x X) (k : VRels r y Y) : VRels r (x ++ y) (X ++ Y) := by
  induction x generalizing X with
  | nil => obtain rfl := h.nil_inv; simpa using k
  | cons a x ih => obtain ⟨A, Xs, rfl, ha, hs⟩ := h.cons_inv; exact .cons ha (ih hs)
theorem VRels.take {r : RC} {x : List AV} {X : List Value} (h : VRels r x X) (n : Nat) : VRels r (x.take n) (X.take n) :=
  ⟨by simp [h.1], fun j v V h1 h2 => by
    rw [List.getElem?_take] at h1 h2
    split at h1
    · rename_i hj; rw [if_pos hj] at h2; exact h.2 j v V h1 h2
    · cases h1⟩
theorem VRels.drop {r : RC} {x : List AV} {X : List Value} (h : VRels r x X) (n : Nat) : VRels r (x.drop n) (X.drop n) :=
  ⟨by simp [h.1], fun j v V h1 h2 => h.2 (n + j) v V (by simpa using h1) (by simpa using h2)⟩
theorem VRels.get {r : RC} {x : List AV} {X : List Value} (h : VRels r x X) {j : Nat} {v : AV} (hj : x[j]? = some v) : ∃ V, X[j]? = some V ∧ VRel r v V := by
  have hlt : j < X.length := by rw [← h.1]; exact (List.getElem?_eq_some_iff.1 hj).1
  exact ⟨X[j], by simp [hlt], h.2 j v _ hj (by simp [hlt])⟩
theorem VRels.set {r : RC} {x : List AV} {X : List Value} (h : VRels r x X) (n : Nat) {v : AV} {V : Value} (hv : VRel r v V) : VRels r (x.set n v) (X.set n V) :=
  ⟨by simp [h.1], fun j u U h1 h2 => by
    rw [List.getElem?_set] at h1 h2
    by_cases hj : n = j
    · subst hj
      by_cases hlt : n < x.length
      · rw [if_pos rfl, if_pos hlt] at h1
        rw [if_pos rfl, if_pos (h.1 ▸ hlt)] at h2
        cases h1; cases h2; exact hv
      · rw [if_pos rfl, if_neg hlt] at h1; cases h1
    · rw [if_neg hj] at h1 h2
      exact h.2 j u U h1 h2⟩

/-- What is known stays known. -/
structure RL0 (r r' : RC) : Prop where
  ι : ∀ (k B : Nat), r.ι[k]? = some (some B) → r.tk k = none → r'.ι[k]? = some (some B) ∧ r'.tk k = none
  imm : ∀ B o V, r.imm B o = some V → r'.imm B o = some V
  tk : ∀ (k n c B : Nat), r.tk k = some (n, c) → r.ι[k]? = some (some B) → ∃ n' c' B', r'.tk k = some (n', c') ∧ r'.ι[k]? = some (some B') ∧ n ≤ n' ∧ (n = n' → B = B' ∧ c = c')
  rho : r'.ρ = r.ρ

/-- And what is not laid yet is not laid. -/
structure RLe (r r' : RC) : Prop extends RL0 r r' where
  gh : ∀ k : Nat, r.ι[k]? = some none → r'.ι[k]? = some none

theorem RL0.refl (r : RC) : RL0 r r := ⟨fun _ _ h h' => ⟨h, h'⟩, fun _ _ _ h => h, fun _ n c B h h' => ⟨n, c, B, h, h', Nat.le_refl _, fun _ => ⟨rfl, rfl⟩⟩, rfl⟩
theorem RLe.refl (r : RC) : RLe r r := ⟨.refl r, fun _ h => h⟩
theorem RL0.trans {a b c : RC} (h : RL0 a b) (k : RL0 b c) : RL0 a c where
  ι x B h1 h2 := let ⟨h3, h4⟩ := h.ι x B h1 h2; k.ι x B h3 h4
  imm B o V h1 := k.imm B o V (h.imm B o V h1)
  rho := k.rho.trans h.rho
  tk x n d B h1 h2 := by
    obtain ⟨n1, c1, B1, h3, h4, h5, h6⟩ := h.tk x n d B h1 h2
    obtain ⟨n2, c2, B2, k3, k4, k5, k6⟩ := k.tk x n1 c1 B1 h3 h4
    refine ⟨n2, c2, B2, k3, k4, Nat.le_trans h5 k5, fun e => ?_⟩
    have e1 : n = n1 := by omega
    have e2 : n1 = n2 := by omega
    obtain ⟨rfl, rfl⟩ := h6 e1
    exact k6 e2
theorem RLe.trans {a b c : RC} (h : RLe a b) (k : RLe b c) : RLe a c := ⟨h.toRL0.trans k.toRL0, fun x hx => k.gh x (h.gh x hx)⟩

theorem VRel.mono0 {r r' : RC} (hle : RL0 r r') {v : AV} {V : Value} (h : VRel r v V) : VRel r' v V := by
  induction h with
  | un V => exact .un V
  | b x => exact .b x
  | i k n => exact .i k n
  | f x => exact .f x
  | nan x h => exact .nan x h
  | s x => exact .s x
  | pn => exact .pn
  | p k off B h ht => obtain ⟨h1, h2⟩ := hle.ι k B h ht; exact .p k off B h1 h2
  | r cs off B o g hi _ ih => exact .r cs off B o g (fun j v h => hle.imm _ _ _ (hi j v h)) ih
  | ln => exact .ln
  | l tk cs n B o cap g hn hi _ hf ht ih =>
    refine .l tk cs n B o cap g hn (fun j v h => hle.imm _ _ _ (hi j v h)) ih hf fun k hk => ?_
    obtain ⟨n0, c0, B0, h1, h2, h3, h4⟩ := ht k hk
    obtain ⟨n1, c1, B1, k1, k2, k3, k4⟩ := hle.tk k n0 c0 B0 h1 h2
    refine ⟨n1, c1, B1, k1, k2, Nat.le_trans h3 k3, fun e => ?_⟩
    obtain ⟨rfl, rfl⟩ := k4 (by omega)
    exact h4 (by omega)
  | v k off n cap B C hn h ht hC => obtain ⟨h1, h2⟩ := hle.ι k B h ht; exact .v k off n cap B C hn h1 h2 hC
  | mn => exact .mn
  | m k B h ht => obtain ⟨h1, h2⟩ := hle.ι k B h ht; exact .m k B h1 h2
  | cn => exact .cn
  | c fn x y X Y hx hy _ _ ihX ihY => exact .c fn x y X Y hx hy ihX ihY
  | jn => exact .jn
  | j t v V _ ih => exact .j t v V ih
  | a x X hl _ ih => exact .a x X hl ih
  | t x X hl _ ih => exact .t x X hl ih
  | sy k V h0 _ h1 h2 ih => exact .sy k V (by rw [hle.rho]; exact h0) (by rw [hle.rho]; exact ih) h1 h2

theorem VRel.mono {r r' : RC} (hle : RLe r r') {v : AV} {V : Value} (h : VRel r v V) : VRel r' v V := h.mono0 hle.toRL0

theorem VRels.mono0 {r r' : RC} (hle : RL0 r r') {v : List AV} {V : List Value} (h : VRels r v V) : VRels r' v V := ⟨h.1, fun j a A h1 h2 => (h.2 j a A h1 h2).mono0 hle⟩
theorem VRels.mono {r r' : RC} (hle : RLe r r') {v : List AV} {V : List Value} (h : VRels r v V) : VRels r' v V := ⟨h.1, fun j a A h1 h2 => (h.2 j a A h1 h2).mono hle⟩

/-- An iterator, a map: other blocks. -/
def isCells (w : World) (B : Nat) (L : List Value) : Prop := ∃ el, w.heap[B]? = some (.cells L.toArray el (0, 0))

/-- A map from which nothing was taken: its entries' stamps are their places. -/
def Born (E : Array MapEntry) (clk : Nat) : Prop := clk = E.size ∧ ∀ (i : Nat) (e : MapEntry), E[i]? = some e → e.born = i

/-- How abstract memory stands to memory. -/
structure R (P : Program) (w0 : Base) (r : RC) (h : AH) (w : World) : Prop where
  len : r.ι.length = h.length
  cs : ∀ (k B : Nat) (l : List AV), r.ι[k]? = some (some B) → h[k]? = some (.cs l) → r.tk k = none ∧ ∃ L el, (∃ M, w.heap[B]? = some (.cells (L ++ M).toArray el (0, 0))) ∧ VRels r l L
  mp : ∀ (k B : Nat) (es : List (AV × AV)), r.ι[k]? = some (some B) → h[k]? = some (.mp es) → r.tk k = none ∧ ∃ E clk, w.heap[B]? = some (.map E clk) ∧ VRels r (es.map (·.1)) (E.toList.map (·.key)) ∧ VRels r (es.map (·.2)) (E.toList.map (·.val)) ∧ Born E clk
  it : ∀ (k B : Nat) (s : List UInt8) (pos : Nat), r.ι[k]? = some (some B) → h[k]? = some (.it s pos) → r.tk k = none ∧ w.heap[B]? = some (.stringIter ⟨s.toArray⟩ pos)
  tk : ∀ (k B n : Nat) (e : TypeId), r.ι[k]? = some (some B) → h[k]? = some (.tk n e) → ∃ c i, r.tk k = some (n, c) ∧ P.info? e = some i ∧ n ≤ c ∧ c ≤ maxLen ∧ (∃ C, w.heap[B]? = some (.cells C e (0, 0)) ∧ C.size = c * i.size) ∧
        ∀ o, n * i.size ≤ o → r.imm B o = none
  imm : ∀ B o V, r.imm B o = some V → w.cell? ⟨B, o, none⟩ = some V
  dis : ∀ (k B : Nat), r.ι[k]? = some (some B) → r.tk k = none → ∀ o, r.imm B o = none
  nd : ∀ (k k' B : Nat), r.ι[k]? = some (some B) → r.ι[k']? = some (some B) → k = k'
  new : ∀ (k B : Nat), r.ι[k]? = some (some B) → w0.may B
  bel : Kept w0 w
  rho : r.ρ = w0.ρ
  old : ∀ B o V, r.imm B o = some V → w0.may B ∨ w0.im B o = some V

/-- An abstract value names blocks that there are. -/
theorem VRel.cl {r : RC} {v : AV} {V : Value} (h : VRel r v V) : AV.cl r.ι.length v = true := by
  have all : ∀ (l : List AV), (∀ (j : Nat) (v : AV), l[j]? = some v → AV.cl r.ι.length v = true) → AV.cls r.ι.length l = true := by
    intro l
    induction l with
    | nil => intro _; rfl
    | cons a l ih => intro H; simp only [AV.cls, Bool.and_eq_true]; exact ⟨H 0 a rfl, ih fun j v hj => H (j + 1) v (by simpa using hj)⟩
  have lt : ∀ {k : Nat} {x : Option Nat}, r.ι[k]? = some x → Nat.blt k r.ι.length = true := fun h => by
    rw [Nat.blt_eq]; exact (List.getElem?_eq_some_iff.1 h).1
  have pair : ∀ {x : List AV} {X : List Value}, x.length = X.length → (∀ (j : Nat) (v : AV) (V : Value), x[j]? = some v → X[j]? = some V → AV.cl r.ι.length v = true) → ∀ (j : Nat) (v : AV), x[j]? = some v → AV.cl r.ι.length v = true := by
    intro x X hl H j v hj
    have hlt : j < X.length := by rw [← hl]; exact (List.getElem?_eq_some_iff.1 hj).1
    exact H j v X[j] hj (by simp [hlt])
  induction h with
  | p k off B h ht => simpa [AV.cl] using lt h
  | v k off n cap B C hn h ht hC => simpa [AV.cl] using lt h
  | m k B h ht => simpa [AV.cl] using lt h
  | r cs off B o g hi _ ih => simp only [AV.cl]; exact all _ ih
  | l tk cs n B o cap g hn hi _ hf ht ih =>
    simp only [AV.cl, Bool.and_eq_true]
    refine ⟨?_, all _ ih⟩
    cases tk with
    | id k => obtain ⟨n0, c0, B0, h1, h2, _⟩ := ht k rfl; exact lt h2
    | _ => rfl
  | c fn x y X Y hx hy _ _ ihX ihY => simp only [AV.cl, Bool.and_eq_true]; exact ⟨all _ (pair hx ihX), all _ (pair hy ihY)⟩
  | j t v V _ ih => simpa [AV.cl] using ih
  | a x X hl _ ih => simp only [AV.cl]; exact all _ (pair hl ih)
  | t x X hl _ ih => simp only [AV.cl]; exact all _ (pair hl ih)
  | _ => rfl

/-- Without the blocks from some number on. -/
def RC.cut (r : RC) (n : Nat) : RC := { r with ι := r.ι.take n }

theorem cut_get {r : RC} {n k : Nat} (hk : k < n) : (r.cut n).ι[k]? = r.ι[k]? := by simp [RC.cut, hk]

theorem VRel.cut {r : RC} {v : AV} {V : Value} (h : VRel r v V) (n : Nat) (hc : AV.cl n v = true) : VRel (r.cut n) v V := by
  have all : ∀ (l : List AV), AV.cls n l = true → ∀ (j : Nat) (v : AV), l[j]? = some v → AV.cl n v = true := by
    intro l
    induction l with
    | nil => intro _ j v h; simp at h
    | cons a l ih =>
      intro H j v hj
      simp only [AV.cls, Bool.and_eq_true] at H
      cases j with
      | zero => simp at hj; subst hj; exact H.1
      | succ j => exact ih H.2 j v (by simpa using hj)
  induction h with
  | un V => exact .un V
  | b x => exact .b x
  | i k n => exact .i k n
  | f x => exact .f x
  | nan x h => exact .nan x h
  | s x => exact .s x
  | pn => exact .pn
  | p k off B h ht => simp [AV.cl] at hc; exact .p k off B (by rw [cut_get hc]; exact h) ht
  | r cs off B o g hi _ ih => simp only [AV.cl] at hc; exact .r cs off B o g hi fun j v h => ih j v h (all _ hc j v h)
  | ln => exact .ln
  | l tk cs n' B o cap g hn hi _ hf ht ih =>
    simp only [AV.cl, Bool.and_eq_true] at hc
    refine .l tk cs n' B o cap g hn hi (fun j v h => ih j v h (all _ hc.2 j v h)) hf fun k hk => ?_
    subst hk
    obtain ⟨n0, c0, B0, h1, h2, h3⟩ := ht k rfl
    have hkn : k < n := by simpa using hc.1
    exact ⟨n0, c0, B0, h1, by rw [cut_get hkn]; exact h2, h3⟩
  | v k off n cap B C hn h ht hC => simp [AV.cl] at hc; exact .v k off n cap B C hn (by rw [cut_get hc]; exact h) ht hC
  | mn => exact .mn
  | m k B h ht => simp [AV.cl] at hc; exact .m k B (by rw [cut_get hc]; exact h) ht
  | cn => exact .cn
  | c fn x y X Y hx hy _ _ ihX ihY =>
    simp only [AV.cl, Bool.and_eq_true] at hc
    exact .c fn x y X Y hx hy (fun j v V h1 h2 => ihX j v V h1 h2 (all _ hc.1 j v h1)) (fun j v V h1 h2 => ihY j v V h1 h2 (all _ hc.2 j v h1))
  | jn => exact .jn
  | j t v V _ ih => exact .j t v V (ih (by simpa [AV.cl] using hc))
  | a x X hl _ ih => simp only [AV.cl] at hc; exact .a x X hl fun j v V h1 h2 => ih j v V h1 h2 (all _ hc j v h1)
  | t x X hl _ ih => simp only [AV.cl] at hc; exact .t x X hl fun j v V h1 h2 => ih j v V h1 h2 (all _ hc j v h1)
  | sy k V h0 _ h1 h2 ih => exact .sy k V h0 (ih (clean_cl n h0)) h1 h2

theorem sts_get {x : List AV} {j : Nat} {v : AV} (h : (AV.sts x)[j]? = some v) : ∃ u, x[j]? = some u ∧ v = u.st := by
  induction x generalizing j with
  | nil => simp [AV.sts] at h
  | cons a x ih =>
    cases j with
    | zero => simp [AV.sts] at h; exact ⟨a, rfl, h.symm⟩
    | succ j => simp [AV.sts] at h; simpa using ih h

theorem sts_length (x : List AV) : (AV.sts x).length = x.length := by induction x <;> simp_all [AV.sts]

/-- A value without its tokens stands for what it stood for. -/
theorem VRel.st {r : RC} {v : AV} {V : Value} (h : VRel r v V) : VRel r v.st V := by
  induction h with
  | un V => exact .un V
  | b x => exact .b x
  | i k n => exact .i k n
  | f x => exact .f x
  | nan x h => exact .nan x h
  | s x => exact .s x
  | pn => exact .pn
  | p k off B h ht => exact .p k off B h ht
  | r cs off B o g hi _ ih =>
    refine .r _ off B o g (fun j v h => ?_) (fun j v h => ?_)
    · obtain ⟨u, hu, _⟩ := sts_get h; exact hi j u hu
    · obtain ⟨u, hu, rfl⟩ := sts_get h; exact ih j u hu
  | ln => exact .ln
  | l tk cs n B o cap g hn hi _ hf ht ih =>
    refine .l .no _ n B o cap g hn (fun j v h => ?_) (fun j v h => ?_) (by simp) (by simp)
    · obtain ⟨u, hu, _⟩ := sts_get h; exact hi j u hu
    · obtain ⟨u, hu, rfl⟩ := sts_get h; exact ih j u hu
  | v k off n cap B C hn h ht hC => exact .v k off n cap B C hn h ht hC
  | mn => exact .mn
  | m k B h ht => exact .m k B h ht
  | cn => exact .cn
  | c fn x y X Y hx hy _ _ ihX ihY =>
    refine .c fn _ _ X Y (by rw [sts_length]; exact hx) (by rw [sts_length]; exact hy) (fun j v V h1 h2 => ?_) (fun j v V h1 h2 => ?_)
    · obtain ⟨u, hu, rfl⟩ := sts_get h1; exact ihX j u V hu h2
    · obtain ⟨u, hu, rfl⟩ := sts_get h1; exact ihY j u V hu h2
  | jn => exact .jn
  | j t v V _ ih => exact .j t _ V ih
  | a x X hl _ ih => exact .a _ X (by rw [sts_length]; exact hl) fun j v V h1 h2 => by obtain ⟨u, hu, rfl⟩ := sts_get h1; exact ih j u V hu h2
  | t x X hl _ ih => exact .t _ X (by rw [sts_length]; exact hl) fun j v V h1 h2 => by obtain ⟨u, hu, rfl⟩ := sts_get h1; exact ih j u V hu h2
  | sy k V h0 h h1 h2 ih => exact .sy k V h0 h h1 h2

theorem VRels.st {r : RC} {x : List AV} {X : List Value} (h : VRels r x X) : VRels r (AV.sts x) X :=
  ⟨by rw [sts_length]; exact h.1, fun j v V h1 h2 => by obtain ⟨u, hu, rfl⟩ := sts_get h1; exact (h.2 j u V hu h2).st⟩

/-! ### Slots -/
theorem Tm.get_set_other : ∀ (t : Tm) (k j : Nat) (v : AV), k ≠ j → (t.set k v).get j = t.get j
  | .lf, _, _, _, _ => rfl
  | .nd x l r, k, j, v, h => by
    cases k with
    | zero => cases j with
      | zero => exact absurd rfl h
      | succ j => simp [Tm.set, Tm.get]
    | succ k =>
      cases j with
      | zero => rcases Nat.mod_two_eq_zero_or_one k with hk | hk <;> simp [Tm.set, Tm.get, hk]
      | succ j =>
        rcases Nat.mod_two_eq_zero_or_one k with hk | hk <;> rcases Nat.mod_two_eq_zero_or_one j with hj | hj <;> simp only [Tm.set, Tm.get, hk, hj]
        · exact Tm.get_set_other l _ _ v (by omega)
        · exact Tm.get_set_other r _ _ v (by omega)

theorem Tm.get_set_same : ∀ (t : Tm) (k : Nat) (v : AV), (t.set k v).get k = v ∨ (t.set k v).get k = .un
  | .lf, _, _ => .inr rfl
  | .nd x l r, k, v => by
    cases k with
    | zero => exact .inl rfl
    | succ k =>
      rcases Nat.mod_two_eq_zero_or_one k with hk | hk <;> simp only [Tm.set, Tm.get, hk]
      · exact Tm.get_set_same l _ v
      · exact Tm.get_set_same r _ v

end Go.Ab
