/- Tokens told by what they stand for; functions that turn nothing (Pure). -/
import Derived.Test.YtfjgblbmdddpkaaGreatDoorAu
namespace Go.Ab
open Go.RowKit

mutual
/-- The value of an abstract value that names no block and no token. -/
def valA : AV → Value
  | .b x => .bool x
  | .i k n => .int k n
  | .f x => .float .f64 x
  | .s x => .string ⟨x.toArray⟩
  | .pn => .pointer none
  | .ln => .slice none 0 0
  | .mn => .map none
  | .cn => .nilFunc
  | .jn => .nilIface
  | .j ty q => .iface ty (valA q)
  | .a qs => .agg (valAs qs).toArray
  | .t qs => .tuple (valAs qs).toArray
  | .c fn x y => .func fn (valAs x).toArray (valAs y).toArray
  | _ => .nilFunc
def valAs : List AV → List Value
  | [] => []
  | q :: qs => valA q :: valAs qs
end

mutual
/-- It names no block and no token, and stands for one value. -/
def stableA : AV → Bool
  | .b _ | .i _ _ | .f _ | .s _ | .pn | .ln | .mn | .cn | .jn => true
  | .j _ q => stableA q
  | .a qs => stableAs qs
  | .t qs => stableAs qs
  | .c _ x y => stableAs x && stableAs y
  | _ => false
def stableAs : List AV → Bool
  | [] => true
  | q :: qs => stableA q && stableAs qs
end

/-- Of one cell; it names no token and no block. -/
def plainA (q : AV) : Bool := cleanA q && AV.one q

theorem one_cell {r : RC} {q : AV} {V : Value} (h : AV.one q = true) (hv : VRel r q V) : V.oneCell' = true ∧ V.cells = #[V] := by
  cases hv <;> first | (cases h; done) | exact ⟨rfl, rfl⟩ | exact ⟨by assumption, by assumption⟩

mutual
theorem VRel.ofStable {r : RC} : ∀ {q : AV}, stableA q = true → VRel r q (valA q)
  | .b x, _ => .b x
  | .i k n, _ => .i k n
  | .f x, _ => .f x
  | .s x, _ => .s x
  | .pn, _ => .pn
  | .ln, _ => .ln
  | .mn, _ => .mn
  | .cn, _ => .cn
  | .jn, _ => .jn
  | .j ty q, h => .j ty q _ (VRel.ofStable h)
  | .a qs, h => let H := VRels.ofStables (r := r) h; .a qs _ H.1 H.2
  | .t qs, h => let H := VRels.ofStables (r := r) h; .t qs _ H.1 H.2
  | .c fn x y, h => by
    simp only [stableA, Bool.and_eq_true] at h
    have H := VRels.ofStables (r := r) h.1
    have K := VRels.ofStables (r := r) h.2
    exact .c fn x y _ _ H.1 K.1 H.2 K.2
  | .un, h => by cases h
  | .nan, h => by cases h
  | .p _ _, h => by cases h
  | .r _ _, h => by cases h
  | .l _ _ _, h => by cases h
  | .v _ _ _ _, h => by cases h
  | .m _, h => by cases h
  | .sy _, h => by cases h
theorem VRels.ofStables {r : RC} : ∀ {qs : List AV}, stableAs qs = true → VRels r qs (valAs qs)
  | [], _ => .nil
  | q :: qs, h => by
    simp only [stableAs, Bool.and_eq_true] at h
    exact .cons (VRel.ofStable h.1) (VRels.ofStables h.2)
end

mutual
theorem VRel.stable_eq {r : RC} : ∀ {q : AV} {V : Value}, stableA q = true → VRel r q V → V = valA q
  | .b x, _, _, h => by cases h; rfl
  | .i k n, _, _, h => by cases h; rfl
  | .f x, _, _, h => by cases h; rfl
  | .s x, _, _, h => by cases h; rfl
  | .pn, _, _, h => by cases h; rfl
  | .ln, _, _, h => by cases h; rfl
  | .mn, _, _, h => by cases h; rfl
  | .cn, _, _, h => by cases h; rfl
  | .jn, _, _, h => by cases h; rfl
  | .j ty q, _, hs, h => by cases h with | j _ _ V h => rw [VRel.stable_eq (q := q) hs h]; rfl
  | .a qs, _, hs, h => by cases h with | a _ X hl hX => rw [VRels.stable_eq (qs := qs) hs ⟨hl, hX⟩]; rfl
  | .t qs, _, hs, h => by cases h with | t _ X hl hX => rw [VRels.stable_eq (qs := qs) hs ⟨hl, hX⟩]; rfl
  | .c fn x y, _, hs, h => by
    simp only [stableA, Bool.and_eq_true] at hs
    cases h with | c _ _ _ X Y hx hy hX hY => rw [VRels.stable_eq hs.1 ⟨hx, hX⟩, VRels.stable_eq hs.2 ⟨hy, hY⟩]; rfl
  | .un, _, h, _ => by cases h
  | .nan, _, h, _ => by cases h
  | .p _ _, _, h, _ => by cases h
  | .r _ _, _, h, _ => by cases h
  | .l _ _ _, _, h, _ => by cases h
  | .v _ _ _ _, _, h, _ => by cases h
  | .m _, _, h, _ => by cases h
  | .sy _, _, h, _ => by cases h
theorem VRels.stable_eq {r : RC} : ∀ {qs : List AV} {Vs : List Value}, stableAs qs = true → VRels r qs Vs → Vs = valAs qs
  | [], _, _, h => h.nil_inv
  | q :: qs, _, hs, h => by
    simp only [stableAs, Bool.and_eq_true] at hs
    obtain ⟨Y, Ys, rfl, h1, h2⟩ := h.cons_inv
    rw [VRel.stable_eq hs.1 h1, VRels.stable_eq hs.2 h2]; rfl
end

mutual
/-- Tokens replaced by what they stand for. -/
def concA (tk : List AV) : AV → AV
  | .sy k => tk.getD k .pn
  | .j ty q => .j ty (concA tk q)
  | .a qs => .a (concAs tk qs)
  | .t qs => .t (concAs tk qs)
  | .c fn x y => .c fn (concAs tk x) (concAs tk y)
  | .l k qs n => .l k (concAs tk qs) n
  | .r qs o => .r (concAs tk qs) o
  | q => q
def concAs (tk : List AV) : List AV → List AV
  | [] => []
  | q :: qs => concA tk q :: concAs tk qs
end

/-- A base whose tokens stand for these. -/
def Base.told (w : World) (c : List AV) : Base := { w := w, ρ := fun k => c.getD k .pn }

/-- The tokens of a base. -/
def Tells (b : Base) (c : List AV) : Prop := c.all plainA = true ∧ ∀ k, b.ρ k = c.getD k .pn

theorem Tells.plain {b : Base} {c : List AV} (h : Tells b c) (k : Nat) : plainA (c.getD k .pn) = true := by
  rw [List.getD_eq_getElem?_getD]
  cases hk : c[k]? with
  | none => rfl
  | some v => exact List.all_eq_true.1 h.1 v (List.mem_of_getElem? hk)

section
variable {P : Program} {b : Base} {c : List AV} {r : RC} {w : World} {h : AH}

theorem conc_get {qs : List AV} {j : Nat} {q : AV} (h : (concAs c qs)[j]? = some q) : ∃ u, qs[j]? = some u ∧ q = concA c u := by
  induction qs generalizing j with
  | nil => simp [concAs] at h
  | cons a qs ih =>
    cases j with
    | zero => simp [concAs] at h; exact ⟨a, rfl, h.symm⟩
    | succ j => simp [concAs] at h; simpa using ih h

theorem conc_set {qs : List AV} {j : Nat} {u : AV} (h : qs[j]? = some u) : (concAs c qs)[j]? = some (concA c u) := by
  induction qs generalizing j with
  | nil => simp at h
  | cons a qs ih =>
    cases j with
    | zero => simp at h; subst h; simp [concAs]
    | succ j => simp at h; simpa [concAs] using ih h

theorem conc_sum {qs : List AV} (g : Nat → Value) (h : ∀ (j : Nat) (q : AV), qs[j]? = some q → VRel r q (g j)) : VRels r qs ((List.range qs.length).map g) :=
  ⟨by simp, fun j q V h1 h2 => by
    have hlt := (List.getElem?_eq_some_iff.1 h1).1
    simp [List.getElem?_range hlt] at h2
    subst h2
    exact h j q h1⟩

theorem conc_part {qs : List AV} {g : Nat → Value} (h : VRels r qs ((List.range qs.length).map g)) (j : Nat) (q : AV) (hj : qs[j]? = some q) : VRel r q (g j) := by
  have hlt := (List.getElem?_eq_some_iff.1 hj).1
  exact h.2 j q (g j) hj (by simp [List.getElem?_range hlt])

theorem conc_length (qs : List AV) : (concAs c qs).length = qs.length := by induction qs <;> simp_all [concAs]

mutual
theorem VRel.conc (hb : Tells b c) (hr : r.ρ = b.ρ) : ∀ {v : AV} {V : Value}, VRel r v V → VRel r (concA c v) V
  | .sy k, V, h => by
    cases h with
    | sy _ _ _ h _ _ =>
      rw [hr, hb.2 k] at h
      exact h
  | .j t v, V, h => by cases h with | j _ _ V h => exact .j t _ V (VRel.conc hb hr h)
  | .a cs, V, h => by
    cases h with
    | a _ X hl hX => have H := VRels.conc hb hr (⟨hl, hX⟩ : VRels r cs X); exact .a _ X H.1 H.2
  | .t cs, V, h => by
    cases h with
    | t _ X hl hX => have H := VRels.conc hb hr (⟨hl, hX⟩ : VRels r cs X); exact .t _ X H.1 H.2
  | .c fn x y, V, h => by
    cases h with
    | c _ _ _ X Y hx hy hX hY =>
      have H := VRels.conc hb hr (⟨hx, hX⟩ : VRels r x X)
      have K := VRels.conc hb hr (⟨hy, hY⟩ : VRels r y Y)
      exact .c fn _ _ X Y H.1 K.1 H.2 K.2
  | .un, _, h => h
  | .b _, _, h => h
  | .i _ _, _, h => h
  | .f _, _, h => h
  | .nan, _, h => h
  | .s _, _, h => h
  | .pn, _, h => h
  | .p _ _, _, h => h
  | .r qs off, _, h => by
    cases h with
    | r _ _ B o g hi hv =>
      have H := VRels.conc hb hr (conc_sum g hv)
      rw [← conc_length (c := c) qs] at H
      exact .r _ off B o g (fun j q hj => by obtain ⟨u, hu, _⟩ := conc_get hj; exact hi j u hu) (conc_part H)
  | .ln, _, h => h
  | .l k qs n, _, h => by
    cases h with
    | l _ _ _ B o cap g hn hi hv hf ht =>
      have H := VRels.conc hb hr (conc_sum g hv)
      rw [← conc_length (c := c) qs] at H
      exact .l k _ n B o cap g hn (fun j q hj => by obtain ⟨u, hu, _⟩ := conc_get hj; exact hi j u hu) (conc_part H) hf ht
  | .v _ _ _ _, _, h => h
  | .mn, _, h => h
  | .m _, _, h => h
  | .cn, _, h => h
  | .jn, _, h => h
theorem VRels.conc (hb : Tells b c) (hr : r.ρ = b.ρ) : ∀ {vs : List AV} {Vs : List Value}, VRels r vs Vs → VRels r (concAs c vs) Vs
  | [], _, h => h
  | v :: vs, _, h => by
    obtain ⟨Y, Ys, rfl, h1, h2⟩ := h.cons_inv
    exact .cons (VRel.conc hb hr h1) (VRels.conc hb hr h2)
end

mutual
theorem VRel.unconc (hb : Tells b c) (hr : r.ρ = b.ρ) : ∀ {v : AV} {V : Value}, VRel r (concA c v) V → VRel r v V
  | .sy k, V, h => by
    have hp := hb.plain k
    unfold plainA at hp
    rw [Bool.and_eq_true] at hp
    obtain ⟨h1, h2⟩ := one_cell hp.2 h
    exact .sy k _ (by rw [hr, hb.2 k]; exact hp.1) (by rw [hr, hb.2 k]; exact h) h1 h2
  | .j t v, V, h => by
    cases h with
    | j _ _ V h => exact .j t _ V (VRel.unconc hb hr h)
  | .a cs, V, h => by
    cases h with
    | a _ X hl hX => have H := VRels.unconc hb hr (⟨hl, hX⟩ : VRels r (concAs c cs) X); exact .a _ X H.1 H.2
  | .t cs, V, h => by
    cases h with
    | t _ X hl hX => have H := VRels.unconc hb hr (⟨hl, hX⟩ : VRels r (concAs c cs) X); exact .t _ X H.1 H.2
  | .c fn x y, V, h => by
    cases h with
    | c _ _ _ X Y hx hy hX hY =>
      have H := VRels.unconc hb hr (⟨hx, hX⟩ : VRels r (concAs c x) X)
      have K := VRels.unconc hb hr (⟨hy, hY⟩ : VRels r (concAs c y) Y)
      exact .c fn _ _ X Y H.1 K.1 H.2 K.2
  | .un, _, h => h
  | .b _, _, h => h
  | .i _ _, _, h => h
  | .f _, _, h => h
  | .nan, _, h => h
  | .s _, _, h => h
  | .pn, _, h => h
  | .p _ _, _, h => h
  | .r qs off, _, h => by
    cases h with
    | r _ _ B o g hi hv =>
      have H := conc_sum g hv
      rw [conc_length (c := c) qs] at H
      exact .r _ off B o g (fun j q hj => hi j _ (conc_set hj)) (conc_part (VRels.unconc hb hr H))
  | .ln, _, h => h
  | .l k qs n, _, h => by
    cases h with
    | l _ _ _ B o cap g hn hi hv hf ht =>
      have H := conc_sum g hv
      rw [conc_length (c := c) qs] at H
      exact .l k _ n B o cap g hn (fun j q hj => hi j _ (conc_set hj)) (conc_part (VRels.unconc hb hr H)) hf ht
  | .v _ _ _ _, _, h => h
  | .mn, _, h => h
  | .m _, _, h => h
  | .cn, _, h => h
  | .jn, _, h => h
theorem VRels.unconc (hb : Tells b c) (hr : r.ρ = b.ρ) : ∀ {vs : List AV} {Vs : List Value}, VRels r (concAs c vs) Vs → VRels r vs Vs
  | [], _, h => h
  | v :: vs, _, h => by
    obtain ⟨Y, Ys, rfl, h1, h2⟩ := h.cons_inv
    exact .cons (VRel.unconc hb hr h1) (VRels.unconc hb hr h2)
end

/-! ### Operations on tokens -/
/-- Of these '==' asks no guard. -/
def AV.isScal : AV → Bool
  | .b _ | .i _ _ | .f _ | .s _ | .nan => true
  | _ => false

/-- Numbers turned into numbers, strings into strings. -/
def convS (P : Program) (t u : TypeId) (x : AV) : Option AV :=
  match P.underlying t, P.underlying u, x with
  | some _, some (.int k), .i _ n => some (.i k (k.wrap n))
  | some _, some (.float .f64), .i _ n => some (.f (FloatKind.f64.nearest n))
  | some _, some (.float .f64), .f b => some (.f b)
  | some _, some (.float .f64), .nan => some .nan
  | some _, some (.int k), .f b => match (FloatKind.f64.decode b).toInt .zero with
    | some n => if k.min ≤ n ∧ n ≤ k.max then some (.i k n) else none
    | none => none
  | some _, some .string, .s l => some (.s l)
  | _, _, _ => none

/-- What an operation comes to on what is told. -/
def evalK (P : Program) : OpK → List AV → Option AV
  | .bin op t, [x, y] => if x.isScal then binA P op t x y false else none
  | .un op, [x] => unA op x
  | .conv t u, [x] => convS P t u x
  | .slice t true true, [x, l, h] => sliceA P t x (some l) (some h) none
  | .slice t true false, [x, l] => sliceA P t x (some l) none none
  | .slice t false true, [x, h] => sliceA P t x none (some h) none
  | .slice t false false, [x] => sliceA P t x none none none
  | .index t, [x, y] => indexA P t x y
  | .indexAddr t, [x, y] => indexAddrA P t x y
  | .fieldAddr t k, [x] => fieldAddrA P t x k
  | .field t k, [x] => fieldA P t x k
  | .load t, [.r cs off] => partA P t cs off
  | .nilCheck, [.r cs off] => some (.r cs off)
  | .len t, [.s l] => match P.underlying t with
    | some .string => some (.i .i64 l.length)
    | _ => none
  | .len t, [.l _ _ n] => match P.underlying t with
    | some (.slice _) => some (.i .i64 n)
    | _ => none
  | .len t, [.ln] => match P.underlying t with
    | some (.slice _) => some (.i .i64 0)
    | _ => none
  | .mx, [x, y] => maxA [x, y]
  | .mn, [x, y] => minA [x, y]
  | _, _ => none

theorem conv_small {src dst : TypeId} {x v : AV} {X : Value} (hc : convS P src dst x = some v) (hx : VRel r x X) : Gives P r w (convert src dst X) v := by
  unfold convS at hc
  split at hc
  · rename_i hs hd; cases hx; cases hc
    exact .now (V := .int _ _) (by simp [convert, run_underlying hs, run_underlying hd, Conv.intToInt]; done) (.i _ _)
  · rename_i hs hd; cases hx; cases hc
    exact .now (V := .float .f64 _) (by simp [convert, run_underlying hs, run_underlying hd, Conv.intToFloat]; done) (.f _)
  · rename_i hs hd; cases hx; cases hc
    exact .now (V := .float .f64 _) (by simp [convert, run_underlying hs, run_underlying hd, Conv.floatToFloat]; done) (.f _)
  · rename_i hs hd; cases hc
    cases hx with
    | nan x hn => exact .now (V := .float .f64 x) (by simp [convert, run_underlying hs, run_underlying hd, Conv.floatToFloat]; done) (.nan x hn)
  · rename_i hs hd; cases hx
    split at hc
    · rename_i n hn
      split at hc
      · rename_i hb
        cases hc
        exact .now (V := .int _ _) (by simp [convert, run_underlying hs, run_underlying hd, Conv.floatToInt, hn, hb]; done) (.i _ _)
      · cases hc
    · cases hc
  · rename_i hs hd; cases hx; cases hc
    exact .now (V := .string _) (by simp [convert, run_underlying hs, run_underlying hd]; done) (.s _)
  · cases hc

theorem scal_plain {x : AV} {X : Value} (hs : x.isScal = true) (hx : VRel r x X) : plainV X = true := by
  cases hx <;> first | rfl | cases hs

theorem evalK_gives {b : Base} (hR : R P b r h w) {k : OpK} {args : List AV} {v : AV} {Vs : List Value} (he : evalK P k args = some v) (hv : VRels r args Vs) : ∃ V, k.gives P w Vs V ∧ VRel r v V := by
  have fin : ∀ {S : Sem Value}, Gives P r w S v → ∃ V, (∃ w', S.run P w = .ok V w' ∧ Sm w w') ∧ VRel r v V := fun ⟨V, w', h1, h2, h3⟩ => ⟨V, ⟨w', h1, h2⟩, h3⟩
  have one : ∀ {x : AV}, VRels r [x] Vs → ∃ X, Vs = [X] ∧ VRel r x X := fun hv => by
    obtain ⟨X, Xs, rfl, h1, h2⟩ := hv.cons_inv
    obtain rfl := h2.nil_inv
    exact ⟨X, rfl, h1⟩
  have two : ∀ {x y : AV}, VRels r [x, y] Vs → ∃ X Y, Vs = [X, Y] ∧ VRel r x X ∧ VRel r y Y := fun hv => by
    obtain ⟨X, Xs, rfl, h1, h2⟩ := hv.cons_inv
    obtain ⟨Y, Ys, rfl, h3, h4⟩ := h2.cons_inv
    obtain rfl := h4.nil_inv
    exact ⟨X, Y, rfl, h1, h3⟩
  have three : ∀ {x y z : AV}, VRels r [x, y, z] Vs → ∃ X Y Z, Vs = [X, Y, Z] ∧ VRel r x X ∧ VRel r y Y ∧ VRel r z Z := fun hv => by
    obtain ⟨X, Xs, rfl, h1, h2⟩ := hv.cons_inv
    obtain ⟨Y, Ys, rfl, h3, h4⟩ := h2.cons_inv
    obtain ⟨Z, Zs, rfl, h5, h6⟩ := h4.cons_inv
    obtain rfl := h6.nil_inv
    exact ⟨X, Y, Z, rfl, h1, h3, h5⟩
  unfold evalK at he
  split at he
  · obtain ⟨X, Y, rfl, h1, h2⟩ := two hv
    split at he
    · rename_i hs
      obtain ⟨V, h3, h4⟩ := fin (bin_gives (w := w) he h1 h2)
      exact ⟨V, ⟨scal_plain hs h1, h3⟩, h4⟩
    · cases he
  · obtain ⟨X, rfl, h1⟩ := one hv; exact fin (un_gives he h1)
  · obtain ⟨X, rfl, h1⟩ := one hv; exact fin (conv_small he h1)
  · obtain ⟨X, Y, Z, rfl, h1, h2, h3⟩ := three hv; exact fin (slice_gives (MX := none) he h1 (LO := some Y) (HI := some Z) h2 h3 trivial)
  · obtain ⟨X, Y, rfl, h1, h2⟩ := two hv; exact fin (slice_gives (MX := none) he h1 (LO := some Y) (HI := none) h2 trivial trivial)
  · obtain ⟨X, Y, rfl, h1, h2⟩ := two hv; exact fin (slice_gives (MX := none) he h1 (LO := none) (HI := some Y) trivial h2 trivial)
  · obtain ⟨X, rfl, h1⟩ := one hv; exact fin (slice_gives (MX := none) he h1 (LO := none) (HI := none) trivial trivial trivial)
  · obtain ⟨X, Y, rfl, h1, h2⟩ := two hv; exact fin (index_gives he h1 h2)
  · obtain ⟨X, Y, rfl, h1, h2⟩ := two hv; exact fin (indexAddr_gives he h1 h2)
  · obtain ⟨X, rfl, h1⟩ := one hv; exact fin (fieldAddr_gives he h1)
  · obtain ⟨X, rfl, h1⟩ := one hv; exact fin (field_gives he h1)
  · obtain ⟨X, rfl, h1⟩ := one hv; exact fin (loadA_gives hR (x := .r _ _) he h1)
  · obtain ⟨X, rfl, h1⟩ := one hv
    cases he
    refine ⟨X, ⟨rfl, ?_⟩, h1⟩
    cases h1; rfl
  · obtain ⟨X, rfl, h1⟩ := one hv
    rename_i t l
    cases h1
    split at he
    · rename_i hu
      cases he
      exact ⟨.int .i64 l.length, fun ty => ⟨w, by simp [Builtin.len_, run_underlying hu, goInt, ← ByteArray.size_data], .refl w⟩, .i _ _⟩
    · cases he
  · obtain ⟨X, rfl, h1⟩ := one hv
    rename_i t tk cs n
    cases h1
    split at he
    · rename_i hu
      cases he
      exact ⟨.int .i64 n, fun ty => ⟨w, by simp [Builtin.len_, run_underlying hu, goInt], .refl w⟩, .i _ _⟩
    · cases he
  · obtain ⟨X, rfl, h1⟩ := one hv
    cases h1
    split at he
    · rename_i hu
      cases he
      exact ⟨.int .i64 0, fun ty => ⟨w, by simp [Builtin.len_, run_underlying hu, goInt], .refl w⟩, .i _ _⟩
    · cases he
  · obtain ⟨X, Y, rfl, h1, h2⟩ := two hv
    obtain ⟨V, w', h3, h4, h5⟩ := max_gives (P := P) (w := w) he hv #[] 0
    refine ⟨V, fun ts ty => ?_, h5⟩
    obtain ⟨V2, w2, h6, h7, h8⟩ := max_gives (P := P) (w := w) he hv ts ty
    have : V2 = V := by
      unfold maxA at he
      split at he
      · cases he; cases h5; cases h8; rfl
      · cases he
    exact ⟨w2, this ▸ h6, h7⟩
  · obtain ⟨X, Y, rfl, h1, h2⟩ := two hv
    obtain ⟨V, w', h3, h4, h5⟩ := min_gives (P := P) (w := w) he hv #[] 0
    refine ⟨V, fun ts ty => ?_, h5⟩
    obtain ⟨V2, w2, h6, h7, h8⟩ := min_gives (P := P) (w := w) he hv ts ty
    have : V2 = V := by
      unfold minA at he
      split at he
      · cases he; cases h5; cases h8; rfl
      · cases he
    exact ⟨w2, this ▸ h6, h7⟩
  · cases he

/-- An entry about an operation, told by what its tokens stand for. -/
theorem opOK_conc {b : Base} (hb : Tells b c) {k : OpK} {args : List AV} {v : AV} (he : evalK P k (concAs c args) = some (concA c v)) : OpOK P b k args v := by
  intro r h w Vs hR hv
  obtain ⟨V, h1, h2⟩ := evalK_gives hR he (hv.conc hb hR.rho)
  exact ⟨V, h1, h2.unconc hb hR.rho⟩

/-! ### Functions that turn nothing -/
/-- Memory that has only grown: what was told of it is so. -/
theorem R.below {b : Base} (hR : R P b r h w) {w' : World} (hb : Below w.heap.size w w') : R P b r h w' := by
  refine .mk' hR.len (fun k B o h1 h2 => ?_) (fun B o V hi => ?_) hR.dis hR.nd hR.new ?_ hR.rho hR.old
  · exact (hR.orel h1 h2).mono (.refl r) (hb.block B (hR.heap_lt h1 h2)) fun _ _ _ _ hx => hx
  · have := hR.imm B o V hi
    simp only [World.cell?, hb.block B (hR.lt hi)] at this ⊢
    exact this
  · exact ⟨hb.os.trans hR.bel.os, hb.tape.trans hR.bel.tape, hb.output.trans hR.bel.output, Nat.le_trans hR.bel.size hb.size, fun k hk ho => (hb.block k (Nat.lt_of_lt_of_le hk hR.bel.size)).trans (hR.bel.block k hk ho)⟩

/-- Called with these it comes to this, and what was in memory is as it was. -/
def Pure (P : Program) (f : FuncId) (args : List AV) (v : AV) : Prop :=
  ∀ (w : World), CallX P f (valAs args).toArray w fun e w' => e = .returned (valA v) ∧ Below w.heap.size w w'

theorem CallX.mono {f : FuncId} {Vs : Array Value} {Q Q' : Ending → World → Prop} (hc : CallX P f Vs w Q) (hq : ∀ e w', Q e w' → Q' e w') : CallX P f Vs w Q' := by
  rcases hc with ⟨V, w', h1, h2⟩ | ⟨h1, h2⟩
  · exact .inl ⟨V, w', h1, hq _ _ h2⟩
  · exact .inr ⟨h1, h2.mono hq⟩

theorem Pure.calls {f : FuncId} {fn : Func} {cd : Code} {args : List AV} {v : AV} (hp : Pure P f args v) (hnm : Named P) (hf : P.funcs[f]? = some fn) (hb : fn.body = some cd) (w : World) :
    Calls P f (valAs args).toArray w fun e w' => e = .returned (valA v) ∧ Below w.heap.size w w' := by
  rcases hp w with ⟨V, w', h1, _⟩ | ⟨_, h2⟩
  · rw [enter_run hf (hnm _ _ hf) hb] at h1; cases h1
  · exact h2

/-- An entry about such a function. -/
def FEnt.pure (f : FuncId) (args : List AV) (v : AV) : FEnt := { f := f, args := args, pre := [], res := .ret v, post := [] }

theorem ent_pure {b : Base} (hb : Tells b c) {f : FuncId} {args : List AV} {v : AV} (h1 : stableAs (concAs c args) = true) (h2 : stableA (concA c v) = true) (hp : Pure P f (concAs c args) (concA c v)) : (FEnt.pure f args v).OK P b := by
  intro r h w Vs _ hR hv
  have hVs := (hv.conc hb hR.rho).stable_eq h1
  subst hVs
  refine (hp w).mono fun e w' ⟨h3, h4⟩ => ?_
  subst h3
  exact ⟨r, .refl r, hR.below h4, VRel.unconc hb hR.rho (VRel.ofStable h2)⟩

/-- All entries about operations are so. -/
def OsOK (P : Program) (c : List AV) : List OEnt → Prop
  | [] => True
  | e :: es => evalK P e.k (concAs c e.args) = some (concA c e.v) ∧ OsOK P c es

theorem OsOK.all {b : Base} (hb : Tells b c) : ∀ {os : List OEnt}, OsOK P c os → ∀ e ∈ os, OpOK P b e.k e.args e.v := by
  intro os
  induction os with
  | nil => intro _ e he; simp at he
  | cons x os ih =>
    intro h e he
    rcases List.mem_cons.1 he with rfl | he
    · exact opOK_conc hb h.1
    · exact ih h.2 e he

/-- What is known of a function that turns nothing. -/
structure PEnt where
  f : FuncId
  args : List AV
  v : AV

def PEnt.ent (e : PEnt) : FEnt := .pure e.f e.args e.v

/-- All entries about functions are so. -/
def PsOK (P : Program) (c : List AV) : List PEnt → Prop
  | [] => True
  | e :: es => (stableAs (concAs c e.args) = true ∧ stableA (concA c e.v) = true ∧ Pure P e.f (concAs c e.args) (concA c e.v)) ∧ PsOK P c es

theorem PsOK.all {b : Base} (hb : Tells b c) : ∀ {ps : List PEnt}, PsOK P c ps → ∀ e ∈ ps.map PEnt.ent, e.OK P b := by
  intro ps
  induction ps with
  | nil => intro _ e he; simp at he
  | cons x ps ih =>
    intro h e he
    simp only [List.map_cons, List.mem_cons] at he
    rcases he with rfl | he
    · exact ent_pure hb h.1.1 h.1.2.1 h.1.2.2
    · exact ih h.2 e he

/-- The table of such entries, behind the machine's own functions. -/
def pureT (p : Places) (ps : List PEnt) (os : List OEnt) : CallT := (tabT (ps.map PEnt.ent) os).or (primT p)

theorem pureT_sound {b : Base} {p : Places} (hpl : Placed P p) (hb : Tells b c) {ps : List PEnt} {os : List OEnt} (hp : PsOK P c ps) (ho : OsOK P c os) : SoundC P b (pureT p ps os) :=
  (tab_sound (hp.all hb) (ho.all hb)).or (prim_sound hpl)

theorem pureT_grow (p : Places) (ps : List PEnt) (os : List OEnt) : GrowC (pureT p ps os) := (tab_grow _ _).or (prim_grow p)

/-- A run on tokens, whatever they stand for: so the function is. -/
theorem pure_of_run {p : Places} (hmx : P.follows .mixedOrders = true) (hnm : Named P) (hpl : Placed P p) {n : Nat} {f : FuncId} {fn : Func} {cd : Code} (hf : P.funcs[f]? = some fn) (hb : fn.body = some cd)
    {args : List AV} {v : AV} {s' : HS} {ps : List PEnt} {os : List OEnt} (hrun : callF P (pureT p ps os) n f args { h := [], esc := none } = some (.ret v, s'))
    (tk : List AV) (htk : tk.all plainA = true) (hp : PsOK P tk ps) (ho : OsOK P tk os) (h1 : stableAs (concAs tk args) = true) (h2 : stableA (concA tk v) = true) : Pure P f (concAs tk args) (concA tk v) := by
  intro w
  have hT : Tells (Base.told w tk) tk := ⟨htk, fun _ => rfl⟩
  refine .inr ⟨enter_run hf (hnm _ _ hf) hb _ w, ?_⟩
  have := calls_plain (b := Base.told w tk) hmx hnm (pureT_sound hpl hT hp ho) (pureT_grow p ps os) (fun _ _ _ h => h) (fun _ => rfl) hf hb hrun (Vs := valAs (concAs tk args)) (VRels.unconc hT rfl (VRels.ofStables h1))
  refine this.mono fun e w' ⟨r', V, he, hv, hle, _, hb'⟩ => ⟨?_, hb'⟩
  rw [he, VRel.stable_eq h2 (VRel.conc hT hle.rho hv)]

/-! ### Functions that turn nothing and lay rows -/
/-- What is told of such a value is so wherever as much is known of rows. -/
theorem VRel.rebase {r r' : RC} {v : AV} {V : Value} (h : VRel r v V) (hi : ∀ B o V, r.imm B o = some V → r'.imm B o = some V) (hc : cleanA v = true) : VRel r' v V := by
  induction h with
  | un V => exact .un V
  | b x => exact .b x
  | i k n => exact .i k n
  | f x => exact .f x
  | nan x h => exact .nan x h
  | s x => exact .s x
  | pn => exact .pn
  | p k off B h ht => cases hc
  | r cs off B o g hi' _ ih => exact .r cs off B o g (fun j v h => hi _ _ _ (hi' j v h)) fun j v h => ih j v h (clean_get hc h)
  | ln => exact .ln
  | l tk cs n B o cap g hn hi' _ hf ht ih =>
    simp only [cleanA, Bool.and_eq_true] at hc
    exact .l tk cs n B o cap g hn (fun j v h => hi _ _ _ (hi' j v h)) (fun j v h => ih j v h (clean_get hc.2 h)) hf fun k hk => by rw [hk] at hc; exact absurd hc.1 (by simp)
  | v k off n cap B hn h ht => cases hc
  | mn => exact .mn
  | m k B h ht => cases hc
  | cn => exact .cn
  | c fn x y X Y hx hy _ _ ihX ihY =>
    simp only [cleanA, Bool.and_eq_true] at hc
    exact .c fn x y X Y hx hy (fun j v V h1 h2 => ihX j v V h1 h2 (clean_get hc.1 h1)) (fun j v V h1 h2 => ihY j v V h1 h2 (clean_get hc.2 h1))
  | jn => exact .jn
  | j t v V _ ih => exact .j t v V (ih hc)
  | a x X hl _ ih => exact .a x X hl fun j v V h1 h2 => ih j v V h1 h2 (clean_get hc h1)
  | t x X hl _ ih => exact .t x X hl fun j v V h1 h2 => ih j v V h1 h2 (clean_get hc h1)
  | sy k V h0 h h1 h2 => cases hc

theorem VRels.rebase {r r' : RC} {v : List AV} {V : List Value} (h : VRels r v V) (hi : ∀ B o V, r.imm B o = some V → r'.imm B o = some V) (hc : cleanAs v = true) : VRels r' v V :=
  ⟨h.1, fun j a A h1 h2 => (h.2 j a A h1 h2).rebase hi (clean_get hc h1)⟩

def CR.conc (c : List AV) : CR → CR
  | .ret v => .ret (concA c v)
  | .pan v => .pan (concA c v)
def CR.clean : CR → Bool
  | .ret v | .pan v => cleanA v

/-- Called with these (no tokens, no blocks among them) it comes to this, whatever lies in memory besides. -/
def Row (P : Program) (f : FuncId) (args : List AV) (q : CR) : Prop :=
  ∀ (b : Base) (r : RC) (h : AH) (w : World) (Vs : List Value), R P b r h w → VRels r args Vs → CallX P f Vs.toArray w fun e w' => ∃ r', RLe r r' ∧ R P b r' h w' ∧ ERel r' q e

theorem Pure.row {f : FuncId} {args : List AV} {v : AV} (hp : Pure P f args v) (h1 : stableAs args = true) (h2 : stableA v = true) : Row P f args (.ret v) := by
  intro b r h w Vs hR hv
  have hVs := hv.stable_eq h1
  subst hVs
  refine (hp w).mono fun e w' ⟨h3, h4⟩ => ?_
  subst h3
  exact ⟨r, .refl r, hR.below h4, VRel.ofStable h2⟩

structure REnt where
  f : FuncId
  args : List AV
  q : CR

def REnt.ent (e : REnt) : FEnt := { f := e.f, args := e.args, pre := [], res := e.q, post := [] }

theorem ent_row {b : Base} (hb : Tells b c) {f : FuncId} {args : List AV} {q : CR} (hp : Row P f (concAs c args) (q.conc c)) : (REnt.ent ⟨f, args, q⟩).OK P b := by
  intro r h w Vs _ hR hv
  refine (hp b r h w Vs hR (hv.conc hb hR.rho)).mono fun e w' ⟨r', h1, h2, h3⟩ => ⟨r', h1, h2, ?_⟩
  cases q with
  | ret v => cases e with
    | returned V => exact VRel.unconc hb h2.rho h3
    | _ => exact h3.elim
  | pan v => cases e with
    | panicked ch => obtain ⟨V, tl, g1, g2, g3⟩ := h3; exact ⟨V, tl, g1, g2, VRel.unconc hb h2.rho g3⟩
    | _ => exact h3.elim

/-- All such entries are so. -/
def RsOK (P : Program) (c : List AV) : List REnt → Prop
  | [] => True
  | e :: es => Row P e.f (concAs c e.args) (e.q.conc c) ∧ RsOK P c es

theorem RsOK.all {b : Base} (hb : Tells b c) : ∀ {rs : List REnt}, RsOK P c rs → ∀ e ∈ rs.map REnt.ent, e.OK P b := by
  intro rs
  induction rs with
  | nil => intro _ e he; simp at he
  | cons x rs ih =>
    intro h e he
    simp only [List.map_cons, List.mem_cons] at he
    rcases he with rfl | he
    · exact ent_row hb h.1
    · exact ih h.2 e he

/-- The table of all such entries, behind the machine's own functions. -/
def fullT (p : Places) (rs : List REnt) (ps : List PEnt) (os : List OEnt) : CallT := (tabT (rs.map REnt.ent ++ ps.map PEnt.ent) os).or (primT p)

theorem fullT_sound {b : Base} {p : Places} (hpl : Placed P p) (hb : Tells b c) {rs : List REnt} {ps : List PEnt} {os : List OEnt} (hr : RsOK P c rs) (hp : PsOK P c ps) (ho : OsOK P c os) : SoundC P b (fullT p rs ps os) :=
  (tab_sound (fun e he => by
    rcases List.mem_append.1 he with he | he
    · exact hr.all hb e he
    · exact hp.all hb e he) (ho.all hb)).or (prim_sound hpl)

theorem fullT_grow (p : Places) (rs : List REnt) (ps : List PEnt) (os : List OEnt) : GrowC (fullT p rs ps os) := (tab_grow _ _).or (prim_grow p)

/-- A run from an empty abstract memory that leaves it empty: so it is beside any other memory. -/
theorem row_of_run {p : Places} (hmx : P.follows .mixedOrders = true) (hnm : Named P) (hpl : Placed P p) {n : Nat} {f : FuncId} {args : List AV} {q : CR} {rs : List REnt} {ps : List PEnt} {os : List OEnt}
    (hrun : callF P (fullT p rs ps os) n f args { h := [], esc := none } = some (q, { h := [], esc := none }))
    (tk : List AV) (htk : tk.all plainA = true) (hrs : RsOK P tk rs) (hps : PsOK P tk ps) (hos : OsOK P tk os) (h1 : cleanAs (concAs tk args) = true) (h2 : (q.conc tk).clean = true) : Row P f (concAs tk args) (q.conc tk) := by
  intro b r hh w Vs hR hv
  let b1 : Base := { w := w, ρ := fun k => tk.getD k .pn, im := r.imm }
  have hT : Tells b1 tk := ⟨htk, fun _ => rfl⟩
  have hst : R P b1 (.start b1) [] w := R.start (b := b1) fun B o V hi => hR.imm B o V hi
  have hv1 : VRels (.start b1) args Vs := VRels.unconc hT rfl (hv.rebase (fun B o V hi => hi) h1)
  refine ((call_sound hmx hnm (fullT_sound hpl hT hrs hps hos) (fullT_grow p rs ps os) n).fn f args _ _ _ hrun _ w Vs hst hv1).mono fun e w' ⟨r2, g1, g2, g3⟩ => ?_
  have hsz : w.heap.size ≤ w'.heap.size := g2.bel.size
  have hblk : ∀ k, k < w.heap.size → w'.heap[k]? = w.heap[k]? := fun k hk => g2.bel.block k hk rfl
  let r' : RC := { r with imm := fun B o => if B < w.heap.size then r.imm B o else r2.imm B o }
  have him : ∀ B o V, r.imm B o = some V → r'.imm B o = some V := fun B o V hi => by
    show (if B < w.heap.size then r.imm B o else r2.imm B o) = some V
    rw [if_pos (hR.lt hi)]; exact hi
  have him2 : ∀ B o V, r2.imm B o = some V → r'.imm B o = some V := fun B o V hi => by
    show (if B < w.heap.size then r.imm B o else r2.imm B o) = some V
    split
    · rename_i hlt
      rcases g2.old B o V hi with h3 | h3
      · rcases h3 with h3 | h3
        · exact absurd h3 (by show ¬ w.heap.size ≤ B; omega)
        · cases h3
      · exact h3
    · exact hi
  have hle : RLe r r' := ⟨⟨fun k B h3 h4 => ⟨h3, h4⟩, him, fun k n c B h3 h4 => ⟨n, c, B, h3, h4, Nat.le_refl _, fun _ => ⟨rfl, rfl⟩⟩, rfl⟩, fun k h3 => h3⟩
  have hR' : R P b r' hh w' := by
    refine .mk' hR.len (fun k B o h3 h4 => ?_) (fun B o V hi => ?_) (fun k B h3 h4 o => ?_) hR.nd hR.new ?_ hR.rho (fun B o V hi => ?_)
    · have hlt := hR.heap_lt h3 h4
      exact (hR.orel h3 h4).mono hle (hblk B hlt) fun n e _ x hx => by
        show (if B < w.heap.size then r.imm B x else r2.imm B x) = none
        rw [if_pos hlt]; exact hx
    · have hi : (if B < w.heap.size then r.imm B o else r2.imm B o) = some V := hi
      split at hi
      · rename_i hlt
        have := hR.imm B o V hi
        simp only [World.cell?, hblk B hlt] at this ⊢
        exact this
      · exact g2.imm B o V hi
    · have hlt := hR.lt' h3
      show (if B < w.heap.size then r.imm B o else r2.imm B o) = none
      rw [if_pos hlt]; exact hR.dis k B h3 h4 o
    · exact ⟨g2.bel.os.trans hR.bel.os, g2.bel.tape.trans hR.bel.tape, g2.bel.output.trans hR.bel.output, Nat.le_trans hR.bel.size hsz, fun k hk ho => (hblk k (Nat.lt_of_lt_of_le hk hR.bel.size)).trans (hR.bel.block k hk ho)⟩
    · have hi : (if B < w.heap.size then r.imm B o else r2.imm B o) = some V := hi
      split at hi
      · exact hR.old B o V hi
      · rename_i hge; exact .inl (.inl (Nat.le_trans hR.bel.size (Nat.le_of_not_lt hge)))
  refine ⟨r', hle, hR', ?_⟩
  cases q with
  | ret v => cases e with
    | returned V => exact VRel.rebase (VRel.conc hT g2.rho g3) him2 h2
    | _ => exact g3.elim
  | pan v => cases e with
    | panicked ch => obtain ⟨V, tl, g4, g5, g6⟩ := g3; exact ⟨V, tl, g4, g5, VRel.rebase (VRel.conc hT g2.rho g6) him2 h2⟩
    | _ => exact g3.elim

/-- A run that comes to one value, with all kinds of entries. -/
theorem pure_of_full {p : Places} (hmx : P.follows .mixedOrders = true) (hnm : Named P) (hpl : Placed P p) {n : Nat} {f : FuncId} {fn : Func} {cd : Code} (hf : P.funcs[f]? = some fn) (hb : fn.body = some cd)
    {args : List AV} {v : AV} {s' : HS} {rs : List REnt} {ps : List PEnt} {os : List OEnt} (hrun : callF P (fullT p rs ps os) n f args { h := [], esc := none } = some (.ret v, s'))
    (tk : List AV) (htk : tk.all plainA = true) (hrs : RsOK P tk rs) (hp : PsOK P tk ps) (ho : OsOK P tk os) (h1 : stableAs (concAs tk args) = true) (h2 : stableA (concA tk v) = true) : Pure P f (concAs tk args) (concA tk v) := by
  intro w
  have hT : Tells (Base.told w tk) tk := ⟨htk, fun _ => rfl⟩
  refine .inr ⟨enter_run hf (hnm _ _ hf) hb _ w, ?_⟩
  have := calls_plain (b := Base.told w tk) hmx hnm (fullT_sound hpl hT hrs hp ho) (fullT_grow p rs ps os) (fun _ _ _ h => h) (fun _ => rfl) hf hb hrun (Vs := valAs (concAs tk args)) (VRels.unconc hT rfl (VRels.ofStables h1))
  refine this.mono fun e w' ⟨r', V, he, hv, hle, _, hb'⟩ => ⟨?_, hb'⟩
  rw [he, VRel.stable_eq h2 (VRel.conc hT hle.rho hv)]
end
end Go.Ab
