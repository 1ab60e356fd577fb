/- What code comes to from a state that names no token; loops, round by round; functions out of such runs. -/
import Derived.Test.YtfjgblbmdddpkaaGreatDoorCa
namespace Go.Ab
open Go.RowKit

/-! ### States without tokens -/
def Tm.conc (c : List AV) : Tm → Tm
  | .lf => .lf
  | .nd q x y => .nd (concA c q) (x.conc c) (y.conc c)

theorem conc_un (c : List AV) : concA c .un = .un := by simp [concA]

theorem Tm.conc_get (c : List AV) : ∀ (t : Tm) (k : Nat), (t.conc c).get k = concA c (t.get k)
  | .lf, k => by simp [Tm.conc, Tm.get, conc_un]
  | .nd q x y, k => by
    cases k with
    | zero => rfl
    | succ k =>
      rcases Nat.mod_two_eq_zero_or_one k with hk | hk <;> simp only [Tm.conc, Tm.get, hk]
      · exact Tm.conc_get c x _
      · exact Tm.conc_get c y _

def concO (c : List AV) : AO → AO
  | .cs l => .cs (concAs c l)
  | .mp es => .mp (es.map fun q => (concA c q.1, concA c q.2))
  | o => o

def ST.conc (c : List AV) (st : ST) : ST := { tm := st.tm.conc c, s := { h := st.s.h.map (concO c), esc := st.s.esc }, df := st.df.map fun d => (d.1, concAs c d.2) }

def AE.conc (c : List AV) : AE → AE
  | .pn v => .pn (concA c v)
  | x => x

theorem concAs_map (c : List AV) (l : List AV) : concAs c l = l.map (concA c) := by induction l <;> simp_all [concAs]

section
variable {P : Program} {b : Base} {c : List AV} {r : RC} {w : World} {h : AH} {nt : Nat}

theorem ORel.conc (hb : Tells b c) (hr : r.ρ = b.ρ) {B : Nat} {t : Option (Nat × Nat)} {o : AO} (ho : ORel P r w B t o) : ORel P r w B t (concO c o) := by
  cases o with
  | cs l => obtain ⟨h1, L, el, h2, h3⟩ := ho; exact ⟨h1, L, el, h2, h3.conc hb hr⟩
  | mp es =>
    obtain ⟨h1, E, k, h2, h3, h4, h5⟩ := ho
    refine ⟨h1, E, k, h2, ?_, ?_, h5⟩
    · have := h3.conc hb hr; rw [concAs_map] at this; simpa [List.map_map, Function.comp_def] using this
    · have := h4.conc hb hr; rw [concAs_map] at this; simpa [List.map_map, Function.comp_def] using this
  | it s pos => exact ho
  | tk n e => exact ho

theorem ORel.unconc (hb : Tells b c) (hr : r.ρ = b.ρ) {B : Nat} {t : Option (Nat × Nat)} {o : AO} (ho : ORel P r w B t (concO c o)) : ORel P r w B t o := by
  cases o with
  | cs l => obtain ⟨h1, L, el, h2, h3⟩ := ho; exact ⟨h1, L, el, h2, h3.unconc hb hr⟩
  | mp es =>
    obtain ⟨h1, E, k, h2, h3, h4, h5⟩ := ho
    refine ⟨h1, E, k, h2, ?_, ?_, h5⟩
    · apply VRels.unconc hb hr; rw [concAs_map]; simpa [List.map_map, Function.comp_def] using h3
    · apply VRels.unconc hb hr; rw [concAs_map]; simpa [List.map_map, Function.comp_def] using h4
  | it s pos => exact ho
  | tk n e => exact ho

theorem R.conc (hb : Tells b c) (hR : R P b r h w) : R P b r (h.map (concO c)) w := by
  refine .mk' (by rw [List.length_map]; exact hR.len) (fun k B o h1 h2 => ?_) hR.imm hR.dis hR.nd hR.new hR.bel hR.rho hR.old
  rw [List.getElem?_map] at h2
  cases hq : h[k]? with
  | none => rw [hq] at h2; cases h2
  | some o0 => rw [hq] at h2; cases h2; exact (hR.orel h1 hq).conc hb hR.rho

theorem R.unconc (hb : Tells b c) (hR : R P b r (h.map (concO c)) w) : R P b r h w := by
  refine .mk' (by have := hR.len; rwa [List.length_map] at this) (fun k B o h1 h2 => ?_) hR.imm hR.dis hR.nd hR.new hR.bel hR.rho hR.old
  exact (hR.orel h1 (o := concO c o) (by rw [List.getElem?_map, h2]; rfl)).unconc hb hR.rho

theorem DRel.conc (hb : Tells b c) (hr : r.ρ = b.ρ) : ∀ {d : List (FuncId × List AV)} {D : List Deferred}, DRel r d D → DRel r (d.map fun q => (q.1, concAs c q.2)) D
  | [], [], _ => trivial
  | (_, _) :: _, _ :: _, ⟨⟨cap, A, h1, h2⟩, h3⟩ => ⟨⟨cap, A, h1, h2.conc hb hr⟩, DRel.conc hb hr h3⟩
  | [], _ :: _, h => h.elim
  | _ :: _, [], h => h.elim

theorem DRel.unconc (hb : Tells b c) (hr : r.ρ = b.ρ) : ∀ {d : List (FuncId × List AV)} {D : List Deferred}, DRel r (d.map fun q => (q.1, concAs c q.2)) D → DRel r d D
  | [], [], _ => trivial
  | (_, _) :: _, _ :: _, ⟨⟨cap, A, h1, h2⟩, h3⟩ => ⟨⟨cap, A, h1, VRels.unconc hb hr h2⟩, DRel.unconc hb hr h3⟩
  | [], _ :: _, h => h.elim
  | _ :: _, [], h => h.elim

theorem SR.conc (hb : Tells b c) {st : ST} {a : Act} (hS : SR P b r nt st a w) : SR P b r nt (st.conc c) a w :=
  ⟨hS.mem.conc hb, hS.sz, fun k => by rw [show (st.conc c).tm = st.tm.conc c from rfl, Tm.conc_get]; exact (hS.tm k).conc hb hS.mem.rho, hS.df.conc hb hS.mem.rho⟩

theorem SR.unconc (hb : Tells b c) {st : ST} {a : Act} (hS : SR P b r nt (st.conc c) a w) : SR P b r nt st a w :=
  ⟨R.unconc hb hS.mem, hS.sz, fun k => by
    have := hS.tm k
    rw [show (st.conc c).tm = st.tm.conc c from rfl, Tm.conc_get] at this
    exact VRel.unconc hb hS.mem.rho this, DRel.unconc hb hS.mem.rho hS.df⟩

theorem XRel.conc (hb : Tells b c) (hr : r.ρ = b.ρ) {x : AE} {e : Exit} (h : XRel r x e) : XRel r (x.conc c) e := by
  cases x with
  | pn v => cases e with
    | panic ch => obtain ⟨V, tl, h1, h2, h3⟩ := h; exact ⟨V, tl, h1, h2, h3.conc hb hr⟩
    | _ => exact h.elim
  | _ => exact h

theorem XRel.unconc (hb : Tells b c) (hr : r.ρ = b.ρ) {x : AE} {e : Exit} (h : XRel r (x.conc c) e) : XRel r x e := by
  cases x with
  | pn v => cases e with
    | panic ch => obtain ⟨V, tl, h1, h2, h3⟩ := h; exact ⟨V, tl, h1, h2, VRel.unconc hb hr h3⟩
    | _ => exact h.elim
  | _ => exact h
end

/-! ### Other tokens -/
mutual
def tfA : AV → Bool
  | .sy _ => false
  | .r qs _ => tfAs qs
  | .l _ qs _ => tfAs qs
  | .c _ x y => tfAs x && tfAs y
  | .j _ q => tfA q
  | .a qs => tfAs qs
  | .t qs => tfAs qs
  | _ => true
def tfAs : List AV → Bool
  | [] => true
  | q :: qs => tfA q && tfAs qs
end

theorem tf_get {qs : List AV} (h : tfAs qs = true) {j : Nat} {q : AV} (hj : qs[j]? = some q) : tfA q = true := by
  induction qs generalizing j with
  | nil => simp at hj
  | cons a qs ih =>
    simp only [tfAs, Bool.and_eq_true] at h
    cases j with
    | zero => simp at hj; subst hj; exact h.1
    | succ j => exact ih h.2 (by simpa using hj)

mutual
theorem clean_tf : ∀ {q : AV}, cleanA q = true → tfA q = true
  | .un, _ => rfl
  | .b _, _ => rfl
  | .i _ _, _ => rfl
  | .f _, _ => rfl
  | .nan, _ => rfl
  | .s _, _ => rfl
  | .pn, _ => rfl
  | .p _ _, h => by cases h
  | .r qs _, h => by simp only [cleanA] at h; simp only [tfA]; exact clean_tfs h
  | .ln, _ => rfl
  | .l k qs _, h => by simp only [cleanA, Bool.and_eq_true] at h; simp only [tfA]; exact clean_tfs h.2
  | .v _ _ _ _, h => by cases h
  | .mn, _ => rfl
  | .m _, h => by cases h
  | .cn, _ => rfl
  | .c _ x y, h => by
    simp only [cleanA, Bool.and_eq_true] at h
    simp only [tfA, Bool.and_eq_true]
    exact ⟨clean_tfs h.1, clean_tfs h.2⟩
  | .jn, _ => rfl
  | .j _ q, h => by simp only [cleanA] at h; simp only [tfA]; exact clean_tf h
  | .a qs, h => by simp only [cleanA] at h; simp only [tfA]; exact clean_tfs h
  | .t qs, h => by simp only [cleanA] at h; simp only [tfA]; exact clean_tfs h
  | .sy _, h => by cases h
theorem clean_tfs : ∀ {qs : List AV}, cleanAs qs = true → tfAs qs = true
  | [], _ => rfl
  | q :: qs, h => by
    simp only [cleanAs, Bool.and_eq_true] at h
    simp only [tfAs, Bool.and_eq_true]
    exact ⟨clean_tf h.1, clean_tfs h.2⟩
end

mutual
theorem tf_conc {c : List AV} (hc : c.all plainA = true) : ∀ (q : AV), tfA (concA c q) = true
  | .sy k => by
    simp only [concA]
    have : plainA (c.getD k .pn) = true := by
      rw [List.getD_eq_getElem?_getD]
      cases hk : c[k]? with
      | none => rfl
      | some v => exact List.all_eq_true.1 hc v (List.mem_of_getElem? hk)
    unfold plainA at this
    rw [Bool.and_eq_true] at this
    exact clean_tf this.1
  | .un => rfl
  | .b _ => rfl
  | .i _ _ => rfl
  | .f _ => rfl
  | .nan => rfl
  | .s _ => rfl
  | .pn => rfl
  | .p _ _ => rfl
  | .r qs _ => by simp only [concA, tfA]; exact tf_concs hc qs
  | .ln => rfl
  | .l _ qs _ => by simp only [concA, tfA]; exact tf_concs hc qs
  | .v _ _ _ _ => rfl
  | .mn => rfl
  | .m _ => rfl
  | .cn => rfl
  | .c _ x y => by simp only [concA, tfA, Bool.and_eq_true]; exact ⟨tf_concs hc x, tf_concs hc y⟩
  | .jn => rfl
  | .j _ q => by simp only [concA, tfA]; exact tf_conc hc q
  | .a qs => by simp only [concA, tfA]; exact tf_concs hc qs
  | .t qs => by simp only [concA, tfA]; exact tf_concs hc qs
theorem tf_concs {c : List AV} (hc : c.all plainA = true) : ∀ (qs : List AV), tfAs (concAs c qs) = true
  | [] => rfl
  | q :: qs => by simp only [concAs, tfAs, Bool.and_eq_true]; exact ⟨tf_conc hc q, tf_concs hc qs⟩
end

section
variable {P : Program} {b : Base} {c : List AV} {r : RC} {w : World} {h : AH} {nt : Nat} {ρ' : Nat → AV}

theorem VRel.rerho {v : AV} {V : Value} (h : VRel r v V) (ht : tfA v = true) : VRel { r with ρ := ρ' } v V := by
  induction h with
  | un V => exact .un V
  | b x => exact .b x
  | i k n => exact .i k n
  | f x => exact .f x
  | nan x h => exact .nan x h
  | s x => exact .s x
  | pn => exact .pn
  | p k off B h h' => exact .p k off B h h'
  | r cs off B o g hi _ ih => exact .r cs off B o g hi fun j v h => ih j v h (tf_get ht h)
  | ln => exact .ln
  | l tk cs n B o cap g hn hi _ hf htk ih => exact .l tk cs n B o cap g hn hi (fun j v h => ih j v h (tf_get ht h)) hf htk
  | v k off n cap B C hn h h' hC => exact .v k off n cap B C hn h h' hC
  | mn => exact .mn
  | m k B h h' => exact .m k B h h'
  | cn => exact .cn
  | c fn x y X Y hx hy _ _ ihX ihY =>
    simp only [tfA, Bool.and_eq_true] at ht
    exact .c fn x y X Y hx hy (fun j v V h1 h2 => ihX j v V h1 h2 (tf_get ht.1 h1)) (fun j v V h1 h2 => ihY j v V h1 h2 (tf_get ht.2 h1))
  | jn => exact .jn
  | j t v V _ ih => exact .j t v V (ih ht)
  | a x X hl _ ih => exact .a x X hl fun j v V h1 h2 => ih j v V h1 h2 (tf_get ht h1)
  | t x X hl _ ih => exact .t x X hl fun j v V h1 h2 => ih j v V h1 h2 (tf_get ht h1)
  | sy k V h0 h h1 h2 => cases ht

theorem VRels.rerho {v : List AV} {V : List Value} (h : VRels r v V) (ht : tfAs v = true) : VRels { r with ρ := ρ' } v V :=
  ⟨h.1, fun j a A h1 h2 => (h.2 j a A h1 h2).rerho (tf_get ht h1)⟩

def tfO : AO → Bool
  | .cs l => tfAs l
  | .mp es => es.all fun q => tfA q.1 && tfA q.2
  | _ => true

def ST.tf (st : ST) : Prop := (∀ k, tfA (st.tm.get k) = true) ∧ (∀ o ∈ st.s.h, tfO o = true) ∧ ∀ d ∈ st.df, tfAs d.2 = true

theorem tfAs_map {α : Type} {l : List α} {f : α → AV} (h : ∀ x ∈ l, tfA (f x) = true) : tfAs (l.map f) = true := by
  induction l with
  | nil => rfl
  | cons x l ih =>
    simp only [List.map_cons, tfAs, Bool.and_eq_true]
    exact ⟨h x (List.mem_cons_self ..), ih fun y hy => h y (List.mem_cons_of_mem _ hy)⟩

theorem ORel.rerho {B : Nat} {t : Option (Nat × Nat)} {o : AO} (ho : ORel P r w B t o) (ht : tfO o = true) : ORel P { r with ρ := ρ' } w B t o := by
  cases o with
  | cs l => obtain ⟨h1, L, el, h2, h3⟩ := ho; exact ⟨h1, L, el, h2, h3.rerho ht⟩
  | mp es =>
    obtain ⟨h1, E, k, h2, h3, h4, h5⟩ := ho
    simp only [tfO, List.all_eq_true, Bool.and_eq_true] at ht
    exact ⟨h1, E, k, h2, h3.rerho (tfAs_map fun q hq => (ht q hq).1), h4.rerho (tfAs_map fun q hq => (ht q hq).2), h5⟩
  | it s pos => exact ho
  | tk n e => exact ho

theorem R.rerho (hR : R P b r h w) (ht : ∀ o ∈ h, tfO o = true) : R P { b with ρ := ρ' } { r with ρ := ρ' } h w :=
  .mk' hR.len (fun _ _ o h1 h2 => (hR.orel h1 h2).rerho (ht o (List.mem_of_getElem? h2))) hR.imm hR.dis hR.nd hR.new ⟨hR.bel.os, hR.bel.tape, hR.bel.output, hR.bel.size, hR.bel.block⟩ rfl hR.old

theorem DRel.rerho : ∀ {d : List (FuncId × List AV)} {D : List Deferred}, DRel r d D → (∀ q ∈ d, tfAs q.2 = true) → DRel { r with ρ := ρ' } d D
  | [], [], _, _ => trivial
  | (_, _) :: _, _ :: _, ⟨⟨cap, A, h1, h2⟩, h3⟩, ht => ⟨⟨cap, A, h1, h2.rerho (ht _ (List.mem_cons_self ..))⟩, DRel.rerho h3 fun q hq => ht q (List.mem_cons_of_mem _ hq)⟩
  | [], _ :: _, h, _ => h.elim
  | _ :: _, [], h, _ => h.elim

theorem SR.rerho {st : ST} {a : Act} (hS : SR P b r nt st a w) (ht : st.tf) : SR P { b with ρ := ρ' } { r with ρ := ρ' } nt st a w :=
  ⟨hS.mem.rerho ht.2.1, hS.sz, fun k => (hS.tm k).rerho (ht.1 k), hS.df.rerho ht.2.2⟩

theorem RLe.rerho {r2 : RC} (h : RLe { r with ρ := ρ' } r2) : RLe r { r2 with ρ := r.ρ } := ⟨⟨h.ι, h.imm, h.tk, rfl⟩, h.gh⟩

theorem tf_concO (hc : c.all plainA = true) (o : AO) : tfO (concO c o) = true := by
  cases o with
  | cs l => exact tf_concs hc l
  | mp es =>
    simp only [concO, tfO, List.all_map, List.all_eq_true, Function.comp_apply, Bool.and_eq_true]
    exact fun q _ => ⟨tf_conc hc _, tf_conc hc _⟩
  | it s pos => rfl
  | tk n e => rfl

theorem tf_concST (hc : c.all plainA = true) (st : ST) : (st.conc c).tf := by
  refine ⟨fun k => by rw [show (st.conc c).tm = st.tm.conc c from rfl, Tm.conc_get]; exact tf_conc hc _, fun o ho => ?_, fun d hd => ?_⟩
  · obtain ⟨o0, _, rfl⟩ := List.mem_map.1 ho; exact tf_concO hc o0
  · obtain ⟨d0, _, rfl⟩ := List.mem_map.1 hd; exact tf_concs hc d0.2
end

/-- Slots, told by a list. -/
def tmOf (d : Nat) (l : List (Nat × AV)) : Tm := l.foldl (fun t q => t.set q.1 q.2) (Tm.mk d)

/-- A state: slots and memory. -/
def stOf (d : Nat) (l : List (Nat × AV)) (h : AH) : ST := { tm := tmOf d l, s := { h := h, esc := none }, df := [] }

/-! ### Runs -/
/-- Code, from a state that names no token. -/
def Runs (P : Program) (nt : Nat) (code : Code) (st : ST) (x : AE) (st' : ST) : Prop :=
  ∀ (b : Base) (r : RC) (a : Act) (w : World) (Q : Exit → Act → World → Prop), SR P b r nt st a w → (∀ r' e' a' w', RLe r r' → SR P b r' nt st' a' w' → XRel r' x e' → Q e' a' w') → code.wp P Q a w

def blankT : Tm → Tm
  | .lf => .lf
  | .nd _ x y => .nd .un (blankT x) (blankT y)

/-- The slots that are looked at; the others are anything. -/
def keepT (live : List Nat) (t : Tm) : Tm := live.foldl (fun acc k => acc.set k (t.get k)) (blankT t)

theorem blank_get : ∀ (t : Tm) (k : Nat), (blankT t).get k = .un
  | .lf, k => rfl
  | .nd q x y, k => by
    cases k with
    | zero => rfl
    | succ k =>
      rcases Nat.mod_two_eq_zero_or_one k with hk | hk <;> simp only [blankT, Tm.get, hk]
      · exact blank_get x _
      · exact blank_get y _

theorem keep_get (live : List Nat) (t : Tm) (k : Nat) : (keepT live t).get k = t.get k ∨ (keepT live t).get k = .un := by
  unfold keepT
  have : ∀ (live : List Nat) (acc : Tm), (∀ k, acc.get k = t.get k ∨ acc.get k = .un) → ∀ k, (live.foldl (fun acc k => acc.set k (t.get k)) acc).get k = t.get k ∨ (live.foldl (fun acc k => acc.set k (t.get k)) acc).get k = .un := by
    intro live
    induction live with
    | nil => intro acc h; exact h
    | cons j live ih =>
      intro acc h
      refine ih _ fun k => ?_
      by_cases hk : j = k
      · subst hk; exact Tm.get_set_same acc j _
      · rw [Tm.get_set_other acc j k _ hk]; exact h k
  exact this live _ (fun k => .inr (blank_get t k)) k

def ST.keep (live : List Nat) (st : ST) : ST := { tm := keepT live st.tm, s := { h := st.s.h, esc := none }, df := st.df }

theorem SR.keep {P : Program} {b : Base} {r : RC} {nt : Nat} {st : ST} {a : Act} {w : World} (hS : SR P b r nt st a w) (live : List Nat) : SR P b r nt (st.keep live) a w :=
  ⟨hS.mem, hS.sz, fun k => by
    rcases keep_get live st.tm k with h | h
    · rw [show (st.keep live).tm = keepT live st.tm from rfl, h]; exact hS.tm k
    · rw [show (st.keep live).tm = keepT live st.tm from rfl, h]; exact .un _, hS.df⟩

def Tm.beq : Tm → Tm → Bool
  | .lf, .lf => true
  | .nd q x y, .nd q' x' y' => AV.beq q q' && Tm.beq x x' && Tm.beq y y'
  | _, _ => false

theorem Tm.eq_of_beq : ∀ {t u : Tm}, Tm.beq t u = true → t = u
  | .lf, u, h => by cases u <;> simp_all [Tm.beq]
  | .nd q x y, u, h => by
    cases u with
    | lf => simp [Tm.beq] at h
    | nd q' x' y' =>
      simp only [Tm.beq, Bool.and_eq_true] at h
      rw [AV.eq_of_beq h.1.1, Tm.eq_of_beq h.1.2, Tm.eq_of_beq h.2]

def pairBeq (x y : AV × AV) : Bool := AV.beq x.1 y.1 && AV.beq x.2 y.2
def listBeq {α : Type} (f : α → α → Bool) : List α → List α → Bool
  | [], [] => true
  | x :: xs, y :: ys => f x y && listBeq f xs ys
  | _, _ => false
theorem list_eq {α : Type} {f : α → α → Bool} (hf : ∀ x y, f x y = true → x = y) : ∀ {xs ys : List α}, listBeq f xs ys = true → xs = ys
  | [], [], _ => rfl
  | x :: xs, y :: ys, h => by
    simp only [listBeq, Bool.and_eq_true] at h
    rw [hf x y h.1, list_eq hf h.2]
  | [], _ :: _, h => by cases h
  | _ :: _, [], h => by cases h
def AO.beq : AO → AO → Bool
  | .cs x, .cs y => AV.beqs x y
  | .mp x, .mp y => listBeq pairBeq x y
  | .it x i, .it y j => x == y && i == j
  | .tk n e, .tk m f => n == m && e == f
  | _, _ => false
theorem AO.eq_of_beq {x y : AO} (h : AO.beq x y = true) : x = y := by
  cases x <;> cases y <;> simp only [AO.beq, Bool.and_eq_true, beq_iff_eq] at h <;> first
    | (cases h; done)
    | (rw [AV.eq_of_beqs h])
    | (rw [list_eq (fun a b hab => by
        simp only [pairBeq, Bool.and_eq_true] at hab
        exact Prod.ext (AV.eq_of_beq hab.1) (AV.eq_of_beq hab.2)) h])
    | (rw [h.1, h.2])

def stBeq (x y : ST) : Bool := Tm.beq x.tm y.tm && listBeq AO.beq x.s.h y.s.h && x.df.isEmpty && y.df.isEmpty

/-- What is known of a loop: where these slots stand so, it comes to that. -/
structure LEnt where
  key : Nat
  live : List Nat
  st : ST
  x : AE
  st' : ST

def headReg : Code → Option Nat
  | .region id _ _ => some id
  | .seq x y => (headReg x).or (headReg y)
  | .cond _ x y => (headReg x).or (headReg y)
  | .block _ c => headReg c
  | .loop c => headReg c
  | _ => none

def askL : List LEnt → Code → ST → Option (AE × ST)
  | [], _, _ => none
  | e :: es, c, st => if headReg c == some e.key && stBeq (st.keep e.live) e.st then some (e.x, e.st') else askL es c st

/-- The loop that begins with that region. -/
def loopAt (c : Code) (key : Nat) : Code := ((loopsIn c).find? fun c => headReg c == some key).getD .skip

/-- All that is said of the loops in a code is so. -/
def LsOK (P : Program) (nt : Nat) (tk : List AV) (code : Code) (ls : List LEnt) : Prop :=
  ∀ c ∈ loopsIn code, ∀ e ∈ ls, headReg c = some e.key → Runs P nt (.loop c) (e.st.conc tk) (e.x.conc tk) (e.st'.conc tk)

theorem LsOK.none {P : Program} {nt : Nat} {tk : List AV} {code : Code} : LsOK P nt tk code [] := fun _ _ e he => by simp at he

/-- The table for code in which loops stand. -/
def loopT (P : Program) (tab : CallT) (n : Nat) (vw : Bool) (ls : List LEnt) : CallT := { fn := callF P tab n, op := tab.op, views := tab.views, vw := vw, lo := askL ls }

section
variable {P : Program} {nt : Nat}

theorem ask_some {c : Code} {st st1 : ST} {x : AE} : ∀ {ls : List LEnt}, askL ls c st = some (x, st1) → ∃ e ∈ ls, headReg c = some e.key ∧ st.keep e.live = { tm := e.st.tm, s := { h := e.st.s.h, esc := none }, df := [] } ∧ e.st.df = [] ∧ x = e.x ∧ st1 = e.st' := by
  intro ls
  induction ls with
  | nil => intro h; cases h
  | cons e ls ih =>
    intro h
    simp only [askL] at h
    split at h
    · rename_i hc
      cases h
      simp only [stBeq, Bool.and_eq_true, beq_iff_eq, List.isEmpty_iff] at hc
      obtain ⟨h3, ⟨⟨h4, h5⟩, h6⟩, h7⟩ := hc
      refine ⟨e, List.mem_cons_self .., h3, ?_, h7, rfl, rfl⟩
      have e1 := Tm.eq_of_beq h4
      have e2 := list_eq (fun _ _ => AO.eq_of_beq) h5
      unfold ST.keep at e1 e2 h6 ⊢
      simp only at e1 e2 h6 ⊢
      rw [e1, e2, h6]
    · obtain ⟨e', he', h⟩ := ih h
      exact ⟨e', List.mem_cons_of_mem _ he', h⟩

theorem runs_of_exG {p : Places} (hmx : P.follows .mixedOrders = true) (hnm : Named P) (hpl : Placed P p) {n lp : Nat} {vw : Bool} {code : Code} {st st' : ST} {x : AE} {rs : List REnt} {ps : List PEnt} {os : List OEnt} {ls : List LEnt}
    (hrun : exC P (loopT P (fullT p rs ps os) n vw ls) lp nt code st = some (x, st')) (tk : List AV) (htk : tk.all plainA = true) (hrs : RsOK P tk rs) (hps : PsOK P tk ps) (hos : OsOK P tk os) (hls : LsOK P nt tk code ls) {st2 : ST} (hk : ∀ (b : Base) (r : RC) (a : Act) (w : World), SR P b r nt st' a w → SR P b r nt st2 a w) :
    Runs P nt code (st.conc tk) (x.conc tk) (st2.conc tk) := by
  intro b r a w Q hS hQ
  let b' : Base := { b with ρ := fun k => tk.getD k .pn }
  have hT : Tells b' tk := ⟨htk, fun _ => rfl⟩
  have hS2 : SR P b' { r with ρ := b'.ρ } nt st a w := SR.unconc hT (hS.rerho (tf_concST htk st))
  have hF := fullT_sound hpl hT hrs hps hos
  have hC : SoundC P b' (loopT P (fullT p rs ps os) n vw ls) := ⟨(call_sound hmx hnm hF (fullT_grow p rs ps os) n).fn, hF.op⟩
  refine code_sound hC hmx code (fun c' hc' st0 e0 st1 hask r2 a2 w2 Q2 hS3 hQ3 => ?_) hrun hS2 fun r' e' a' w' hle h1 h2 => ?_
  · simp only [loopT] at hask
    obtain ⟨e, he, hk, hst, hdf, rfl, rfl⟩ := ask_some hask
    have hS4 := hS3.keep e.live
    rw [hst] at hS4
    have hS5 : SR P b' r2 nt e.st a2 w2 := ⟨hS4.mem, hS4.sz, hS4.tm, by rw [hdf]; exact hS4.df⟩
    exact hls c' hc' e he hk b' r2 a2 w2 Q2 (hS5.conc hT) fun r3 e3 a3 w3 g1 g2 g3 => hQ3 r3 e3 a3 w3 g1 (SR.unconc hT g2) (XRel.unconc hT g2.mem.rho g3)
  · have h3 := ((hk _ _ _ _ h1).conc hT).rerho (ρ' := r.ρ) (tf_concST htk st2)
    have hb : ({ b' with ρ := r.ρ } : Base) = b := by
      show ({ b with ρ := r.ρ } : Base) = b
      rw [hS.mem.rho]
    rw [hb] at h3
    refine hQ { r' with ρ := r.ρ } e' a' w' hle.rerho h3 ?_
    have h4 := h2.conc hT h1.mem.rho
    cases x with
    | pn v => cases e' with
      | panic ch => obtain ⟨V, tl, g1, g2, g3⟩ := h4; exact ⟨V, tl, g1, g2, g3.rerho (tf_conc htk v)⟩
      | _ => exact h4.elim
    | _ => cases e' <;> first | exact h4.elim | exact h4

theorem runs_of_exC {p : Places} (hmx : P.follows .mixedOrders = true) (hnm : Named P) (hpl : Placed P p) {n lp : Nat} {vw : Bool} {code : Code} {st st' : ST} {x : AE} {rs : List REnt} {ps : List PEnt} {os : List OEnt} {ls : List LEnt}
    (hrun : exC P (loopT P (fullT p rs ps os) n vw ls) lp nt code st = some (x, st')) (tk : List AV) (htk : tk.all plainA = true) (hrs : RsOK P tk rs) (hps : PsOK P tk ps) (hos : OsOK P tk os) (hls : LsOK P nt tk code ls) :
    Runs P nt code (st.conc tk) (x.conc tk) (st'.conc tk) := runs_of_exG hmx hnm hpl hrun tk htk hrs hps hos hls fun _ _ _ _ h => h

theorem runs_of_kept {p : Places} (hmx : P.follows .mixedOrders = true) (hnm : Named P) (hpl : Placed P p) {n lp : Nat} {vw : Bool} {code : Code} {st st' : ST} {x : AE} {rs : List REnt} {ps : List PEnt} {os : List OEnt} {ls : List LEnt} (live : List Nat)
    (hrun : (exC P (loopT P (fullT p rs ps os) n vw ls) lp nt code st).map (fun q => (q.1, q.2.keep live)) = some (x, st')) (tk : List AV) (htk : tk.all plainA = true) (hrs : RsOK P tk rs) (hps : PsOK P tk ps) (hos : OsOK P tk os) (hls : LsOK P nt tk code ls) :
    Runs P nt code (st.conc tk) (x.conc tk) (st'.conc tk) := by
  cases hx : exC P (loopT P (fullT p rs ps os) n vw ls) lp nt code st with
  | none => rw [hx] at hrun; cases hrun
  | some q =>
    obtain ⟨y, s⟩ := q
    rw [hx] at hrun
    simp only [Option.map_some, Option.some.injEq, Prod.mk.injEq] at hrun
    obtain ⟨rfl, rfl⟩ := hrun
    exact runs_of_exG hmx hnm hpl hx tk htk hrs hps hos hls fun _ _ _ _ h => h.keep live

theorem Runs.keep {code : Code} {st st' : ST} {x : AE} (h : Runs P nt code st x st') (live : List Nat) : Runs P nt code st x (st'.keep live) :=
  fun b r a w Q hS hQ => h b r a w Q hS fun r' e' a' w' h1 h2 h3 => hQ r' e' a' w' h1 (h2.keep live) h3

/-- A loop's rounds. -/
inductive Rounds (P : Program) (nt : Nat) (c : Code) : ST → AE → ST → Prop
  | done {st : ST} {x : AE} {st' : ST} : x ≠ .nm → Runs P nt c st x st' → Rounds P nt c st x st'
  | step {st st1 st' : ST} {x : AE} : Runs P nt c st .nm st1 → Rounds P nt c st1 x st' → Rounds P nt c st x st'

theorem Rounds.runs {c : Code} {st st' : ST} {x : AE} (h : Rounds P nt c st x st') : Runs P nt (.loop c) st x st' := by
  have : ∃ n, ∀ (b : Base) (r : RC) (a : Act) (w : World) (Q : Exit → Act → World → Prop), SR P b r nt st a w → (∀ r' e' a' w', RLe r r' → SR P b r' nt st' a' w' → XRel r' x e' → Q e' a' w') → Code.rounds P c Q n a w := by
    induction h with
    | done hx h =>
      refine ⟨1, fun b r a w Q hS hQ => ?_⟩
      rw [rounds_succ]
      exact h b r a w _ hS fun r' e' a' w' h1 h2 h3 => xthen hx h3 (hQ r' e' a' w' h1 h2 h3)
    | step h _ ih =>
      obtain ⟨n, ih⟩ := ih
      refine ⟨n + 1, fun b r a w Q hS hQ => ?_⟩
      rw [rounds_succ]
      refine h b r a w _ hS fun r' e' a' w' h1 h2 h3 => ?_
      obtain rfl := xnm h3
      exact ih b r' a' w' Q h2 fun r2 e2 a2 w2 h4 h5 h6 => hQ r2 e2 a2 w2 (h1.trans h4) h5 h6
  obtain ⟨n, hn⟩ := this
  intro b r a w Q hS hQ
  exact wp_loop_rounds n (hn b r a w Q hS hQ)

/-- What a function's inner base tells, told again outside. -/
theorem R.rejoin {b : Base} {r : RC} {h h2 : AH} {w w' : World} {ρ : Nat → AV} {r2 : RC} (hR : R P b r h w) (g2 : R P { w := w, ρ := ρ, im := r.imm } r2 h2 w') :
    ∃ r', RLe r r' ∧ R P b r' h w' ∧ ∀ v V, VRel r2 v V → cleanA v = true → VRel r' v V := by
  have hsz : w.heap.size ≤ w'.heap.size := g2.bel.size
  have hblk : ∀ k, k < w.heap.size → w'.heap[k]? = w.heap[k]? := fun k hk => g2.bel.block k hk rfl
  let r' : RC := { r with imm := fun B o => if B < w.heap.size then r.imm B o else r2.imm B o }
  have him : ∀ B o V, r.imm B o = some V → r'.imm B o = some V := fun B o V hi => by
    show (if B < w.heap.size then r.imm B o else r2.imm B o) = some V
    rw [if_pos (hR.lt hi)]; exact hi
  have him2 : ∀ B o V, r2.imm B o = some V → r'.imm B o = some V := fun B o V hi => by
    show (if B < w.heap.size then r.imm B o else r2.imm B o) = some V
    split
    · rename_i hlt
      rcases g2.old B o V hi with h3 | h3
      · rcases h3 with h3 | h3
        · exact absurd h3 (by show ¬ w.heap.size ≤ B; omega)
        · cases h3
      · exact h3
    · exact hi
  have hle : RLe r r' := ⟨⟨fun k B h3 h4 => ⟨h3, h4⟩, him, fun k n c B h3 h4 => ⟨n, c, B, h3, h4, Nat.le_refl _, fun _ => ⟨rfl, rfl⟩⟩, rfl⟩, fun k h3 => h3⟩
  refine ⟨r', hle, ?_, fun v V hv hc => VRel.rebase hv him2 hc⟩
  refine .mk' hR.len (fun k B o h3 h4 => ?_) (fun B o V hi => ?_) (fun k B h3 h4 o => ?_) hR.nd hR.new ?_ hR.rho (fun B o V hi => ?_)
  · have hlt := hR.heap_lt h3 h4
    exact (hR.orel h3 h4).mono hle (hblk B hlt) fun n e _ x hx => by
      show (if B < w.heap.size then r.imm B x else r2.imm B x) = none
      rw [if_pos hlt]; exact hx
  · have hi : (if B < w.heap.size then r.imm B o else r2.imm B o) = some V := hi
    split at hi
    · rename_i hlt
      have := hR.imm B o V hi
      simp only [World.cell?, hblk B hlt] at this ⊢
      exact this
    · exact g2.imm B o V hi
  · have hlt := hR.lt' h3
    show (if B < w.heap.size then r.imm B o else r2.imm B o) = none
    rw [if_pos hlt]; exact hR.dis k B h3 h4 o
  · exact ⟨g2.bel.os.trans hR.bel.os, g2.bel.tape.trans hR.bel.tape, g2.bel.output.trans hR.bel.output, Nat.le_trans hR.bel.size hsz, fun k hk ho => (hblk k (Nat.lt_of_lt_of_le hk hR.bel.size)).trans (hR.bel.block k hk ho)⟩
  · have hi : (if B < w.heap.size then r.imm B o else r2.imm B o) = some V := hi
    split at hi
    · exact hR.old B o V hi
    · rename_i hge; exact .inl (.inl (Nat.le_trans hR.bel.size (Nat.le_of_not_lt hge)))

/-- A function whose code runs so. -/
theorem row_of_runs (hnm : Named P) {f : FuncId} {fn : Func} {cd : Code} (hf : P.funcs[f]? = some fn) (hb : fn.body = some cd) {args : List AV} {x : AE} {st' : ST} {l : List AV} (hn : args.length ≤ fn.ntmps)
    (hr : Runs P fn.ntmps cd (startA fn args { h := [], esc := none }) x st') (hx : x = .nm ∨ x = .rt) (hd : st'.df = []) (hl : resA P fn.results.toList st'.tm st'.s.h = some l) (h1 : cleanAs args = true) (h2 : cleanA (oneOf l) = true) : Row P f args (.ret (oneOf l)) := by
  intro b r hh w Vs hR hv
  have hst : R P { w := w, ρ := b.ρ, im := r.imm } (.start { w := w, ρ := b.ρ, im := r.imm }) [] w := R.start (b := { w := w, ρ := b.ρ, im := r.imm }) fun B o V hi => hR.imm B o V hi
  have hv1 : VRels (.start { w := w, ρ := b.ρ, im := r.imm }) args Vs := hv.rebase (fun B o V hi => hi) h1
  refine .inr ⟨enter_run hf (hnm _ _ hf) hb _ w, ?_⟩
  refine calls_of_wp_defers hf hb (hr _ _ _ w _ (start_rel (s := { h := [], esc := none }) hst hv1 hn) fun r1 e' a' w1 hle hS hX => ?_)
  have fin : Leaves P fn a'.tmps (fun e w' => ∃ r', RLe r r' ∧ R P b r' hh w' ∧ ERel r' (.ret (oneOf l)) e) a'.defers .returning w1 := by
    have hdd : a'.defers = [] := by
      have := hS.df
      rw [hd] at this
      cases hq : a'.defers with
      | nil => rfl
      | cons x xs => rw [hq] at this; exact this.elim
    rw [hdd]
    obtain ⟨V, hV, hvv⟩ := results_run hS.mem hS.tm hl
    obtain ⟨r', g1, g2, g3⟩ := hR.rejoin hS.mem
    exact ⟨V, hV, r', g1, g2, g3 _ _ hvv h2⟩
  rcases hx with rfl | rfl
  · obtain rfl := xnm hX
    exact fin
  · cases e' <;> first | exact hX.elim | exact fin
end
end Go.Ab
