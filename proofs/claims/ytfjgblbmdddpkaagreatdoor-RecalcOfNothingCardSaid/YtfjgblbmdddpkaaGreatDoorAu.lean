/- The functions of Go's library that the machine answers itself; a run of the interpreter from a plain start. -/
import Derived.Test.YtfjgblbmdddpkaaGreatDoorAt
import Derived.Laws.Externs
namespace Go.Ab
open Go.RowKit

def bitsA : List AV → Option AV
  | [.f x] => some (.i .u64 x)
  | _ => none

def fromBitsA : List AV → Option AV
  | [.i .u64 n] => some (.f n.toNat)
  | _ => none

def integralA (way : Ieee.Toward) : List AV → Option AV
  | [.f x] => match FloatKind.f64.decode x with
    | .nan _ t => if FloatKind.f64.format.quiet t = t then some (.f x) else none
    | d => some (.f (FloatKind.f64.encode (d.integral way)))
  | _ => none

def ixbA : List AV → Option AV
  | [.s l, .i .u8 c] => some (.i .i64 (match (List.range l.length).find? fun i => l.getD i 0 == UInt8.ofNat c.toNat with | some i => (i : Int) | none => -1))
  | _ => none

/-- Where these functions stand in a program. -/
structure Places where
  views : List FuncId := []
  bits : FuncId
  from_ : FuncId
  floor : FuncId
  trunc : FuncId
  ixb : FuncId

def primP (p : Places) : FuncId → Option (List AV → Option AV) := fun f =>
  if f = p.bits then some bitsA else if f = p.from_ then some fromBitsA else if f = p.floor then some (integralA .down) else if f = p.trunc then some (integralA .zero) else if f = p.ixb then some ixbA else none

/-- A function without a body that the machine answers itself. -/
def Ext (P : Program) (f : FuncId) (e : Array Value → Sem Value) : Prop :=
  ∃ fn : Func, P.funcs[f]? = some fn ∧ (fn.name == "runtime.NumGoroutine") = false ∧ fn.body.isNone = true ∧ Extern.findNext fn = none ∧ Extern.find fn = some e

structure Placed (P : Program) (p : Places) : Prop where
  bits : Ext P p.bits Extern.MathFloatBits.float64bits
  from_ : Ext P p.from_ Extern.MathFloatBits.float64frombits
  floor : Ext P p.floor (Extern.MathFloor.toIntegral "math.archFloor" .down)
  trunc : Ext P p.trunc (Extern.MathFloor.toIntegral "math.archTrunc" .zero)
  ixb : Ext P p.ixb Extern.BytealgIndexByte.indexByte

section
variable {P : Program} {w0 : Base} {w : World} {r : RC} {h : AH}

theorem ext_callX {f : FuncId} {e : Array Value → Sem Value} (he : Ext P f e) (hR : R P w0 r h w) {Vs : List Value} {V : Value} {v : AV} (h1 : (e Vs.toArray).run P w = .ok V w) (hv : VRel r v V) :
    CallX P f Vs.toArray w fun e w' => ∃ r', RLe r r' ∧ R P w0 r' h w' ∧ ERel r' (.ret v) e := by
  obtain ⟨fn, hf, hn, hb, hnx, hfe⟩ := he
  refine .inl ⟨V, w, ?_, r, .refl r, hR, hv⟩
  rw [run_callFunc_extern hf hn hb hnx hfe, h1]
  rfl

theorem integral_ok {f : FuncId} {name : String} {way : Ieee.Toward} (he : Ext P f (Extern.MathFloor.toIntegral name way)) (hR : R P w0 r h w) {args : List AV} {v : AV} (hg : integralA way args = some v) {Vs : List Value} (hv : VRels r args Vs) :
    CallX P f Vs.toArray w fun e w' => ∃ r', RLe r r' ∧ R P w0 r' h w' ∧ ERel r' (.ret v) e := by
  unfold integralA at hg
  split at hg
  · rename_i x
    obtain ⟨X, Xs, rfl, hx, hxs⟩ := hv.cons_inv
    obtain rfl := hxs.nil_inv
    cases hx with
    | f x =>
      have hrun : ∀ d, FloatKind.f64.decode x = d → (match d with | .nan _ t => if FloatKind.f64.format.quiet t = t then some (AV.f x) else none | d => some (.f (FloatKind.f64.encode (d.integral way)))) = some v →
          ∃ y, v = .f y ∧ (Extern.MathFloor.toIntegral name way #[.float .f64 x]).run P w = .ok (.float .f64 y) w := by
        intro d hd hg
        have e : Extern.MathFloor.toIntegral name way #[.float .f64 x] = (match FloatKind.f64.decode x with
          | .nan s t =>
            if FloatKind.f64.format.quiet t = t then pure (.float .f64 x) else do
            let kept ← choose (.extern "math.Floor,Ceil,Trunc,RoundToEven.signallingNaN kept" 2)
            pure (.float .f64 (if kept == 1 then x else FloatKind.f64.encode (.nan s (FloatKind.f64.format.quiet t))))
          | d => pure (.float .f64 (FloatKind.f64.encode (d.integral way)))) := rfl
        rw [e, hd]
        cases d with
        | nan s t =>
          simp only at hg ⊢
          split at hg
          · rename_i hq
            cases hg
            exact ⟨x, rfl, by rw [if_pos hq]; rfl⟩
          · cases hg
        | _ => cases hg; exact ⟨_, rfl, rfl⟩
      obtain ⟨y, rfl, hy⟩ := hrun _ rfl (by rw [← hg])
      exact ext_callX he hR hy (.f y)
  · cases hg

/-- What is asked of the functions that the interpreter takes for known. -/
def PrimOK (P : Program) (prim : FuncId → Option (List AV → Option AV)) : Prop := ∀ f g, prim f = some g → ∀ args v, g args = some v → ∀ (w0 : Base) (r : RC) (h : AH) (w : World) (Vs : List Value), R P w0 r h w → VRels r args Vs →
  CallX P f Vs.toArray w fun e w' => ∃ r', RLe r r' ∧ R P w0 r' h w' ∧ ERel r' (.ret v) e

theorem indexByte_run (l : List UInt8) (c : Int) : (Extern.BytealgIndexByte.indexByte #[.string ⟨l.toArray⟩, .int .u8 c]).run P w = .ok (.int .i64 (match (List.range l.length).find? fun i => l.getD i 0 == UInt8.ofNat c.toNat with | some i => (i : Int) | none => -1)) w := by
  have e : (List.range (⟨l.toArray⟩ : ByteArray).size).find? (fun i => (⟨l.toArray⟩ : ByteArray)[i]! == UInt8.ofNat c.toNat) = (List.range l.length).find? fun i => l.getD i 0 == UInt8.ofNat c.toNat := by
    have hs : (⟨l.toArray⟩ : ByteArray).size = l.length := by simp [← ByteArray.size_data]
    rw [hs]
    have : ∀ (k : List Nat), (∀ i ∈ k, i < l.length) → k.find? (fun i => (⟨l.toArray⟩ : ByteArray)[i]! == UInt8.ofNat c.toNat) = k.find? fun i => l.getD i 0 == UInt8.ofNat c.toNat := by
      intro k hk
      induction k with
      | nil => rfl
      | cons i k ih =>
        have hi := hk i (List.mem_cons_self ..)
        have h1 : (⟨l.toArray⟩ : ByteArray)[i]! = l.getD i 0 := by
          rw [getElem!_pos _ i (by rw [hs]; exact hi), List.getD_eq_getElem?_getD, List.getElem?_eq_getElem hi]
          rfl
        simp only [List.find?_cons, h1, ih fun j hj => hk j (List.mem_cons_of_mem _ hj)]
    exact this _ fun i hi => List.mem_range.1 hi
  have e0 : (Extern.BytealgIndexByte.indexByte #[.string ⟨l.toArray⟩, .int .u8 c]).run P w = (match (List.range (⟨l.toArray⟩ : ByteArray).size).find? (fun i => (⟨l.toArray⟩ : ByteArray)[i]! == UInt8.ofNat c.toNat) with
    | some i => (pure (goInt i) : Sem Value)
    | none => pure (goInt (-1))).run P w := rfl
  rw [e0, e]
  cases (List.range l.length).find? fun i => l.getD i 0 == UInt8.ofNat c.toNat <;> rfl

theorem prims_ok {p : Places} (hp : Placed P p) : PrimOK P (primP p) := by
  intro f g hg args v hgv w0 r h w Vs hR hv
  unfold primP at hg
  split at hg
  · rename_i hf
    cases hg
    subst hf
    unfold bitsA at hgv
    split at hgv
    · rename_i x
      cases hgv
      obtain ⟨X, Xs, rfl, hx, hxs⟩ := hv.cons_inv
      obtain rfl := hxs.nil_inv
      cases hx with
      | f _ => exact ext_callX hp.bits hR (V := .int .u64 x) rfl (.i _ _)
    · cases hgv
  · split at hg
    · rename_i hf
      cases hg
      subst hf
      unfold fromBitsA at hgv
      split at hgv
      · rename_i n
        cases hgv
        obtain ⟨X, Xs, rfl, hx, hxs⟩ := hv.cons_inv
        obtain rfl := hxs.nil_inv
        cases hx with
        | i _ _ => exact ext_callX hp.from_ hR (V := .float .f64 n.toNat) rfl (.f _)
      · cases hgv
    · split at hg
      · rename_i hf
        cases hg
        subst hf
        exact integral_ok hp.floor hR hgv hv
      · split at hg
        · rename_i hf
          cases hg
          subst hf
          exact integral_ok hp.trunc hR hgv hv
        · split at hg
          · rename_i hf
            cases hg
            subst hf
            unfold ixbA at hgv
            split at hgv
            · rename_i l c
              cases hgv
              obtain ⟨X, Xs, rfl, hx, hxs⟩ := hv.cons_inv
              obtain ⟨Y, Ys, rfl, hy, hys⟩ := hxs.cons_inv
              obtain rfl := hys.nil_inv
              cases hx; cases hy
              exact ext_callX hp.ixb hR (indexByte_run l c) (.i _ _)
            · cases hgv
          · cases hg

/-! ### Tables -/
/-- The functions that the machine answers itself, as a table. -/
def primT (p : Places) : CallT where
  views := p.views
  fn f args s := match primP p f with
    | some g => match g args with
      | some v => some (.ret v, s)
      | none => none
    | none => none
  op _ _ := none

theorem prim_sound {p : Places} (hp : Placed P p) : SoundC P w0 (primT p) := by
  refine ⟨fun f args s res s' h r w Vs hR hv => ?_, fun k args v h => (by cases h)⟩
  simp only [primT] at h
  split at h
  · rename_i g hg
    split at h
    · rename_i v hv'
      cases h
      exact prims_ok hp f g hg _ _ hv' w0 r _ w Vs hR hv
    · cases h
  · cases h

theorem prim_grow (p : Places) : GrowC (primT p) := by
  refine ⟨?_, fun _ _ => rfl⟩
  intro f args s res s' h
  simp only [primT] at h
  split at h
  · split at h
    · cases h; exact .refl _
    · cases h
  · cases h

/-- What is known of a call: with these arguments, where these blocks hold this, it comes to that, and then these blocks hold that. -/
structure FEnt where
  f : FuncId
  args : List AV
  pre : List (Nat × List AV) := []
  res : CR
  post : List (Nat × List AV) := []

/-- What is known of an operation. -/
structure OEnt where
  k : OpK
  args : List AV
  v : AV

def holdsA (h : AH) : List (Nat × List AV) → Bool
  | [] => true
  | (k, l) :: rest => liesA h k l && holdsA h rest

def setsA (h : AH) : List (Nat × List AV) → AH
  | [] => h
  | (k, l) :: rest => setsA (h.set k (.cs l)) rest

def FEnt.ok (e : FEnt) : Bool := e.post.all fun q => AV.cls 0 q.2 && e.pre.any fun x => Nat.beq x.1 q.1

def askF : List FEnt → FuncId → List AV → HS → Option (CR × HS)
  | [], _, _, _ => none
  | e :: es, f, args, s => if Nat.beq f e.f && AV.beqs args e.args && holdsA s.h e.pre && e.ok then some (e.res, { h := setsA s.h e.post, esc := s.esc }) else askF es f args s

def askO : List OEnt → OpK → List AV → Option AV
  | [], _, _ => none
  | e :: es, k, args => if decide (k = e.k) && AV.beqs args e.args then some e.v else askO es k args

/-- A table of what is known. -/
def tabT (fs : List FEnt) (os : List OEnt) : CallT := { fn := askF fs, op := askO os }

def CallT.or (a b : CallT) : CallT where
  fn f args s := match a.fn f args s with
    | some q => some q
    | none => b.fn f args s
  op k args := match a.op k args with
    | some v => some v
    | none => b.op k args
  views := b.views

theorem SoundC.or {a b : CallT} (ha : SoundC P w0 a) (hb : SoundC P w0 b) : SoundC P w0 (a.or b) := by
  refine ⟨fun f args s res s' h => ?_, fun k args v h => ?_⟩
  · simp only [CallT.or] at h
    split at h
    · rename_i hx; cases h; exact ha.fn _ _ _ _ _ hx
    · exact hb.fn _ _ _ _ _ h
  · simp only [CallT.or] at h
    split at h
    · rename_i hx; cases h; exact ha.op _ _ _ hx
    · exact hb.op _ _ _ h

theorem GrowC.or {a b : CallT} (ha : GrowC a) (hb : GrowC b) : GrowC (a.or b) := by
  refine ⟨?_, fun _ _ => rfl⟩
  intro f args s res s' h
  simp only [CallT.or] at h
  split at h
  · rename_i hx; cases h; exact ha.fn _ _ _ _ _ hx
  · exact hb.fn _ _ _ _ _ h

/-- What an entry says of a call is so. -/
def FEnt.OK (P : Program) (w0 : Base) (e : FEnt) : Prop :=
  ∀ r h w Vs, holdsA h e.pre = true → R P w0 r h w → VRels r e.args Vs → CallX P e.f Vs.toArray w fun x w' => ∃ r', RLe r r' ∧ R P w0 r' (setsA h e.post) w' ∧ ERel r' e.res x

theorem tab_sound {fs : List FEnt} {os : List OEnt} (hf : ∀ e ∈ fs, e.OK P w0) (ho : ∀ e ∈ os, OpOK P w0 e.k e.args e.v) : SoundC P w0 (tabT fs os) := by
  refine ⟨fun f args s res s' h => ?_, fun k args v h => ?_⟩
  · simp only [tabT] at h
    induction fs with
    | nil => cases h
    | cons e fs ih =>
      simp only [askF] at h
      split at h
      · rename_i hc
        cases h
        simp only [Bool.and_eq_true] at hc
        obtain ⟨⟨⟨h1, h2⟩, h3⟩, _⟩ := hc
        obtain rfl := Nat.eq_of_beq_eq_true h1
        obtain rfl := AV.eq_of_beqs h2
        intro r w Vs hR hv
        exact hf e (List.mem_cons_self ..) r s.h w Vs h3 hR hv
      · exact ih (fun e he => hf e (List.mem_cons_of_mem _ he)) h
  · simp only [tabT] at h
    induction os with
    | nil => cases h
    | cons e os ih =>
      simp only [askO] at h
      split at h
      · rename_i hc
        cases h
        simp only [Bool.and_eq_true, decide_eq_true_eq] at hc
        obtain ⟨rfl, h2⟩ := hc
        obtain rfl := AV.eq_of_beqs h2
        exact ho e (List.mem_cons_self ..)
      · exact ih (fun e he => ho e (List.mem_cons_of_mem _ he)) h

theorem sets_grow : ∀ (post : List (Nat × List AV)) (s : HS), (∀ q ∈ post, AV.cls 0 q.2 = true ∧ ∃ l, s.h[q.1]? = some (.cs l)) → Grow s { h := setsA s.h post, esc := s.esc } := by
  intro post
  induction post with
  | nil => intro s _; exact .refl _
  | cons q post ih =>
    intro s hq
    obtain ⟨k, l⟩ := q
    obtain ⟨h1, l0, h2⟩ := hq (k, l) (List.mem_cons_self ..)
    have g1 : Grow s { h := s.h.set k (.cs l), esc := s.esc } := by
      have := Grow.set (s := s) (k := k) (o := .cs l0) (o' := .cs l) (c := true) h2 (fun b _ _ _ => by simp only [AO.cl]; exact cls_mono (Nat.zero_le _) h1)
      simpa using this
    refine g1.trans (ih { h := s.h.set k (.cs l), esc := s.esc } fun q hq' => ?_)
    obtain ⟨h3, l1, h4⟩ := hq q (List.mem_cons_of_mem _ hq')
    refine ⟨h3, ?_⟩
    simp only [List.getElem?_set]
    split
    · rename_i hk
      have hlt := (List.getElem?_eq_some_iff.1 h2).1
      rw [if_pos hlt]; exact ⟨_, rfl⟩
    · exact ⟨l1, h4⟩

theorem holds_mem {h : AH} : ∀ {pre : List (Nat × List AV)}, holdsA h pre = true → ∀ q ∈ pre, h[q.1]? = some (.cs q.2) := by
  intro pre
  induction pre with
  | nil => intro _ q hq; simp at hq
  | cons x pre ih =>
    intro hh q hq
    obtain ⟨k, l⟩ := x
    simp only [holdsA, Bool.and_eq_true] at hh
    rcases List.mem_cons.1 hq with rfl | hq
    · exact lies_get hh.1
    · exact ih hh.2 q hq

theorem tab_grow (fs : List FEnt) (os : List OEnt) : GrowC (tabT fs os) := by
  refine ⟨?_, fun _ _ => rfl⟩
  intro f args s res s' h
  simp only [tabT] at h
  induction fs with
  | nil => cases h
  | cons e fs ih =>
    simp only [askF] at h
    split at h
    · rename_i hc
      cases h
      simp only [Bool.and_eq_true] at hc
      obtain ⟨⟨⟨_, _⟩, h3⟩, h4⟩ := hc
      refine sets_grow _ _ fun q hq => ?_
      simp only [FEnt.ok, List.all_eq_true, Bool.and_eq_true, List.any_eq_true] at h4
      obtain ⟨h5, x, hx, hxq⟩ := h4 q hq
      have := holds_mem h3 x hx
      rw [Nat.eq_of_beq_eq_true hxq] at this
      exact ⟨h5, _, this⟩
    · exact ih h

/-! ### From a plain start -/
/-- Nothing abstract yet; what there is in memory nobody writes. -/
def RC.start (b : Base) : RC := { ι := [], imm := b.im, tk := fun _ => none, ρ := b.ρ }

/-- What nobody writes lies there. -/
def Base.ok (b : Base) : Prop := ∀ B o V, b.im B o = some V → b.w.cell? ⟨B, o, none⟩ = some V

theorem R.start {b : Base} (hb : b.ok) : R P b (.start b) [] b.w where
  len := rfl
  cs k B l h := by simp [RC.start] at h
  mp k B es h := by simp [RC.start] at h
  it k B l pos h := by simp [RC.start] at h
  tk k B n e h := by simp [RC.start] at h
  imm B o V h := hb B o V h
  dis k B h := by simp [RC.start] at h
  nd k k' B h := by simp [RC.start] at h
  new k B h := by simp [RC.start] at h
  bel := ⟨rfl, rfl, rfl, Nat.le_refl _, fun _ _ _ => rfl⟩
  rho := rfl
  old B o V h := .inr h

/-- A run of the interpreter, of a function with a body: so it is. -/
theorem calls_of_run {tab : CallT} {b : Base} (hmx : P.follows .mixedOrders = true) (hnm : Named P) (hT : SoundC P b tab) (hG : GrowC tab) {n : Nat} {f : FuncId} {fn : Func} {c : Code} (hf : P.funcs[f]? = some fn) (hb : fn.body = some c) {args : List AV} {q : CR} {s s' : HS}
    (h : callF P tab n f args s = some (q, s')) {r : RC} {w : World} {Vs : List Value} (hR : R P b r s.h w) (hv : VRels r args Vs) :
    Calls P f Vs.toArray w fun e w' => ∃ r', RLe r r' ∧ R P b r' s'.h w' ∧ ERel r' q e := by
  have hx := (call_sound hmx hnm hT hG n).fn f args _ _ _ h r w Vs hR hv
  rcases hx with ⟨V, w', h1, _⟩ | ⟨_, h2⟩
  · rw [enter_run hf (hnm _ _ hf) hb] at h1; cases h1
  · exact h2

/-- The same of a run that comes to a value, from a plain start: what was in memory is as it was. -/
theorem calls_plain {tab : CallT} {b : Base} (hmx : P.follows .mixedOrders = true) (hnm : Named P) (hT : SoundC P b tab) (hG : GrowC tab) (hok : b.ok) (ho : ∀ k, b.own k = false) {n : Nat} {f : FuncId} {fn : Func} {c : Code} (hf : P.funcs[f]? = some fn) (hb : fn.body = some c) {args : List AV} {v : AV} {s' : HS}
    (h : callF P tab n f args { h := [], esc := none } = some (.ret v, s')) {Vs : List Value} (hv : VRels (.start b) args Vs) :
    Calls P f Vs.toArray b.w fun e w' => ∃ r' V, e = .returned V ∧ VRel r' v V ∧ RLe (.start b) r' ∧ R P b r' s'.h w' ∧ Below b.w.heap.size b.w w' := by
  refine (calls_of_run hmx hnm hT hG hf hb h (R.start hok) hv).mono fun e w' ⟨r', h3, h4, h5⟩ => ?_
  cases e with
  | returned V => exact ⟨r', V, rfl, h5, h3, h4, h4.bel.below ho⟩
  | panicked ch => exact h5.elim
  | outgrown => exact h5.elim
end
end Go.Ab
