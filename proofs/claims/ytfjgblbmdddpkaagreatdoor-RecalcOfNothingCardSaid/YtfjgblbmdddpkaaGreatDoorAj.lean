/- One operation: if the interpreter comes to something, the model's operation comes to what it stands for. -/
import Derived.Test.YtfjgblbmdddpkaaGreatDoorAi
namespace Go.Ab
open Go.RowKit

/-- A panic's chain begins with a value that is told, not recovered. -/
def PanRel (r : RC) (v : AV) (ch : List PanicEntry) : Prop := ∃ V tl, ch = { v := V, recovered := false } :: tl ∧ (∀ x ∈ tl, x.goexit = false) ∧ VRel r v V

def ERel (r : RC) : CR → Ending → Prop
  | .ret v, .returned V => VRel r v V
  | .pan v, .panicked ch => PanRel r v ch
  | _, _ => False

/-- A call that is made in place, or entered. -/
def CallX (P : Program) (f : FuncId) (Vs : Array Value) (w : World) (Q : Ending → World → Prop) : Prop :=
  (∃ V w', (callFunc f Vs).run P w = .ok (.value V) w' ∧ Q (.returned V) w') ∨ ((callFunc f Vs).run P w = .ok (.enter f Vs) w ∧ Calls P f Vs w Q)

def plainV : Value → Bool
  | .agg _ | .nilIface => false
  | _ => true

def isPtr : Value → Bool
  | .pointer (some _) => true
  | _ => false

/-- What an operation comes to on these values: that the model does so. -/
def OpK.gives (P : Program) (w : World) (k : OpK) (Vs : List Value) (V : Value) : Prop :=
  match k, Vs with
  | .bin op t, [X, Y] => plainV X = true ∧ ∃ w', (binOp op t X Y).run P w = .ok V w' ∧ Sm w w'
  | .un op, [X] => ∃ w', (Op.unary op X).run P w = .ok V w' ∧ Sm w w'
  | .conv t u, [X] => ∃ w', (convert t u X).run P w = .ok V w' ∧ Sm w w'
  | .slice t true true, [X, L, H] => ∃ w', (Instr.sliceAt t X (some L) (some H) none).run P w = .ok V w' ∧ Sm w w'
  | .slice t true false, [X, L] => ∃ w', (Instr.sliceAt t X (some L) none none).run P w = .ok V w' ∧ Sm w w'
  | .slice t false true, [X, H] => ∃ w', (Instr.sliceAt t X none (some H) none).run P w = .ok V w' ∧ Sm w w'
  | .slice t false false, [X] => ∃ w', (Instr.sliceAt t X none none none).run P w = .ok V w' ∧ Sm w w'
  | .index t, [X, Y] => ∃ w', (Instr.index t X Y).run P w = .ok V w' ∧ Sm w w'
  | .indexAddr t, [X, Y] => ∃ w', (Instr.indexAt t X Y).run P w = .ok V w' ∧ Sm w w'
  | .fieldAddr t k, [X] => ∃ w', (Instr.fieldAt t X k).run P w = .ok V w' ∧ Sm w w'
  | .field t k, [X] => ∃ w', (Instr.field t X k).run P w = .ok V w' ∧ Sm w w'
  | .load t, [X] => ∃ w', (Instr.loadAt t X).run P w = .ok V w' ∧ Sm w w'
  | .lookup t ok, [X, Y] => ∃ w', (Instr.lookup t X Y ok).run P w = .ok V w' ∧ Sm w w'
  | .len t, [X] => ∀ ty, ∃ w', (Builtin.len_ #[t] ty #[X]).run P w = .ok V w' ∧ Sm w w'
  | .mx, [X, Y] => ∀ ts ty, ∃ w', (Builtin.max_ ts ty #[X, Y]).run P w = .ok V w' ∧ Sm w w'
  | .mn, [X, Y] => ∀ ts ty, ∃ w', (Builtin.min_ ts ty #[X, Y]).run P w = .ok V w' ∧ Sm w w'
  | .nilCheck, [X] => V = X ∧ isPtr X = true
  | .assert t u ok, [X] => ∃ w', (Instr.typeAssert X t u ok).run P w = .ok V w' ∧ Sm w w'
  | _, _ => False

/-- What the table says of an operation is so. -/
def OpOK (P : Program) (w0 : Base) (k : OpK) (args : List AV) (v : AV) : Prop :=
  ∀ r h w Vs, R P w0 r h w → VRels r args Vs → ∃ V, k.gives P w Vs V ∧ VRel r v V

/-- The calls that the interpreter makes are what it says. -/
structure SoundC (P : Program) (w0 : Base) (call : CallT) : Prop where
  fn : ∀ f args s res s', call.fn f args s = some (res, s') → ∀ r w Vs, R P w0 r s.h w → VRels r args Vs →
    CallX P f Vs.toArray w fun e w' => ∃ r', RLe r r' ∧ R P w0 r' s'.h w' ∧ ERel r' res e
  op : ∀ k args v, call.op k args = some v → OpOK P w0 k args v

section
variable {P : Program} {w0 : Base} {w : World} {r : RC} {call : CallT}

/-- What is to be shown behind an operation. -/
def After (P : Program) (w0 : Base) (r : RC) (s' : HS) (res : OR) (o : Oper) (a : Act) (next : Act → World → Prop) (Q : Exit → Act → World → Prop) : Prop :=
  ∀ r' w', RLe r r' → R P w0 r' s'.h w' → match res with
    | .val v => ∀ V, VRel r' v V → next (a.put o.dst V) w'
    | .skip => next (a.put o.dst undef) w'
    | .pan v => ∀ ch, PanRel r' v ch → Q (.panic ch) a w'

theorem val_sound {o : Oper} {a : Act} {s : HS} {S : Sem Value} {v : AV} {next : Act → World → Prop} {Q : Exit → Act → World → Prop} (he : execOp a.eval o = (do pure (.value (← S)))) (hg : GivesR P w0 r s.h w S v)
    (hk : After P w0 r s (.val v) o a next Q) : o.wp P a w next Q := by
  obtain ⟨V, w', r', h1, h2, h3, h4⟩ := hg
  unfold Oper.wp
  rw [he]
  simp only [Sem.run_bind, h1, Result.andThen_ok, Sem.run_pure, Oper.upon_value]
  exact hk r' w' h2 h3 V h4

theorem val_soundH {o : Oper} {a : Act} {s' : HS} {S : Sem Value} {v : AV} {V : Value} {w' : World} {r' : RC} {next : Act → World → Prop} {Q : Exit → Act → World → Prop} (he : execOp a.eval o = (do pure (.value (← S)))) (h1 : S.run P w = .ok V w')
    (h2 : RLe r r') (h3 : R P w0 r' s'.h w') (h4 : VRel r' v V) (hk : After P w0 r s' (.val v) o a next Q) : o.wp P a w next Q := by
  unfold Oper.wp
  rw [he]
  simp only [Sem.run_bind, h1, Result.andThen_ok, Sem.run_pure, Oper.upon_value]
  exact hk r' w' h2 h3 V h4

theorem v1_sound {o : Oper} {a : Act} {s s' : HS} {S : Sem Value} {x : Option AV} {res : OR} {next : Act → World → Prop} {Q : Exit → Act → World → Prop} (he : execOp a.eval o = (do pure (.value (← S)))) (h : v1 x s = some (res, s'))
    (hg : ∀ v, x = some v → GivesR P w0 r s.h w S v) (hk : After P w0 r s' res o a next Q) : o.wp P a w next Q := by
  cases x with
  | none => cases h
  | some v => cases h; exact val_sound he (hg v rfl) hk

theorem u1_sound {o : Oper} {a : Act} {s' : HS} {S : Sem Unit} {x : Option HS} {res : OR} {next : Act → World → Prop} {Q : Exit → Act → World → Prop} (he : execOp a.eval o = (do S; pure .skip)) (h : u1 x = some (res, s'))
    (hg : ∀ y, x = some y → ∃ w', S.run P w = .ok () w' ∧ R P w0 r y.h w') (hk : After P w0 r s' res o a next Q) : o.wp P a w next Q := by
  cases x with
  | none => cases h
  | some y =>
    cases h
    obtain ⟨w', h1, h2⟩ := hg s' rfl
    unfold Oper.wp
    rw [he]
    simp only [Sem.run_bind, h1, Result.andThen_ok, Sem.run_pure, Oper.upon_skip]
    exact hk r w' (.refl r) h2

theorem args_rel {ev : Operand → AV} {EV : Operand → Value} (hev : ∀ x, VRel r (ev x) (EV x)) (l : Array Operand) : VRels r (l.toList.map ev) (l.map EV).toList := by
  rw [Array.toList_map]
  exact ⟨by simp, fun j v V h1 h2 => by
    rw [List.getElem?_map] at h1 h2
    cases hq : l.toList[j]? with
    | none => simp [hq] at h1
    | some x => simp [hq] at h1 h2; subst h1; subst h2; exact hev x⟩

theorem opt_rel {ev : Operand → AV} {EV : Operand → Value} (hev : ∀ x, VRel r (ev x) (EV x)) (x : Option Operand) : OVRel r (x.map ev) (x.map EV) := by
  cases x with
  | none => exact trivial
  | some x => exact hev x

theorem builtin_sound {a : Act} {dst : Option Tmp} {ty : TypeId} {pos : String} {aft : Array Edge} {gd : Option (Nat × Bool)} {b : Builtin} {args : Array Operand} {ts : Array TypeId} {ev : Operand → AV} {s s' : HS} {res : OR} {next : Act → World → Prop} {Q : Exit → Act → World → Prop}
    (hR : R P w0 r s.h w) (hev : ∀ x, VRel r (ev x) (a.eval x)) {vw : Bool} (h : builtinA P vw b ts.toList (args.toList.map ev) s = some (res, s'))
    (hk : After P w0 r s' res ⟨dst, .call ⟨.builtin b, args, ts⟩, ty, pos, aft, gd⟩ a next Q) : Oper.wp P ⟨dst, .call ⟨.builtin b, args, ts⟩, ty, pos, aft, gd⟩ a w next Q := by
  have hargs := args_rel hev args
  unfold builtinA at h
  split at h
  · rename_i x hx
    split at h
    · rename_i t ht
      have ets : ts = #[t] := by apply Array.ext'; exact ht
      subst ets
      rw [hx] at hargs
      obtain ⟨X, Xs, hX, hxr, hxs⟩ := hargs.cons_inv
      obtain rfl := hxs.nil_inv
      have hX' : args.map a.eval = #[X] := by apply Array.ext'; exact hX
      refine v1_sound (S := Builtin.len_ #[t] ty #[X]) ?_ h (fun v hv => Gives.toR hR (len_gives hR hv hxr)) hk
      simp [execOp, resolve, invoke, builtin, hX']
    · cases h
  · rename_i x y hx
    rw [hx] at hargs
    obtain ⟨X, Xs, hX, hxr, hxs⟩ := hargs.cons_inv
    obtain ⟨Y, Ys, hY, hyr, hys⟩ := hxs.cons_inv
    subst hY
    obtain rfl := hys.nil_inv
    have hX' : args.map a.eval = #[X, Y] := by apply Array.ext'; exact hX
    split at h
    · rename_i v s2 hap
      cases h
      obtain ⟨V, w', r', h1, h2, h3, h4⟩ := append_run (ty := ty) hR rfl hap hxr hyr
      unfold Oper.wp
      simp only [execOp, resolve, invoke, builtin, hX', Sem.run_bind, Sem.run_pure, Result.andThen_ok, h1, Oper.upon_value]
      exact hk r' w' h2 h3 V h4
    · cases h
  · refine v1_sound (S := Builtin.max_ ts ty (args.map a.eval)) (by simp [execOp, resolve, invoke, builtin]) h (fun v hv => Gives.toR hR ?_) hk
    have := max_gives (P := P) (w := w) hv hargs ts ty
    rwa [Array.toArray_toList] at this
  · refine v1_sound (S := Builtin.min_ ts ty (args.map a.eval)) (by simp [execOp, resolve, invoke, builtin]) h (fun v hv => Gives.toR hR ?_) hk
    have := min_gives (P := P) (w := w) hv hargs ts ty
    rwa [Array.toArray_toList] at this
  · cases h

theorem upon_callX {o : Oper} {a : Act} {f : FuncId} {Vs : Array Value} {s' : HS} {cr : CR} {next : Act → World → Prop} {Q : Exit → Act → World → Prop}
    (hc : CallX P f Vs w fun e w' => ∃ r', RLe r r' ∧ R P w0 r' s'.h w' ∧ ERel r' cr e) (hk : After P w0 r s' (.of cr) o a next Q) : o.upon P a next Q ((callFunc f Vs).run P w) := by
  rcases hc with ⟨V, w', h1, r', h2, h3, h4⟩ | ⟨h1, h2⟩
  · rw [h1, Oper.upon_value]
    have := hk r' w' h2 h3
    cases cr with
    | ret v => exact this V h4
    | pan v => exact h4.elim
  · rw [h1, Oper.upon_enter]
    refine h2.mono fun e w' ⟨r', g1, g2, g3⟩ => ?_
    have := hk r' w' g1 g2
    cases cr with
    | ret v => cases e with
      | returned V => exact this V g3
      | panicked ch => exact g3.elim
      | outgrown => exact g3.elim
    | pan v => cases e with
      | returned V => exact g3.elim
      | panicked ch => exact this ch g3
      | outgrown => exact g3.elim

set_option maxHeartbeats 4000000 in
theorem opB_sound (hC : SoundC P w0 call) {o : Oper} {a : Act} {ev : Operand → AV} {s s' : HS} {res : OR} {next : Act → World → Prop} {Q : Exit → Act → World → Prop}
    (hR : R P w0 r s.h w) (hev : ∀ x, VRel r (ev x) (a.eval x)) (h : opB P call o.op ev s = some (res, s')) (hk : After P w0 r s' res o a next Q) : o.wp P a w next Q := by
  have now : ∀ {S : Sem Value} {v : AV}, Gives P r w S v → GivesR P w0 r s.h w S v := fun g => g.toR hR
  obtain ⟨dst, op, ty, pos, aft, gd⟩ := o
  cases op <;> simp only [opB] at h
  case move x => cases h; exact val_sound (S := pure (a.eval x)) (by simp [execOp]) (now (.now rfl (hev x))) hk
  case assign x => cases h; exact val_sound (S := pure (a.eval x)) (by simp [execOp]) (now (.now rfl (hev x))) hk
  case pick c x y =>
    split at h
    · rename_i b hb
      cases h
      have hcv := hev c
      rw [hb] at hcv
      generalize hX : a.eval c = X at hcv
      cases hcv
      refine val_sound (S := pure (if b then a.eval x else a.eval y)) (by simp [execOp, hX, asBool]) (now (.now rfl ?_)) hk
      cases b <;> simp [hev]
    · cases h
  case alloc t =>
    split at h
    · rename_i z hz
      cases h
      obtain ⟨Z, hZ, hzr⟩ := zeros_run (P := P) (w := w) (r := r) hz
      obtain ⟨r', h1, h2, h3⟩ := hR.newCells hzr t
      refine val_soundH (S := Instr.alloc t true (.tuple #[])) rfl (by simp [Instr.alloc, hZ, newVar, newRow]) h1 h2 h3 hk
    · cases h
  case box t x =>
    split at h
    · rename_i z hz
      cases h
      obtain ⟨L, hL, hl⟩ := cells_rel hz (hev x)
      obtain ⟨r', h1, h2, h3⟩ := hR.newCells hl t
      refine val_soundH (S := Instr.box t (a.eval x)) rfl (by simp [Instr.box, newVar, newRow, hL]) h1 h2 h3 hk
    · cases h
  case build t parts =>
    exact v1_sound (S := Instr.build t (parts.map fun q => (q.1, a.eval q.2))) rfl h (fun v hv => now (build_gives hv (zipped hev))) hk
  case buildSlice t n parts =>
    exact v1_sound (S := Instr.buildSlice t n (parts.map fun q => (q.1, a.eval q.2))) rfl h (fun v hv => buildSlice_gives hR hv (zipped hev)) hk
  case insert t m k v =>
    exact u1_sound (S := Instr.mapUpdate t (a.eval m) (a.eval k) (a.eval v)) rfl h (fun y hy => mapPut_run hR rfl hy (hev m) (hev k) (hev v)) hk
  case load t x => exact v1_sound (S := Instr.loadAt t (a.eval x)) rfl h (fun v hv => now (loadA_gives hR hv (hev x))) hk
  case store t x y => exact u1_sound (S := Instr.storeAt t (a.eval x) (a.eval y)) rfl h (fun y' hy => store_run hR rfl hy (hev x) (hev y)) hk
  case nilCheck x =>
    have hx := hev x
    split at h
    · rename_i b o hb
      cases h
      rw [hb] at hx
      generalize hX : a.eval x = X at hx
      cases hx with
      | p _ _ B h1 h2 => exact val_sound (S := pure (.pointer (some ⟨B, o, none⟩))) (by simp [execOp, hX]) (now (.now rfl (.p _ _ B h1 h2))) hk
    · rename_i cs o hb
      cases h
      rw [hb] at hx
      generalize hX : a.eval x = X at hx
      cases hx with
      | r _ _ B o' g hi hv => exact val_sound (S := pure (.pointer (some ⟨B, o' + o, none⟩))) (by simp [execOp, hX]) (now (.now rfl (.r _ _ B o' g hi hv))) hk
    · rename_i f y z hb
      cases h
      rw [hb] at hx
      generalize hX : a.eval x = X at hx
      cases hx with
      | c _ _ _ Y Z hy hz hY hZ => exact val_sound (S := pure (.func (.func f) Y.toArray Z.toArray)) (by simp [execOp, hX]) (now (.now rfl (.c _ _ _ Y Z hy hz hY hZ))) hk
    · cases h
  case binOp bop t x y yt =>
    cases hb : binA P bop t (ev x) (ev y) (Operand.isConst x || Operand.isConst y) with
    | none => rw [hb] at h; cases h
    | some v =>
      rw [hb] at h
      cases h
      obtain ⟨V, w', h1, h2, h3⟩ := bin_gives (P := P) (w := w) hb (hev x) (hev y)
      have hg := guard_by (P := P) (w := w) hb (hev x) (hev y)
      exact val_soundH (S := (do eqGuard bop t x y (a.eval x) (a.eval y); binOp bop t (a.eval x) (a.eval y))) rfl (by simp only [Sem.run_bind, hg, Result.andThen_ok, h1]) (.refl r) (hR.sm h2) h3 hk
  case unOp uop t x => exact v1_sound (S := Op.unary uop (a.eval x)) rfl h (fun v hv => now (un_gives hv (hev x))) hk
  case convert t u x => exact v1_sound (S := Go.convert t u (a.eval x)) rfl h (fun v hv => conv_gives hR hv (hev x)) hk
  case makeInterface t x =>
    split at h
    · cases h
    · rename_i d hni hd
      cases h
      refine val_sound (S := Instr.makeInterface t (a.eval x)) rfl (now (.now (V := .iface t (a.eval x)) ?_ (.j _ _ _ (hev x)))) hk
      simp only [Instr.makeInterface, Sem.run_bind, run_underlying hd, Result.andThen_ok]
      cases d <;> first | (exact absurd rfl (hni _)) | rfl
    · cases h
  case makeFunc fn x y =>
    cases h
    have hx := args_rel hev x
    have hy := args_rel hev y
    refine val_sound (S := Instr.makeFunc fn (x.map a.eval) (y.map a.eval)) rfl (now (.now (V := .func fn (x.map a.eval) (y.map a.eval)) rfl ?_)) hk
    have := VRel.c (r := r) fn _ _ _ _ hx.1 hy.1 hx.2 hy.2
    rwa [Array.toArray_toList, Array.toArray_toList] at this
  case makeMap t z =>
    cases z with
    | some z => cases h
    | none =>
      cases h
      obtain ⟨r', h1, h2, h3⟩ := hR.newMap
      exact val_soundH (S := Instr.makeMap t none) rfl (by simp [Instr.makeMap]) h1 h2 h3 hk
  case makeSlice t x y =>
    split at h
    · rename_i v s2 hm
      cases h
      obtain ⟨V, w', r', h1, h2, h3, h4⟩ := make_run hR rfl hm (hev x) (hev y)
      exact val_soundH (S := Instr.makeSlice t (a.eval x) (a.eval y)) rfl h1 h2 h3 h4 hk
    · cases h
  case slice t x lo hi mx => exact v1_sound (S := Instr.sliceAt t (a.eval x) (lo.map a.eval) (hi.map a.eval) (mx.map a.eval)) rfl h (fun v hv => now (slice_gives hv (hev x) (opt_rel hev lo) (opt_rel hev hi) (opt_rel hev mx))) hk
  case fieldAddr t x k => exact v1_sound (S := Instr.fieldAt t (a.eval x) k) rfl h (fun v hv => now (fieldAddr_gives hv (hev x))) hk
  case field t x k => exact v1_sound (S := Instr.field t (a.eval x) k) rfl h (fun v hv => now (field_gives hv (hev x))) hk
  case indexAddr t x y => exact v1_sound (S := Instr.indexAt t (a.eval x) (a.eval y)) rfl h (fun v hv => now (indexAddr_gives hv (hev x) (hev y))) hk
  case index t x y => exact v1_sound (S := Instr.index t (a.eval x) (a.eval y)) rfl h (fun v hv => now (index_gives hv (hev x) (hev y))) hk
  case lookup t x y ok => exact v1_sound (S := Instr.lookup t (a.eval x) (a.eval y) ok) rfl h (fun v hv => now (lookup_gives hR hv (hev x) (hev y))) hk
  case mapUpdate t m k v =>
    exact u1_sound (S := Instr.mapUpdate t (a.eval m) (a.eval k) (a.eval v)) rfl h (fun y hy => mapPut_run hR rfl hy (hev m) (hev k) (hev v)) hk
  case mapEntry t m k =>
    split at h
    · rename_i v s2 hm
      cases h
      obtain ⟨V, w', h1, h2, h3⟩ := mapEntry_run hR rfl hm (hev m) (hev k)
      exact val_soundH (S := Instr.mapEntry t (a.eval m) (a.eval k)) rfl h1 (.refl r) h2 h3 hk
    · cases h
  case entryStore t m st v =>
    exact u1_sound (S := Instr.entryStore t (a.eval m) (a.eval st) (a.eval v)) rfl h (fun y hy => entryStore_run hR rfl hy (hev m) (hev st) (hev v)) hk
  case range t x =>
    split at h
    · rename_i v s2 hm
      cases h
      obtain ⟨V, w', r', h1, h2, h3, h4⟩ := range_run hR rfl hm (hev x)
      exact val_soundH (S := Instr.range t (a.eval x)) rfl h1 h2 h3 h4 hk
    · cases h
  case next x b =>
    split at h
    · rename_i v s2 hm
      cases h
      obtain ⟨V, w', h1, h2, h3⟩ := next_run (ty := ty) hR rfl hm (hev x)
      exact val_soundH (S := Instr.next (a.eval x) b ty) rfl h1 (.refl r) h2 h3 hk
    · cases h
  case typeAssert x t u ok => exact v1_sound (S := Instr.typeAssert (a.eval x) t u ok) rfl h (fun v hv => now (assert_gives hv (hev x))) hk
  case extract x k =>
    split at h
    · rename_i vs hx
      exact v1_sound (S := Instr.extract (a.eval x) k) rfl h (fun v hv => now (extract_gives (hev x) hx hv)) hk
    · cases h
  case panic x =>
    have hx := hev x
    split at h
    · rename_i t v hb
      cases h
      rw [hb] at hx
      generalize hX : a.eval x = X at hx
      cases hx with
      | j _ _ V hv =>
        unfold Oper.wp
        have e : (execOp a.eval ⟨dst, .panic x, ty, pos, aft, gd⟩).run P w = .halt (.panic (.iface t V)) w := by simp [execOp, hX, Instr.panic]
        rw [e, Oper.upon_panic]
        exact hk r w (.refl r) hR _ ⟨_, [], rfl, by simp, .j _ _ _ hv⟩
    · cases h
  case call c =>
    obtain ⟨callee, args, ts⟩ := c
    cases callee with
    | builtin b => exact builtin_sound hR hev h hk
    | invoke _ _ => cases h
    | value f =>
      have hf := hev f
      have hargs := args_rel hev args
      simp only [applyA] at h
      split at h
      · rename_i g first cap hfe
        rw [hfe] at hf
        generalize hX : a.eval f = X at hf
        cases hf with
        | c _ _ _ Y Z hy hz hY hZ =>
          split at h
          · rename_i cr s2 hcall
            cases h
            have hall : VRels r (first ++ args.toList.map ev ++ cap) (Y ++ (args.map a.eval).toList ++ Z) := (VRels.append ⟨hy, hY⟩ hargs).append ⟨hz, hZ⟩
            have hcx := hC.fn g _ s _ _ hcall r w _ hR hall
            unfold Oper.wp
            have e : (execOp a.eval ⟨dst, .call ⟨.value f, args, ts⟩, ty, pos, aft, gd⟩) = callFunc g (Y ++ (args.map a.eval).toList ++ Z).toArray := by
              simp only [execOp, resolve, hX, Deferred.ofValue, invoke, pure_bind]
              congr 1
              apply Array.ext'
              simp
            rw [e]
            exact upon_callX hcx hk
          · cases h
      · cases h
  all_goals cases h

theorem key_rel {op : Op} {ev : Operand → AV} {EV : Operand → Value} (hev : ∀ x, VRel r (ev x) (EV x)) {k : OpK} {args : List AV} (h : keyOf op ev = some (k, args)) : ∃ Vs, keyOf op EV = some (k, Vs) ∧ VRels r args Vs := by
  have one : ∀ x : Operand, VRels r [ev x] [EV x] := fun x => .cons (hev x) .nil
  have two : ∀ x y : Operand, VRels r [ev x, ev y] [EV x, EV y] := fun x y => .cons (hev x) (one y)
  cases op
  case slice t x lo hi mx =>
    cases mx with
    | some m => cases h
    | none =>
      cases h
      refine ⟨_, rfl, ?_⟩
      cases lo <;> cases hi
      · exact one x
      · exact two x _
      · exact two x _
      · exact .cons (hev x) (two _ _)
  case call c =>
    simp only [keyOf] at h ⊢
    split at h
    · cases h; exact ⟨_, rfl, one _⟩
    · cases h; exact ⟨_, rfl, two _ _⟩
    · cases h; exact ⟨_, rfl, two _ _⟩
    · cases h
  all_goals first
    | (cases h; done)
    | (cases h; exact ⟨_, rfl, one _⟩)
    | (cases h; exact ⟨_, rfl, two _ _⟩)

theorem eqGuard_plain {op : BinOp} {t : TypeId} {x y : Operand} {X Y : Value} (h : plainV X = true) : (eqGuard op t x y X Y).run P w = .ok () w := by
  unfold eqGuard
  cases op
  case eql => cases X <;> first | (cases h; done) | (cases Y <;> rfl)
  case neq => cases X <;> first | (cases h; done) | (cases Y <;> rfl)
  all_goals rfl

theorem ask_sound (hC : SoundC P w0 call) {o : Oper} {a : Act} {ev : Operand → AV} {s : HS} {v : AV} {next : Act → World → Prop} {Q : Exit → Act → World → Prop}
    (hR : R P w0 r s.h w) (hev : ∀ x, VRel r (ev x) (a.eval x)) (h : askA call o.op ev = some v) (hk : After P w0 r s (.val v) o a next Q) : o.wp P a w next Q := by
  unfold askA at h
  split at h
  · rename_i k args hkey
    split at h
    · rename_i u hu
      split at h
      · cases h
        obtain ⟨Vs, hKV, hvs⟩ := key_rel hev hkey
        obtain ⟨V, hg, hv⟩ := hC.op k args _ hu r s.h w Vs hR hvs
        have fin : ∀ {S : Sem Value}, execOp a.eval o = (do pure (.value (← S))) → (∃ w', S.run P w = .ok V w' ∧ Sm w w') → o.wp P a w next Q := fun he ⟨w', h1, h2⟩ =>
          val_soundH he h1 (.refl r) (hR.sm h2) hv hk
        clear hkey hu hvs
        obtain ⟨dst, op, ty, pos, aft, gd⟩ := o
        cases op
        case binOp bop t x y yt =>
          cases hKV
          obtain ⟨hp, w', h1, h2⟩ := hg
          exact val_soundH (S := (do eqGuard bop t x y (a.eval x) (a.eval y); binOp bop t (a.eval x) (a.eval y))) rfl (by simp only [Sem.run_bind, eqGuard_plain hp, Result.andThen_ok, h1]) (.refl r) (hR.sm h2) hv hk
        case slice t x lo hi mx =>
          cases mx with
          | some m => cases hKV
          | none =>
            cases hKV
            cases lo <;> cases hi <;> exact fin rfl hg
        case call c =>
          obtain ⟨callee, args', ts⟩ := c
          simp only [keyOf] at hKV
          split at hKV
          · rename_i t x h2 h3
            cases hKV
            have e1 : ts = #[t] := by apply Array.ext'; exact h2
            have e2 : args' = #[x] := by apply Array.ext'; exact h3
            subst e1; subst e2
            exact fin (by simp [execOp, resolve, invoke, builtin]) (hg ty)
          · rename_i x y h2
            cases hKV
            have e2 : args' = #[x, y] := by apply Array.ext'; exact h2
            subst e2
            exact fin (by simp [execOp, resolve, invoke, builtin]) (hg ts ty)
          · rename_i x y h2
            cases hKV
            have e2 : args' = #[x, y] := by apply Array.ext'; exact h2
            subst e2
            exact fin (by simp [execOp, resolve, invoke, builtin]) (hg ts ty)
          · cases hKV
        case nilCheck x =>
          cases hKV
          obtain ⟨rfl, hp⟩ := hg
          refine fin (S := pure (a.eval x)) ?_ ⟨w, rfl, .refl w⟩
          simp only [execOp]
          generalize a.eval x = X at hp
          cases X <;> first | (cases hp; done) | skip
          rename_i q
          cases q <;> first | (cases hp; done) | rfl
        all_goals first
          | (cases hKV; done)
          | (cases hKV; exact fin rfl hg)
      · cases h
    · cases h
  · cases h

theorem op_sound (hC : SoundC P w0 call) {o : Oper} {a : Act} {ev : Operand → AV} {s s' : HS} {res : OR} {next : Act → World → Prop} {Q : Exit → Act → World → Prop}
    (hR : R P w0 r s.h w) (hev : ∀ x, VRel r (ev x) (a.eval x)) (h : opA P call o.op ev s = some (res, s')) (hk : After P w0 r s' res o a next Q) : o.wp P a w next Q := by
  unfold opA at h
  split at h
  · rename_i hb; cases h; exact opB_sound hC hR hev hb hk
  · cases hx : askA call o.op ev with
    | none => rw [hx] at h; cases h
    | some v => rw [hx] at h; cases h; exact ask_sound hC hR hev hx hk
end
end Go.Ab
