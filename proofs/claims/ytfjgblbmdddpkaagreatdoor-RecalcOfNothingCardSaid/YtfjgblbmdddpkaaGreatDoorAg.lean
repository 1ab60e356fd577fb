/- Operations that turn no abstract memory, fourth part: conversions, composite values, maps that are read. -/
import Derived.Test.YtfjgblbmdddpkaaGreatDoorAf
namespace Go.Ab
open Go.RowKit

section
variable {P : Program} {w0 : Base} {w : World} {r : RC} {h : AH}

theorem cells_rel {v : AV} {cs : List AV} {V : Value} (hc : v.cells = some cs) (hv : VRel r v V) : ∃ L, V.cells = L.toArray ∧ VRels r cs L := by
  cases hv with
  | un V => cases hc
  | a x X hl hX => cases hc; exact ⟨X, rfl, hl, hX⟩
  | sy k V h0 h h1 h2 => cases hc; exact ⟨[V], h2, .cons (.sy k V h0 h h1 h2) .nil⟩
  | _ => cases hc; refine ⟨[_], rfl, .cons ?_ .nil⟩; constructor <;> assumption

theorem one_rel {v : AV} {V : Value} (ho : v.one = true) (hv : VRel r v V) : V.oneCell' = true := by
  cases hv <;> first | rfl | assumption | (simp [AV.one] at ho)

theorem ones_rel {cs : List AV} {L : List Value} (ho : cs.all AV.one = true) (hl : VRels r cs L) : ∀ V ∈ L, V.oneCell' = true := by
  intro V hV
  obtain ⟨j, hj⟩ := List.getElem?_of_mem hV
  have hlt : j < cs.length := by rw [hl.1]; exact (List.getElem?_eq_some_iff.1 hj).1
  have h1 : cs[j]? = some cs[j] := by simp [hlt]
  have h2 := hl.2 j _ V h1 hj
  have h3 := List.all_eq_true.1 ho cs[j] (List.getElem_mem hlt)
  exact one_rel h3 h2

/-! ### Conversions -/
theorem bytes_of {cs : List AV} {l : List UInt8} {L : List Value} (hm : cs.mapM (fun | .i .u8 k => some (UInt8.ofNat k.toNat) | _ => none) = some l) (hl : VRels r cs L) :
    ∃ xs : List Int, L = xs.map (Value.int .u8) ∧ l = xs.map (fun n => UInt8.ofNat n.toNat) := by
  induction cs generalizing l L with
  | nil => simp at hm; subst hm; obtain rfl := hl.nil_inv; exact ⟨[], rfl, rfl⟩
  | cons c cs ih =>
    obtain ⟨V, Vs, rfl, hv, hs⟩ := hl.cons_inv
    rw [List.mapM_cons] at hm
    cases hv <;> first | (simp at hm; done) | skip
    rename_i k n
    cases k <;> first | (simp at hm; done) | skip
    cases hq : cs.mapM (fun | .i .u8 k => some (UInt8.ofNat k.toNat) | _ => none) with
    | none => simp [hq] at hm
    | some q =>
      simp [hq] at hm
      subst hm
      obtain ⟨xs, rfl, rfl⟩ := ih hq hs
      exact ⟨n :: xs, rfl, rfl⟩

theorem conv_gives (hR : R P w0 r h w) {src dst : TypeId} {x v : AV} {X : Value} (hc : convA P src dst x h = some v) (hx : VRel r x X) : GivesR P w0 r h w (convert src dst X) v := by
  unfold convA at hc
  split at hc
  · rename_i hs hd; cases hx; cases hc
    exact Gives.toR hR (.now (V := .int _ _) (by simp [convert, run_underlying hs, run_underlying hd, Conv.intToInt]; done) (.i _ _))
  · rename_i hs hd; cases hx; cases hc
    exact Gives.toR hR (.now (V := .float .f64 _) (by simp [convert, run_underlying hs, run_underlying hd, Conv.intToFloat]; done) (.f _))
  · rename_i hs hd; cases hx; cases hc
    exact Gives.toR hR (.now (V := .float .f64 _) (by simp [convert, run_underlying hs, run_underlying hd, Conv.floatToFloat]; done) (.f _))
  · rename_i hs hd; cases hc
    cases hx with
    | nan x hn => exact Gives.toR hR (.now (V := .float .f64 x) (by simp [convert, run_underlying hs, run_underlying hd, Conv.floatToFloat]; done) (.nan x hn))
  · rename_i hs hd; cases hx
    split at hc
    · rename_i n hn
      split at hc
      · rename_i hb
        cases hc
        exact Gives.toR hR (.now (V := .int _ _) (by simp [convert, run_underlying hs, run_underlying hd, Conv.floatToInt, hn, hb]; done) (.i _ _))
      · cases hc
    · cases hc
  · rename_i hs hd; cases hx; cases hc
    exact Gives.toR hR (.now (V := .string _) (by simp [convert, run_underlying hs, run_underlying hd]; done) (.s _))
  · rename_i e l hs hd; cases hx
    split at hc
    · rename_i he
      cases hc
      have hrun := Lib.run_convert_string_bytes w src dst e ⟨l.toArray⟩ hs hd he
      have hsz : (⟨l.toArray⟩ : ByteArray).size = l.length := by simp [ByteArray.size]
      rw [hsz] at hrun
      have hm : More w (Lib.bytesWorld w e ⟨l.toArray⟩) (Lib.bytesCells w e ⟨l.toArray⟩) := {
        old := fun k hk => Lib.bytesWorld_at_old w e _ k hk
        new := ⟨_, _, Lib.bytesWorld_at_new w e _⟩
        size := by rw [Lib.bytesWorld_size]; omega
        os := rfl
        tape := rfl
        output := rfl }
      obtain ⟨hle, hR'⟩ := hR.row hm l.length
      have htake : (Lib.bytesCells w e ⟨l.toArray⟩).toList.take l.length = l.map fun c => Value.int .u8 c.toNat := by
        unfold Lib.bytesCells
        simp
      refine ⟨_, _, _, hrun, hle, hR', ?_⟩
      refine VRel.newRow .no rfl hle ?_ (grownCap_ge w l.length 0 e) (by simp) (by simp)
      rw [htake]
      refine ⟨by simp, fun j v V h1 h2 => ?_⟩
      rw [List.getElem?_map] at h1 h2
      cases hq : l[j]? with
      | none => simp [hq] at h1
      | some c => simp [hq] at h1 h2; subst h1; subst h2; exact .i _ _
    · cases hc
  · rename_i x0 e hs hd hns
    split at hc
    · rename_i he; cases hx; cases hc
      refine Gives.toR hR (.now (V := .string _) (run_convert_bytes_nil w src e hs he 0 0 dst hd) ?_)
      exact .s (r := r) []
    · rename_i tk cs n he
      cases hx with
      | l _ _ _ B o cap g hn hi hv hf ht =>
        split at hc
        · rename_i hlen
          split at hc
          · rename_i l hm
            cases hc
            obtain ⟨L, hL, hrd⟩ := hR.rdI hi hv
            obtain ⟨xs, rfl, rfl⟩ := bytes_of hm hL
            have hxl : xs.length = n := by have := hL.1; simp at this; omega
            refine Gives.toR hR (.now (V := .string _) (run_convert_bytes_arg w src e hs he B o n cap xs hxl (fun i hi => ?_) dst hd) (.s _))
            exact hrd i _ (by simp [List.getD, List.getElem?_eq_getElem (show i < xs.length by omega)])
          · cases hc
        · cases hc
    · rename_i b off n cap he
      cases hx with
      | v _ _ _ _ B C hn h1 h2 hC =>
        split at hc
        · rename_i l0 hk
          split at hc
          · rename_i hlen
            split at hc
            · rename_i l hm
              cases hc
              obtain ⟨L, hL, hrd⟩ := hR.rd h1 hk
              obtain ⟨xs, hxs, rfl⟩ := bytes_of hm ((hL.drop off).take n)
              have hxl : xs.length = n := by
                have h3 := congrArg List.length hxs
                have h4 := hL.1
                simp at h3
                omega
              refine Gives.toR hR (.now (V := .string _) (run_convert_bytes_arg w src e hs he B off n C xs hxl (fun i hi => ?_) dst hd) (.s _))
              have h5 := ((hrd.drop off).take n) i (.int .u8 (xs.getD i 0)) (by rw [hxs]; simp [List.getD, List.getElem?_eq_getElem (show i < xs.length by omega)])
              simpa using h5
            · cases hc
          · cases hc
        · cases hc
    · cases hc
  · cases hc

/-! ### Composite values -/
theorem foldl_set (L : List Value) : ∀ (k off : Nat) (C : List Value), off + k + L.length ≤ C.length →
    ((L.zipIdx k).foldl (fun (cs : Array Value) (p : Value × Nat) => cs.setIfInBounds (off + p.2) p.1) C.toArray).toList = C.take (off + k) ++ L ++ C.drop (off + k + L.length) := by
  induction L with
  | nil => intro k off C _; simp
  | cons v L ih =>
    intro k off C hl
    simp only [List.zipIdx_cons, List.foldl_cons]
    have e : C.toArray.setIfInBounds (off + k) v = (C.set (off + k) v).toArray := by
      apply Array.ext'
      simp
    rw [e, ih (k + 1) off (C.set (off + k) v) (by simp at hl ⊢; omega)]
    have := list_seg_step C (off + k) v L (by simp at hl ⊢; omega)
    simpa [Nat.add_assoc] using this

theorem splice_rel {cs ds : List AV} {L D : List Value} {off : Nat} (h1 : VRels r cs L) (h2 : VRels r ds D) : VRels r (splice cs off ds) (L.take off ++ D ++ L.drop (off + D.length)) := by
  unfold splice
  rw [h2.1]
  exact ((h1.take off).append h2).append (h1.drop _)

/-- Parts: the same places, values that are told. -/
def PRel (r : RC) : List (Nat × AV) → List (Nat × Value) → Prop
  | [], [] => True
  | p :: ps, q :: qs => p.1 = q.1 ∧ VRel r p.2 q.2 ∧ PRel r ps qs
  | _, _ => False

theorem fill_run {place : Nat → Option (Nat × Nat)} {cs z : List AV} {Z : List Value} : ∀ {parts : List (Nat × AV)} {ps : List (Nat × Value)}, fillA place z parts = some cs → VRels r z Z → PRel r parts ps →
    ∃ C : List Value, Instr.fill place Z.toArray ps = some C.toArray ∧ VRels r cs C := by
  intro parts
  induction parts generalizing z Z with
  | nil =>
    intro ps hf hz hp
    cases ps with
    | nil => cases hf; exact ⟨Z, rfl, hz⟩
    | cons _ _ => exact hp.elim
  | cons p parts ih =>
    intro ps hf hz hp
    cases ps with
    | nil => exact hp.elim
    | cons q ps =>
      obtain ⟨i, v⟩ := p
      obtain ⟨j, V⟩ := q
      obtain ⟨rfl, hv, hp⟩ := hp
      simp only [fillA] at hf
      split at hf
      · rename_i off size ds hpl hc
        split at hf
        · rename_i hcc
          simp only [Bool.and_eq_true, decide_eq_true_eq, Nat.ble_eq] at hcc
          obtain ⟨D, hD, hd⟩ := cells_rel hc hv
          have hdl := hd.1
          have hzl := hz.1
          obtain ⟨C, hC, hcr⟩ := ih hf (splice_rel (off := off) hz hd) hp
          refine ⟨C, ?_, hcr⟩
          have hpl' : place i = some (off, size) := hpl
          simp only [Instr.fill, hpl', hD]
          rw [if_neg (by simp; omega), ← hC]
          congr 1
          apply Array.ext'
          have := foldl_set D 0 off Z (by omega)
          simpa using this
        · cases hf
      · cases hf

theorem zipped {ps : Array (Nat × Operand)} {ev : Operand → AV} {EV : Operand → Value} (he : ∀ x, VRel r (ev x) (EV x)) :
    PRel r (ps.toList.map fun q => (q.1, ev q.2)) ((ps.map fun q => (q.1, EV q.2)).toList) := by
  rw [Array.toList_map]
  induction ps.toList with
  | nil => exact trivial
  | cons a l ih => exact ⟨rfl, he _, ih⟩

theorem places_run {l : List Field} {pl : List (Nat × Nat)} (hp : placesA P l = some pl) : (l.mapM fun f => (do pure (f.offset, ← sizeOf f.type) : Sem (Nat × Nat))).run P w = .ok pl w := by
  induction l generalizing pl with
  | nil => cases hp; rfl
  | cons f l ih =>
    simp only [placesA] at hp
    split at hp
    · rename_i n q hn hq
      cases hp
      simp only [List.mapM_cons, Sem.run_bind, size_run hn, Result.andThen_ok, Sem.run_pure, ih hq]
    · cases hp

theorem build_gives {t : TypeId} {parts : List (Nat × AV)} {ps : Array (Nat × Value)} {v : AV} (hb : buildA P t parts = some v) (hp : PRel r parts ps.toList) : Gives P r w (Instr.build t ps) v := by
  unfold buildA at hb
  split at hb
  · rename_i z fields hz hu
    split at hb
    · rename_i pl hpl
      split at hb
      · rename_i cs hf
        cases hb
        obtain ⟨Z, hZ, hzr⟩ := zeros_run (P := P) (w := w) (r := r) hz
        obtain ⟨C, hC, hcr⟩ := fill_run hf hzr hp
        have hplaces : (fields.mapM fun f => (do pure (f.offset, ← sizeOf f.type) : Sem (Nat × Nat))).run P w = .ok pl.toArray w := by
          obtain ⟨l⟩ := fields
          have := places_run (w := w) hpl
          simp only [List.mapM_toArray, Sem.run_map, this]
          rfl
        refine .now (V := .agg C.toArray) ?_ (.a _ _ hcr.1 hcr.2)
        have hC' : Instr.fill (fun (x : Nat) => pl.toArray[x]?) Z.cells ps.toList = some C.toArray := by
          have e : (fun (x : Nat) => pl.toArray[x]?) = (fun (x : Nat) => pl[x]?) := by funext x; simp
          rw [e]
          simpa using hC
        simp only [Instr.build, Sem.run_bind, hZ, Result.andThen_ok, run_underlying hu, hplaces, hC', Sem.run_pure]
      · cases hb
    · cases hb
  · rename_i z len elem hz hu
    split at hb
    · rename_i n hn
      split at hb
      · rename_i cs hf
        cases hb
        obtain ⟨Z, hZ, hzr⟩ := zeros_run (P := P) (w := w) (r := r) hz
        obtain ⟨C, hC, hcr⟩ := fill_run hf hzr hp
        refine .now (V := .agg C.toArray) ?_ (.a _ _ hcr.1 hcr.2)
        have hC' : Instr.fill (fun i => some (i * n, n)) Z.cells ps.toList = some C.toArray := by simpa using hC
        simp only [Instr.build, Sem.run_bind, hZ, Result.andThen_ok, run_underlying hu, size_run hn, hC', Sem.run_pure]
      · cases hb
    · cases hb
  · cases hb

theorem rep_get (z : List AV) : ∀ (n j : Nat), (repA z n)[j]? = if j < n * z.length then z[j % z.length]? else none := by
  intro n
  induction n with
  | zero => intro j; simp [repA]
  | succ n ih =>
    intro j
    simp only [repA]
    by_cases hj : j < z.length
    · rw [List.getElem?_append_left hj, Nat.mod_eq_of_lt hj, if_pos]
      rw [Nat.add_mul]; omega
    · rw [List.getElem?_append_right (by omega), ih]
      have e : (j - z.length) % z.length = j % z.length := (Nat.mod_eq_sub_mod (by omega)).symm
      rw [e, Nat.add_mul, Nat.one_mul]
      by_cases h2 : j - z.length < n * z.length
      · rw [if_pos h2, if_pos (by omega)]
      · rw [if_neg h2, if_neg (by omega)]

theorem rep_rel {z : List AV} {Z : Array Value} (hz : VRels r z Z.toList) (n : Nat) : VRels r (repA z n) ((Array.range (n * Z.size)).map (Z[· % Z.size]!)).toList := by
  have hl : z.length = Z.size := by simpa using hz.1
  have hlen : (repA z n).length = n * z.length := by
    induction n with
    | zero => simp [repA]
    | succ n ih => simp [repA, ih, Nat.add_mul]; omega
  refine ⟨by simp [hlen, hl], fun j v V h1 h2 => ?_⟩
  rw [rep_get] at h1
  split at h1
  · rename_i hj
    have hzp : 0 < z.length := by
      rcases Nat.eq_zero_or_pos z.length with h0 | h0
      · rw [h0] at hj; omega
      · exact h0
    have hm : j % Z.size < Z.size := Nat.mod_lt _ (by omega)
    rw [hl] at hj
    simp [hj] at h2
    subst h2
    rw [hl] at h1
    refine hz.2 (j % Z.size) v _ h1 ?_
    simp [hm]
  · cases h1

theorem buildSlice_gives (hR : R P w0 r h w) {t : TypeId} {n : Nat} {parts : List (Nat × AV)} {ps : Array (Nat × Value)} {v : AV} (hb : buildSliceA P t n parts = some v) (hp : PRel r parts ps.toList) :
    GivesR P w0 r h w (Instr.buildSlice t n ps) v := by
  unfold buildSliceA at hb
  split at hb
  · rename_i elem hu
    split at hb
    · rename_i sz z hsz hz
      split at hb
      · rename_i hcc
        simp only [Bool.and_eq_true, decide_eq_true_eq, Nat.ble_eq] at hcc
        split at hb
        · rename_i cs hf
          cases hb
          obtain ⟨Z, hZ, hzr⟩ := zeros_run (P := P) (w := w) (r := r) hz
          have hzs : Z.cells.size = sz := by have := hzr.1; simp at this; omega
          have hrep := rep_rel hzr n
          have hrep' : VRels r (repA z n) ((Array.range (n * sz)).map (Z.cells[· % Z.cells.size]!)).toList := by rw [hzs] at hrep ⊢; exact hrep
          obtain ⟨C, hC, hcr⟩ := fill_run hf hrep' hp
          have hrun : (Instr.buildSlice t n ps).run P w = .ok (.slice (some ⟨w.heap.size, 0, none⟩) n n) (w.alloc (.cells C.toArray elem)) := by
            have h24 : ¬ (16777216 < n * sz) := by omega
            simp only [Instr.buildSlice, Sem.run_bind, run_underlying hu, Result.andThen_ok, size_run hsz]
            by_cases h0 : n * sz = 0
            · have hC' : Instr.fill (fun i => some (i * sz, sz)) ((Array.range (n * sz)).map (fun x => (#[] : Array Value)[x % (#[] : Array Value).size]!)) ps.toList = some C.toArray := by
                simp only [h0, Array.range_zero', Array.map_empty] at hC ⊢
                simpa using hC
              simp [h0, newRow]
              simp [h0] at hC'
              simp [hC']
            · have hC' : Instr.fill (fun i => some (i * sz, sz)) ((Array.range (n * sz)).map (Z.cells[· % Z.cells.size]!)) ps.toList = some C.toArray := by
                rw [Array.toArray_toList] at hC
                exact hC
              simp [h24, h0, hZ, hC', newRow]
          obtain ⟨hle, hR'⟩ := hR.row (More.alloc w C.toArray elem (0, 0)) C.length
          have htake : (C.toArray.toList.take C.length) = C := by simp
          refine ⟨_, _, _, hrun, hle, hR', VRel.newRow .full rfl hle (by rw [htake]; exact hcr) (Nat.le_refl _) (fun _ => rfl) (by simp)⟩
        · cases hb
      · cases hb
    · cases hb
  · cases hb

/-! ### A zero, an assertion, a length, a least and a greatest one -/
theorem absV_rel (V : Value) : VRel r (absV V) V := by
  unfold absV
  split
  · rename_i cs
    have := absC_rels (r := r) cs.toList
    have e : (Value.agg cs) = .agg cs.toList.toArray := by simp
    rw [e]
    exact .a _ _ this.1 this.2
  · exact absC_rel V

theorem zeroA_run {t : TypeId} {v : AV} (hz : zeroA P t = some v) : ∃ V, (zeroValue t).run P w = .ok V w ∧ VRel r v V := by
  unfold zeroA at hz
  split at hz
  · rename_i i hi
    split at hz
    · rename_i V hV
      cases hz
      exact ⟨V, by simp [zeroValue, typeInfo, hi, hV], absV_rel V⟩
    · cases hz
  · cases hz

theorem assert_gives {x v : AV} {xt t : TypeId} {ok : Bool} {X : Value} (ha : typeAssertA P x t ok = some v) (hx : VRel r x X) : Gives P r w (Instr.typeAssert X xt t ok) v := by
  have tup : ∀ {a : AV} {A : Value} {b : Bool}, VRel r a A → VRel r (.t [a, .b b]) (.tuple #[A, .bool b]) := fun ha =>
    .t _ [_, _] rfl (VRels.cons ha (.cons (.b _) .nil)).2
  unfold typeAssertA at ha
  split at ha
  · cases ha
  · rename_i d hni hd
    split at ha
    · rename_i u v'
      cases hx with
      | j _ _ V hv =>
        split at ha
        · rename_i hut
          subst hut
          cases ha
          cases ok
          · exact .now (V := V) (by simp only [Instr.typeAssert, Sem.run_bind, run_underlying hd, Result.andThen_ok]; cases d <;> first | (exact absurd rfl (hni _)) | simp) hv
          · exact .now (V := .tuple #[V, .bool true]) (by simp only [Instr.typeAssert, Sem.run_bind, run_underlying hd, Result.andThen_ok]; cases d <;> first | (exact absurd rfl (hni _)) | simp) (tup hv)
        · rename_i hut
          split at ha
          · rename_i hok
            subst hok
            split at ha
            · rename_i z hz
              cases ha
              obtain ⟨Z, hZ, hzr⟩ := zeroA_run (w := w) (r := r) hz
              exact .now (V := .tuple #[Z, .bool false]) (by simp only [Instr.typeAssert, Sem.run_bind, run_underlying hd, Result.andThen_ok]; cases d <;> first | (exact absurd rfl (hni _)) | simp [hut, hZ]) (tup hzr)
            · cases ha
          · cases ha
    · cases hx with
      | jn =>
        split at ha
        · rename_i hok
          subst hok
          split at ha
          · rename_i z hz
            cases ha
            obtain ⟨Z, hZ, hzr⟩ := zeroA_run (w := w) (r := r) hz
            exact .now (V := .tuple #[Z, .bool false]) (by simp only [Instr.typeAssert, Sem.run_bind, run_underlying hd, Result.andThen_ok]; cases d <;> first | (exact absurd rfl (hni _)) | simp [hZ]) (tup hzr)
          · cases ha
        · cases ha
    · cases ha
  · cases ha

theorem extract_gives {x v : AV} {k : Nat} {X : Value} (hx : VRel r x X) {vs : List AV} (he : x = .t vs) (hk : vs[k]? = some v) : Gives P r w (Instr.extract X k) v := by
  subst he
  cases hx with
  | t _ L hl hL =>
    obtain ⟨V, hV, hv⟩ := VRels.get ⟨hl, hL⟩ hk
    exact .now (V := V) (by simp [Instr.extract, hV]) hv

theorem max_gives {xs : List AV} {v : AV} {X : List Value} (hm : maxA xs = some v) (hx : VRels r xs X) (ts : Array TypeId) (t : TypeId) : Gives P r w (Builtin.max_ ts t X.toArray) v := by
  unfold maxA at hm
  split at hm
  · obtain ⟨A, As, rfl, ha, hx⟩ := hx.cons_inv
    obtain ⟨B, Bs, rfl, hb, hx⟩ := hx.cons_inv
    obtain rfl := hx.nil_inv
    cases ha; cases hb; cases hm
    exact .now (V := .int _ _) (by simp [Builtin.max_, Builtin.max2]; done) (.i _ _)
  · cases hm

theorem min_gives {xs : List AV} {v : AV} {X : List Value} (hm : minA xs = some v) (hx : VRels r xs X) (ts : Array TypeId) (t : TypeId) : Gives P r w (Builtin.min_ ts t X.toArray) v := by
  unfold minA at hm
  split at hm
  · obtain ⟨A, As, rfl, ha, hx⟩ := hx.cons_inv
    obtain ⟨B, Bs, rfl, hb, hx⟩ := hx.cons_inv
    obtain rfl := hx.nil_inv
    cases ha; cases hb; cases hm
    exact .now (V := .int _ _) (by simp [Builtin.min_, Builtin.min2]; done) (.i _ _)
  · cases hm

theorem len_gives (hR : R P w0 r h w) {t ty : TypeId} {x v : AV} {X : Value} (hl : lenA P t x h = some v) (hx : VRel r x X) : Gives P r w (Builtin.len_ #[t] ty #[X]) v := by
  unfold lenA at hl
  split at hl
  · rename_i l hu; cases hx; cases hl
    have hsz : (⟨l.toArray⟩ : ByteArray).size = l.length := by simp [ByteArray.size]
    exact .now (V := .int .i64 l.length) (by simp [Builtin.len_, run_underlying hu, goInt, hsz]; done) (.i _ _)
  · rename_i hu; cases hx; cases hl
    exact .now (V := .int .i64 _) (by simp [Builtin.len_, run_underlying hu, goInt]; done) (.i _ _)
  · rename_i hu; cases hx; cases hl
    exact .now (V := .int .i64 _) (by simp [Builtin.len_, run_underlying hu, goInt]; done) (.i _ _)
  · rename_i hu; cases hx; cases hl
    exact .now (V := .int .i64 0) (by simp [Builtin.len_, run_underlying hu, goInt]; done) (.i _ _)
  · rename_i hu; cases hl
    exact .now (V := .int .i64 _) (by simp [Builtin.len_, run_underlying hu, goInt]; done) (.i _ _)
  · rename_i hu; cases hx; cases hl
    exact .now (V := .int .i64 0) (by simp [Builtin.len_, run_underlying hu, goInt]; done) (.i _ _)
  · rename_i hu
    split at hl
    · rename_i es hk
      cases hx with
      | m _ B h1 h2 =>
        cases hl
        obtain ⟨_, E, c, hE, h4, _⟩ := hR.mp _ B es h1 hk
        have hlen : es.length = E.size := by have := h4.1; simpa using this
        exact .now (V := .int .i64 es.length) (by simp [Builtin.len_, run_underlying hu, goInt, getObj, Sem.run, hE, hlen]) (.i _ _)
    · cases hl
  · cases hl

/-! ### Maps that are read -/
theorem sameKey_now {kd : TypeDesc} {x y : AV} {X Y : Value} {b : Bool} (hs : sameKey kd x y = some b) (hx : VRel r x X) (hy : VRel r y Y) : Instr.sameNow kd X Y = some b := by
  unfold sameKey at hs
  split at hs
  · cases hx; cases hy
    simpa [Instr.sameNow] using hs
  · cases hx; cases hy
    rename_i a b'
    cases hs
    simp only [Instr.sameNow]
    congr 1
    rw [beq_toListBytes]
    simp
  · cases hx; cases hy; cases hs; rfl
  · cases hs

def FRel (r : RC) : Option AV → Option (Nat × Value) → Prop
  | none, none => True
  | some v, some (_, V) => VRel r v V
  | _, _ => False

theorem findA_now {kd : TypeDesc} {k : AV} {K : Value} (hk : VRel r k K) : ∀ {es : List (AV × AV)} {E : List MapEntry} {res : Option AV} (i : Nat), findA kd k es = some res → VRels r (es.map (·.1)) (E.map (·.key)) → VRels r (es.map (·.2)) (E.map (·.val)) →
    ∃ RES, Instr.findNow kd K E i = some RES ∧ FRel r res RES := by
  intro es
  induction es with
  | nil =>
    intro E res i hf h1 _
    cases hf
    cases E with
    | nil => exact ⟨none, rfl, trivial⟩
    | cons e E => exact absurd h1.1 (by simp)
  | cons e es ih =>
    intro E res i hf h1 h2
    cases E with
    | nil => exact absurd h1.1 (by simp)
    | cons e' E =>
      simp only [List.map_cons] at h1 h2
      simp only [findA] at hf
      split at hf
      · rename_i hs
        cases hf
        exact ⟨some (i, e'.val), by simp [Instr.findNow, sameKey_now hs hk h1.head], h2.head⟩
      · rename_i hs
        obtain ⟨RES, hr, hm⟩ := ih (i + 1) hf h1.tail h2.tail
        exact ⟨RES, by simp [Instr.findNow, sameKey_now hs hk h1.head, hr], hm⟩
      · cases hf

theorem check_run {kt : TypeId} {kd : TypeDesc} {k : AV} {K : Value} (hu : P.underlying kt = some kd) (hk : keyOk kd k = true) (hv : VRel r k K) (e : Bool) (n : Nat) : (Instr.checkKey e (n + 1) kt K).run P w = .ok () w := by
  unfold keyOk at hk
  split at hk
  · cases hv; simp [Instr.checkKey, run_underlying hu]
  · cases hv; simp [Instr.checkKey, run_underlying hu]
  · cases hv; simp [Instr.checkKey, run_underlying hu]
  · cases hk

theorem found_run (hR : R P w0 r h w) {kd : TypeDesc} {x k : AV} {res : Option AV} {X K : Value} (hf : foundA kd k x h = some res) (hx : VRel r x X) (hk : VRel r k K) :
    ∃ (es : Array MapEntry) (RES : Option (Nat × Value)), Instr.findNow kd K es.toList 0 = some RES ∧ FRel r res RES ∧ ((X = .map none ∧ es = #[]) ∨ ∃ B c, X = .map (some B) ∧ w.heap[B]? = some (.map es c)) := by
  unfold foundA at hf
  split at hf
  · cases hx; cases hf; exact ⟨#[], none, rfl, trivial, .inl ⟨rfl, rfl⟩⟩
  · split at hf
    · rename_i b _ es hb
      cases hx with
      | m _ B h1 h2 =>
        obtain ⟨_, E, c, hE, h4, h5, _⟩ := hR.mp _ B es h1 hb
        obtain ⟨RES, hr, hres⟩ := findA_now hk 0 hf h4 h5
        exact ⟨E, RES, hr, hres, .inr ⟨B, c, rfl, hE⟩⟩
    · cases hf
  · cases hf

theorem lookup_run {t kt et : TypeId} {kd : TypeDesc} {X K : Value} {ok : Bool} {es : Array MapEntry} {RES : Option (Nat × Value)} {Z : Value} (hu : P.underlying t = some (.map kt et)) (hkd : P.underlying kt = some kd)
    (hchk : ∀ e, (Instr.checkKey e 10000 kt K).run P w = .ok () w) (hn : Instr.findNow kd K es.toList 0 = some RES) (hX : (X = .map none ∧ es = #[]) ∨ ∃ B c, X = .map (some B) ∧ w.heap[B]? = some (.map es c))
    (hz : RES = none → (zeroValue et).run P w = .ok Z w) :
    (Instr.lookup t X K ok).run P w = .ok (match RES with | some (_, V) => if ok then .tuple #[V, .bool true] else V | none => if ok then .tuple #[Z, .bool false] else Z) w := by
  rcases hX with ⟨rfl, rfl⟩ | ⟨B, c, rfl, hE⟩
  · cases RES with
    | some q => simp [Instr.findNow] at hn
    | none => simp [Instr.lookup, run_underlying hu, hchk, Instr.findKey, run_underlying hkd, Instr.findNow, hz rfl]
  · cases RES with
    | some q => simp [Instr.lookup, run_underlying hu, hchk, Instr.findKey, run_underlying hkd, hn, getObj, Sem.run, hE]
    | none => simp [Instr.lookup, run_underlying hu, hchk, Instr.findKey, run_underlying hkd, hn, getObj, Sem.run, hE, hz rfl]

theorem lookup_gives (hR : R P w0 r h w) {t : TypeId} {x k v : AV} {ok : Bool} {X K : Value} (hl : lookupA P t x k ok h = some v) (hx : VRel r x X) (hk : VRel r k K) : Gives P r w (Instr.lookup t X K ok) v := by
  have tup : ∀ {a : AV} {A : Value} {b : Bool}, VRel r a A → VRel r (.t [a, .b b]) (.tuple #[A, .bool b]) := fun ha =>
    .t _ [_, _] rfl (VRels.cons ha (.cons (.b _) .nil)).2
  unfold lookupA at hl
  split at hl
  · rename_i kt et hu
    split at hl
    · rename_i kd hkd
      split at hl
      · rename_i hok
        have hchk : ∀ e, (Instr.checkKey e 10000 kt K).run P w = .ok () w := fun e => check_run hkd hok hk e 9999
        split at hl
        · rename_i v' hm
          obtain ⟨es, RES, hn, hf, hX⟩ := found_run hR hm hx hk
          cases RES with
          | none => exact hf.elim
          | some q =>
            have hrun := lookup_run (w := w) (ok := ok) (Z := .nilIface) hu hkd hchk hn hX (fun he => by cases he)
            cases hl
            cases ok
            · exact .now (V := q.2) (by simpa using hrun) hf
            · exact .now (V := .tuple #[q.2, .bool true]) (by simpa using hrun) (tup hf)
        · rename_i hm
          obtain ⟨es, RES, hn, hf, hX⟩ := found_run hR hm hx hk
          cases RES with
          | some q => exact hf.elim
          | none =>
            split at hl
            · rename_i z hz
              cases hl
              obtain ⟨Z, hZ, hzr⟩ := zeroA_run (w := w) (r := r) hz
              have hrun := lookup_run (w := w) (ok := ok) (Z := Z) hu hkd hchk hn hX (fun _ => hZ)
              cases ok
              · exact .now (V := Z) (by simpa using hrun) hzr
              · exact .now (V := .tuple #[Z, .bool false]) (by simpa using hrun) (tup hzr)
            · cases hl
        · cases hl
      · cases hl
    · cases hl
  · cases hl
end
end Go.Ab
