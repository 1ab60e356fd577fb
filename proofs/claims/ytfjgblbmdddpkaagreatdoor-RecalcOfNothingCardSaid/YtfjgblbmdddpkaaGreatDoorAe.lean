/- Operations that turn no abstract memory, second part: comparisons with nil, reads, conversions. -/
import Derived.Test.YtfjgblbmdddpkaaGreatDoorAd
namespace Go.Ab
open Go.RowKit

section
variable {P : Program} {w : World} {r : RC}

theorem absC_rel (V : Value) : VRel r (absC V) V := by
  unfold absC
  split
  · exact .b _
  · exact .i _ _
  · exact .f _
  · rename_i x
    have : x = ⟨x.data.toList.toArray⟩ := by cases x; simp
    exact this ▸ (VRel.s (r := r) x.data.toList)
  · exact .pn
  · exact .ln
  · exact .mn
  · exact .cn
  · exact .jn
  · exact .un _

theorem absC_rels (L : List Value) : VRels r (L.map absC) L :=
  ⟨by simp, fun j v V h1 h2 => by
    rw [List.getElem?_map, h2] at h1
    simp at h1
    subst h1
    exact absC_rel V⟩

/-! ### Comparisons -/
theorem eq_gives {op : BinOp} {t : TypeId} {X Y : Value} {e : Bool} {v : AV} (h : aEq op e = some v) (hE : (Op.equal t X Y).run P w = .ok e w)
    (hb : binOp .eql t X Y = (do pure (.bool (← Op.equal t X Y)))) (hn : binOp .neq t X Y = (do pure (.bool (!(← Op.equal t X Y))))) : Gives P r w (binOp op t X Y) v := by
  cases op <;> simp only [aEq, Option.some.injEq] at h
  case eql => subst h; exact .now (V := .bool e) (by rw [hb]; simp [hE]) (.b _)
  case neq => subst h; exact .now (V := .bool (!e)) (by rw [hn]; simp [hE]) (.b _)
  all_goals cases h

theorem eqNil_run {op : BinOp} {t : TypeId} {x y : AV} {k : Bool} {v : AV} {X Y : Value} (h : aEqNil P op t x y k = some v) (hx : VRel r x X) (hy : VRel r y Y) (d : Nat) :
    ∃ e, aEq op e = some v ∧ (Op.equalIn (d + 1) t X Y).run P w = .ok e w ∧ binOp .eql t X Y = (do pure (.bool (← Op.equal t X Y))) ∧ binOp .neq t X Y = (do pure (.bool (!(← Op.equal t X Y)))) := by
  unfold aEqNil at h
  split at h
  case h_21 => cases h
  case h_2 hu =>
    split at h
    · cases hx; cases hy; exact ⟨_, h, by simp only [Op.equalIn, Sem.run_bind, run_underlying hu, Result.andThen_ok, Sem.run_pure], rfl, rfl⟩
    · cases h
  all_goals
    rename_i hu
    cases hx
    cases hy
    exact ⟨_, h, by simp only [Op.equalIn, Sem.run_bind, run_underlying hu, Result.andThen_ok, Sem.run_pure, Option.isNone_none, Option.isNone_some], rfl, rfl⟩

theorem eqNil_gives {op : BinOp} {t : TypeId} {x y : AV} {k : Bool} {v : AV} {X Y : Value} (h : aEqNil P op t x y k = some v) (hx : VRel r x X) (hy : VRel r y Y) :
    Gives P r w (binOp op t X Y) v := by
  obtain ⟨e, h1, h2, h3, h4⟩ := eqNil_run (w := w) h hx hy 9999
  exact eq_gives h1 h2 h3 h4

theorem nil_const {op : BinOp} {t : TypeId} {k : Bool} {v : AV} (h : aEqNil P op t .jn .jn k = some v) : k = true := by
  cases k with
  | true => rfl
  | false =>
    unfold aEqNil at h
    split at h <;> simp_all

/-- The test ahead of '==' lets the values by. -/
theorem guard_by {op : BinOp} {t : TypeId} {ox oy : Operand} {x y : AV} {v : AV} {X Y : Value} (h : binA P op t x y (Operand.isConst ox || Operand.isConst oy) = some v) (hx : VRel r x X) (hy : VRel r y Y) :
    (eqGuard op t ox oy X Y).run P w = .ok () w := by
  have other : (∀ op : BinOp, (op = .eql ∨ op = .neq) → (eqGuard op t ox oy X Y).run P w = .ok () w) → (eqGuard op t ox oy X Y).run P w = .ok () w := by
    intro H
    cases op
    case eql => exact H _ (.inl rfl)
    case neq => exact H _ (.inr rfl)
    all_goals rfl
  apply other
  intro op' hop
  cases hx with
  | un V => simp [binA, aEqNil] at h
  | a x X hl hX => simp [binA, aEqNil] at h
  | jn =>
    cases hy with
    | jn =>
      have hk := nil_const (by simpa [binA] using h)
      cases ox <;> cases oy <;> first | (simp [Operand.isConst] at hk; done) | (rcases hop with rfl | rfl <;> rfl)
    | un V => simp [binA, aEqNil] at h
    | sy k V g0 g g1 g2 => simp [binA, aEqNil] at h
    | _ => rcases hop with rfl | rfl <;> rfl
  | sy k V g0 g g1 g2 => simp [binA, aEqNil] at h
  | _ => rcases hop with rfl | rfl <;> rfl

theorem bin_gives {op : BinOp} {t : TypeId} {x y : AV} {k : Bool} {v : AV} {X Y : Value} (h : binA P op t x y k = some v) (hx : VRel r x X) (hy : VRel r y Y) :
    Gives P r w (binOp op t X Y) v := by
  unfold binA at h
  split at h
  · cases hx; cases hy
    split at h
    · exact shift_gives (.inl rfl) h
    · exact shift_gives (.inr rfl) h
    · split at h
      · rename_i hj; subst hj; exact int_gives h
      · cases h
  · cases hx; cases hy; exact float_gives h
  · cases hx with | nan x hn => cases hy; exact nan_gives h (hn _).1
  · cases hy with | nan x hn => cases hx; exact nan_gives h (hn _).2
  · cases hx with | nan x hn => cases hy; exact nan_gives h (hn _).1
  · cases hx; cases hy; exact str_gives h
  · exact eqNil_gives h hx hy

theorem un_gives {op : UnOp} {x v : AV} {X : Value} (h : unA op x = some v) (hx : VRel r x X) : Gives P r w (Op.unary op X) v := by
  unfold unA at h
  split at h
  · cases hx
    simp only [aInt] at h
    cases h
    exact .now (V := .int _ _) (by simp [Op.unary, Op.intArith]; done) (.i _ _)
  · cases hx
    simp only [aInt] at h
    cases h
    exact .now (V := .int _ _) (by simp [Op.unary, Op.intBits]; done) (.i _ _)
  · cases hx; cases h; exact .now (V := .float .f64 _) (by simp [Op.unary]; rfl) (.f _)
  · cases hx; cases h; exact .now (V := .bool _) (by simp [Op.unary]; done) (.b _)
  · cases h

/-! ### Types -/
theorem isAgg_run {t : TypeId} {b : Bool} (h : isAggA P t = some b) : (isAgg t).run P w = .ok b w := by
  unfold isAggA at h
  split at h
  · rename_i hu; cases h; simp [isAgg, run_underlying hu]
  · rename_i hu; cases h; simp [isAgg, run_underlying hu]
  · rename_i d hn1 hn2 hu
    cases h
    simp only [isAgg, Sem.run_bind, run_underlying hu, Result.andThen_ok]
    cases d <;> first | rfl | (exact absurd rfl (hn1 _)) | (exact absurd rfl (hn2 _ _)) | simp_all
  · cases h

theorem size_run {t : TypeId} {n : Nat} (h : sizeA P t = some n) : (sizeOf t).run P w = .ok n w := by
  unfold sizeA at h
  obtain ⟨i, hi, rfl⟩ := Option.map_eq_some_iff.1 h
  simp [sizeOf, typeInfo, hi]

theorem zeros_run {t : TypeId} {z : List AV} (h : zerosA P t = some z) : ∃ V, (zeroValue t).run P w = .ok V w ∧ VRels r z V.cells.toList := by
  unfold zerosA at h
  split at h
  · rename_i i hi
    split at h
    · rename_i v hv
      cases h
      exact ⟨v, by simp [zeroValue, typeInfo, hi, hv], absC_rels _⟩
    · cases h
  · cases h

theorem part_gives {t : TypeId} {cs : List AV} {L : List Value} {off : Nat} {v : AV} (h : partA P t cs off = some v) (hL : VRels r cs L) :
    ∃ V, (part t L.toArray off).run P w = .ok V w ∧ VRel r v V := by
  unfold partA at h
  split at h
  · rename_i n ha hn
    split at h
    · rename_i hle
      cases h
      refine ⟨.agg ((L.drop off).take n).toArray, ?_, ?_⟩
      · simp only [part, Sem.run_bind, isAgg_run ha, Result.andThen_ok, if_true, size_run hn, Sem.run_pure]
        congr 2
        apply Array.ext'
        simp [List.take_drop]
      · have := (hL.drop off).take n
        exact .a _ _ this.1 this.2
    · cases h
  · rename_i _ ha
    obtain ⟨V, hV, hr⟩ := hL.get h
    exact ⟨V, by simp [part, isAgg_run ha, hV], hr⟩
  · cases h

/-- Cells that can be read. -/
def Rd (w : World) (B o : Nat) (L : List Value) : Prop := ∀ (j : Nat) (V : Value), L[j]? = some V → w.cell? ⟨B, o + j, none⟩ = some V

theorem addr_add (B o n : Nat) : (⟨B, o, none⟩ : Addr).add n = ⟨B, o + n, none⟩ := by unfold Addr.add; split <;> simp_all

theorem Rd.drop {B o : Nat} {L : List Value} (h : Rd w B o L) (n : Nat) : Rd w B (o + n) (L.drop n) := fun j V hj => by
  rw [Nat.add_assoc]; exact h (n + j) V (by simpa using hj)
theorem Rd.take {B o : Nat} {L : List Value} (h : Rd w B o L) (n : Nat) : Rd w B o (L.take n) := fun j V hj => by
  rw [List.getElem?_take] at hj
  split at hj
  · exact h j V hj
  · cases hj
theorem Rd.cells {B o : Nat} {L : List Value} (h : Rd w B o L) : (loadCells ⟨B, o, none⟩ L.length).run P w = .ok L.toArray w :=
  run_loadCells_list w _ L fun j V hj => by rw [addr_add]; exact h j V hj

theorem load_gives {t : TypeId} {cs : List AV} {L : List Value} {B o off : Nat} {v : AV} (h : partA P t cs off = some v) (hL : VRels r cs L) (hr : Rd w B o L) :
    ∃ V, (loadVar t ⟨B, o + off, none⟩).run P w = .ok V w ∧ VRel r v V := by
  unfold partA at h
  split at h
  · rename_i n ha hn
    split at h
    · rename_i hle
      cases h
      have hl : ((L.drop off).take n).length = n := by simp [← hL.1]; omega
      have hc := ((hr.drop off).take n).cells (P := P)
      rw [hl] at hc
      refine ⟨.agg ((L.drop off).take n).toArray, by simp [loadVar, isAgg_run ha, size_run hn, hc], ?_⟩
      have := (hL.drop off).take n
      exact .a _ _ this.1 this.2
    · cases h
  · rename_i _ ha
    obtain ⟨V, hV, hv⟩ := hL.get h
    exact ⟨V, by simp [loadVar, isAgg_run ha, hr off V hV], hv⟩
  · cases h

/-- The cells behind an abstract block. -/
theorem R.rd {w0 : Base} {h : AH} (hR : R P w0 r h w) {k B : Nat} {l : List AV} (h1 : r.ι[k]? = some (some B)) (h2 : h[k]? = some (.cs l)) : ∃ L, VRels r l L ∧ Rd w B 0 L := by
  obtain ⟨_, L, el, ⟨M, hL⟩, hl⟩ := hR.cs k B l h1 h2
  refine ⟨L, hl, fun j V hj => ?_⟩
  have hj' : (L ++ M)[j]? = some V := by rw [List.getElem?_append_left (List.getElem?_eq_some_iff.1 hj).1]; exact hj
  have hc : (L ++ M).toArray[j]? = some V := by rw [List.getElem?_toArray]; exact hj'
  simp only [World.cell?, hL, Nat.zero_add]
  exact hc

/-- The cells of a row that nobody writes. -/
theorem R.rdI {w0 : Base} {h : AH} (hR : R P w0 r h w) {cs : List AV} {B o : Nat} {g : Nat → Value} (hi : ∀ (j : Nat) (v : AV), cs[j]? = some v → r.imm B (o + j) = some (g j)) (hv : ∀ (j : Nat) (v : AV), cs[j]? = some v → VRel r v (g j)) :
    ∃ L, VRels r cs L ∧ Rd w B o L := by
  refine ⟨(List.range cs.length).map g, ⟨by simp, fun j v V h1 h2 => ?_⟩, fun j V hj => ?_⟩
  · have hlt : j < cs.length := (List.getElem?_eq_some_iff.1 h1).1
    simp [hlt] at h2
    subst h2
    exact hv j v h1
  · have hlt : j < cs.length := by
      have := (List.getElem?_eq_some_iff.1 hj).1
      simpa using this
    simp [hlt] at hj
    subst hj
    exact hR.imm _ _ _ (hi j cs[j] (by simp [hlt]))

theorem loadA_gives {w0 : Base} {h : AH} (hR : R P w0 r h w) {t : TypeId} {x v : AV} {X : Value} (hl : loadA P t x h = some v) (hx : VRel r x X) : Gives P r w (Instr.loadAt t X) v := by
  unfold loadA at hl
  split at hl
  · rename_i k off
    split at hl
    · rename_i l hk
      cases hx with
      | p _ _ B h1 h2 =>
        obtain ⟨L, hL, hr⟩ := hR.rd h1 hk
        obtain ⟨V, hV, hv⟩ := load_gives hl hL hr
        rw [Nat.zero_add] at hV
        exact .now (V := V) (by simp [Instr.loadAt, Instr.sureAddr, hV]) hv
    · cases hl
  · cases hx with
    | r cs off B o g hi hv =>
      obtain ⟨L, hL, hr⟩ := hR.rdI hi hv
      obtain ⟨V, hV, hv⟩ := load_gives hl hL hr
      exact .now (V := V) (by simp [Instr.loadAt, Instr.sureAddr, hV]) hv
  · cases hl

/-! ### Places -/
theorem fieldOff_run {t : TypeId} {k o : Nat} {ft : TypeId} (h : fieldOff P t k = some (o, ft)) : ∃ fields f, P.underlying t = some (.struct fields) ∧ fields[k]? = some f ∧ f.offset = o ∧ f.type = ft := by
  unfold fieldOff at h
  split at h
  · rename_i fields hu
    split at h
    · rename_i f hf
      cases h
      exact ⟨fields, f, hu, hf, rfl, rfl⟩
    · cases h
  · cases h

theorem fieldAddr_gives {t : TypeId} {x v : AV} {k : Nat} {X : Value} (h : fieldAddrA P t x k = some v) (hx : VRel r x X) : Gives P r w (Instr.fieldAt t X k) v := by
  unfold fieldAddrA at h
  split at h
  · rename_i o ft ho
    obtain ⟨fields, f, hu, hf, rfl, rfl⟩ := fieldOff_run ho
    split at h
    · rename_i n hn
      split at h
      · cases h
        cases hx with
        | p _ _ B h1 h2 => exact .now (V := .pointer (some ⟨B, _, none⟩)) (by simp [Instr.fieldAt, run_underlying hu, hf, Instr.sureAddr, fieldPlace, size_run hn, addr_add]; done) (.p _ _ B h1 h2)
      · cases h
        cases hx with
        | r cs off B o g hi hv => exact .now (V := .pointer (some ⟨B, _, none⟩)) (by simp [Instr.fieldAt, run_underlying hu, hf, Instr.sureAddr, fieldPlace, size_run hn, addr_add, Nat.add_assoc]; done) (.r _ _ B o g hi hv)
      · cases h
    · cases h
  · cases h

theorem field_gives {t : TypeId} {x v : AV} {k : Nat} {X : Value} (h : fieldA P t x k = some v) (hx : VRel r x X) : Gives P r w (Instr.field t X k) v := by
  unfold fieldA at h
  split at h
  · rename_i o ft cs ho
    obtain ⟨fields, f, hu, hf, rfl, rfl⟩ := fieldOff_run ho
    cases hx with
    | a _ L hl hX =>
      obtain ⟨V, hV, hv⟩ := part_gives (w := w) h ⟨hl, hX⟩
      exact .now (V := V) (by simp [Instr.field, run_underlying hu, hf, asAgg, hV]) hv
  · cases h

theorem indexAddr_gives {t : TypeId} {x y v : AV} {X Y : Value} (h : indexAddrA P t x y = some v) (hx : VRel r x X) (hy : VRel r y Y) : Gives P r w (Instr.indexAt t X Y) v := by
  unfold indexAddrA at h
  split at h
  · rename_i k ix
    cases hy
    split at h
    · rename_i e tk cs n hu
      split at h
      · rename_i sz hsz
        split at h
        · rename_i hix
          cases h
          cases hx with
          | l _ _ _ B o cap g hn hi hv hf ht =>
            exact .now (V := .pointer (some ⟨B, o + ix.toNat * sz, none⟩)) (by simp [Instr.indexAt, asIntOf, run_underlying hu, hix, size_run hsz, addr_add]; done) (.r _ _ B o g hi hv)
        · cases h
      · cases h
    · rename_i e b off n cap hu
      split at h
      · rename_i sz hsz
        split at h
        · rename_i hix
          cases h
          cases hx with
          | v _ _ _ _ B C hn h1 h2 hC =>
            exact .now (V := .pointer (some ⟨B, off + ix.toNat * sz, none⟩)) (by simp [Instr.indexAt, asIntOf, run_underlying hu, hix, size_run hsz, addr_add]; done) (.p _ _ B h1 h2)
        · cases h
      · cases h
    · rename_i len e b off hu
      split at h
      · rename_i sz hsz
        split at h
        · rename_i hix
          cases h
          cases hx with
          | p _ _ B h1 h2 =>
            exact .now (V := .pointer (some ⟨B, off + ix.toNat * sz, none⟩)) (by simp [Instr.indexAt, asIntOf, Instr.sureAddr, run_underlying hu, hix, size_run hsz, addr_add]; done) (.p _ _ B h1 h2)
        · cases h
      · cases h
    · rename_i len e cs off hu
      split at h
      · rename_i sz hsz
        split at h
        · rename_i hix
          cases h
          cases hx with
          | r cs off B o g hi hv =>
            exact .now (V := .pointer (some ⟨B, o + (off + ix.toNat * sz), none⟩)) (by simp [Instr.indexAt, asIntOf, Instr.sureAddr, run_underlying hu, hix, size_run hsz, addr_add, Nat.add_assoc]; done) (.r _ _ B o g hi hv)
        · cases h
      · cases h
    · cases h
  · cases h

theorem index_gives {t : TypeId} {x y v : AV} {X Y : Value} (h : indexA P t x y = some v) (hx : VRel r x X) (hy : VRel r y Y) : Gives P r w (Instr.index t X Y) v := by
  unfold indexA at h
  split at h
  · rename_i k ix
    cases hy
    split at h
    · rename_i len e cs hu
      split at h
      · rename_i sz hsz
        split at h
        · rename_i hix
          cases hx with
          | a _ L hl hX =>
            obtain ⟨V, hV, hv⟩ := part_gives (w := w) h ⟨hl, hX⟩
            exact .now (V := V) (by simp [Instr.index, asIntOf, run_underlying hu, hix, size_run hsz, hV]) hv
        · cases h
      · cases h
    · rename_i l hu
      split at h
      · rename_i h0
        split at h
        · rename_i c hc
          cases h
          cases hx
          have hs : (⟨l.toArray⟩ : ByteArray)[ix.toNat]? = some c := by
            have : (⟨l.toArray⟩ : ByteArray)[ix.toNat]? = l[ix.toNat]? := by
              by_cases hlt : ix.toNat < l.length
              · have h2 : ix.toNat < (⟨l.toArray⟩ : ByteArray).size := by simpa [ByteArray.size] using hlt
                rw [getElem?_pos (⟨l.toArray⟩ : ByteArray) ix.toNat h2]
                simp [hlt]
                rfl
              · have h2 : ¬ ix.toNat < (⟨l.toArray⟩ : ByteArray).size := by simpa [ByteArray.size] using hlt
                rw [getElem?_neg (⟨l.toArray⟩ : ByteArray) ix.toNat h2]
                simp
                omega
            rw [this, hc]
          exact .now (V := .int .u8 c.toNat) (by simp [Instr.index, asIntOf, run_underlying hu, h0, hs]) (.i _ _)
        · cases h
      · cases h
    · cases h
  · cases h
end
end Go.Ab
