/- The interpreter, second part: regions whose order is open, code, deferred calls, calls. Nothing is proved here but that equal values are found equal. -/
import Derived.Test.YtfjgblbmdddpkaaGreatDoorAa
namespace Go.Ab

mutual
def AV.beq : AV → AV → Bool
  | .un, .un => true
  | .b x, .b y => x == y
  | .i k x, .i k2 y => k == k2 && x == y
  | .f x, .f y => x == y
  | .nan, .nan => true
  | .s x, .s y => x == y
  | .pn, .pn => true
  | .p x o, .p y q => x == y && o == q
  | .r x o, .r y q => AV.beqs x y && o == q
  | .ln, .ln => true
  | .l tk x n, .l tl y k => tk == tl && AV.beqs x y && n == k
  | .v x o n z, .v y q k d => x == y && o == q && n == k && z == d
  | .mn, .mn => true
  | .m x, .m y => x == y
  | .cn, .cn => true
  | .c g x y, .c h z u => g == h && AV.beqs x z && AV.beqs y u
  | .jn, .jn => true
  | .j ty x, .j tz y => ty == tz && AV.beq x y
  | .a x, .a y => AV.beqs x y
  | .t x, .t y => AV.beqs x y
  | .sy x, .sy y => x == y
  | _, _ => false
def AV.beqs : List AV → List AV → Bool
  | [], [] => true
  | x :: xs, y :: ys => AV.beq x y && AV.beqs xs ys
  | _, _ => false
end

mutual
theorem AV.eq_of_beq : ∀ {x y : AV}, AV.beq x y = true → x = y
  | .un, y, h => by cases y <;> simp_all [AV.beq]
  | .b _, y, h => by cases y <;> simp_all [AV.beq]
  | .i _ _, y, h => by cases y <;> simp_all [AV.beq]
  | .f _, y, h => by cases y <;> simp_all [AV.beq]
  | .nan, y, h => by cases y <;> simp_all [AV.beq]
  | .s _, y, h => by cases y <;> simp_all [AV.beq]
  | .pn, y, h => by cases y <;> simp_all [AV.beq]
  | .p _ _, y, h => by cases y <;> simp_all [AV.beq]
  | .r _ _, y, h => by
    cases y <;> simp [AV.beq] at h
    rw [AV.eq_of_beqs h.1, h.2]
  | .ln, y, h => by cases y <;> simp_all [AV.beq]
  | .l _ _ _, y, h => by
    cases y <;> simp [AV.beq] at h
    rw [h.1.1, AV.eq_of_beqs h.1.2, h.2]
  | .v _ _ _ _, y, h => by cases y <;> simp_all [AV.beq]
  | .mn, y, h => by cases y <;> simp_all [AV.beq]
  | .m _, y, h => by cases y <;> simp_all [AV.beq]
  | .cn, y, h => by cases y <;> simp_all [AV.beq]
  | .c _ _ _, y, h => by
    cases y <;> simp [AV.beq] at h
    rw [h.1.1, AV.eq_of_beqs h.1.2, AV.eq_of_beqs h.2]
  | .jn, y, h => by cases y <;> simp_all [AV.beq]
  | .j _ _, y, h => by
    cases y <;> simp [AV.beq] at h
    rw [h.1, AV.eq_of_beq h.2]
  | .a _, y, h => by
    cases y <;> simp [AV.beq] at h
    rw [AV.eq_of_beqs h]
  | .t _, y, h => by
    cases y <;> simp [AV.beq] at h
    rw [AV.eq_of_beqs h]
  | .sy _, y, h => by cases y <;> simp_all [AV.beq]
theorem AV.eq_of_beqs : ∀ {x y : List AV}, AV.beqs x y = true → x = y
  | [], y, h => by cases y <;> simp_all [AV.beqs]
  | x :: xs, y, h => by
    cases y <;> simp [AV.beqs] at h
    rw [AV.eq_of_beq h.1, AV.eq_of_beqs h.2]
end

mutual
theorem AV.beq_refl : ∀ (x : AV), AV.beq x x = true
  | .un => rfl
  | .b _ => by simp [AV.beq]
  | .i _ _ => by simp [AV.beq]
  | .f _ => by simp [AV.beq]
  | .nan => rfl
  | .s _ => by simp [AV.beq]
  | .pn => rfl
  | .p _ _ => by simp [AV.beq]
  | .r x _ => by simp [AV.beq, AV.beqs_refl x]
  | .ln => rfl
  | .l _ x _ => by simp [AV.beq, AV.beqs_refl x]
  | .v _ _ _ _ => by simp [AV.beq]
  | .mn => rfl
  | .m _ => by simp [AV.beq]
  | .cn => rfl
  | .c _ x y => by simp [AV.beq, AV.beqs_refl x, AV.beqs_refl y]
  | .jn => rfl
  | .j _ x => by simp [AV.beq, AV.beq_refl x]
  | .a x => by simp [AV.beq, AV.beqs_refl x]
  | .t x => by simp [AV.beq, AV.beqs_refl x]
  | .sy _ => by simp [AV.beq]
theorem AV.beqs_refl : ∀ (x : List AV), AV.beqs x x = true
  | [] => rfl
  | x :: xs => by simp [AV.beqs, AV.beq_refl x, AV.beqs_refl xs]
end

/-! ### Regions whose order is open -/

def isZeroC : Operand → Bool
  | .const (.int _ n) => decide (n = 0)
  | _ => false

/-- 0: turns no abstract memory and looks at none; 1: looks at memory; 2: lays a new variable or a new row; 3: may turn memory; 4: not served. -/
def kindOf : Op → Nat
  | .move _ | .assign _ | .pick .. | .build .. | .buildSlice .. | .nilCheck _ | .binOp .. | .unOp .. | .makeInterface .. | .makeFunc .. | .slice ..
  | .fieldAddr .. | .field .. | .indexAddr .. | .index .. | .typeAssert .. | .extract .. => 0
  | .load .. | .lookup .. | .convert .. => 1
  | .alloc _ => 2
  | .box .. | .store .. | .mapUpdate .. | .insert .. | .mapEntry .. | .entryStore .. | .range .. | .next .. | .makeMap .. | .panic _ => 3
  | .makeSlice _ x _ => if isZeroC x then 3 else 2
  | .call c => match c.callee with
    | .builtin .len => 1
    | .builtin .max | .builtin .min => 0
    | .builtin .append => 3
    | .value _ => 3
    | _ => 4
  | _ => 4

/-- The tmps that an operation looks at. -/
def looksA (ops : List Oper) (o : Oper) : List Tmp :=
  (o.op.operands.toList.filterMap fun | .tmp t => some t | _ => none) ++
  (match o.guard with
   | some (g, _) => match ops[g]? with
     | some og => og.dst.toList
     | none => []
   | none => [])

/-- Of two operations i and j of a region whose order is open: no slot is written twice; who looks at a slot (j) is ordered with who writes it (i), who reads memory comes behind; those that may turn memory are ordered among themselves as the text orders them. -/
def pairOk (ops : List Oper) (bs : Array Nat) (i j : Nat) (oi oj : Oper) : Bool :=
  (match oi.dst, oj.dst with | some a, some b => a != b || i == j | _, _ => true) &&
  (match oi.dst with
   | some d => !((looksA ops oj).contains d) || (Nat.blt i j && (bs.getD j 0).testBit i) || (kindOf oj.op != 1 && (i == j || (Nat.blt j i && (bs.getD i 0).testBit j)))
   | none => true) &&
  (!(Nat.blt i j) || !(kindOf oi.op == 3 && kindOf oj.op == 3) || (bs.getD j 0).testBit i)

/-- What the orders ask: edges lead backwards; a bit says what edges say. -/
def edgeOk (n : Nat) (bs : Array Nat) (j : Nat) (o : Oper) : Bool :=
  o.after.toList.all (fun e => !(Region.binds .any e) || Nat.blt e.on j) &&
  (List.range n).all fun i => !(bs.getD j 0).testBit i || o.after.toList.any fun e => Region.binds .any e && (Nat.beq e.on i || (bs.getD e.on 0).testBit i)

def drawOk (ops : List Oper) (bs : Array Nat) : Bool :=
  (List.range ops.length).all fun j => match ops[j]? with
    | none => true
    | some oj => edgeOk ops.length bs j oj && (List.range ops.length).all fun i => match ops[i]? with
      | none => true
      | some oi => pairOk ops bs i j oi oj

/-- What an operation that lays something new lays down, and what it comes to. -/
def layA (P : Program) (op : Op) (ev : Operand → AV) : Option (List AV × (Nat → AV)) :=
  match op with
  | .alloc t => match zerosA P t with
    | some z => some (z, fun k => .p k 0)
    | none => none
  | .makeSlice t x y => match P.underlying t, ev x, ev y with
    | some (.slice e), .i _ l, .i _ c => match P.info? e, zerosA P e with
      | some inf, some z =>
        if 0 ≤ l ∧ l ≤ c ∧ (inf.bytes : Int) * c ≤ 281474976710656 ∧ c ≤ 1152921504606846976 then
          some ((List.range (c.toNat * inf.size)).map fun j => z.getD (j % z.length) .un, fun k => .v k 0 l.toNat c.toNat)
        else none
      | _, _ => none
    | _, _, _ => none
  | _ => none

def isMakeOp : Op → Bool
  | .makeSlice .. => true
  | _ => false

def zerosIn (P : Program) : List Oper → List (List AV)
  | [] => []
  | o :: rest => match o.op with
    | .alloc t => match zerosA P t with
      | some z => z :: zerosIn P rest
      | none => []
    | _ => zerosIn P rest

/-- What a region will lay, guessed by a walk in the text's order; the walk that counts holds it against what it finds. -/
def guessA (P : Program) (call : CallT) (nt : Nat) (ops : List Oper) : List Oper → ST → List (List AV)
  | [], _ => []
  | o :: rest, st => match guardA ops st.tm o with
    | some true =>
      if kindOf o.op = 2 then match layA P o.op (evA st.tm) with
        | some (z, f) => match ST.put nt st o.dst (f st.s.h.length) { st.s with h := st.s.h ++ [.cs z] } with
          | some st => z :: guessA P call nt ops rest st
          | none => []
        | none => []
      else match opA P call o.op (evA st.tm) st.s with
        | some (.val v, s) => match ST.put nt st o.dst v s with
          | some st => guessA P call nt ops rest st
          | none => []
        | some (.skip, s) => match ST.put nt st o.dst (.t []) s with
          | some st => guessA P call nt ops rest st
          | none => []
        | _ => []
    | some false => match ST.put nt st o.dst (.t []) st.s with
      | some st => guessA P call nt ops rest st
      | none => []
    | none => []

/-- What a region lays, laid ahead of it. -/
def preA (P : Program) (call : CallT) (nt : Nat) (ops : List Oper) (st : ST) : AH :=
  st.s.h ++ (if ops.any fun o => isMakeOp o.op then guessA P call nt ops ops st else zerosIn P ops).map AO.cs

structure DS where
  st : ST
  next : Nat
  lim : Nat
  snaps : List (Nat × AH)
  reads : List (Nat × Oper × AV)
  lays : List (Nat × Nat × List AV)

/-- Do these cells still lie there? -/
def liesA (h : AH) (k : Nat) (z : List AV) : Bool :=
  match h[k]? with
  | some (.cs l) => AV.beqs l z
  | _ => false

/-- Does a read come to the same in another state of memory? -/
def againA (P : Program) (call : CallT) (ev : Operand → AV) (h : AH) (o : Oper) (v : AV) : Bool :=
  match opA P call o.op ev { h := h, esc := none } with
  | some (.val u, _) => AV.beq u v
  | _ => false

/-- Puts a value, and lays down what is to be remembered. -/
def putD (nt : Nat) (dst : Option Tmp) (v : AV) (s : HS) (d : DS) : Option DS :=
  match ST.put nt d.st dst v s with
  | some st => some { d with st := st }
  | none => none

def bodyA (P : Program) (call : CallT) (nt : Nat) (bj j : Nat) (o : Oper) (d : DS) : Option (Option AV × DS) :=
  match kindOf o.op with
  | 0 => match opA P call o.op (evA d.st.tm) d.st.s with
    | some (.val v, _) => (putD nt o.dst v d.st.s d).map (none, ·)
    | _ => none
  | 1 => match opA P call o.op (evA d.st.tm) d.st.s with
    | some (.val v, _) =>
      if d.snaps.all fun q => bj.testBit q.1 || againA P call (evA d.st.tm) q.2 o v then
        (putD nt o.dst v d.st.s { d with reads := (j, o, v) :: d.reads }).map (none, ·)
      else none
    | _ => none
  | 2 => match layA P o.op (evA d.st.tm), d.st.s.h[d.next]? with
    | some (z, f), some (.cs l) =>
      if AV.beqs l z && Nat.blt d.next d.lim && d.snaps.all (fun q => bj.testBit q.1 || liesA q.2 d.next z) then
        (putD nt o.dst (f d.next) d.st.s { d with next := d.next + 1, lays := (j, d.next, z) :: d.lays }).map (none, ·)
      else none
    | _, _ => none
  | 3 => match opA P call o.op (evA d.st.tm) d.st.s with
    | some (.pan v, s) => some (some v, { d with st := { d.st with s := s } })
    | some (.val v, s) =>
      if (d.reads.all fun q => bj.testBit q.1 || againA P call (evA d.st.tm) s.h q.2.1 q.2.2) && (d.lays.all fun q => bj.testBit q.1 || liesA s.h q.2.1 q.2.2) then
        (putD nt o.dst v s { d with snaps := (j, d.st.s.h) :: d.snaps }).map (none, ·)
      else none
    | some (.skip, s) =>
      if (d.reads.all fun q => bj.testBit q.1 || againA P call (evA d.st.tm) s.h q.2.1 q.2.2) && (d.lays.all fun q => bj.testBit q.1 || liesA s.h q.2.1 q.2.2) then
        (putD nt o.dst (.t []) s { d with snaps := (j, d.st.s.h) :: d.snaps }).map (none, ·)
      else none
    | none => none
  | _ => none

def stepW (P : Program) (call : CallT) (nt : Nat) (ops : List Oper) (bs : Array Nat) (j : Nat) (o : Oper) (d : DS) : Option (Option AV × DS) :=
  match guardA ops d.st.tm o with
  | some true => bodyA P call nt (bs.getD j 0) j o d
  | some false => if kindOf o.op = 2 then none else (putD nt o.dst (.t []) d.st.s d).map (none, ·)
  | none => none

/-- Do all that the text has behind operation j wait for it? -/
def lastOk (ops : List Oper) (bs : Array Nat) (j : Nat) : Bool := (List.range ops.length).all fun q => Nat.ble q j || (bs.getD q 0).testBit j

def walkA (P : Program) (call : CallT) (nt : Nat) (ops : List Oper) (bs : Array Nat) : List Oper → Nat → DS → Option (Option AV × DS)
  | [], _, d => some (none, d)
  | o :: rest, j, d => match stepW P call nt ops bs j o d with
    | some (none, d) => walkA P call nt ops bs rest (j + 1) d
    | some (some v, d) => if lastOk ops bs j then some (some v, d) else none
    | none => none

/-- The slots that a region writes, forgotten. -/
def forgetA : List Oper → Tm → Tm
  | [], tm => tm
  | o :: rest, tm => match o.dst with
    | some d => forgetA rest (tm.set d .un)
    | none => forgetA rest tm

def drawB (P : Program) (call : CallT) (nt : Nat) (ops : List Oper) (st : ST) (h : AH) : Option (AE × ST) :=
  match walkA P call nt ops (Region.before ops.toArray) ops 0 { st := { st with s := { st.s with h := h } }, next := st.s.h.length, lim := h.length, snaps := [], reads := [], lays := [] } with
  | some (none, d) => some (.nm, d.st)
  | some (some v, d) => some (.pn v, { d.st with tm := forgetA ops st.tm })
  | none => none

def drawA (P : Program) (call : CallT) (nt : Nat) (ops : List Oper) (st : ST) : Option (AE × ST) :=
  if drawOk ops (Region.before ops.toArray) then drawB P call nt ops st (preA P call nt ops st) else none

/-! ### Code -/

def exC (P : Program) (call : CallT) (lp nt : Nat) : Code → ST → Option (AE × ST)
  | .skip, st => some (.nm, st)
  | .label _, st => some (.nm, st)
  | .seq x y, st => match exC P call lp nt x st with
    | some (.nm, st) => exC P call lp nt y st
    | r => r
  | .cond c x y, st => match evA st.tm c with
    | .b true => exC P call lp nt x st
    | .b false => exC P call lp nt y st
    | _ => none
  | .block id c, st => match exC P call lp nt c st with
    | some (.ex k, st) => if k = id then some (.nm, st) else some (.ex k, st)
    | r => r
  | .loop c, st => match call.lo c st with
    | some q => some q
    | none => loopA (exC P call lp nt c) lp st
  | .exit id, st => some (.ex id, st)
  | .ret, st => some (.rt, st)
  | .region _ ops false, st => runA P call nt ops.toList ops.toList st
  | .region _ ops true, st => drawA P call nt ops.toList st
  | _, _ => none

/-! ### Deferred calls -/

/-- The frame below a deferred call: it returns; it panics (recovered?). -/
inductive MD where
  | ret
  | pan (v : AV) (rec : Bool)

def MD.settle : MD → MD
  | .pan _ true => .ret
  | m => m

def isRecover (o : Oper) : Bool :=
  o.guard.isNone && match o.op with
  | .call c => (match c.callee with | .builtin .recover => true | _ => false) && c.args.isEmpty
  | _ => false

/-- The code of a deferred function: 'recover' alone in its region, at the top. -/
def exD (P : Program) (call : CallT) (lp nt : Nat) : Code → ST → MD → Option (AE × ST × MD)
  | .seq x y, st, m => match exD P call lp nt x st m with
    | some (.nm, st, m) => exD P call lp nt y st m
    | r => r
  | .region id ops d, st, m => match ops.toList, d with
    | [o], false => if isRecover o then
        match m with
        | .pan v false => match ST.put nt st o.dst v st.s with
          | some st => some (.nm, st, .pan v true)
          | none => none
        | m => match ST.put nt st o.dst .jn st.s with
          | some st => some (.nm, st, m)
          | none => none
      else match exC P call lp nt (.region id ops d) st with
        | some (e, st) => some (e, st, m)
        | none => none
    | _, _ => match exC P call lp nt (.region id ops d) st with
      | some (e, st) => some (e, st, m)
      | none => none
  | c, st, m => match exC P call lp nt c st with
    | some (e, st) => some (e, st, m)
    | none => none

def startA (fn : Func) (args : List AV) (s : HS) : ST :=
  { tm := (Tm.mk (Nat.log2 fn.ntmps + 1)).setAll 0 args, s := s, df := [] }

def resA (P : Program) (rs : List ResultVar) (tm : Tm) (h : AH) : Option (List AV) :=
  match rs with
  | [] => some []
  | .tmp t :: rest => match resA P rest tm h with
    | some l => some (tm.get t :: l)
    | none => none
  | .cell a t :: rest => match loadA P t (tm.get a) h, resA P rest tm h with
    | some v, some l => some (v :: l)
    | _, _ => none

def oneOf : List AV → AV
  | [v] => v
  | vs => .t vs

/-- A deferred call: how the frame below stands behind it. -/
def deferredA (P : Program) (call : CallT) (lp : Nat) (g : FuncId) (args : List AV) (m : MD) (s : HS) : Option (MD × HS) :=
  match P.funcs[g]? with
  | some fn => match fn.body with
    | some c =>
      if Nat.ble args.length fn.ntmps then
      match exD P call lp fn.ntmps c (startA fn args s) m with
      | some (.nm, st, m) | some (.rt, st, m) => match st.df, resA P fn.results.toList st.tm st.s.h with
        | [], some _ => some (m.settle, st.s)
        | _, _ => none
      | some (.pn v, st, _) => match st.df with
        | [] => some (.pan v false, st.s)
        | _ => none
      | _ => none
      else none
    | none => none
  | none => none

def leaveA (P : Program) (call : CallT) (lp : Nat) : List (FuncId × List AV) → MD → HS → Option (MD × HS)
  | [], m, s => some (m, s)
  | (g, args) :: rest, m, s => match deferredA P call lp g args m s with
    | some (m, s) => leaveA P call lp rest m s
    | none => none

def CR.cl (base : Nat) : CR → Bool
  | .ret v | .pan v => AV.cl base v

def CR.st : CR → CR
  | .ret v => .ret v.st
  | .pan v => .pan v.st

/-- A function's end: its own abstract blocks go, if nothing leads to them. -/
def closeA (base : Nat) (esc : Option Nat) (r : CR) (s : HS) : CR × HS :=
  if (match s.esc with | none => true | some e => Nat.ble base e) && r.st.cl base then (r.st, { h := s.h.take base, esc := esc })
  else (r.st, { h := s.h, esc := match s.esc with | none => esc | some e => lowE esc e })

def funA (P : Program) (call : CallT) (lp : Nat) (fn : Func) (c : Code) (args : List AV) (s : HS) : Option (CR × HS) :=
  if Nat.ble args.length fn.ntmps then
  match exC P call lp fn.ntmps c (startA fn args { h := s.h, esc := none }) with
  | some (.nm, st) | some (.rt, st) => match leaveA P call lp st.df .ret st.s with
    | some (.ret, s') => match resA P fn.results.toList st.tm s'.h with
      | some l => some (closeA s.h.length s.esc (.ret (oneOf l)) s')
      | none => none
    | some (.pan v _, s') => some (closeA s.h.length s.esc (.pan v) s')
    | none => none
  | some (.pn v, st) => match leaveA P call lp st.df (.pan v false) st.s with
    | some (.ret, s') => match resA P fn.results.toList st.tm s'.h with
      | some l => some (closeA s.h.length s.esc (.ret (oneOf l)) s')
      | none => none
    | some (.pan v _, s') => some (closeA s.h.length s.esc (.pan v) s')
    | none => none
  | _ => none
  else none

/-- A call, with so much fuel; the table is asked first. -/
def callF (P : Program) (tab : CallT) : Nat → FuncId → List AV → HS → Option (CR × HS)
  | 0, _, _, _ => none
  | n + 1, f, args, s =>
    match tab.fn f (AV.sts args) s with
    | some q => some q
    | none => match P.funcs[f]? with
      | some fn => match fn.body with
        | some c => funA P { fn := callF P tab n, op := tab.op, views := tab.views, vw := tab.views.any (Nat.beq f) } n fn c (AV.sts args) s
        | none => none
      | none => none

def callA (P : Program) (tab : CallT) (n : Nat) : CallT := { fn := callF P tab n, op := tab.op, views := tab.views, vw := false }

end Go.Ab
