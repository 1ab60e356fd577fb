/- The abstract values, the abstract heap and the interpreter of the model's code over them. Nothing is proved here. -/
import Derived.WalkKit
import Derived.WalkLawsBesides
namespace Go.Ab

/-- What is known of the row behind a slice: nothing; that its capacity is its length; that it is the row of token b. -/
inductive Tk where
  | no
  | full
  | id (b : Nat)
  deriving DecidableEq

/-- Abstract values. 'un': anything. 'nan': a float64 that is none, whatever its bits. 'p': a place in an abstract block. 'r': a place in a row that nobody writes. 'l': a slice over a row that nobody writes, told by its cells. 'v': a slice over an abstract block. 'm': a map. 'c': a function. 'j': an interface value. 'a': a struct or an array by value. 't': several results. -/
inductive AV where
  | un
  | b (x : Bool)
  | i (k : IntKind) (n : Int)
  | f (bits : Nat)
  | nan
  | s (x : List UInt8)
  | pn
  | p (b off : Nat)
  | r (cs : List AV) (off : Nat)
  | ln
  | l (t : Tk) (cs : List AV) (n : Nat)
  | v (b off n cap : Nat)
  | mn
  | m (b : Nat)
  | cn
  | c (fn : Fn) (first cap : List AV)
  | jn
  | j (t : TypeId) (v : AV)
  | a (cs : List AV)
  | t (vs : List AV)
  | sy (k : Nat)
  deriving Inhabited

/-- Abstract blocks: cells; a map; a string's iterator; a token: so many elements of the row are taken; the elements' type. -/
inductive AO where
  | cs (l : List AV)
  | mp (es : List (AV × AV))
  | it (s : List UInt8) (pos : Nat)
  | tk (n : Nat) (e : TypeId)

abbrev AH := List AO

mutual
/-- All abstract blocks that the value names are below n. -/
def AV.cl (n : Nat) : AV → Bool
  | .p k _ => Nat.blt k n
  | .m k => Nat.blt k n
  | .v k _ _ _ => Nat.blt k n
  | .r cs _ => AV.cls n cs
  | .l tk cs _ => (match tk with | .id k => Nat.blt k n | _ => true) && AV.cls n cs
  | .c _ x y => AV.cls n x && AV.cls n y
  | .j _ x => AV.cl n x
  | .a cs => AV.cls n cs
  | .t cs => AV.cls n cs
  | _ => true
def AV.cls (n : Nat) : List AV → Bool
  | [] => true
  | x :: xs => AV.cl n x && AV.cls n xs
end

mutual
/-- Without its tokens. -/
def AV.st : AV → AV
  | .r cs o => .r (AV.sts cs) o
  | .l _ cs n => .l .no (AV.sts cs) n
  | .c fn x y => .c fn (AV.sts x) (AV.sts y)
  | .j ty x => .j ty (AV.st x)
  | .a cs => .a (AV.sts cs)
  | .t cs => .t (AV.sts cs)
  | x => x
def AV.sts : List AV → List AV
  | [] => []
  | x :: xs => AV.st x :: AV.sts xs
end

/-- A slot's tree: get and set by the number's bits. -/
inductive Tm where
  | lf
  | nd (v : AV) (l r : Tm)

def Tm.mk : Nat → Tm
  | 0 => .lf
  | n + 1 => .nd .un (Tm.mk n) (Tm.mk n)

def Tm.get : Tm → Nat → AV
  | .lf, _ => .un
  | .nd v l r, k => match k with
    | 0 => v
    | k + 1 => match k % 2 with
      | 0 => l.get (k / 2)
      | _ => r.get (k / 2)

def Tm.set : Tm → Nat → AV → Tm
  | .lf, _, _ => .lf
  | .nd v l r, k, x => match k with
    | 0 => .nd x l r
    | k + 1 => match k % 2 with
      | 0 => .nd v (l.set (k / 2) x) r
      | _ => .nd v l (r.set (k / 2) x)

def Tm.setAll : Tm → Nat → List AV → Tm
  | t, _, [] => t
  | t, k, x :: xs => Tm.setAll (t.set k x) (k + 1) xs

/-- A constant's value. -/
def absC : Value → AV
  | .bool x => .b x
  | .int k n => .i k n
  | .float .f64 x => .f x
  | .string x => .s x.data.toList
  | .pointer none => .pn
  | .slice none 0 0 => .ln
  | .map none => .mn
  | .nilFunc => .cn
  | .nilIface => .jn
  | _ => .un

def isAggA (P : Program) (t : TypeId) : Option Bool :=
  match P.underlying t with
  | some (.struct _) | some (.array _ _) => some true
  | some _ => some false
  | none => none

def sizeA (P : Program) (t : TypeId) : Option Nat := (P.info? t).map (·.size)

def zerosA (P : Program) (t : TypeId) : Option (List AV) :=
  match P.info? t with
  | some i => match i.zero with
    | some v => some (v.cells.toList.map absC)
    | none => none
  | none => none

/-- A value that takes one cell. -/
def AV.one : AV → Bool
  | .un | .a _ | .t _ => false
  | _ => true

/-- A value's cells. -/
def AV.cells : AV → Option (List AV)
  | .un => none
  | .a cs => some cs
  | x => some [x]

/-- So many cells from a place on, as a value of the type. -/
def partA (P : Program) (t : TypeId) (cs : List AV) (off : Nat) : Option AV :=
  match isAggA P t, sizeA P t with
  | some true, some n => if off + n ≤ cs.length then some (.a ((cs.drop off).take n)) else none
  | some false, _ => cs[off]?
  | _, _ => none

def splice (l : List AV) (off : Nat) (cs : List AV) : List AV := l.take off ++ cs ++ l.drop (off + cs.length)

def loadA (P : Program) (t : TypeId) (x : AV) (h : AH) : Option AV :=
  match x with
  | .p b off => match h[b]? with
    | some (.cs l) => partA P t l off
    | _ => none
  | .r cs off => partA P t cs off
  | _ => none

/-- Memory; the lowest block into which this call has put a value that names a higher one. -/
structure HS where
  h : AH
  esc : Option Nat

def lowE : Option Nat → Nat → Option Nat
  | none, b => some b
  | some e, b => some (min e b)

def storeA (P : Program) (t : TypeId) (x v : AV) (s : HS) : Option HS :=
  match x, v.cells, sizeA P t with
  | .p b off, some cs, some n =>
    match s.h[b]? with
    | some (.cs l) =>
      if cs.length = n && cs.all AV.one && Nat.ble (off + n) l.length then
        some { h := s.h.set b (.cs (splice l off cs)), esc := if AV.cls (b + 1) cs then s.esc else lowE s.esc b }
      else none
    | _ => none
  | _, _, _ => none

/-- What an operation comes to: a value; none; a panic. -/
inductive OR where
  | val (v : AV)
  | skip
  | pan (v : AV)

def aInt (op : BinOp) (k : IntKind) (x y : Int) : Option AV :=
  match op with
  | .add => some (.i k (k.wrap (x + y)))
  | .sub => some (.i k (k.wrap (x - y)))
  | .mul => some (.i k (k.wrap (x * y)))
  | .quo => if y = 0 then none else some (.i k (k.wrap (x.tdiv y)))
  | .rem => if y = 0 then none else some (.i k (x.tmod y))
  | .and => some (.i k (k.wrap (BitVec.ofInt k.bits x &&& BitVec.ofInt k.bits y).toNat))
  | .or => some (.i k (k.wrap (BitVec.ofInt k.bits x ||| BitVec.ofInt k.bits y).toNat))
  | .xor => some (.i k (k.wrap (BitVec.ofInt k.bits x ^^^ BitVec.ofInt k.bits y).toNat))
  | .andNot => some (.i k (k.wrap (BitVec.ofInt k.bits x &&& ~~~(BitVec.ofInt k.bits y)).toNat))
  | .eql => some (.b (x == y))
  | .neq => some (.b (x != y))
  | .lss => some (.b (decide (x < y)))
  | .leq => some (.b (decide (x ≤ y)))
  | .gtr => some (.b (decide (x > y)))
  | .geq => some (.b (decide (x ≥ y)))
  | _ => none

def aShift (op : BinOp) (k : IntKind) (x y : Int) : Option AV :=
  if y < 0 then none else
  match op with
  | .shl => some (.i k (k.wrap (x * 2 ^ (min y.toNat k.bits))))
  | .shr => some (.i k (x.fdiv (2 ^ (min y.toNat k.bits))))
  | _ => none

def fl (r : Option Nat) : AV := match r with | some r => .f r | none => .nan

def aFloat (op : BinOp) (x y : Nat) : Option AV :=
  let k := FloatKind.f64.format
  match op with
  | .add => some (fl (k.add x y))
  | .sub => some (fl (k.sub x y))
  | .mul => some (fl (k.mul x y))
  | .quo => some (fl (k.div x y))
  | .eql => some (.b (k.order x y == some .eq))
  | .neq => some (.b (k.order x y != some .eq))
  | .lss => some (.b (k.order x y == some .lt))
  | .leq => some (.b (k.order x y == some .lt || k.order x y == some .eq))
  | .gtr => some (.b (k.order x y == some .gt))
  | .geq => some (.b (k.order x y == some .gt || k.order x y == some .eq))
  | _ => none

/-- A comparison in which a number is none. -/
def aNan (op : BinOp) : Option AV :=
  match op with
  | .eql | .lss | .leq | .gtr | .geq => some (.b false)
  | .neq => some (.b true)
  | _ => none

def aStr (op : BinOp) (x y : List UInt8) : Option AV :=
  match op with
  | .add => if x.length + y.length ≤ 140737488355328 then some (.s (x ++ y)) else none
  | .eql => some (.b (x == y))
  | .neq => some (.b (!(x == y)))
  | .lss => some (.b (Op.bytesLess x y))
  | .leq => some (.b (Op.bytesLess x y || x == y))
  | .gtr => some (.b (!(Op.bytesLess x y || x == y)))
  | .geq => some (.b (!(Op.bytesLess x y)))
  | _ => none

def aEq (op : BinOp) (e : Bool) : Option AV :=
  match op with
  | .eql => some (.b e)
  | .neq => some (.b (!e))
  | _ => none

def Operand.isConst : Operand → Bool
  | .const _ => true
  | _ => false

/-- '==' and '!=' where one of the two is nil, or both are bools. -/
def aEqNil (P : Program) (op : BinOp) (t : TypeId) (x y : AV) (k : Bool) : Option AV :=
  match P.underlying t, x, y with
  | some .bool, .b x, .b y => aEq op (x == y)
  | some (.interface _), .jn, .jn => if k then aEq op true else none
  | some (.interface _), .jn, .j _ _ => aEq op false
  | some (.interface _), .j _ _, .jn => aEq op false
  | some (.pointer _), .pn, .pn => aEq op true
  | some (.pointer _), .pn, .p _ _ => aEq op false
  | some (.pointer _), .pn, .r _ _ => aEq op false
  | some (.pointer _), .p _ _, .pn => aEq op false
  | some (.pointer _), .r _ _, .pn => aEq op false
  | some (.slice _), .ln, .ln => aEq op true
  | some (.slice _), .ln, .l _ _ _ => aEq op false
  | some (.slice _), .ln, .v _ _ _ _ => aEq op false
  | some (.slice _), .l _ _ _, .ln => aEq op false
  | some (.slice _), .v _ _ _ _, .ln => aEq op false
  | some (.map _ _), .mn, .mn => aEq op true
  | some (.map _ _), .mn, .m _ => aEq op false
  | some (.map _ _), .m _, .mn => aEq op false
  | some (.func _ _ _), .cn, .cn => aEq op true
  | some (.func _ _ _), .cn, .c _ _ _ => aEq op false
  | some (.func _ _ _), .c _ _ _, .cn => aEq op false
  | _, _, _ => none

def binA (P : Program) (op : BinOp) (t : TypeId) (x y : AV) (k : Bool) : Option AV :=
  match x, y with
  | .i j a, .i j' b => match op with
    | .shl => aShift .shl j a b
    | .shr => aShift .shr j a b
    | op => if j = j' then aInt op j a b else none
  | .f a, .f b => aFloat op a b
  | .nan, .f _ | .f _, .nan | .nan, .nan => aNan op
  | .s a, .s b => aStr op a b
  | x, y => aEqNil P op t x y k

def negA (bits : Nat) : Nat := Op.negFloat .f64 bits

def unA (op : UnOp) (x : AV) : Option AV :=
  match op, x with
  | .neg, .i k n => aInt .sub k 0 n
  | .xor, .i k n => aInt .xor k (if k.signed then -1 else k.max) n
  | .neg, .f x => some (.f (negA x))
  | .not, .b x => some (.b (!x))
  | _, _ => none

def fillA (place : Nat → Option (Nat × Nat)) (cells : List AV) : List (Nat × AV) → Option (List AV)
  | [] => some cells
  | (i, v) :: rest =>
    match place i, v.cells with
    | some (off, size), some cs =>
      if cs.length = size && Nat.ble (off + cs.length) cells.length then fillA place (splice cells off cs) rest else none
    | _, _ => none

def placesA (P : Program) : List Field → Option (List (Nat × Nat))
  | [] => some []
  | f :: fs => match sizeA P f.type, placesA P fs with
    | some n, some l => some ((f.offset, n) :: l)
    | _, _ => none

def buildA (P : Program) (t : TypeId) (parts : List (Nat × AV)) : Option AV :=
  match zerosA P t, P.underlying t with
  | some z, some (.struct fields) => match placesA P fields.toList with
    | some pl => match fillA (pl[·]?) z parts with
      | some cs => some (.a cs)
      | none => none
    | none => none
  | some z, some (.array _ elem) => match sizeA P elem with
    | some n => match fillA (fun i => some (i * n, n)) z parts with
      | some cs => some (.a cs)
      | none => none
    | none => none
  | _, _ => none

/-- So many zero elements. -/
def repA (z : List AV) : Nat → List AV
  | 0 => []
  | n + 1 => z ++ repA z n

def buildSliceA (P : Program) (t : TypeId) (len : Nat) (parts : List (Nat × AV)) : Option AV :=
  match P.underlying t with
  | some (.slice elem) => match sizeA P elem, zerosA P elem with
    | some n, some z =>
      if z.length = n && Nat.ble (len * n) 16777216 then
        match fillA (fun i => some (i * n, n)) (repA z len) parts with
        | some cs => some (.l .full cs len)
        | none => none
      else none
    | _, _ => none
  | _ => none

def fieldOff (P : Program) (t : TypeId) (k : Nat) : Option (Nat × TypeId) :=
  match P.underlying t with
  | some (.struct fields) => match fields[k]? with
    | some f => some (f.offset, f.type)
    | none => none
  | _ => none

def fieldAddrA (P : Program) (t : TypeId) (x : AV) (k : Nat) : Option AV :=
  match fieldOff P t k with
  | some (o, ft) => match sizeA P ft with
    | some (_ + 1) => match x with
      | .p b off => some (.p b (off + o))
      | .r cs off => some (.r cs (off + o))
      | _ => none
    | _ => none
  | none => none

def fieldA (P : Program) (t : TypeId) (x : AV) (k : Nat) : Option AV :=
  match fieldOff P t k, x with
  | some (o, ft), .a cs => partA P ft cs o
  | _, _ => none

def elemA (P : Program) (t : TypeId) : Option TypeId :=
  match P.underlying t with
  | some (.slice e) => some e
  | _ => none

def indexAddrA (P : Program) (t : TypeId) (x y : AV) : Option AV :=
  match y with
  | .i _ ix =>
    match P.underlying t, x with
    | some (.slice e), .l _ cs n => match sizeA P e with
      | some sz => if 0 ≤ ix ∧ ix < n then some (.r cs (ix.toNat * sz)) else none
      | none => none
    | some (.slice e), .v b off n _ => match sizeA P e with
      | some sz => if 0 ≤ ix ∧ ix < n then some (.p b (off + ix.toNat * sz)) else none
      | none => none
    | some (.array len e), .p b off => match sizeA P e with
      | some sz => if 0 ≤ ix ∧ ix < len then some (.p b (off + ix.toNat * sz)) else none
      | none => none
    | some (.array len e), .r cs off => match sizeA P e with
      | some sz => if 0 ≤ ix ∧ ix < len then some (.r cs (off + ix.toNat * sz)) else none
      | none => none
    | _, _ => none
  | _ => none

def indexA (P : Program) (t : TypeId) (x y : AV) : Option AV :=
  match y with
  | .i _ ix =>
    match P.underlying t, x with
    | some (.array len e), .a cs => match sizeA P e with
      | some sz => if 0 ≤ ix ∧ ix < len then partA P e cs (ix.toNat * sz) else none
      | none => none
    | some .string, .s l => if 0 ≤ ix then match l[ix.toNat]? with
      | some c => some (.i .u8 c.toNat)
      | none => none else none
    | _, _ => none
  | _ => none

def boundA (x : Option AV) (d : Nat) : Option Nat :=
  match x with
  | none => some d
  | some (.i _ n) => if 0 ≤ n then some n.toNat else none
  | _ => none

def sliceA (P : Program) (t : TypeId) (x : AV) (lo hi mx : Option AV) : Option AV :=
  match mx, P.underlying t, x with
  | none, some .string, .s l => match boundA lo 0, boundA hi l.length with
    | some a, some b => if a ≤ b && Nat.ble b l.length then some (.s ((l.take b).drop a)) else none
    | _, _ => none
  | none, some (.slice e), .l tk cs n => match boundA lo 0, boundA hi n, sizeA P e with
    | some a, some b, some sz =>
      if a ≤ b && Nat.ble b n && cs.length == n * sz then some (.l (if a = 0 && b = n then tk else .no) ((cs.take (b * sz)).drop (a * sz)) (b - a)) else none
    | _, _, _ => none
  | none, some (.slice e), .ln => match boundA lo 0, boundA hi 0, sizeA P e with
    | some 0, some 0, some _ => some .ln
    | _, _, _ => none
  | none, some (.slice e), .v b off n cap => match boundA lo 0, boundA hi n, sizeA P e with
    | some x, some y, some (sz + 1) => if x ≤ y && Nat.ble y cap && Nat.ble (x + 1) cap then some (.v b (off + x * (sz + 1)) (y - x) (cap - x)) else none
    | _, _, _ => none
  | none, some (.array n e), .p b off => match boundA lo 0, boundA hi n, sizeA P e with
    | some x, some y, some (sz + 1) => if x ≤ y && Nat.ble y n && Nat.ble (x + 1) n then some (.v b (off + x * (sz + 1)) (y - x) (n - x)) else none
    | _, _, _ => none
  | _, _, _ => none

def convA (P : Program) (src dst : TypeId) (x : AV) (h : AH) : Option AV :=
  match P.underlying src, P.underlying dst, x with
  | some _, some (.int k), .i _ n => some (.i k (k.wrap n))
  | some _, some (.float .f64), .i _ n => some (.f (FloatKind.f64.nearest n))
  | some _, some (.float .f64), .f b => some (.f b)
  | some _, some (.float .f64), .nan => some .nan
  | some _, some (.int k), .f b => match (FloatKind.f64.decode b).toInt .zero with
    | some n => if k.min ≤ n ∧ n ≤ k.max then some (.i k n) else none
    | none => none
  | some _, some .string, .s l => some (.s l)
  | some _, some (.slice e), .s l => match P.underlying e with
    | some (.int .u8) => some (.l .no (l.map fun c => .i .u8 c.toNat) l.length)
    | _ => none
  | some (.slice e), some .string, x => match P.underlying e, x with
    | some (.int .u8), .ln => some (.s [])
    | some (.int .u8), .l _ cs n => if cs.length = n then match cs.mapM (fun | .i .u8 k => some (UInt8.ofNat k.toNat) | _ => none) with
      | some l => some (.s l)
      | none => none else none
    | some (.int .u8), .v b off n _ => match h[b]? with
      | some (.cs l) => if off + n ≤ l.length then match ((l.drop off).take n).mapM (fun | .i .u8 k => some (UInt8.ofNat k.toNat) | _ => none) with
        | some l => some (.s l)
        | none => none else none
      | _ => none
    | _, _ => none
  | _, _, _ => none

/-- Keys that are strings, numbers or bools: alike? -/
def sameKey (t : TypeDesc) (x y : AV) : Option Bool :=
  match t, x, y with
  | .int _, .i k a, .i k' b => if k = k' then some (a == b) else none
  | .string, .s a, .s b => some (a == b)
  | .bool, .b a, .b b => some (a == b)
  | _, _, _ => none

def findA (t : TypeDesc) (k : AV) : List (AV × AV) → Option (Option AV)
  | [] => some none
  | e :: es => match sameKey t k e.1 with
    | some true => some (some e.2)
    | some false => findA t k es
    | none => none

def putA (t : TypeDesc) (k v : AV) : List (AV × AV) → Option (List (AV × AV))
  | [] => some [(k, v)]
  | e :: es => match sameKey t k e.1 with
    | some true => some ((k, v) :: es)
    | some false => match putA t k v es with
      | some es => some (e :: es)
      | none => none
    | none => none

def keyOk (t : TypeDesc) (k : AV) : Bool :=
  match t, k with
  | .int _, .i _ _ => true
  | .string, .s _ => true
  | .bool, .b _ => true
  | _, _ => false

/-- A value: a struct or an array, or one of one cell. -/
def absV : Value → AV
  | .agg cs => .a (cs.toList.map absC)
  | v => absC v

def zeroA (P : Program) (t : TypeId) : Option AV :=
  match P.info? t with
  | some i => match i.zero with
    | some v => some (absV v)
    | none => none
  | none => none

/-- What a map holds at a key. -/
def foundA (kd : TypeDesc) (k x : AV) (h : AH) : Option (Option AV) :=
  match x with
  | .mn => some none
  | .m b => match h[b]? with
    | some (.mp es) => findA kd k es
    | _ => none
  | _ => none

def lookupA (P : Program) (t : TypeId) (x k : AV) (ok : Bool) (h : AH) : Option AV :=
  match P.underlying t with
  | some (.map kt et) => match P.underlying kt with
    | some kd =>
      if keyOk kd k then
        match foundA kd k x h with
        | some (some v) => some (if ok then .t [v, .b true] else v)
        | some none => match zeroA P et with
          | some z => some (if ok then .t [z, .b false] else z)
          | none => none
        | none => none
      else none
    | none => none
  | _ => none

def mapPutA (P : Program) (t : TypeId) (x k v : AV) (s : HS) : Option HS :=
  match P.underlying t, x with
  | some (.map kt _), .m b => match P.underlying kt, s.h[b]? with
    | some kd, some (.mp es) =>
      if keyOk kd k then match putA kd k v es with
        | some es => some { h := s.h.set b (.mp es), esc := if AV.cl (b + 1) v then s.esc else lowE s.esc b }
        | none => none
      else none
    | _, _ => none
  | _, _ => none

/-- The place of a key's entry. -/
def slotA (t : TypeDesc) (k : AV) : List (AV × AV) → Option (Option (Nat × AV))
  | [] => some none
  | e :: es => match sameKey t k e.1 with
    | some true => some (some (0, e.2))
    | some false => match slotA t k es with
      | some (some (i, v)) => some (some (i + 1, v))
      | some none => some none
      | none => none
    | none => none

/-- A map's entry at a key, laid if there is none; its stamp. -/
def mapEntryA (P : Program) (t : TypeId) (x k : AV) (s : HS) : Option (AV × HS) :=
  match P.underlying t, x with
  | some (.map kt et), .m b => match P.underlying kt, s.h[b]? with
    | some kd, some (.mp es) =>
      if keyOk kd k then match slotA kd k es with
        | some (some (i, v)) => some (.t [v, .i .i64 i], { h := s.h.set b (.mp (es.set i (k, v))), esc := s.esc })
        | some none => match zeroA P et with
          | some z => some (.t [z, .i .i64 es.length], { h := s.h.set b (.mp (es ++ [(k, z)])), esc := s.esc })
          | none => none
        | none => none
      else none
    | _, _ => none
  | _, _ => none

/-- A value into the entry of that stamp. -/
def entryStoreA (x st v : AV) (s : HS) : Option HS :=
  match x, st with
  | .m b, .i _ n => match s.h[b]? with
    | some (.mp es) => if 0 ≤ n then match es[n.toNat]? with
        | some q => some { h := s.h.set b (.mp (es.set n.toNat (q.1, v))), esc := if AV.cl (b + 1) v then s.esc else lowE s.esc b }
        | none => none
      else none
    | _ => none
  | _, _ => none

/-- A string's iterator. -/
def rangeA (P : Program) (t : TypeId) (x : AV) (s : HS) : Option (AV × HS) :=
  match P.underlying t, x with
  | some .string, .s l => some (.p s.h.length 0, { h := s.h ++ [.it l 0], esc := s.esc })
  | _, _ => none

def nextA (x : AV) (isString : Bool) (s : HS) : Option (AV × HS) :=
  match x, isString with
  | .p b 0, true => match s.h[b]? with
    | some (.it l pos) =>
      if pos < l.length then
        some (.t [.b true, .i .i64 pos, .i .i32 (Utf8.decode ⟨l.toArray⟩ pos).1], { h := s.h.set b (.it l (pos + (Utf8.decode ⟨l.toArray⟩ pos).2)), esc := s.esc })
      else some (.t [.b false], s)
    | _ => none
  | _, _ => none

def lenA (P : Program) (t : TypeId) (x : AV) (h : AH) : Option AV :=
  match P.underlying t, x with
  | some .string, .s l => some (.i .i64 l.length)
  | some (.slice _), .l _ _ n => some (.i .i64 n)
  | some (.slice _), .v _ _ n _ => some (.i .i64 n)
  | some (.slice _), .ln => some (.i .i64 0)
  | some (.array n _), _ => some (.i .i64 n)
  | some (.map _ _), .mn => some (.i .i64 0)
  | some (.map _ _), .m b => match h[b]? with
    | some (.mp es) => some (.i .i64 es.length)
    | _ => none
  | _, _ => none

/-- What is appended: its cells, and how many elements. -/
def newsA (sz : Nat) (x : AV) (h : AH) : Option (List AV × Nat) :=
  match x with
  | .ln => some ([], 0)
  | .l _ cs n => if cs.length = n * sz then some (cs, n) else none
  | .v b off n _ => match h[b]? with
    | some (.cs l) => if off + n * sz ≤ l.length then some ((l.drop off).take (n * sz), n) else none
    | _ => none
  | _ => none

/-- An element's type: it has a zero value of its size, and takes room. -/
def okElem (inf : TypeInfo) : Bool :=
  (match inf.zero with | some z => z.cells.size == inf.size | none => false) && Nat.ble 1 inf.bytes && Nat.ble 1 inf.size

/-- 'append(x, y...)', both slices of one type. -/
def appendA (P : Program) (vw : Bool) (ts : List TypeId) (x y : AV) (s : HS) : Option (AV × HS) :=
  match ts with
  | [t, u] =>
    if t = u then match elemA P t with
    | some e => match P.info? e with
      | some inf => match newsA inf.size y s.h with
        | some (cs, m) =>
          if okElem inf && cs.all AV.one then
            match x with
            | .ln =>
              if m = 0 then some (.ln, s)
              else if m * inf.bytes ≤ 140737488355328 then some (.l (.id s.h.length) cs m, { s with h := s.h ++ [.tk m e] }) else none
            | .l tk old n =>
              if old.length = n * inf.size then
                if m = 0 then some (.l tk old n, s)
                else if (n + m) * inf.bytes ≤ 140737488355328 then
                  match tk with
                  | .full => if vw then some (.v s.h.length 0 (n + m) (n + m), { s with h := s.h ++ [.cs (old ++ cs)] })
                    else some (.l (.id s.h.length) (old ++ cs) (n + m), { s with h := s.h ++ [.tk (n + m) e] })
                  | .id b => match s.h[b]? with
                    | some (.tk n' e') => if n' = n && e' = e then some (.l (.id b) (old ++ cs) (n + m), { s with h := s.h.set b (.tk (n + m) e) }) else none
                    | _ => none
                  | .no => none
                else none
              else none
            | _ => none
          else none
        | none => none
      | none => none
    | none => none
    else none
  | _ => none

def typeAssertA (P : Program) (x : AV) (t : TypeId) (ok : Bool) : Option AV :=
  match P.underlying t with
  | some (.interface _) => none
  | some _ => match x with
    | .j u v =>
      if u = t then some (if ok then .t [v, .b true] else v)
      else if ok then match zeroA P t with
        | some z => some (.t [z, .b false])
        | none => none
      else none
    | .jn => if ok then match zeroA P t with
        | some z => some (.t [z, .b false])
        | none => none
      else none
    | _ => none
  | none => none

def maxA : List AV → Option AV
  | [.i k x, .i _ y] => some (.i k (if y > x then y else x))
  | _ => none

def minA : List AV → Option AV
  | [.i k x, .i _ y] => some (.i k (if y < x then y else x))
  | _ => none

def evA (tm : Tm) : Operand → AV
  | .tmp t => tm.get t
  | .const v => absC v
  | .global _ => .un
  | .func f => .c (.func f) [] []

/-- What a call comes to. -/
inductive CR where
  | ret (v : AV)
  | pan (v : AV)

/-- Operations that a table may answer where an operand is opaque. -/
inductive OpK where
  | bin (op : BinOp) (t : TypeId)
  | un (op : UnOp)
  | conv (t u : TypeId)
  | slice (t : TypeId) (lo hi : Bool)
  | index (t : TypeId)
  | indexAddr (t : TypeId)
  | fieldAddr (t : TypeId) (k : Nat)
  | field (t : TypeId) (k : Nat)
  | load (t : TypeId)
  | lookup (t : TypeId) (ok : Bool)
  | len (t : TypeId)
  | mx
  | mn
  | nilCheck
  | assert (t u : TypeId) (ok : Bool)
  deriving DecidableEq

/-- A frame's state. -/
structure ST where
  tm : Tm
  s : HS
  df : List (FuncId × List AV)

/-- How code is left. -/
inductive AE where
  | nm
  | ex (id : Nat)
  | rt
  | pn (v : AV)

/-- What is known of calls, and of operations on what is opaque; the functions in which what is appended to an empty row is written afterwards; whether this is one; what is known of loops. -/
structure CallT where
  fn : FuncId → List AV → HS → Option (CR × HS)
  op : OpK → List AV → Option AV
  views : List FuncId := []
  vw : Bool := false
  lo : Code → ST → Option (AE × ST) := fun _ _ => none

/-- What a table is asked at an operation. -/
def keyOf (op : Op) {α : Type} (ev : Operand → α) : Option (OpK × List α) :=
  match op with
  | .binOp op t x y _ => some (.bin op t, [ev x, ev y])
  | .unOp op _ x => some (.un op, [ev x])
  | .convert t u x => some (.conv t u, [ev x])
  | .slice t x lo hi none => some (.slice t lo.isSome hi.isSome, ev x :: ((lo.map ev).toList ++ (hi.map ev).toList))
  | .index t x y => some (.index t, [ev x, ev y])
  | .indexAddr t x y => some (.indexAddr t, [ev x, ev y])
  | .fieldAddr t x k => some (.fieldAddr t k, [ev x])
  | .field t x k => some (.field t k, [ev x])
  | .load t x => some (.load t, [ev x])
  | .lookup t x y ok => some (.lookup t ok, [ev x, ev y])
  | .nilCheck x => some (.nilCheck, [ev x])
  | .typeAssert x t u ok => some (.assert t u ok, [ev x])
  | .call c => match c.callee, c.argTypes.toList, c.args.toList with
    | .builtin .len, [t], [x] => some (.len t, [ev x])
    | .builtin .max, _, [x, y] => some (.mx, [ev x, ev y])
    | .builtin .min, _, [x, y] => some (.mn, [ev x, ev y])
    | _, _, _ => none
  | _ => none

def OR.of : CR → OR
  | .ret v => .val v
  | .pan v => .pan v

def v1 (x : Option AV) (s : HS) : Option (OR × HS) := match x with
  | some v => some (.val v, s)
  | none => none

def u1 (x : Option HS) : Option (OR × HS) := match x with
  | some s => some (.skip, s)
  | none => none

def builtinA (P : Program) (vw : Bool) (b : Builtin) (ts : List TypeId) (args : List AV) (s : HS) : Option (OR × HS) :=
  match b, args with
  | .len, [x] => match ts with
    | [t] => v1 (lenA P t x s.h) s
    | _ => none
  | .append, [x, y] => match appendA P vw ts x y s with
    | some (v, s) => some (.val v, s)
    | none => none
  | .max, xs => v1 (maxA xs) s
  | .min, xs => v1 (minA xs) s
  | _, _ => none

def applyA (call : CallT) (f : AV) (args : List AV) (s : HS) : Option (OR × HS) :=
  match f with
  | .c (.func g) first cap => match call.fn g (first ++ args ++ cap) s with
    | some (r, s) => some (.of r, s)
    | none => none
  | _ => none

/-- 'make([]E, l, c)': a row that is written (v); with no length, one that is appended to. -/
def makeA (P : Program) (t : TypeId) (x y : AV) (s : HS) : Option (AV × HS) :=
  match P.underlying t, x, y with
  | some (.slice e), .i _ l, .i _ c => match P.info? e, zerosA P e with
    | some inf, some z =>
      if 0 ≤ l ∧ l ≤ c ∧ (inf.bytes : Int) * c ≤ 281474976710656 ∧ c ≤ 1152921504606846976 then
        if l = 0 then some (.l (.id s.h.length) [] 0, { s with h := s.h ++ [.tk 0 e] })
        else some (.v s.h.length 0 l.toNat c.toNat, { s with h := s.h ++ [.cs ((List.range (c.toNat * inf.size)).map fun j => z.getD (j % z.length) .un)] })
      else none
    | _, _ => none
  | _, _, _ => none

/-- An operation on what is told, but for 'defer' and 'recover'. -/
def opB (P : Program) (call : CallT) (op : Op) (ev : Operand → AV) (s : HS) : Option (OR × HS) :=
  match op with
  | .move x | .assign x => some (.val (ev x), s)
  | .pick c a b => match ev c with
    | .b x => some (.val (if x then ev a else ev b), s)
    | _ => none
  | .alloc t => match zerosA P t with
    | some z => some (.val (.p s.h.length 0), { s with h := s.h ++ [.cs z] })
    | none => none
  | .box _ x => match (ev x).cells with
    | some z => some (.val (.p s.h.length 0), { s with h := s.h ++ [.cs z] })
    | none => none
  | .build t parts => v1 (buildA P t (parts.toList.map fun q => (q.1, ev q.2))) s
  | .buildSlice t n parts => v1 (buildSliceA P t n (parts.toList.map fun q => (q.1, ev q.2))) s
  | .load t x => v1 (loadA P t (ev x) s.h) s
  | .store t x y => u1 (storeA P t (ev x) (ev y) s)
  | .nilCheck x => match ev x with
    | .p b o => some (.val (.p b o), s)
    | .r cs o => some (.val (.r cs o), s)
    | .c (.func f) x y => some (.val (.c (.func f) x y), s)
    | _ => none
  | .binOp op t x y _ => v1 (binA P op t (ev x) (ev y) (Operand.isConst x || Operand.isConst y)) s
  | .unOp op _ x => v1 (unA op (ev x)) s
  | .convert t u x => v1 (convA P t u (ev x) s.h) s
  | .makeInterface t x => match P.underlying t with
    | some (.interface _) => none
    | some _ => some (.val (.j t (ev x)), s)
    | none => none
  | .makeFunc fn x y => some (.val (.c fn (x.toList.map ev) (y.toList.map ev)), s)
  | .makeSlice t x y => match makeA P t (ev x) (ev y) s with
    | some (v, s) => some (.val v, s)
    | none => none
  | .makeMap _ none => some (.val (.m s.h.length), { s with h := s.h ++ [.mp []] })
  | .slice t x lo hi mx => v1 (sliceA P t (ev x) (lo.map ev) (hi.map ev) (mx.map ev)) s
  | .fieldAddr t x k => v1 (fieldAddrA P t (ev x) k) s
  | .field t x k => v1 (fieldA P t (ev x) k) s
  | .indexAddr t x y => v1 (indexAddrA P t (ev x) (ev y)) s
  | .index t x y => v1 (indexA P t (ev x) (ev y)) s
  | .lookup t x y ok => v1 (lookupA P t (ev x) (ev y) ok s.h) s
  | .mapUpdate t m k v => u1 (mapPutA P t (ev m) (ev k) (ev v) s)
  | .insert t m k v => u1 (mapPutA P t (ev m) (ev k) (ev v) s)
  | .mapEntry t m k => match mapEntryA P t (ev m) (ev k) s with
    | some (v, s) => some (.val v, s)
    | none => none
  | .entryStore _ m st v => u1 (entryStoreA (ev m) (ev st) (ev v) s)
  | .range t x => match rangeA P t (ev x) s with
    | some (v, s) => some (.val v, s)
    | none => none
  | .next x isString => match nextA (ev x) isString s with
    | some (v, s) => some (.val v, s)
    | none => none
  | .typeAssert x _ t ok => v1 (typeAssertA P (ev x) t ok) s
  | .extract x k => match ev x with
    | .t vs => v1 vs[k]? s
    | _ => none
  | .panic x => match ev x with
    | .j t v => some (.pan (.j t v), s)
    | _ => none
  | .call c => match c.callee with
    | .builtin b => builtinA P call.vw b c.argTypes.toList (c.args.toList.map ev) s
    | .value f => applyA call (ev f) (c.args.toList.map ev) s
    | .invoke _ _ => none
  | _ => none

/-- What the table says of an operation. -/
def askA (call : CallT) (op : Op) (ev : Operand → AV) : Option AV :=
  match keyOf op ev with
  | some (k, args) => match call.op k args with
    | some v => if AV.cl 0 v then some v else none
    | none => none
  | none => none

/-- An operation; what it comes to where an operand is opaque the table says. -/
def opA (P : Program) (call : CallT) (op : Op) (ev : Operand → AV) (s : HS) : Option (OR × HS) :=
  match opB P call op ev s with
  | some q => some q
  | none => v1 (askA call op ev) s

def ST.put (nt : Nat) (st : ST) (dst : Option Tmp) (v : AV) (s : HS) : Option ST :=
  match dst with
  | some d => if Nat.blt d nt then some { tm := st.tm.set d v, s := s, df := st.df } else none
  | none => some { st with s := s }

def guardA (ops : List Oper) (tm : Tm) (o : Oper) : Option Bool :=
  match o.guard with
  | none => some true
  | some (j, want) => match ops[j]? with
    | some oj => match oj.dst with
      | some d => match tm.get d with
        | .b x => some (x == want)
        | .t [] => some false
        | _ => none
      | none => none
    | none => none

/-- 'defer f(..)'. -/
def deferA (ev : Operand → AV) (c : Call) : Option (FuncId × List AV) :=
  match c.callee with
  | .value f => match ev f with
    | .c (.func g) first cap => some (g, first ++ c.args.toList.map ev ++ cap)
    | _ => none
  | _ => none

def stepA (P : Program) (call : CallT) (nt : Nat) (ops : List Oper) (o : Oper) (st : ST) : Option (AE × ST) :=
  match guardA ops st.tm o with
  | some true => match o.op with
    | .defer c => match deferA (evA st.tm) c with
      | some d => match ST.put nt { st with df := d :: st.df } o.dst (.t []) st.s with
        | some st => some (.nm, st)
        | none => none
      | none => none
    | op => match opA P call op (evA st.tm) st.s with
      | some (.val v, s) => match ST.put nt st o.dst v s with
        | some st => some (.nm, st)
        | none => none
      | some (.skip, s) => match ST.put nt st o.dst (.t []) s with
        | some st => some (.nm, st)
        | none => none
      | some (.pan v, s) => some (.pn v, { st with s := s })
      | none => none
  | some false => match ST.put nt st o.dst (.t []) st.s with
    | some st => some (.nm, st)
    | none => none
  | none => none

def runA (P : Program) (call : CallT) (nt : Nat) (ops : List Oper) : List Oper → ST → Option (AE × ST)
  | [], st => some (.nm, st)
  | o :: rest, st => match stepA P call nt ops o st with
    | some (.nm, st) => runA P call nt ops rest st
    | r => r

def loopA (f : ST → Option (AE × ST)) : Nat → ST → Option (AE × ST)
  | 0, _ => none
  | n + 1, st => match f st with
    | some (.nm, st) => loopA f n st
    | r => r

end Go.Ab
