/- An abstract evaluator of the model's code: the definitions. No theorem about any program stands here. -/
import GoSem.Machine.Frame
import GoSem.Dispatch
namespace Go.Ab

/-! ### a finite map from numbers -/

inductive T (α : Type) where
  | leaf
  | node (v : Option α) (l r : T α)
  | ovf (n : Nat) (v : Option α) (t : T α)

def T.get {α : Type} : T α → Nat → Option α
  | .leaf, _ => none
  | .node v l r, n => bif n.beq 0 then v else bif (n % 2).beq 1 then l.get ((n - 1) / 2) else r.get ((n - 1) / 2)
  | .ovf m v t, n => bif n.beq m then v else t.get n

def T.setF {α : Type} : Nat → T α → Nat → Option α → T α
  | 0, t, n, v => .ovf n v t
  | _ + 1, .ovf m y t, n, v => .ovf n v (.ovf m y t)
  | k + 1, .leaf, n, v => bif n.beq 0 then .node v .leaf .leaf else bif (n % 2).beq 1 then .node none (T.setF k .leaf ((n - 1) / 2) v) .leaf else .node none .leaf (T.setF k .leaf ((n - 1) / 2) v)
  | k + 1, .node x l r, n, v => bif n.beq 0 then .node v l r else bif (n % 2).beq 1 then .node x (T.setF k l ((n - 1) / 2) v) r else .node x l (T.setF k r ((n - 1) / 2) v)

def T.set {α : Type} (t : T α) (n : Nat) (v : Option α) : T α := T.setF 64 t n v

/-! ### values, blocks, states -/

inductive AV where
  | sc (v : Value)
  | ptr (n off : Nat)
  | slc (n off len : Nat) (cap : Option Nat)
  | isl (cs : List AV) (len : Nat) (clip : Bool)
  | eptr (cs : List AV)
  | mp (n : Nat)
  | fn (f : Fn) (first captured : List AV)
  | ifc (t : TypeId) (v : AV)
  | agg (cs : List AV)
  | tup (vs : List AV)
  deriving Inhabited

inductive Blk where
  | cells (c : List AV) (sz : Nat) (exact : Bool)
  | amap (es : List (AV × AV × Nat)) (clock : Nat)
  | siter (s : ByteArray) (pos : Nat)

structure St where
  h : T Blk
  nxt : Nat
  rd : List Nat
  wr : List Nat

/-- a type, as the evaluator knows it: its underlying description, its size in cells and in bytes, its zero value; may its values be compared field by field? -/
structure TyI where
  d : TypeDesc
  size : Nat
  bytes : Nat
  agg : Bool
  zero : Option AV
  eqOk : Bool

inductive ExtK where
  | indexByte | cmpString | mapsClone | overlaps

abbrev CallF := FuncId → List AV → St → Option (AV × St)

structure Env where
  fn : FuncId → Option Func
  ext : FuncId → Option ExtK
  prim : FuncId → Option (List AV → St → Option (AV × St))
  ty : TypeId → Option TyI

def Env.d (E : Env) (t : TypeId) : Option TypeDesc := match E.ty t with | some i => some i.d | none => none

def undefA : AV := .tup []

mutual
/-- address-free values, as abstract ones -/
def ofVal : Nat → Value → Option AV
  | 0, _ => none
  | k + 1, v => match v with
    | .int _ _ | .bool _ | .string _ | .pointer none | .map none | .nilFunc | .nilIface => some (.sc v)
    | .slice none 0 0 => some (.sc v)
    | .agg ⟨cs⟩ => match ofVals k cs with | some l => some (.agg l) | none => none
    | .tuple ⟨cs⟩ => match ofVals k cs with | some l => some (.tup l) | none => none
    | _ => none
def ofVals : Nat → List Value → Option (List AV)
  | 0, _ => none
  | _ + 1, [] => some []
  | k + 1, v :: l => match ofVal k v, ofVals k l with
    | some a, some r => some (a :: r)
    | _, _ => none
end

def AV.cells : AV → List AV
  | .agg cs => cs
  | v => [v]

def AV.isCell : AV → Bool
  | .agg _ | .tup _ => false
  | .sc (.agg _) | .sc (.tuple _) => false
  | _ => true

/-- no opaque composite -/
def AV.plain : AV → Bool
  | .sc (.agg _) => false
  | _ => true

def operand (t : T AV) : Operand → Option AV
  | .tmp i => some (match t.get i with | some v => v | none => undefA)
  | .const v => ofVal 400 v
  | .global _ => none
  | .func f => some (.fn (.func f) [] [])

def operands (t : T AV) : List Operand → Option (List AV)
  | [] => some []
  | x :: l => match operand t x with
    | some v => match operands t l with | some r => some (v :: r) | none => none
    | none => none

/-! ### the monad of operations -/

inductive EM (α : Type) where
  | ret (a : α)
  | fail
  | look (n : Nat) (k : Blk → EM α)
  | put (n : Nat) (b : Option Blk) (k : EM α)
  | alloc (b : Blk) (k : Nat → EM α)
  | call (f : FuncId) (args : List AV) (k : AV → EM α)

/-- what is laid under a name that has been given out -/
def St.at (s : St) (n : Nat) : Option Blk := bif Nat.blt n s.nxt then s.h.get n else none

def EM.run {α : Type} (call : CallF) : EM α → St → Option (α × St)
  | .ret a, s => some (a, s)
  | .fail, _ => none
  | .look n k, s => match s.at n with | some b => (k b).run call { s with rd := n :: s.rd } | none => none
  | .put n b k, s => match s.at n with | some _ => k.run call { s with h := s.h.set n b, wr := n :: s.wr } | none => none
  | .alloc b k, s => (k s.nxt).run call { s with h := s.h.set s.nxt (some b), nxt := s.nxt + 1 }
  | .call f args k, s => match call f args s with | some (v, s) => (k v).run call s | none => none

def withO {α β : Type} (x : Option α) (k : α → EM β) : EM β := match x with | some a => k a | none => .fail

def guardE {β : Type} (b : Bool) (k : EM β) : EM β := match b with | true => k | false => .fail

/-! ### pure parts -/

def takeN : Nat → List AV → Option (List AV)
  | 0, _ => some []
  | _ + 1, [] => none
  | k + 1, x :: l => match takeN k l with | some r => some (x :: r) | none => none

def spliceL (c : List AV) (off : Nat) (l : List AV) : List AV := c.take off ++ l ++ c.drop (off + l.length)

def pureOf {α : Type} : Sem α → Option α
  | .pure a => some a
  | _ => none

def isNilOf : AV → Option Bool
  | .sc (.pointer none) | .sc (.slice none _ _) | .sc (.map none) | .sc .nilFunc => some true
  | .ptr .. | .slc .. | .isl .. | .eptr .. | .mp .. | .fn .. => some false
  | _ => none

/-- may values of the type be held against nil? -/
def nilTy : TypeDesc → AV → Bool
  | .pointer _, .sc (.pointer _) | .pointer _, .ptr .. | .pointer _, .eptr .. => true
  | .slice _, .sc (.slice ..) | .slice _, .slc .. | .slice _, .isl .. => true
  | .map _ _, .sc (.map _) | .map _ _, .mp .. => true
  | .func _ _ _, .sc .nilFunc | .func _ _ _, .fn .. => true
  | _, _ => false

def partA (E : Env) (t : TypeId) (cs : List AV) (off : Nat) : Option AV :=
  match E.ty t with
  | some i => match i.agg with
    | true => match takeN i.size (cs.drop off) with | some l => some (.agg l) | none => none
    | false => cs[off]?
  | none => none

mutual
def eqA (E : Env) : Nat → TypeId → AV → AV → Option Bool
  | 0, _, _, _ => none
  | k + 1, t, x, y => match E.ty t with
    | none => none
    | some i => match i.d, x, y with
      | .bool, .sc (.bool a), .sc (.bool b) => some (a == b)
      | .int _, .sc (.int j a), .sc (.int k b) => if j = k then some (a == b) else none
      | .string, .sc (.string a), .sc (.string b) => some (a == b)
      | .struct ⟨fs⟩, .agg xs, .agg ys => match i.eqOk with
        | true => eqFs E k fs xs ys
        | false => none
      | _, _, _ => none
def eqFs (E : Env) : Nat → List Field → List AV → List AV → Option Bool
  | 0, _, _, _ => none
  | _ + 1, [], _, _ => some true
  | k + 1, f :: l, xs, ys => if f.name = "_" then none else
    match partA E f.type xs f.offset, partA E f.type ys f.offset with
    | some a, some b => match eqA E k f.type a b with
      | some true => eqFs E k l xs ys
      | some false => some false
      | none => none
    | _, _ => none
end

def binA (E : Env) (op : BinOp) (t : TypeId) (x y : AV) : Option AV :=
  match x, y with
  | .sc (.int j a), .sc (.int k b) => match pureOf (Go.binOp op t (.int j a) (.int k b)) with | some v => some (.sc v) | none => none
  | .sc (.string a), .sc (.string b) => match pureOf (Go.binOp op t (.string a) (.string b)) with | some v => some (.sc v) | none => none
  | .sc (.bool a), .sc (.bool b) => match E.d t, op with
    | some .bool, .eql => some (.sc (.bool (a == b)))
    | some .bool, .neq => some (.sc (.bool (!(a == b))))
    | _, _ => none
  | .agg a, .agg b => match eqA E 40 t (.agg a) (.agg b), op with
    | some r, .eql => some (.sc (.bool r))
    | some r, .neq => some (.sc (.bool (!r)))
    | _, _ => none
  | x, y => match E.d t with
    | some d => match nilTy d x && nilTy d y with
      | true => match isNilOf x, isNilOf y, op with
        | some true, some b, .eql => some (.sc (.bool b))
        | some true, some b, .neq => some (.sc (.bool (!b)))
        | some false, some true, .eql => some (.sc (.bool false))
        | some false, some true, .neq => some (.sc (.bool true))
        | _, _, _ => none
      | false => none
    | none => none

def unA (op : UnOp) (x : AV) : Option AV :=
  match x with
  | .sc (.int k n) => match pureOf (Op.unary op (.int k n)) with | some v => some (.sc v) | none => none
  | .sc (.bool b) => match pureOf (Op.unary op (.bool b)) with | some v => some (.sc v) | none => none
  | _ => none

def fillA (place : Nat → Option (Nat × Nat)) (cells : List AV) : List (Nat × AV) → Option (List AV)
  | [] => some cells
  | (i, v) :: rest => match place i with
    | some (off, size) => bif v.cells.length.beq size && (off + size).ble cells.length then fillA place (spliceL cells off v.cells) rest else none
    | none => none

def asNat : AV → Option Nat
  | .sc (.int _ (.ofNat n)) => some n
  | _ => none

def repl (n : Nat) (l : List AV) : List AV := (List.replicate n l).flatten

def lenA : AV → Option Nat
  | .sc (.slice none 0 0) => some 0
  | .sc (.string b) => some b.size
  | .slc _ _ n _ => some n
  | .isl _ n _ => some n
  | _ => none

def byteList : List AV → Option (List UInt8)
  | [] => some []
  | .sc (.int .u8 v) :: l => match byteList l with | some r => some (UInt8.ofNat v.toNat :: r) | none => none
  | _ => none

def sliceBnd (len cap : Nat) (lo hi mx : Option AV) : Option (Nat × Nat × Nat) :=
  match (match mx with | some v => (match asNat v with | some m => if m ≤ cap then some m else none | none => none) | none => some cap) with
  | none => none
  | some m => match (match hi with | some v => (match asNat v with | some h => if h ≤ m then some h else none | none => none) | none => match mx with | some _ => none | none => some len) with
    | none => none
    | some h => match (match lo with | some v => (match asNat v with | some l => if l ≤ h then some l else none | none => none) | none => some 0) with
      | none => none
      | some l => some (l, h, m)

def modN {α : Type} (f : α → α) : List α → Nat → List α
  | [], _ => []
  | x :: l, 0 => f x :: l
  | x :: l, n + 1 => x :: modN f l n

def fieldOf (E : Env) (t : TypeId) (j : Nat) : Option Field :=
  match E.d t with
  | some (.struct ⟨fs⟩) => fs[j]?
  | _ => none

def keyEq (E : Env) (kt : TypeId) (x y : AV) : Option Bool :=
  match E.d kt, x, y with
  | some (.int _), .sc (.int k a), .sc (.int k' b) => if k = k' then some (a == b) else none
  | some .string, .sc (.string a), .sc (.string b) => some (a == b)
  | some (.struct _), .agg x, .agg y => eqA E 40 kt (.agg x) (.agg y)
  | _, _, _ => none

def plainField (E : Env) (f : Field) : Bool :=
  f.name != "_" && (match E.d f.type with | some (.int _) | some .string | some .bool => true | _ => false)

def keyOk (E : Env) (kt : TypeId) (x : AV) : Bool :=
  match E.d kt, x with
  | some (.int _), .sc (.int _ _) => true
  | some .string, .sc (.string _) => true
  | some (.struct ⟨fs⟩), .agg cs => fs.all fun f => plainField E f && (match cs[f.offset]? with | some (.sc (.int _ _)) | some (.sc (.string _)) | some (.sc (.bool _)) => true | _ => false)
  | _, _ => false

def findE (E : Env) (kt : TypeId) (k : AV) : List (AV × AV × Nat) → Nat → Option (Option (Nat × AV))
  | [], _ => some none
  | (k', v, _) :: es, i => match keyEq E kt k k' with
    | some true => some (some (i, v))
    | some false => findE E kt k es (i + 1)
    | none => none

def minmaxA (isMax : Bool) (k : IntKind) : Int → List AV → Option Int
  | x, [] => some x
  | x, .sc (.int _ y) :: l => minmaxA isMax k (match isMax with | true => if y > x then y else x | false => if y < x then y else x) l
  | _, _ => none

def okV (ok : Bool) (v : AV) (b : Bool) : AV := match ok with | true => .tup [v, .sc (.bool b)] | false => v

def eraseE (o : Option (Nat × AV)) (es : List (AV × AV × Nat)) : List (AV × AV × Nat) := match o with | some p => es.eraseIdx p.1 | none => es

def sameS : AV → AV → Bool
  | .sc (.int j a), .sc (.int k b) => j == k && a == b
  | .sc (.string a), .sc (.string b) => a == b
  | .sc (.bool a), .sc (.bool b) => a == b
  | _, _ => false

def sameL : List AV → List AV → Bool
  | [], [] => true
  | a :: l, b :: m => sameS a b && sameL l m
  | _, _ => false

/-- are two keys the same, bit by bit? -/
def sameK : AV → AV → Bool
  | .agg l, .agg m => sameL l m
  | a, b => sameS a b

def sameAt (es : List (AV × AV × Nat)) (i : Nat) (k : AV) : Bool := match es[i]? with | some e => sameK e.1 k | none => false

def bornAt (es : List (AV × AV × Nat)) (i : Nat) : Nat := match es[i]? with | some e => e.2.2 | none => 0

/-! ### operations on the heap -/

section
variable {β : Type}

/-- k cells at a place -/
def loadK (a : AV) (k : Nat) (K : List AV → EM β) : EM β :=
  match a with
  | .ptr n off => .look n fun b => match b with
    | .cells c _ _ => withO (takeN k (c.drop off)) K
    | _ => .fail
  | .eptr c => withO (takeN k c) K
  | _ => .fail

def storeK (a : AV) (l : List AV) (K : EM β) : EM β :=
  match a with
  | .ptr n off => .look n fun b => match b with
    | .cells c sz ex => guardE ((off + l.length).ble c.length && l.all AV.isCell) (.put n (some (.cells (spliceL c off l) sz ex)) K)
    | _ => .fail
  | _ => .fail

/-- the cells of the first n elements of a slice or a string -/
def firstK (sz n : Nat) (x : AV) (K : List AV → EM β) : EM β :=
  match x with
  | .sc (.slice none 0 0) => guardE (n.beq 0) (K [])
  | .sc (.string b) => guardE (sz.beq 1 && n.ble b.size) (K ((b.data.toList.take n).map fun c => .sc (.int .u8 c.toNat)))
  | .slc m off len _ => guardE (n.ble len) (bif n.beq 0 then K [] else loadK (.ptr m off) (n * sz) K)
  | .isl cs len _ => guardE (n.ble len) (bif n.beq 0 then K [] else loadK (.eptr cs) (n * sz) K)
  | _ => .fail

def maxBytes : Nat := 1099511627776

def growK (sz la n : Nat) (a : AV) (new : List AV) (K : AV → EM β) : EM β :=
  firstK sz la a fun old => .alloc (.cells (old ++ new) sz false) fun m => K (.slc m 0 (la + n) none)

def appendKnown (sz la n c : Nat) (a : AV) (new : List AV) (K : AV → EM β) : EM β :=
  if la + n ≤ c then
    match a with
    | .slc m off _ k => storeK (.ptr m (off + la * sz)) new (K (.slc m off (la + n) k))
    | _ => .fail
  else growK sz la n a new K

def appendK (E : Env) (st : TypeId) (a x : AV) (K : AV → EM β) : EM β :=
  match E.d st with
  | some (.slice elem) => withO (E.ty elem) fun ei => withO ei.zero fun _ => withO (lenA a) fun la => withO (lenA x) fun n =>
    bif n.beq 0 then (match a with | .sc (.string _) => .fail | _ => K a) else
    guardE (Nat.blt 0 ei.size && Nat.ble ((la + n) * ei.bytes) maxBytes && (la + n).ble maxBytes)
    (firstK ei.size n x fun new => guardE (new.all AV.isCell)
    (match a with
    | .sc (.slice none 0 0) => growK ei.size la n a new K
    | .isl _ _ true => growK ei.size la n a new K
    | .slc _ _ _ (some c) => appendKnown ei.size la n c a new K
    | .slc m off _ none => .look m fun b => match b with
      | .cells c sz true => guardE (sz.beq ei.size) (appendKnown ei.size la n ((c.length - off) / ei.size) a new K)
      | .cells c sz false => guardE (sz.beq ei.size)
        (if off + la * ei.size = c.length then growK ei.size la n a new fun v => .put m none (K v)
        else if off + (la + n) * ei.size ≤ c.length then storeK (.ptr m (off + la * ei.size)) new (K (.slc m off (la + n) none)) else .fail)
      | _ => .fail
    | _ => .fail))
  | _ => .fail

def sliceK (E : Env) (t : TypeId) (x : AV) (lo hi mx : Option AV) (K : AV → EM β) : EM β :=
  match E.d t, x with
  | some .string, .sc (.string b) => match mx with
    | some _ => .fail
    | none => withO (sliceBnd b.size b.size lo hi none) fun (l, h, _) => K (.sc (.string (b.extract l h)))
  | some (.slice e), .sc (.slice none 0 0) => withO (E.ty e) fun _ => withO (sliceBnd 0 0 lo hi mx) fun _ => K x
  | some (.slice e), .slc n off len (some c) => withO (E.ty e) fun ei =>
    withO (sliceBnd len c lo hi mx) fun (l, h, m) => K (.slc n (off + l * ei.size) (h - l) (some (m - l)))
  | some (.slice e), .slc n off len none => withO (E.ty e) fun ei => .look n fun b => match b with
    | .cells c sz ex => guardE (sz.beq ei.size && Nat.blt 0 ei.size && off.ble c.length)
      (withO (sliceBnd len ((c.length - off) / ei.size) lo hi mx) fun (l, h, m) =>
        K (.slc n (off + l * ei.size) (h - l) (bif mx.isSome || ex then some (m - l) else none)))
    | _ => .fail
  | some (.slice e), .isl cs len clip => withO (E.ty e) fun ei =>
    withO (sliceBnd len len lo hi mx) fun (l, h, m) => withO (takeN ((h - l) * ei.size) (cs.drop (l * ei.size))) fun cs' =>
      K (.isl cs' (h - l) (bif mx.isSome then m.beq h else clip && h.beq len))
  | some (.array k e), .ptr n off => withO (E.ty e) fun ei =>
    withO (sliceBnd k k lo hi mx) fun (l, h, m) => K (.slc n (off + l * ei.size) (h - l) (some (m - l)))
  | _, _ => .fail

def lenK (E : Env) (t : TypeId) (x : AV) (K : AV → EM β) : EM β :=
  match E.d t, x with
  | some (.array n _), _ => K (.sc (goInt n))
  | some (.map _ _), .sc (.map none) => K (.sc (goInt 0))
  | some (.map _ _), .mp n => .look n fun b => match b with | .amap es _ => K (.sc (goInt es.length)) | _ => .fail
  | some .string, .sc (.string b) => K (.sc (goInt b.size))
  | some (.slice _), .sc (.slice none 0 0) => K (.sc (goInt 0))
  | some (.slice _), .slc _ _ n _ => K (.sc (goInt n))
  | some (.slice _), .isl _ n _ => K (.sc (goInt n))
  | _, _ => .fail

def capK (E : Env) (t : TypeId) (x : AV) (K : AV → EM β) : EM β :=
  match E.d t, x with
  | some (.slice _), .sc (.slice none 0 0) => K (.sc (goInt 0))
  | some (.slice _), .slc _ _ _ (some c) => K (.sc (goInt c))
  | some (.slice _), .isl _ n true => K (.sc (goInt n))
  | _, _ => .fail

def copyK (E : Env) (t : TypeId) (d x : AV) (K : AV → EM β) : EM β :=
  match E.d t with
  | some (.slice elem) => withO (E.ty elem) fun ei => withO (lenA d) fun ld => withO (lenA x) fun lx =>
    bif (Nat.min lx ld).beq 0 then (match d with | .sc (.string _) => .fail | _ => K (.sc (goInt 0))) else
    firstK ei.size (Nat.min lx ld) x fun c => match d with
      | .slc m off _ _ => storeK (.ptr m off) c (K (.sc (goInt (Nat.min lx ld))))
      | _ => .fail
  | _ => .fail

def convertK (E : Env) (src dst : TypeId) (x : AV) (K : AV → EM β) : EM β :=
  match E.d src, E.d dst, x with
  | some (.int _), some (.int k), .sc (.int _ n) => K (.sc (.int k (k.wrap n)))
  | some .string, some .string, .sc (.string b) => K (.sc (.string b))
  | some .string, some (.slice e), .sc (.string b) => match E.d e with
    | some (.int .u8) => .alloc (.cells (b.data.toList.map fun c => .sc (.int .u8 c.toNat)) 1 false) fun m => K (.slc m 0 b.size none)
    | _ => .fail
  | some (.slice e), some .string, x => match E.d e with
    | some (.int .u8) => withO (lenA x) fun n => match x with
      | .sc (.string _) => .fail
      | _ => firstK 1 n x fun c => withO (byteList c) fun l => K (.sc (.string ⟨l.toArray⟩))
    | _ => .fail
  | _, _, _ => .fail

def clearK (E : Env) (t : TypeId) (x : AV) (K : AV → EM β) : EM β :=
  match E.d t, x with
  | some (.slice e), .slc n off len _ => bif len.beq 0 then K (.tup []) else withO (E.ty e) fun ei => withO ei.zero fun z => storeK (.ptr n off) (repl len z.cells) (K (.tup []))
  | some (.slice _), .sc (.slice none 0 0) => K (.tup [])
  | some (.map _ _), .mp n => .look n fun b => match b with | .amap _ clock => .put n (some (.amap [] clock)) (K (.tup [])) | _ => .fail
  | _, _ => .fail

def deleteK (E : Env) (t : TypeId) (m k : AV) (K : AV → EM β) : EM β :=
  match E.d t, m with
  | some (.map kt _), .sc (.map none) => guardE (keyOk E kt k) (K (.tup []))
  | some (.map kt _), .mp n => .look n fun b => match b with
    | .amap es clock => guardE (keyOk E kt k) (withO (findE E kt k es 0) fun r =>
      .put n (some (.amap (eraseE r es) clock)) (K (.tup [])))
    | _ => .fail
  | _, _ => .fail

def builtinK (E : Env) (b : Builtin) (ats : List TypeId) (args : List AV) (K : AV → EM β) : EM β :=
  match b, ats, args with
  | .append, [t, xt], [a, x] => match E.d xt with | some (.int _) | none => .fail | some _ => appendK E t a x K
  | .len, t :: _, [x] => lenK E t x K
  | .cap, t :: _, [x] => capK E t x K
  | .copy, t :: _, [d, x] => copyK E t d x K
  | .max, _, .sc (.int k x) :: l => withO (minmaxA true k x l) fun v => K (.sc (.int k v))
  | .min, _, .sc (.int k x) :: l => withO (minmaxA false k x l) fun v => K (.sc (.int k v))
  | .delete, t :: _, [m, k] => deleteK E t m k K
  | .clear, t :: _, [x] => clearK E t x K
  | _, _, _ => .fail

def lookupK (E : Env) (t : TypeId) (x k : AV) (ok : Bool) (K : AV → EM β) : EM β :=
  match E.d t with
  | some (.map kt e) => withO (E.ty e) fun ei => withO ei.zero fun z => guardE (keyOk E kt k)
    (match x with
    | .sc (.map none) => K (okV ok z false)
    | .mp n => .look n fun b => match b with
      | .amap es _ => withO (findE E kt k es 0) fun o => match o with
        | some (_, v) => K (okV ok v true)
        | none => K (okV ok z false)
      | _ => .fail
    | _ => .fail)
  | _ => .fail

def updateK (E : Env) (t : TypeId) (m k x : AV) (K : EM β) : EM β :=
  match E.d t, m with
  | some (.map kt _), .mp n => .look n fun b => match b with
    | .amap es clock => guardE (keyOk E kt k) (withO (findE E kt k es 0) fun o => match o with
      | some (i, _) => guardE (sameAt es i k) (.put n (some (.amap (modN (fun e => (k, x, e.2.2)) es i) clock)) K)
      | none => .put n (some (.amap (es ++ [(k, x, clock)]) (clock + 1))) K)
    | _ => .fail
  | _, _ => .fail

def entryK (E : Env) (t : TypeId) (m k : AV) (K : AV → EM β) : EM β :=
  match E.d t, m with
  | some (.map kt e), .mp n => withO (E.ty e) fun ei => withO ei.zero fun z => .look n fun b => match b with
    | .amap es clock => guardE (keyOk E kt k) (withO (findE E kt k es 0) fun o => match o with
      | some (i, v) => guardE (sameAt es i k) (.put n (some (.amap (modN (fun e => (k, e.2.1, e.2.2)) es i) clock)) (K (.tup [v, .sc (goInt (bornAt es i))])))
      | none => .put n (some (.amap (es ++ [(k, z, clock)]) (clock + 1))) (K (.tup [z, .sc (goInt clock)])))
    | _ => .fail
  | _, _ => .fail

def bornIdx (b : Int) : List (AV × AV × Nat) → Nat → Option Nat
  | [], _ => none
  | e :: l, i => if (e.2.2 : Int) = b then some i else bornIdx b l (i + 1)

def entryStoreK (m st x : AV) (K : EM β) : EM β :=
  match m, st with
  | .mp n, .sc (.int _ b) => .look n fun bl => match bl with
    | .amap es clock => withO (bornIdx b es 0) fun i => .put n (some (.amap (modN (fun e => (e.1, x, e.2.2)) es i) clock)) K
    | _ => .fail
  | _, _ => .fail

def nextK (x : AV) (K : AV → EM β) : EM β :=
  match x with
  | .ptr n 0 => .look n fun b => match b with
    | .siter b pos => if pos < b.size then .put n (some (.siter b (pos + (Utf8.decode b pos).2))) (K (.tup [.sc (.bool true), .sc (goInt pos), .sc (.int .i32 (Utf8.decode b pos).1)]))
      else K (.tup [.sc (.bool false)])
    | _ => .fail
  | _ => .fail
end

def zipParts : List (Nat × Operand) → List AV → List (Nat × AV)
  | (i, _) :: l, v :: r => (i, v) :: zipParts l r
  | _, _ => []

def takeOpt (o : Option Operand) (l : List AV) : Option AV × List AV :=
  match o, l with
  | some _, v :: r => (some v, r)
  | _, l => (none, l)

def cmpB : List UInt8 → List UInt8 → Int
  | [], [] => 0
  | [], _ :: _ => -1
  | _ :: _, [] => 1
  | a :: l, b :: m => if a < b then -1 else if b < a then 1 else cmpB l m

def idxB (c : UInt8) : List UInt8 → Nat → Int
  | [], _ => -1
  | a :: l, i => if a = c then i else idxB c l (i + 1)

def extK (k : ExtK) (args : List AV) : EM AV :=
  match k, args with
  | .indexByte, [.sc (.string b), .sc (.int .u8 c)] => .ret (.sc (goInt (idxB (UInt8.ofNat c.toNat) b.data.toList 0)))
  | .cmpString, [.sc (.string a), .sc (.string b)] => .ret (.sc (goInt (cmpB a.data.toList b.data.toList)))
  | .mapsClone, [.ifc t (.mp n)] => .look n fun b => match b with
    | .amap es clock => .alloc (.amap es clock) fun m => .ret (.ifc t (.mp m))
    | _ => .fail
  | _, _ => .fail

def callK (E : Env) (f : FuncId) (args : List AV) : EM AV :=
  match E.ext f with
  | some k => extK k args
  | none => .call f args .ret

/-- where a struct's field lies, and how many cells it has -/
def placeOf (E : Env) (fs : List Field) (j : Nat) : Option (Nat × Nat) :=
  match fs[j]? with
  | some f => match E.ty f.type with
    | some k => some (f.offset, k.size)
    | none => none
  | none => none

/-- what an operation does, its operands' values at hand (in the order of Op.operands) -/
def opE (E : Env) (op : Op) (xs : List AV) : EM AV :=
  match op, xs with
  | .move _, [x] | .assign _, [x] => .ret x
  | .pick .., [.sc (.bool c), a, b] => .ret (match c with | true => a | false => b)
  | .alloc e, _ => withO (E.ty e) fun i => withO i.zero fun z => .alloc (.cells z.cells i.size true) fun n => .ret (.ptr n 0)
  | .box _ _, [x] => guardE x.plain <| .alloc (.cells x.cells x.cells.length true) fun n => .ret (.ptr n 0)
  | .build ty ps, xs => guardE (xs.all AV.plain && xs.length.beq ps.size) <| withO (E.ty ty) fun i => withO i.zero fun z => match i.d with
    | .struct ⟨fs⟩ => guardE (fs.all fun f => (E.ty f.type).isSome) <| withO (fillA (placeOf E fs) z.cells (zipParts ps.toList xs)) fun c => .ret (.agg c)
    | .array _ e => withO (E.ty e) fun k => withO (fillA (fun j => some (j * k.size, k.size)) z.cells (zipParts ps.toList xs)) fun c => .ret (.agg c)
    | _ => .fail
  | .buildSlice ty len ps, xs => match E.d ty with
    | some (.slice e) => withO (E.ty e) fun k => withO k.zero fun z => guardE (Nat.ble (len * k.size) 10000 && Nat.blt 0 k.size && xs.all AV.plain && xs.length.beq ps.size)
      (withO (fillA (fun j => some (j * k.size, k.size)) (repl len z.cells) (zipParts ps.toList xs)) fun c => .alloc (.cells c k.size true) fun n => .ret (.slc n 0 len (some len)))
    | _ => .fail
  | .load ty _, [a] => withO (E.ty ty) fun i => match i.agg with
    | true => loadK a i.size fun l => .ret (.agg l)
    | false => loadK a 1 fun l => match l with | [v] => .ret v | _ => .fail
  | .store ty _ _, [a, x] => withO (E.ty ty) fun i => guardE (x.plain && x.cells.length.beq i.size) (storeK a x.cells (.ret undefA))
  | .nilCheck _, [x] => match x with
    | .ptr .. | .eptr .. | .fn (.func _) _ _ | .mp .. | .slc .. => .ret x
    | _ => .fail
  | .binOp op ty _ _ _, [x, y] => withO (binA E op ty x y) .ret
  | .unOp op _ _, [x] => withO (unA op x) .ret
  | .convert a b _, [x] => convertK E a b x .ret
  | .makeInterface ty _, [x] => match E.d ty with | some (.interface _) | none => .fail | some _ => .ret (.ifc ty x)
  | .makeFunc f first _, xs => .ret (.fn f (xs.take first.size) (xs.drop first.size))
  | .makeMap _ none, _ => .alloc (.amap [] 0) fun n => .ret (.mp n)
  | .makeSlice ty _ _, [l, c] => match E.d ty with
    | some (.slice e) => withO (E.ty e) fun k => withO k.zero fun z => withO (asNat l) fun l => withO (asNat c) fun c =>
      guardE (l.ble c && Nat.ble (c * k.bytes) maxBytes && Nat.ble c maxBytes && Nat.blt 0 k.size) (.alloc (.cells (repl c z.cells) k.size true) fun n => .ret (.slc n 0 l (some c)))
    | _ => .fail
  | .slice ty _ lo hi mx, x :: r =>
    sliceK E ty x (takeOpt lo r).1 (takeOpt hi (takeOpt lo r).2).1 (takeOpt mx (takeOpt hi (takeOpt lo r).2).2).1 .ret
  | .fieldAddr ty _ f, [x] => withO (fieldOf E ty f) fun f => withO (E.ty f.type) fun i => guardE (Nat.blt 0 i.size) (match x with
    | .ptr n off => .ret (.ptr n (off + f.offset))
    | .eptr cs => .ret (.eptr (cs.drop f.offset))
    | _ => .fail)
  | .field ty _ f, [x] => withO (fieldOf E ty f) fun f => match x with
    | .agg cs => withO (partA E f.type cs f.offset) .ret
    | _ => .fail
  | .indexAddr ty _ _, [x, i] => withO (asNat i) fun i => match E.d ty, x with
    | some (.slice e), .slc n off len _ => withO (E.ty e) fun k => guardE (Nat.blt i len) (.ret (.ptr n (off + i * k.size)))
    | some (.slice e), .isl cs len _ => withO (E.ty e) fun k => guardE (Nat.blt i len && Nat.blt 0 cs.length) (.ret (.eptr (cs.drop (i * k.size))))
    | some (.array m e), .ptr n off => withO (E.ty e) fun k => guardE (Nat.blt i m) (.ret (.ptr n (off + i * k.size)))
    | some (.array m e), .eptr cs => withO (E.ty e) fun k => guardE (Nat.blt i m) (.ret (.eptr (cs.drop (i * k.size))))
    | _, _ => .fail
  | .index ty _ _, [x, i] => withO (asNat i) fun i => match E.d ty, x with
    | some (.array m e), .agg cs => withO (E.ty e) fun k => guardE (Nat.blt i m) (withO (partA E e cs (i * k.size)) .ret)
    | some .string, .sc (.string b) => withO (b.data.toList[i]?) fun c => .ret (.sc (.int .u8 c.toNat))
    | _, _ => .fail
  | .lookup ty _ _ ok, [x, k] => lookupK E ty x k ok .ret
  | .mapUpdate ty _ _ _, [m, k, x] | .insert ty _ _ _, [m, k, x] => updateK E ty m k x (.ret undefA)
  | .mapEntry ty _ _, [m, k] => entryK E ty m k .ret
  | .entryStore _ _ _ _, [m, st, x] => entryStoreK m st x (.ret undefA)
  | .range ty _, [x] => match E.d ty, x with
    | some .string, .sc (.string b) => .alloc (.siter b 0) fun n => .ret (.ptr n 0)
    | _, _ => .fail
  | .next _ true, [x] => nextK x .ret
  | .typeAssert _ _ t ok, [x] => match E.d t, x with
    | some (.interface _), _ => .fail
    | some _, .ifc u v => guardE (u.beq t) (.ret (okV ok v true))
    | _, _ => .fail
  | .extract _ i, [.tup vs] => withO (vs[i]?) .ret
  | .call c, xs => match c.callee with
    | .builtin b => builtinK E b c.argTypes.toList xs .ret
    | .value _ => match xs with
      | .fn (.func g) first captured :: args => callK E g (first ++ args ++ captured)
      | _ => .fail
    | .invoke _ _ => .fail
  | _, _ => .fail

/-! ### regions, code, calls -/

inductive Ex where
  | normal | exit (id : Nat) | ret
  deriving Inhabited

def wantedA (ops : Array Oper) (t : T AV) (o : Oper) : Bool :=
  match o.guard with
  | none => true
  | some (j, want) => match (ops[j]?).bind (·.dst) with
    | some d => match t.get d with
      | some (.sc (.bool b)) => b == want
      | _ => false
    | none => false

def putA (nt : Nat) (t : T AV) (d : Option Tmp) (v : AV) : Option (T AV) :=
  match d with
  | some d => bif Nat.blt d nt then some (t.set d (some v)) else none
  | none => some t

/-- what an operation's slot is given -/
def val1 (E : Env) (call : CallF) (ops : Array Oper) (o : Oper) (t : T AV) (s : St) : Option (AV × St) :=
  match wantedA ops t o with
  | true => match operands t o.op.operands.toList with
    | some xs => (opE E o.op xs).run call s
    | none => none
  | false => some (undefA, s)

def step1 (E : Env) (call : CallF) (nt : Nat) (ops : Array Oper) (o : Oper) (t : T AV) (s : St) : Option (T AV × St) :=
  match val1 E call ops o t s with
  | some (v, s) => match putA nt t o.dst v with | some t => some (t, s) | none => none
  | none => none

def runOps (E : Env) (call : CallF) (nt : Nat) (ops : Array Oper) : List Oper → T AV → St → Option (T AV × St)
  | [], t, s => some (t, s)
  | o :: l, t, s => match step1 E call nt ops o t s with
    | some (t, s) => runOps E call nt ops l t s
    | none => none

def disj (a b : List Nat) : Bool := a.all fun x => !b.elem x

def maskOf (o : Oper) (acc : List Nat) : Nat :=
  o.after.toList.foldl (fun s e => bif Region.binds .any e then s ||| 2 ^ e.on ||| acc.getD e.on 0 else s) 0

def masks : List Oper → List Nat → List Nat
  | [], acc => acc
  | o :: l, acc => masks l (acc ++ [maskOf o acc])

structure Foot where
  i : Nat
  rd : List Nat
  wr : List Nat

/-- does operation i meet an earlier one that is not ordered with it? -/
def clash (m : Nat) (rd wr : List Nat) : List Foot → Bool
  | [] => false
  | f :: l => (!(m.testBit f.i) && !(disj f.wr rd && disj f.wr wr && disj wr f.rd)) || clash m rd wr l

def below (c : Nat) (l : List Nat) : List Nat := l.filter fun n => Nat.blt n c

/-- a piece of a run, with a footprint of its own: of what was there before it -/
def fenced {α : Type} (F : St → Option (α × St)) (s : St) : Option ((α × (List Nat × List Nat) × (Nat × Nat)) × St) :=
  match F { s with rd := [], wr := [] } with
  | some (a, s') => some ((a, (below s.nxt s'.rd, below s.nxt s'.wr), (s.nxt, s'.nxt)), { s' with rd := below s.nxt s'.rd ++ s.rd, wr := below s.nxt s'.wr ++ s.wr })
  | none => none

/-- a region that draws: each operation with its own footprint; those that are not ordered must not meet -/
def runDraw (E : Env) (call : CallF) (nt : Nat) (ops : Array Oper) (ms : List Nat) : List Oper → Nat → List Foot → T AV → St → Option (T AV × St)
  | [], _, _, t, s => some (t, s)
  | o :: l, i, acc, t, s =>
    match fenced (step1 E call nt ops o t) s with
    | some ((t, f, c), s') =>
      match clash (ms.getD i 0) f.1 f.2 acc with
      | true => none
      | false => runDraw E call nt ops ms l (i + 1) (⟨i, f.1, f.2 ++ List.range' c.1 (c.2 - c.1)⟩ :: acc) t s'
    | none => none

def loopA {β : Type} (f : β → Option (Ex × β)) : Nat → β → Option (Ex × β)
  | 0, _ => none
  | k + 1, x => match f x with
    | some (.normal, x) => loopA f k x
    | r => r

def codeA (E : Env) (call : CallF) (nt L : Nat) : Code → T AV × St → Option (Ex × (T AV × St))
  | .skip, x => some (.normal, x)
  | .region _ ops draw, (t, s) =>
    match draw with
    | true => match runDraw E call nt ops (masks ops.toList []) ops.toList 0 [] t s with | some x => some (.normal, x) | none => none
    | false => match runOps E call nt ops ops.toList t s with | some x => some (.normal, x) | none => none
  | .seq a b, x => match codeA E call nt L a x with
    | some (.normal, x) => codeA E call nt L b x
    | r => r
  | .cond c a b, (t, s) => match operand t c with
    | some (.sc (.bool true)) => codeA E call nt L a (t, s)
    | some (.sc (.bool false)) => codeA E call nt L b (t, s)
    | _ => none
  | .block id b, x => match codeA E call nt L b x with
    | some (.exit i, x) => some (if i = id then .normal else .exit i, x)
    | r => r
  | .loop b, x => loopA (codeA E call nt L b) L x
  | .exit id, x => some (.exit id, x)
  | .ret, x => some (.ret, x)
  | .label _, x => some (.normal, x)
  | .scope b, x => codeA E call nt L b x
  | _, _ => none

def resOne (E : Env) (t : T AV) (x : ResultVar) : EM AV :=
  match x with
  | .tmp i => .ret (match t.get i with | some v => v | none => undefA)
  | .cell a ty => withO (E.ty ty) fun i => withO (t.get a) fun p => match i.agg with
    | true => loadK p i.size fun l => .ret (.agg l)
    | false => loadK p 1 fun l => match l with | [v] => .ret v | _ => .fail

def resAll (E : Env) (call : CallF) (t : T AV) : List ResultVar → St → Option (List AV × St)
  | [], s => some ([], s)
  | x :: l, s => match (resOne E t x).run call s with
    | some (v, s) => match resAll E call t l s with | some (vs, s) => some (v :: vs, s) | none => none
    | none => none

def joinR : List AV → AV
  | [v] => v
  | vs => .tup vs

mutual
def AV.low (c : Nat) : AV → Bool
  | .sc _ => true
  | .ptr n _ => Nat.blt n c
  | .slc n _ _ _ => Nat.blt n c
  | .mp n => Nat.blt n c
  | .isl cs _ _ => AV.lowL c cs
  | .eptr cs => AV.lowL c cs
  | .agg cs => AV.lowL c cs
  | .tup cs => AV.lowL c cs
  | .fn _ a b => AV.lowL c a && AV.lowL c b
  | .ifc _ v => AV.low c v
def AV.lowL (c : Nat) : List AV → Bool
  | [] => true
  | v :: l => AV.low c v && AV.lowL c l
end

def argsT : List AV → Nat → T AV → T AV
  | [], _, t => t
  | v :: l, i, t => argsT l (i + 1) (t.set i (some v))

def finish (E : Env) (call : CallF) (fn : Func) (x : Ex × (T AV × St)) : Option (AV × St) :=
  match x with
  | (.exit _, _) => none
  | (_, (t, s)) => match resAll E call t fn.results.toList s with
    | some (vs, s) => some (joinR vs, s)
    | none => none

/-- a body, run whole -/
def inner (E : Env) (call : CallF) (L : Nat) (fn : Func) (body : Code) (args : List AV) (s : St) : Option (AV × St) :=
  match codeA E call fn.ntmps L body (argsT args 0 .leaf, s) with
  | some x => finish E call fn x
  | none => none

/-- a call: one that has written nothing that was there, and hands back nothing of its own, leaves the heap as it was -/
def bodyA (E : Env) (call : CallF) (L : Nat) (fn : Func) (body : Code) (args : List AV) (s : St) : Option (AV × St) :=
  match fenced (inner E call L fn body args) s with
  | some ((v, f, _), s1) => match f.2.isEmpty && v.low s.nxt with
    | true => some (v, { s1 with h := s.h })
    | false => some (v, s1)
  | none => none

def callA (E : Env) (L : Nat) : Nat → CallF
  | 0, _, _, _ => none
  | k + 1, f, args, s => match E.prim f with
    | some p => p args s
    | none => match E.fn f with
      | some fn => match fn.body with
        | some body => bodyA E (callA E L k) L fn body args s
        | none => none
      | none => none

end Go.Ab
