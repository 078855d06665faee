/- The abstract interpreter: values, memory, code. -/
import Derived.OrdersIn
import Derived.RangeFuncIn
import Derived.Laws.Sem
import Derived.KernelRfl

set_option linter.unusedSimpArgs false
set_option linter.unusedVariables false
set_option linter.unusedSectionVars false
set_option linter.deprecated false

namespace Go.Den
open Go

/-! ## A trie with natural numbers as keys -/
inductive T (α : Type) where
  | e
  | n (l : T α) (v : Option α) (r : T α)
  deriving Inhabited

def T.left {α : Type} : T α → T α
  | .e => .e
  | .n l _ _ => l
def T.right {α : Type} : T α → T α
  | .e => .e
  | .n _ _ r => r
def T.val {α : Type} : T α → Option α
  | .e => none
  | .n _ v _ => v

def T.get {α : Type} : T α → Nat → Option α
  | .e, _ => none
  | .n l v r, k =>
    match k with
    | 0 => v
    | k' + 1 => match k' % 2 with
      | 0 => l.get (k' / 2)
      | _ + 1 => r.get (k' / 2)

def T.setF {α : Type} : Nat → T α → Nat → Option α → T α
  | 0, t, _, _ => t
  | f + 1, t, k, x =>
    match k with
    | 0 => .n t.left x t.right
    | k' + 1 => match k' % 2 with
      | 0 => .n (setF f t.left (k' / 2) x) t.val t.right
      | _ + 1 => .n t.left t.val (setF f t.right (k' / 2) x)

def T.set {α : Type} (t : T α) (k : Nat) (x : α) : T α := T.setF (k + 1) t k (some x)
def T.del {α : Type} (t : T α) (k : Nat) : T α := T.setF (k + 1) t k none

/-- The values of a list at the places from i on. -/
def T.puts {α : Type} (t : T α) : Nat → List α → T α
  | _, [] => t
  | i, x :: xs => T.puts (t.set i x) (i + 1) xs

/-! ## Values -/
inductive AV where
  | unk
  | bool (b : Bool)
  | int (k : IntKind) (n : Int)
  | str (s : List UInt8)
  | ptr (a : Option (Nat × Nat))
  | slice (a : Option (Nat × Nat × Nat)) (len cap : Nat)      -- block, place, cells of an element
  | map (r : Option Nat)
  | func (fn : Fn) (first captured : List AV)
  | nilFunc
  | iface (t : TypeId) (v : AV)
  | nilIface
  | agg (cs : List AV)
  | tuple (vs : List AV)
  deriving Inhabited

def AV.undef : AV := .tuple []

def AV.cells : AV → List AV
  | .agg cs => cs
  | v => [v]

/-- A value that one cell may hold. -/
def AV.one : AV → Bool
  | .agg _ | .tuple _ | .unk => false
  | _ => true

mutual
def AV.beq : AV → AV → Bool
  | .bool a, .bool b => a == b
  | .int j a, .int k b => j == k && a == b
  | .str a, .str b => a == b
  | .ptr a, .ptr b => a == b
  | .slice a n c, .slice b m d => a == b && n == m && c == d
  | .map a, .map b => a == b
  | .func f a b, .func g c d => f == g && AV.beqs a c && AV.beqs b d
  | .nilFunc, .nilFunc => true
  | .iface t v, .iface u w => t == u && AV.beq v w
  | .nilIface, .nilIface => true
  | .agg a, .agg b => AV.beqs a b
  | .tuple a, .tuple b => AV.beqs a b
  | _, _ => false
def AV.beqs : List AV → List AV → Bool
  | [], [] => true
  | a :: x, b :: y => AV.beq a b && AV.beqs x y
  | _, _ => false
end

/-- A constant, or a zero value, of the model as a value of ours (what bears an address is none). -/
def toAV : Nat → Value → Option AV
  | 0, _ => none
  | n + 1, v =>
    match v with
    | .bool b => some (.bool b)
    | .int k i => some (.int k i)
    | .string s => some (.str s.data.toList)
    | .pointer none => some (.ptr none)
    | .slice none 0 0 => some (.slice none 0 0)
    | .map none => some (.map none)
    | .nilFunc => some .nilFunc
    | .nilIface => some .nilIface
    | .func (.func f) a b => if a.size = 0 ∧ b.size = 0 then some (.func (.func f) [] []) else none
    | .iface t w => (toAV n w).map (.iface t)
    | .agg cs => ((cs.toList).mapM (toAV n)).map .agg
    | .tuple cs => if cs.size = 0 then some (.tuple []) else none
    | _ => none

/-! ## Code -/
inductive Opd where
  | tmp (t : Nat)
  | loc (t : Nat)
  | const (v : AV)
  | global (g : Nat)
  | func (f : FuncId)
  deriving Inhabited

/-- How values of a type are held against each other. -/
inductive EqT where
  | bool | int | str
  | ptr | iface | slice | map | func
  | parts (l : List (Nat × Option Nat × EqT))      -- a struct's, an array's: place, cells (none: one value), how
  deriving Inhabited

inductive Cmp where
  | u8s | s2b | b2s | i2i (k : IntKind) | i2s | same | uptr (n : Nat)
  deriving Inhabited

inductive SliceK where
  | str | sl (z : Nat) | arr (n z : Nat)
  deriving Inhabited

inductive AOp where
  | val (x : Opd)
  | pick (c a b : Opd)
  | box (el : TypeId) (x : Opd)
  | zbox (el : TypeId) (z : List AV)
  | build (z : List AV) (parts : List (Nat × Nat × Opd))
  | buildSlice (el : TypeId) (s : Nat) (z : List AV) (len : Nat) (parts : List (Nat × Nat × Opd))
  | load (n : Option Nat) (a : Opd)
  | store (n : Nat) (a x : Opd)
  | nilCheck (x : Opd)
  | bin (op : BinOp) (q : EqT) (x y : Opd)
  | un (op : UnOp) (x : Opd)
  | conv (c : Cmp) (el : TypeId) (x : Opd)
  | mkIface (t : TypeId) (x : Opd)
  | mkFunc (fn : Fn) (first captured : List Opd)
  | tassert (t : TypeId) (x : Opd)
  | mkMap
  | mkSlice (el : TypeId) (s bytes : Nat) (z : List AV) (l c : Opd)
  | slice (k : SliceK) (x : Opd) (lo hi mx : Option Opd)
  | fieldAddr (off : Nat) (x : Opd)
  | field (off : Nat) (n : Option Nat) (x : Opd)
  | idxArr (len z : Nat) (x i : Opd)
  | idxSl (z : Nat) (x i : Opd)
  | ixArr (len z : Nat) (n : Option Nat) (x i : Opd)
  | ixStr (x i : Opd)
  | lookup (q : EqT) (zero : AV) (ok : Bool) (m k : Opd)
  | mapPut (q : EqT) (m k v : Opd)
  | mapDel (q : EqT) (m k : Opd)
  | mapEntry (q : EqT) (zero : AV) (m k : Opd)
  | entryStore (m s v : Opd)
  | mapLen (m : Opd)
  | mapClear (m : Opd)
  | rangeStr (x : Opd)
  | rangeMap (x : Opd)
  | nextStr (x : Opd)
  | nextMap (x : Opd)
  | entry (x : Opd)
  | extract (x : Opd) (i : Nat)
  | lenStr (x : Opd)
  | lenSl (x : Opd)
  | lenArr (n : Nat)
  | cap (x : Opd)
  | append (el : TypeId) (bytes z : Nat) (zero : List AV) (s x : Opd)
  | copy (z : Nat) (d s : Opd)
  | clearSl (zero : List AV) (x : Opd)
  | mxn (mx : Bool) (l : List Opd)
  | usd (x : Opd)
  | ustr (el : TypeId) (x n : Opd)
  | call (f : Opd) (args : List Opd)
  | invoke (recv : Opd) (name : String) (args : List Opd)
  deriving Inhabited

inductive Cls where
  | pure | read | alloc | store | eff
  deriving DecidableEq, Inhabited

def AOp.cls : AOp → Cls
  | .slice k .. => match k with
    | .arr _ _ => .read
    | _ => .pure
  | .val _ | .pick .. | .build .. | .nilCheck _ | .bin .. | .un .. | .mkIface .. | .mkFunc .. | .tassert .. | .fieldAddr .. | .field .. | .idxArr .. | .idxSl ..
  | .ixArr .. | .ixStr .. | .extract .. | .lenStr _ | .lenSl _ | .lenArr _ | .cap _ | .mxn .. | .usd _ => .pure
  | .conv c _ _ => match c with
    | .s2b => .alloc
    | .b2s | .uptr _ => .read
    | _ => .pure
  | .load .. | .lookup .. | .mapLen _ | .entry _ => .read
  | .box .. | .zbox .. | .buildSlice .. | .mkMap | .mkSlice .. | .rangeStr _ => .alloc
  | .store .. => .store
  | _ => .eff

structure AOper where
  dst : Option (Bool × Nat)              -- is the slot kept behind the region?
  guard : Option (Opd × Bool)            -- the guard's slot, and what it has to be
  op : AOp
  early : Nat := 0      -- a read: so many effects ahead of it may come behind it
  late : Nat := 0       -- so many behind it may come ahead
  deriving Inhabited

inductive ACode where
  | skip
  | ops (l : List AOper)
  | draw (l : List AOper)
  | seq (a b : ACode)
  | cond (c : Opd) (a b : ACode)
  | block (id : Nat) (b : ACode)
  | loop (b : ACode)
  | rangeFunc (f : Opd) (params : List Nat) (assign body : ACode)
  | exit (id : Nat)
  | ret
  | bad
  deriving Inhabited

inductive Ext where
  | indexByte | count | index | cmp | same | noZero (el : TypeId) | mclone
  deriving Inhabited

inductive ARes where
  | tmp (t : Nat)
  | cell (n : Option Nat) (a : Nat)
  deriving Inhabited

inductive AFunc where
  | body (na ntmps : Nat) (results : List ARes) (c : ACode)      -- na: so many slots, from the first on, may bear arguments
  | ext (x : Ext)
  deriving Inhabited

/-! ## Memory -/
inductive Md where
  | own | open_ | froz | ro
  deriving DecidableEq, Inhabited

structure Lp where
  state : LoopState
  pend : Option ACode
  fn : FuncId
  fr : T AV
  params : List Nat
  assign : ACode
  body : ACode
  defers : Nat
  deriving Inhabited

inductive Ob where
  | cells (t : T AV) (size : Nat) (d : Option AV) (el : TypeId) (md : Md)
  | map (es : List (AV × AV × Nat)) (clock : Nat)
  | siter (s : List UInt8) (pos : Nat)
  | miter (m : Option Nat) (since : Nat) (seen : List Nat) (last : Nat)
  | loop (l : Lp)
  | dfr (alive : Bool)
  | dead
  deriving Inhabited

structure Me where
  m : T Ob
  nx : Nat
  deriving Inhabited

def Me.get (m : Me) (b : Nat) : Option Ob := m.m.get b
def Me.put (m : Me) (b : Nat) (o : Ob) : Me := { m with m := m.m.set b o }
def Me.new (m : Me) (o : Ob) : Me := { m := m.m.set m.nx o, nx := m.nx + 1 }

end Go.Den

/- The abstract interpreter: from the model's code to ours. -/
namespace Go.Den
open Go

def und (P : Program) (t : TypeId) : Option TypeDesc := P.underlying t
def sz (P : Program) (t : TypeId) : Option Nat := (P.info? t).map (·.size)
def bts (P : Program) (t : TypeId) : Option Nat := (P.info? t).map (·.bytes)
def zeroAV (P : Program) (t : TypeId) : Option AV := ((P.info? t).bind (·.zero)).bind (toAV 4)
/-- A type's zero value's cells. -/
def zcells (P : Program) (t : TypeId) : Option (List AV) :=
  match zeroAV P t with
  | some z => if z.cells.all AV.one then some z.cells else none
  | none => none
/-- none: a value of one cell; some n: an aggregate of n cells. -/
def aggN (P : Program) (t : TypeId) : Option (Option Nat) :=
  match und P t with
  | some (.struct _) | some (.array _ _) => (sz P t).map some
  | some _ => some none
  | none => none

def eqT (P : Program) : Nat → TypeId → Option EqT
  | 0, _ => none
  | n + 1, t =>
    match und P t with
    | some .bool => some .bool
    | some (.int _) => some .int
    | some .string => some .str
    | some (.pointer e) => match sz P e with
      | some 0 => none
      | some _ => some .ptr
      | none => none
    | some .unsafePointer => some .ptr
    | some (.interface _) => some .iface
    | some (.struct fs) =>
      if P.stoodInHeld t then none
      else (fs.toList.mapM fun f =>
        if f.name = "_" then none else do
          let q ← eqT P n f.type
          let a ← aggN P f.type
          pure (f.offset, a, q)).map .parts
    | some (.slice _) => some .slice
    | some (.map _ _) => some .map
    | some (.func _ _ _) => some .func
    | _ => none

def opd (P : Program) (K : Nat → Bool) (o : Operand) : Option Opd :=
  match o with
  | .tmp t => some (if K t then .tmp t else .loc t)
  | .const v => (toAV 4 v).map .const
  | .global g => if g < P.globals.size then some (.global g) else none
  | .func f => some (.func f)

def opds (P : Program) (K : Nat → Bool) (l : List Operand) : Option (List Opd) := l.mapM (opd P K)
def opdO (P : Program) (K : Nat → Bool) : Option Operand → Option (Option Opd)
  | none => some none
  | some o => (opd P K o).map some

def isNilConst : Operand → Bool
  | .const .nilIface => true
  | _ => false

/-- The places of an aggregate's parts. -/
def placesOf (P : Program) (t : TypeId) : Option (Nat → Option (Nat × Nat)) :=
  match und P t with
  | some (.struct fs) => do
    let l ← fs.toList.mapM fun f => do
      let s ← sz P f.type
      pure (f.offset, s)
    pure fun i => l[i]?
  | some (.array _ e) => do
    let s ← sz P e
    pure fun i => some (i * s, s)
  | _ => none

def partsOf (P : Program) (K : Nat → Bool) (pl : Nat → Option (Nat × Nat)) (ps : List (Nat × Operand)) : Option (List (Nat × Nat × Opd)) :=
  ps.mapM fun (i, x) => do
    let (off, s) ← pl i
    let y ← opd P K x
    pure (off, s, y)

def repl (z : List AV) : Nat → List AV
  | 0 => []
  | n + 1 => z ++ repl z n

def keyT (P : Program) (t : TypeId) : Option EqT := do
  let q ← eqT P 6 t
  match q with
  | .bool | .int | .str => some q
  | .parts l => if l.all (fun x => match x with | (_, none, .bool) | (_, none, .int) | (_, none, .str) => true | _ => false) then some q else none
  | _ => none

def cBuiltin (K : Nat → Bool) (P : Program) (b : Builtin) (argTypes : List TypeId) (args : List Operand) : Option AOp := do
  let as ← opds P K args
  match b, argTypes, as with
  | .len, [t], [x] => match und P t with
    | some .string => some (.lenStr x)
    | some (.slice _) => some (.lenSl x)
    | some (.array n _) => some (.lenArr n)
    | some (.map _ _) => some (.mapLen x)
    | some (.pointer a) => match und P a with
      | some (.array n _) => some (.lenArr n)
      | _ => none
    | _ => none
  | .cap, [t], [x] => match und P t with
    | some (.slice _) => some (.cap x)
    | _ => none
  | .append, [t, u], [s, x] => match und P t, und P u with
    | some (.slice _), some (.int _) => none
    | some (.slice e), some _ => do
      let z ← sz P e
      let b ← bts P e
      let zv ← zcells P e
      if z = 0 ∨ zv.length ≠ z then none else pure (.append e b z zv s x)
    | _, _ => none
  | .copy, [t, _], [d, s] => match und P t with
    | some (.slice e) => do
      let z ← sz P e
      if z = 0 then none else pure (.copy z d s)
    | _ => none
  | .delete, t :: _, [m, k] => match und P t with
    | some (.map kt _) => do
      let q ← keyT P kt
      pure (.mapDel q m k)
    | _ => none
  | .clear, [t], [x] => match und P t with
    | some (.map _ _) => some (.mapClear x)
    | some (.slice e) => do
      let zv ← zcells P e
      let z ← sz P e
      if zv.length ≠ z then none else pure (.clearSl zv x)
    | _ => none
  | .max, _, l => some (.mxn true l)
  | .min, _, l => some (.mxn false l)
  | .unsafeSliceData, _, [x] => some (.usd x)
  | .unsafeString, t :: _, [x, n] => match und P t with
    | some (.pointer e) => match und P e, sz P e with
      | some (.int .u8), some 1 => some (.ustr e x n)
      | _, _ => none
    | _ => none
  | _, _, _ => none

def cConv (P : Program) (src dst : TypeId) (x : Opd) : Option AOp :=
  match und P src, und P dst with
  | some (.int _), some (.int k) => some (.conv (.i2i k) 0 x)
  | some .string, some .string => some (.conv .same 0 x)
  | some (.int _), some .string => some (.conv .i2s 0 x)
  | some .string, some (.slice e) => match und P e, sz P e with
    | some (.int .u8), some 1 => some (.conv .s2b e x)
    | _, _ => none
  | some (.slice e), some .string => match und P e with
    | some (.int .u8) => some (.conv .b2s e x)
    | _ => none
  | some (.pointer t), some .unsafePointer => match sz P t with
    | some 0 => none
    | some n => some (.conv (.uptr n) t x)
    | none => none
  | some .unsafePointer, some (.pointer u) => match sz P u with
    | some 0 => none
    | some n => some (.conv (.uptr n) u x)
    | none => none
  | _, _ => none

def cSlice (P : Program) (t : TypeId) : Option SliceK :=
  match und P t with
  | some .string => some .str
  | some (.slice e) => (sz P e).bind fun z => if z = 0 then none else some (.sl z)
  | some (.array n e) => (sz P e).bind fun z => if z = 0 then none else some (.arr n z)
  | some (.pointer a) => match und P a with
    | some (.array n e) => (sz P e).bind fun z => if z = 0 then none else some (.arr n z)
    | _ => none
  | _ => none

def cOp (K : Nat → Bool) (P : Program) (o : Op) : Option AOp :=
  match o with
  | .move x | .assign x => (opd P K x).map .val
  | .pick c a b => do pure (.pick (← opd P K c) (← opd P K a) (← opd P K b))
  | .alloc el => do
    let z ← zcells P el
    pure (.zbox el z)
  | .box el x => do pure (.box el (← opd P K x))
  | .build t ps => do
    let z ← zcells P t
    let pl ← placesOf P t
    let l ← partsOf P K pl ps.toList
    pure (.build z l)
  | .buildSlice t len ps => match und P t with
    | some (.slice e) => do
      let s ← sz P e
      let z ← zcells P e
      let l ← partsOf P K (fun i => some (i * s, s)) ps.toList
      if len * s > 2 ^ 24 ∨ z.length ≠ s ∨ s = 0 then none else
      pure (.buildSlice e s (repl z len) len l)
    | _ => none
  | .insert t m k v | .mapUpdate t m k v => match und P t with
    | some (.map kt _) => do pure (.mapPut (← keyT P kt) (← opd P K m) (← opd P K k) (← opd P K v))
    | _ => none
  | .load t a => do pure (.load (← aggN P t) (← opd P K a))
  | .store t a x => do pure (.store (← sz P t) (← opd P K a) (← opd P K x))
  | .nilCheck x => (opd P K x).map .nilCheck
  | .binOp op t x y _ => do
    let q ← (match op with
      | .eql | .neq => (do
        let q ← eqT P 8 t
        match q with
        | .iface => if isNilConst x || isNilConst y then some q else none
        | .parts _ => if P.eqGuardType P.depth t then none else some q
        | q => some q)
      | _ => some .bool)
    pure (.bin op q (← opd P K x) (← opd P K y))
  | .unOp op _ x => (opd P K x).map (.un op)
  | .convert src dst x => (opd P K x).bind (cConv P src dst)
  | .makeInterface t x => match und P t with
    | some (.interface _) => none
    | some _ => (opd P K x).map (.mkIface t)
    | none => none
  | .typeAssert x _ t ok => if ok then none else match und P t with
    | some (.interface _) => none
    | some _ => (opd P K x).map (.tassert t)
    | none => none
  | .makeFunc fn a b => match fn with
    | .func _ => do pure (.mkFunc fn (← opds P K a.toList) (← opds P K b.toList))
    | _ => none
  | .makeMap _ r => match r with
    | none => some .mkMap
    | some _ => none
  | .makeSlice t l c => match und P t with
    | some (.slice e) => do
      let b ← bts P e
      let z ← zcells P e
      let s ← sz P e
      if s = 0 ∨ z.length ≠ s then none else
      pure (.mkSlice e s b z (← opd P K l) (← opd P K c))
    | _ => none
  | .slice t x lo hi mx => do pure (.slice (← cSlice P t) (← opd P K x) (← opdO P K lo) (← opdO P K hi) (← opdO P K mx))
  | .fieldAddr s x f => match und P s with
    | some (.struct fs) => match fs[f]? with
      | some fd => match sz P fd.type with
        | some 0 => none
        | some _ => (opd P K x).map (.fieldAddr fd.offset)
        | none => none
      | none => none
    | _ => none
  | .field s x f => match und P s with
    | some (.struct fs) => match fs[f]? with
      | some fd => do pure (.field fd.offset (← aggN P fd.type) (← opd P K x))
      | none => none
    | _ => none
  | .indexAddr t x i => match und P t with
    | some (.array len e) => do
      let s ← sz P e
      pure (.idxArr len s (← opd P K x) (← opd P K i))
    | some (.slice e) => do
      let s ← sz P e
      pure (.idxSl s (← opd P K x) (← opd P K i))
    | _ => none
  | .index t x i => match und P t with
    | some (.array len e) => do pure (.ixArr len (← sz P e) (← aggN P e) (← opd P K x) (← opd P K i))
    | some .string => do pure (.ixStr (← opd P K x) (← opd P K i))
    | _ => none
  | .lookup t x i ok => match und P t with
    | some (.map kt e) => do
      let q ← keyT P kt
      let z ← zeroAV P e
      pure (.lookup q z ok (← opd P K x) (← opd P K i))
    | _ => none
  | .mapEntry t m k => match und P t with
    | some (.map kt e) => do
      let q ← keyT P kt
      let z ← zeroAV P e
      pure (.mapEntry q z (← opd P K m) (← opd P K k))
    | _ => none
  | .entryStore _ m s x => do pure (.entryStore (← opd P K m) (← opd P K s) (← opd P K x))
  | .range t x => match und P t with
    | some .string => (opd P K x).map .rangeStr
    | some (.map _ _) => (opd P K x).map .rangeMap
    | _ => none
  | .next it isString => (opd P K it).map fun x => if isString then .nextStr x else .nextMap x
  | .entry it => (opd P K it).map .entry
  | .extract x i => (opd P K x).map (.extract · i)
  | .call c => match c.callee with
    | .value f => do pure (.call (← opd P K f) (← opds P K c.args.toList))
    | .builtin b => cBuiltin K P b c.argTypes.toList c.args.toList
    | .invoke r name => do pure (.invoke (← opd P K r) name (← opds P K c.args.toList))
  | _ => none

/-! ## Regions -/
def oList : Option Opd → List Opd
  | some x => [x]
  | none => []

def AOp.opds : AOp → List Opd
  | .val x | .box _ x | .load _ x | .nilCheck x | .un _ x | .conv _ _ x | .mkIface _ x | .tassert _ x | .fieldAddr _ x | .field _ _ x | .mapLen x | .mapClear x | .rangeStr x | .rangeMap x | .nextStr x | .nextMap x
  | .entry x | .extract x _ | .lenStr x | .lenSl x | .cap x | .clearSl _ x | .usd x => [x]
  | .pick a b c | .mapPut _ a b c | .entryStore a b c => [a, b, c]
  | .store _ a b | .bin _ _ a b | .mkSlice _ _ _ _ a b | .idxArr _ _ a b | .idxSl _ a b | .ixArr _ _ _ a b | .ixStr a b | .lookup _ _ _ a b | .mapDel _ a b | .mapEntry _ _ a b | .append _ _ _ _ a b | .copy _ a b | .ustr _ a b => [a, b]
  | .zbox _ _ | .mkMap | .lenArr _ => []
  | .build _ ps | .buildSlice _ _ _ _ ps => ps.map (·.2.2)
  | .mkFunc _ a b => a ++ b
  | .slice _ x lo hi mx => x :: (oList lo ++ oList hi ++ oList mx)
  | .mxn _ l => l
  | .call f l | .invoke f _ l => f :: l

def slotIn (l : List Nat) : Opd → Bool
  | .tmp t | .loc t => l.contains t
  | _ => true

def slotOf (ops : List Oper) (i : Nat) : Option Nat := (ops[i]?).bind (·.dst)

def cGuard (K : Nat → Bool) (ops : List Oper) (g : Option (Nat × Bool)) : Option (Option (Opd × Bool)) :=
  match g with
  | none => some none
  | some (j, b) => match slotOf ops j with
    | some t => some (some (if K t then .tmp t else .loc t, b))
    | none => none

def cOper (K : Nat → Bool) (P : Program) (nt : Nat) (ops : List Oper) (o : Oper) : Option AOper := do
  let a ← cOp K P o.op
  let g ← cGuard K ops o.guard
  if o.dst.any (fun d => !decide (d < nt)) then none else
  pure { dst := o.dst.map fun d => (K d, d), guard := g, op := a }

def bindsOn (o : Oper) : List Nat := (o.after.toList.filter (Region.binds .any)).map (·.on)

/-- For each operation, of those ahead of it in the order 'l', the mask of those that must come ahead of it. -/
def ancs (ops : List Oper) : List Nat → List (Nat × Nat) → List (Nat × Nat)
  | [], acc => acc
  | i :: l, acc =>
    let m := match ops[i]? with
      | some o => (bindsOn o).foldl (fun s j => s ||| 2 ^ j ||| ((acc.lookup j).getD 0)) 0
      | none => 0
    ancs ops l ((i, m) :: acc)

/-- The order in which a region is gone through: each operation as soon as it may be, but those that make memory as late as can be. -/
def sortF (ready : Nat → List Nat → Bool) (late : Nat → Bool) : Nat → List Nat → List Nat → List Nat
  | 0, _, done => done.reverse
  | f + 1, left, done =>
    match left.find? (fun i => ready i done && !late i) with
    | some i => sortF ready late f (left.filter (· != i)) (i :: done)
    | none => match left.find? (fun i => ready i done) with
      | some i => sortF ready late f (left.filter (· != i)) (i :: done)
      | none => done.reverse

def clsAt (as : List AOper) (i : Nat) : Cls := ((as[i]?).map (·.op.cls)).getD .eff

def orderOf (ops : List Oper) (as : List AOper) : List Nat :=
  sortF (fun i done => match ops[i]? with | some o => (bindsOn o).all (done.contains ·) | none => false) (fun i => clsAt as i == .alloc) ops.length (List.range ops.length) []

def ment (ops : List Oper) (o : Oper) : List Nat :=
  o.dst.toList ++ (o.op.operands.toList.filterMap fun | .tmp t => some t | _ => none) ++ (match o.guard with | some (g, _) => (slotOf ops g).toList | none => [])

def heavyC : Cls → Bool
  | .eff | .store => true
  | _ => false

/-- May an operation of the one kind, ahead of one of the other kind in our order, come behind it in another? -/
def memOk : Cls → Cls → Bool
  | .pure, _ | _, .pure => true
  | .read, _ => true
  | _, .alloc => true
  | .alloc, _ => false
  | _, .read => true
  | _, _ => false

def ancB (an : List (Nat × Nat)) (i j : Nat) : Bool := ((an.lookup j).getD 0).testBit i        -- must i come ahead of j?

def apartB (ops : List Oper) (oi oj : Oper) : Bool :=
  (match oi.dst with | some d => !(ment ops oj).contains d | none => true) && (match oj.dst with | some d => !(ment ops oi).contains d | none => true)

/-- Two operations, the first ahead of the second in our order. -/
def pairOk (ops : List Oper) (as : List AOper) (an : List (Nat × Nat)) (i j : Nat) : Bool :=
  ancB an i j ||
  (match ops[i]?, ops[j]? with
   | some oi, some oj => apartB ops oi oj && memOk (clsAt as i) (clsAt as j)
   | _, _ => false)

def pairsOk (ops : List Oper) (as : List AOper) (an : List (Nat × Nat)) : List Nat → Bool
  | [] => true
  | i :: l => l.all (pairOk ops as an i) && pairsOk ops as an l

/-- What binds each of them lies ahead of it. -/
def topoOk (ops : List Oper) : List Nat → List Nat → Bool
  | [], _ => true
  | j :: l, done => (match ops[j]? with | some o => (bindsOn o).all (done.contains ·) | none => false) && topoOk ops l (j :: done)

/-- The slots that an operation looks at are among those that are said of it. -/
def slotsOk (ops : List Oper) (as : List AOper) : Bool :=
  (List.range ops.length).all fun j => match ops[j]?, as[j]? with
    | some o, some a => a.op.opds.all (slotIn (ment ops o))
    | _, _ => false

/-- Is the order 'l' one in which all that the proof asks holds? -/
def drawOk (ops : List Oper) (as : List AOper) (l : List Nat) (an : List (Nat × Nat)) : Bool :=
  decide l.Nodup && l.all (· < ops.length) && (List.range ops.length).all (l.contains ·) && topoOk ops l [] && pairsOk ops as an l && slotsOk ops as

/-- How many effects (other than what makes memory) ahead of, and behind, a read it is not bound to. -/
def withEarly (as : List AOper) (l : List Nat) (an : List (Nat × Nat)) (j q : Nat) (a : AOper) : AOper :=
  if a.op.cls = .read then
    { a with early := ((l.take q).filter fun i => heavyC (clsAt as i) && !ancB an i j).length, late := ((l.drop (q + 1)).filter fun i => heavyC (clsAt as i) && !ancB an j i).length }
  else a

def cRegion (K : Nat → Bool) (P : Program) (nt : Nat) (ops : Array Oper) (draw : Bool) : Option ACode := do
  let as ← ops.toList.mapM (cOper K P nt ops.toList)
  if !draw then pure (.ops as) else
  let l := orderOf ops.toList as
  let an := ancs ops.toList l []
  if !drawOk ops.toList as l an then none else
  let r ← l.zipIdx.mapM fun (j, q) => (as[j]?).map (withEarly as l an j q)
  pure (.draw r)

def cCode (K : Nat → Bool) (P : Program) (nt : Nat) : Code → ACode
  | .skip => .skip
  | .region _ ops d => (cRegion K P nt ops d).getD .bad
  | .seq a b => .seq (cCode K P nt a) (cCode K P nt b)
  | .cond c a b => match opd P (fun _ => true) c with
    | some x => .cond x (cCode K P nt a) (cCode K P nt b)
    | none => .bad
  | .block id b => .block id (cCode K P nt b)
  | .loop b => .loop (cCode K P nt b)
  | .rangeFunc f ps a b => match opd P (fun _ => true) f with
    | some x => if ps.all (fun t => decide (t < nt) && K t) then .rangeFunc x ps.toList (cCode K P nt a) (cCode K P nt b) else .bad
    | none => .bad
  | .exit id => .exit id
  | .ret => .ret
  | _ => .bad

def cExt (P : Program) (fn : Func) : Option Ext :=
  let name := fn.name
  if fn.origin ≠ "" then none
  else if name = "internal/bytealg.IndexByteString" then some .indexByte
  else if name = "internal/bytealg.CountString" then some .count
  else if name = "internal/bytealg.IndexString" then some .index
  else if name = "internal/bytealg.abigen_runtime_cmpstring" then some .cmp
  else if name = "internal/abi.NoEscape" then some .same
  else if name = "internal/bytealg.MakeNoZero" then (match fn.resultTypes[0]? with
    | some t => match und P t with
      | some (.slice e) => if sz P e = some 1 then some (.noZero e) else none
      | _ => none
    | none => none)
  else if name = "maps.clone" then some .mclone
  else none

def cRes (P : Program) (r : ResultVar) : Option ARes :=
  match r with
  | .tmp t => some (.tmp t)
  | .cell a t => (aggN P t).bind fun n => if n = some 0 then none else some (.cell n a)

/-- The slots that a region's operations look at without having been written ahead of it there. -/
def useOps (ops : List Oper) : List Oper → List Nat → List Nat → List Nat
  | [], _, acc => acc
  | o :: l, defd, acc =>
    let us := (o.op.operands.toList.filterMap fun | .tmp t => some t | _ => none) ++ (match o.guard with | some (g, _) => (slotOf ops g).toList | none => [])
    useOps ops l (o.dst.toList ++ defd) (us.filter (fun t => !defd.contains t) ++ acc)

def useCode : Code → List Nat → List Nat
  | .region _ ops _, acc => useOps ops.toList ops.toList [] acc
  | .seq a b, acc => useCode b (useCode a acc)
  | .cond c a b, acc => useCode b (useCode a (match c with | .tmp t => t :: acc | _ => acc))
  | .block _ b, acc => useCode b acc
  | .loop b, acc => useCode b acc
  | .rangeFunc f ps a b, acc => useCode b (useCode a (ps.toList ++ (match f with | .tmp t => t :: acc | _ => acc)))
  | .scope b, acc => useCode b acc
  | _, acc => acc

def keepT (l : List Nat) : T Unit := l.foldl (fun t k => t.set k ()) .e

def argsOf (fn : Func) : Nat := fn.params.size + fn.nfree

def keepOf (fn : Func) (c : Code) : Nat → Bool :=
  let t := keepT (useCode c (fn.results.toList.map fun | .tmp t => t | .cell a _ => a))
  fun k => decide (k < argsOf fn) || (t.get k).isSome

def cFunc (P : Program) (fn : Func) : Option AFunc :=
  match fn.body with
  | some c => do
    let rs ← fn.results.toList.mapM (cRes P)
    pure (.body (argsOf fn) fn.ntmps rs (cCode (keepOf fn c) P fn.ntmps c))
  | none => (cExt P fn).map .ext

def tbl (P : Program) (f : FuncId) : Option AFunc := (P.funcs[f]?).bind (cFunc P)

end Go.Den

/- The abstract interpreter: operations. -/
namespace Go.Den
open Go

def okI (x : Option Int) (k : IntKind) : Option AV := x.map (.int k)

def intBitsV (op : BinOp) (k : IntKind) (x y : Int) : Option Int :=
  let a := BitVec.ofInt k.bits x
  let b := BitVec.ofInt k.bits y
  match op with
  | .and => some (k.wrap (a &&& b).toNat)
  | .or => some (k.wrap (a ||| b).toNat)
  | .xor => some (k.wrap (a ^^^ b).toNat)
  | .andNot => some (k.wrap (a &&& ~~~b).toNat)
  | _ => none

def intBin (op : BinOp) (k : IntKind) (x y : Int) : Option AV :=
  match op with
  | .add => some (.int k (k.wrap (x + y)))
  | .sub => some (.int k (k.wrap (x - y)))
  | .mul => some (.int k (k.wrap (x * y)))
  | .quo => if y = 0 then none else some (.int k (k.wrap (x.tdiv y)))
  | .rem => if y = 0 then none else some (.int k (x.tmod y))
  | .and | .or | .xor | .andNot => okI (intBitsV op k x y) k
  | .eql => some (.bool (x == y))
  | .neq => some (.bool (x != y))
  | .lss => some (.bool (x < y))
  | .leq => some (.bool (x ≤ y))
  | .gtr => some (.bool (x > y))
  | .geq => some (.bool (x ≥ y))
  | _ => none

def shiftV (op : BinOp) (k : IntKind) (x y : Int) : Option AV :=
  if y < 0 then none else
  let n := min y.toNat k.bits
  match op with
  | .shl => some (.int k (k.wrap (x * 2 ^ n)))
  | .shr => some (.int k (x.fdiv (2 ^ n)))
  | _ => none

def strBin (op : BinOp) (x y : List UInt8) : Option AV :=
  match op with
  | .add => if ((x.length + y.length : Nat) : Int) > IntKind.i64.max then none else some (.str (x ++ y))
  | .eql => some (.bool (x == y))
  | .neq => some (.bool !(x == y))
  | .lss => some (.bool (Op.bytesLess x y))
  | .leq => some (.bool (Op.bytesLess x y || x == y))
  | .gtr => some (.bool !(Op.bytesLess x y || x == y))
  | .geq => some (.bool !(Op.bytesLess x y))
  | _ => none

def partOf (cs : List AV) (off : Nat) : Option Nat → Option AV
  | none => cs[off]?
  | some n => if off + n ≤ cs.length then some (.agg ((cs.drop off).take n)) else none

/-- Are two values of a type the same? -/
def eqV : Nat → EqT → AV → AV → Option Bool
  | 0, _, _, _ => none
  | n + 1, q, x, y =>
    match q, x, y with
    | .bool, .bool a, .bool b => some (a == b)
    | .int, .int j a, .int k b => if j = k then some (a == b) else none
    | .str, .str a, .str b => some (a == b)
    | .ptr, .ptr none, .ptr b => some b.isNone
    | .ptr, .ptr (some _), .ptr none => some false
    | .ptr, .ptr (some a), .ptr (some b) => if a.1 = b.1 then some (a.2 == b.2) else none
    | .iface, .nilIface, .nilIface => some true
    | .iface, .nilIface, .iface _ _ => some false
    | .iface, .iface _ _, .nilIface => some false
    | .slice, .slice none _ _, .slice b _ _ => some b.isNone
    | .slice, .slice (some _) _ _, .slice none _ _ => some false
    | .map, .map none, .map b => some b.isNone
    | .map, .map (some _), .map none => some false
    | .func, .nilFunc, .nilFunc => some true
    | .func, .nilFunc, .func _ _ _ => some false
    | .func, .func _ _ _, .nilFunc => some false
    | .parts l, .agg xs, .agg ys => go n l xs ys
    | _, _, _ => none
where
  go : Nat → List (Nat × Option Nat × EqT) → List AV → List AV → Option Bool
    | 0, _, _, _ => none
    | _ + 1, [], _, _ => some true
    | n + 1, (off, k, q) :: l, xs, ys =>
      match partOf xs off k, partOf ys off k with
      | some a, some b => match eqV n q a b with
        | some true => go n l xs ys
        | r => r
      | _, _ => none

def binV (op : BinOp) (q : EqT) (x y : AV) : Option AV :=
  match op, x, y with
  | .shl, .int k a, .int _ b => shiftV .shl k a b
  | .shr, .int k a, .int _ b => shiftV .shr k a b
  | op, .int k a, .int k' b => if k = k' then intBin op k a b else none
  | op, .str a, .str b => strBin op a b
  | .eql, x, y => (eqV 400 q x y).map .bool
  | .neq, x, y => (eqV 400 q x y).map fun b => .bool !b
  | _, _, _ => none

def unV (op : UnOp) (x : AV) : Option AV :=
  match op, x with
  | .neg, .int k n => some (.int k (k.wrap (0 - n)))
  | .xor, .int k n => okI (intBitsV .xor k (if k.signed then -1 else k.max) n) k
  | .not, .bool b => some (.bool !b)
  | _, _ => none

def putsAt (cs : List AV) : Nat → List AV → List AV
  | _, [] => cs
  | i, v :: vs => putsAt (cs.set i v) (i + 1) vs

def fillV (cells : List AV) : List (Nat × Nat × AV) → Option (List AV)
  | [] => some cells
  | (off, s, v) :: rest =>
    if v.cells.length ≠ s ∨ off + v.cells.length > cells.length ∨ !(v.cells.all AV.one) then none
    else fillV (putsAt cells off v.cells) rest

def asI : AV → Option Int
  | .int _ n => some n
  | _ => none

def bound (x : AV) (y : Nat) : Option Nat :=
  match x with
  | .int _ i => if 0 ≤ i ∧ i ≤ y then some i.toNat else none
  | _ => none

/-- low, high, max. -/
def bounds3 (len cap : Nat) (lo hi mx : Option AV) : Option (Nat × Nat × Nat) := do
  let m ← (match mx with | some v => bound v cap | none => some cap)
  let h ← (match hi with | some v => bound v m | none => if mx.isSome ∨ cap < len then none else some len)
  let l ← (match lo with | some v => bound v h | none => some 0)
  pure (l, h, m)

/-- Is the block one whose end is not known? -/
def Me.isOpen (m : Me) (b : Nat) : Bool :=
  match m.get b with
  | some (.cells _ _ _ _ .open_) | some (.cells _ _ _ _ .froz) => true
  | some (.cells ..) => false
  | _ => true

def sliceV (k : SliceK) (x : AV) (lo hi mx : Option AV) : Option AV :=
  match k, x with
  | .str, .str s => do
    if mx.isSome then none else
    let (l, h, _) ← bounds3 s.length s.length lo hi none
    pure (.str ((s.drop l).take (h - l)))
  | .sl z, .slice a len cap => do
    let (l, h, m) ← bounds3 len cap lo hi mx
    match a with
    | none => pure (.slice none (h - l) (m - l))
    | some (b, i, zz) => if zz = z then pure (.slice (some (b, if m = l then i else i + l * z, z)) (h - l) (m - l)) else none
  | _, _ => none

def idxOf (i : AV) (len : Nat) : Option Nat :=
  match i with
  | .int _ n => if 0 ≤ n ∧ n < len then some n.toNat else none
  | _ => none

def mxnV (mx : Bool) : AV → List AV → Option AV
  | v, [] => some v
  | .int k x, .int _ y :: l => mxnV mx (.int k (if mx then (if y > x then y else x) else (if y < x then y else x))) l
  | _, _ :: _ => none

/-- What hangs on nothing but the operands. -/
def pureV (ρ : Opd → AV) (o : AOp) : Option AV :=
  match o with
  | .val x => some (ρ x)
  | .pick c a b => match ρ c with
    | .bool true => some (ρ a)
    | .bool false => some (ρ b)
    | _ => none
  | .build z ps => (fillV z (ps.map fun (off, s, x) => (off, s, ρ x))).map .agg
  | .nilCheck x => match ρ x with
    | .ptr (some a) => some (.ptr (some a))
    | .func (.func f) a b => some (.func (.func f) a b)
    | .func (.yield f) a b => some (.func (.yield f) a b)
    | .bool b => some (.bool b)
    | .slice a n c => some (.slice a n c)
    | .map r => some (.map r)
    | _ => none
  | .bin op q x y => binV op q (ρ x) (ρ y)
  | .un op x => unV op (ρ x)
  | .conv c _ x => match c, ρ x with
    | .i2i k, .int _ n => some (.int k (k.wrap n))
    | .same, .str s => some (.str s)
    | .i2s, .int _ n => some (.str (Utf8.encode n).data.toList)
    | _, _ => none
  | .mkIface t x => some (.iface t (ρ x))
  | .tassert t x => match ρ x with
    | .iface u v => if u = t then some v else none
    | _ => none
  | .mkFunc fn a b => some (.func fn (a.map ρ) (b.map ρ))
  | .slice k x lo hi mx => match k with
    | .arr _ _ => none
    | k => sliceV k (ρ x) (lo.map ρ) (hi.map ρ) (mx.map ρ)
  | .fieldAddr off x => match ρ x with
    | .ptr (some (b, i)) => some (.ptr (some (b, i + off)))
    | _ => none
  | .field off n x => match ρ x with
    | .agg cs => partOf cs off n
    | _ => none
  | .idxArr len z x i => match ρ x with
    | .ptr (some (b, j)) => (idxOf (ρ i) len).map fun k => .ptr (some (b, j + k * z))
    | _ => none
  | .idxSl z x i => match ρ x with
    | .slice (some (b, j, _)) len _ => (idxOf (ρ i) len).map fun k => .ptr (some (b, j + k * z))
    | _ => none
  | .ixArr len z n x i => match ρ x with
    | .agg cs => (idxOf (ρ i) len).bind fun k => partOf cs (k * z) n
    | _ => none
  | .ixStr x i => match ρ x with
    | .str s => (idxOf (ρ i) s.length).bind fun k => (s[k]?).map fun b => .int .u8 b.toNat
    | _ => none
  | .extract x i => match ρ x with
    | .tuple vs => vs[i]?
    | _ => none
  | .lenStr x => match ρ x with
    | .str s => some (.int .i64 s.length)
    | _ => none
  | .lenSl x => match ρ x with
    | .slice _ n _ => some (.int .i64 n)
    | _ => none
  | .lenArr n => some (.int .i64 n)
  | .cap x => match ρ x with
    | .slice none _ c => some (.int .i64 c)
    | _ => none
  | .mxn mx l => match l.map ρ with
    | v :: vs => mxnV mx v vs
    | [] => none
  | .usd x => match ρ x with
    | .slice none _ _ => some (.ptr none)
    | .slice (some (b, i, _)) _ c => if c = 0 then none else some (.ptr (some (b, i)))
    | _ => none
  | _ => none

def Ob.cell (o : Ob) (i : Nat) : Option AV :=
  match o with
  | .cells t size d _ _ => if i < size then (match t.get i with | some v => some v | none => d) else none
  | _ => none

def Ob.cellsFrom (o : Ob) (i : Nat) : Nat → Option (List AV)
  | 0 => some []
  | n + 1 => match o.cell i with
    | some v => (o.cellsFrom (i + 1) n).map (v :: ·)
    | none => none

def Ob.loadV (o : Ob) (i : Nat) (n : Option Nat) : Option AV :=
  match n with
  | none => o.cell i
  | some n => (o.cellsFrom i n).map .agg

def bytesV : List AV → Option (List UInt8)
  | [] => some []
  | .int .u8 n :: l => (bytesV l).map (UInt8.ofNat n.toNat :: ·)
  | _ :: _ => none

def findV (q : EqT) (k : AV) : List (AV × AV × Nat) → Nat → Option (Option (Nat × AV))
  | [], _ => some none
  | (k', v, _) :: es, i => match eqV 400 q k k' with
    | some true => some (some (i, v))
    | some false => findV q k es (i + 1)
    | none => none

/-- May a value be a key? (Of an aggregate it is asked whether all its parts are there.) -/
def keyOk (q : EqT) (k : AV) : Bool :=
  match q with
  | .parts _ => eqV 400 q k k == some true
  | _ => true

def flatV : AV → Bool
  | .bool _ | .int _ _ | .str _ => true
  | _ => false

/-- Are a key and the one that is there the same to the bit? -/
def keySame (q : EqT) (k k0 : AV) : Bool :=
  match q with
  | .parts _ => match k, k0 with
    | .agg a, .agg b => AV.beqs a b && a.all flatV
    | _, _ => false
  | _ => true

def keyAt (es : List (AV × AV × Nat)) (i : Nat) : AV := ((es[i]?).map (·.1)).getD .unk

/-- What reads memory and leaves it as it is. -/
def readV (ρ : Opd → AV) (m : Me) (o : AOp) : Option AV :=
  match o with
  | .load n a => match ρ a with
    | .ptr (some (b, i)) => match m.get b with
      | some ob => ob.loadV i n
      | none => none
    | _ => none
  | .conv .b2s _ x => match ρ x with
    | .slice none _ _ => some (.str [])
    | .slice (some (b, i, _)) n _ => if n = 0 then some (.str []) else match m.get b with
      | some ob => ((ob.cellsFrom i n).bind bytesV).map .str
      | none => none
    | _ => none
  | .conv (.uptr n) el x => match ρ x with
    | .ptr none => some (.ptr none)
    | .ptr (some (b, i)) => match m.get b with
      | some (.cells _ size _ el' .own) => if el = el' ∧ i = 0 ∧ n ≤ size then some (.ptr (some (b, i))) else none
      | _ => none
    | _ => none
  | .slice (.arr n z) x lo hi mx => match ρ x with
    | .ptr (some (b, i)) => match m.get b with
      | some (.cells _ _ _ _ md) => if md = .own ∨ md = .ro then (match bounds3 n n (lo.map ρ) (hi.map ρ) (mx.map ρ) with
          | some (l, h, m) => some (.slice (some (b, if m = l then i else i + l * z, z)) (h - l) (m - l))
          | none => none) else none
      | _ => none
    | _ => none
  | .lookup q zero ok mp k => match ρ mp with
    | .map none => if keyOk q (ρ k) then some (if ok then .tuple [zero, .bool false] else zero) else none
    | .map (some r) => if !keyOk q (ρ k) then none else match m.get r with
      | some (.map es _) => match findV q (ρ k) es 0 with
        | some (some (_, v)) => some (if ok then .tuple [v, .bool true] else v)
        | some none => some (if ok then .tuple [zero, .bool false] else zero)
        | none => none
      | _ => none
    | _ => none
  | .mapLen mp => match ρ mp with
    | .map none => some (.int .i64 0)
    | .map (some r) => match m.get r with
      | some (.map es _) => some (.int .i64 es.length)
      | _ => none
    | _ => none
  | .entry x => match ρ x with
    | .ptr (some (r, 0)) => match m.get r with
      | some (.miter (some mp) _ seen last) => match m.get mp, seen.getLast? with
        | some (.map es clock), some st =>
          if clock = last then (match es.find? (fun e => e.2.2 == st) with
            | some e => some (.tuple [e.1, e.2.1])
            | none => none)
          else none
        | _, _ => none
      | _ => none
    | _ => none
  | _ => none

def ownOb (el : TypeId) (cs : List AV) : Ob := .cells (T.puts .e 0 cs) cs.length none el .own

/-- What makes one block. -/
def allocV (ρ : Opd → AV) (o : AOp) : Option (Ob × (Nat → AV)) :=
  match o with
  | .box el x => if (ρ x).cells.all AV.one then some (ownOb el (ρ x).cells, fun b => .ptr (some (b, 0))) else none
  | .zbox el z => some (ownOb el z, fun b => .ptr (some (b, 0)))
  | .buildSlice el s z len ps => (fillV z (ps.map fun (off, s, x) => (off, s, ρ x))).map fun cs => (ownOb el cs, fun b => .slice (some (b, 0, s)) len len)
  | .mkMap => some (.map [] 0, fun b => .map (some b))
  | .mkSlice el s bytes z l c => match ρ l, ρ c with
    | .int _ l, .int _ c =>
      if 0 ≤ l ∧ l ≤ c ∧ bytes * c ≤ 2 ^ 48 ∧ c ≤ 2 ^ 48 then
        match z with
        | [v] => some (.cells .e c.toNat (some v) el .own, fun b => .slice (some (b, 0, s)) l.toNat c.toNat)
        | _ => match z with
          | v :: _ => if z.all (fun u => AV.beq u v) then some (.cells .e (c.toNat * z.length) (some v) el .own, fun b => .slice (some (b, 0, s)) l.toNat c.toNat)
            else if c ≤ 4096 then some (ownOb el (repl z c.toNat), fun b => .slice (some (b, 0, s)) l.toNat c.toNat) else none
          | [] => none
      else none
    | _, _ => none
  | .rangeStr x => match ρ x with
    | .str s => some (.siter s 0, fun b => .ptr (some (b, 0)))
    | _ => none
  | .conv .s2b el x => match ρ x with
    | .str s => if s.length ≤ 2 ^ 40 then some (.cells (T.puts .e 0 (s.map fun b => .int .u8 b.toNat)) s.length none el .open_, fun b => .slice (some (b, 0, 1)) s.length s.length) else none
    | _ => none
  | _ => none

/-- A range over a map: it needs the map's clock. -/
def rangeMapV (ρ : Opd → AV) (m : Me) (x : Opd) : Option Ob :=
  match ρ x with
  | .map none => some (.miter none 0 [] 0)
  | .map (some r) => match m.get r with
    | some (.map _ clock) => some (.miter (some r) clock [] clock)
    | _ => none
  | _ => none

def Ob.putCells (o : Ob) (i : Nat) (vs : List AV) : Option Ob :=
  match o with
  | .cells t size d el md =>
    if i + vs.length ≤ size ∧ vs.all AV.one then
      match md with
      | .own | .open_ => some (.cells (t.puts i vs) size d el md)
      | _ => none
    else none
  | _ => none

def storeV (ρ : Opd → AV) (m : Me) (n : Nat) (a x : Opd) : Option Me :=
  match ρ a with
  | .ptr (some (b, i)) =>
    if (ρ x).cells.length ≠ n then none else
    match m.get b with
    | some ob => (ob.putCells i (ρ x).cells).map (m.put b ·)
    | none => none
  | _ => none

/-- A text's, or a slice's, first elements as cells. -/
def firstV (m : Me) (z n : Nat) (x : AV) : Option (List AV) :=
  match x with
  | .str s => if z = 1 then some ((s.take n).map fun b => .int .u8 b.toNat) else none
  | .slice none _ _ => if n = 0 then some [] else none
  | .slice (some (b, i, _)) _ _ => if n = 0 then some [] else match m.get b with
    | some ob => ob.cellsFrom i (n * z)
    | none => none
  | _ => none

def lenV : AV → Option Nat
  | .str s => some s.length
  | .slice _ n _ => some n
  | _ => none

def appendV (m : Me) (el : TypeId) (bytes z : Nat) (s x : AV) : Option (AV × Me) := do
  let n ← lenV x
  match s with
  | .slice base len cap =>
    let need := len + n
    let new ← firstV m z n x
    if need ≤ cap then
      match base with
      | none => pure (.slice none need cap, m)
      | some (b, i, zz) =>
        if n = 0 then pure (.slice (some (b, i, zz)) need cap, m) else
        if zz ≠ z then none else
        match m.get b with
        | some ob => do
          let ob' ← ob.putCells (i + len * z) new
          pure (.slice (some (b, i, z)) need cap, m.put b ob')
        | none => none
    else if (2 * need + 768) * bytes > 2 ^ 48 ∨ need > 2 ^ 48 ∨ !(new.all AV.one) then none
    else match base with
      | none => if len ≠ 0 then none else pure (.slice (some (m.nx, 0, z)) need need, m.new (.cells (T.puts .e 0 new) (need * z) none el .open_))
      | some (b, i, zz) => if zz ≠ z then none else match m.get b with
        | some (.cells t size d el' md) =>
          match md with
          | .own | .ro => do
            let old ← (Ob.cells t size d el' md).cellsFrom i (len * z)
            pure (.slice (some (m.nx, 0, z)) need need, m.new (.cells (T.puts .e 0 (old ++ new)) (need * z) none el .open_))
          | .open_ =>
            if el' ≠ el then none else
            if i = 0 ∧ len * z = size then
              pure (.slice (some (m.nx, 0, z)) need need, (m.put b .dead).new (.cells (t.puts size new) (need * z) d el .open_))
            else do
              let old ← (Ob.cells t size d el' md).cellsFrom i (len * z)
              pure (.slice (some (m.nx, 0, z)) need need, (m.put b .dead).new (.cells (T.puts .e 0 (old ++ new)) (need * z) none el .open_))
          | .froz => none
        | _ => none
  | _ => none

def copyV (m : Me) (z : Nat) (d s : AV) : Option (AV × Me) := do
  let k ← lenV s
  match d with
  | .slice base len _ =>
    let n := Nat.min k len
    let cs ← firstV m z n s
    if n = 0 then pure (.int .i64 0, m) else
    match base with
    | none => none
    | some (b, i, _) => match m.get b with
      | some ob => do
        let ob' ← ob.putCells i cs
        pure (.int .i64 n, m.put b ob')
      | none => none
  | _ => none

def modAt {α : Type} (f : α → α) : Nat → List α → List α
  | _, [] => []
  | 0, x :: xs => f x :: xs
  | i + 1, x :: xs => x :: modAt f i xs

def mapPutV (m : Me) (q : EqT) (mp k v : AV) : Option Me :=
  match mp with
  | .map (some r) => if !keyOk q k then none else match m.get r with
    | some (.map es clock) => match findV q k es 0 with
      | some (some (i, _)) => if keySame q k (keyAt es i) then some (m.put r (.map (modAt (fun e => (k, v, e.2.2)) i es) clock)) else none
      | some none => some (m.put r (.map (es ++ [(k, v, clock)]) (clock + 1)))
      | none => none
    | _ => none
  | _ => none

def mapDelV (m : Me) (q : EqT) (mp k : AV) : Option Me :=
  match mp with
  | .map none => if keyOk q k then some m else none
  | .map (some r) => if !keyOk q k then none else match m.get r with
    | some (.map es clock) => match findV q k es 0 with
      | some (some (i, _)) => some (m.put r (.map (es.eraseIdx i) clock))
      | some none => some m
      | none => none
    | _ => none
  | _ => none

def nextStrV (m : Me) (x : AV) : Option (AV × Me) :=
  match x with
  | .ptr (some (r, 0)) => match m.get r with
    | some (.siter s pos) =>
      if pos < s.length then
        let cw := Utf8.decode ⟨⟨s⟩⟩ pos
        some (.tuple [.bool true, .int .i64 pos, .int .i32 cw.1], m.put r (.siter s (pos + cw.2)))
      else some (.tuple [.bool false], m)
    | _ => none
  | _ => none

def nextMapV (m : Me) (x : AV) : Option (AV × Me) :=
  match x with
  | .ptr (some (r, 0)) => match m.get r with
    | some (.miter none _ _ _) => some (.tuple [.bool false], m)
    | some (.miter (some mp) since seen last) => match m.get mp with
      | some (.map es clock) =>
        if !seen.isEmpty && !es.isEmpty && es.all (fun e => decide (e.2.2 ≥ last)) then none else
        let left := es.filter fun e => !seen.contains e.2.2
        match left with
        | [] => some (.tuple [.bool false], m)
        | [e] => if e.2.2 < since then some (.tuple [.bool true, e.1, e.2.1], m.put r (.miter (some mp) since (seen ++ [e.2.2]) clock)) else none
        | _ => none
      | _ => none
    | _ => none
  | _ => none

/-- What changes memory, calls apart. -/
def effV (ρ : Opd → AV) (m : Me) (o : AOp) : Option (AV × Me) :=
  match o with
  | .append el bytes z _ s x => appendV m el bytes z (ρ s) (ρ x)
  | .copy z d s => copyV m z (ρ d) (ρ s)
  | .rangeMap x => (rangeMapV ρ m x).map fun ob => (.ptr (some (m.nx, 0)), m.new ob)
  | .mapPut q mp k v => (mapPutV m q (ρ mp) (ρ k) (ρ v)).map fun m => (.undef, m)
  | .mapDel q mp k => (mapDelV m q (ρ mp) (ρ k)).map fun m => (.undef, m)
  | .mapEntry q zero mp k => match ρ mp with
    | .map (some r) => if !keyOk q (ρ k) then none else match m.get r with
      | some (.map es clock) => match findV q (ρ k) es 0 with
        | some (some (i, v)) => if keySame q (ρ k) (keyAt es i) then some (.tuple [v, .int .i64 (((es[i]?).map (·.2.2)).getD 0)], m.put r (.map (modAt (fun e => (ρ k, e.2)) i es) clock)) else none
        | some none => some (.tuple [zero, .int .i64 clock], m.put r (.map (es ++ [(ρ k, zero, clock)]) (clock + 1)))
        | none => none
      | _ => none
    | _ => none
  | .entryStore mp s v => match ρ mp, ρ s with
    | .map (some r), .int _ st => match m.get r with
      | some (.map es clock) => match es.findIdx? (fun e => (e.2.2 : Int) == st) with
        | some i => some (.undef, m.put r (.map (modAt (fun e => (e.1, ρ v, e.2.2)) i es) clock))
        | none => none
      | _ => none
    | _, _ => none
  | .mapClear mp => match ρ mp with
    | .map none => some (.undef, m)
    | .map (some r) => match m.get r with
      | some (.map _ clock) => some (.undef, m.put r (.map [] clock))
      | _ => none
    | _ => none
  | .clearSl zero x => match ρ x with
    | .slice none _ _ => some (.undef, m)
    | .slice (some (b, i, _)) n _ => if n = 0 then some (.undef, m) else match m.get b with
      | some ob => (ob.putCells i (repl zero n)).map fun ob => (.undef, m.put b ob)
      | none => none
    | _ => none
  | .nextStr x => nextStrV m (ρ x)
  | .nextMap x => nextMapV m (ρ x)
  | .ustr el x n => match ρ x, ρ n with
    | .ptr none, .int _ 0 => some (.str [], m)
    | .ptr (some (b, i)), .int _ n =>
      if n = 0 then some (.str [], m) else
      if n < 0 ∨ n > 2 ^ 48 then none else
      match m.get b with
      | some (.cells t size d el' .open_) =>
        if el ≠ el' then none else
        match ((Ob.cells t size d el' .open_).cellsFrom i n.toNat).bind bytesV with
        | some s => some (.str s, m.put b (.cells t size d el' .froz))
        | none => none
      | _ => none
    | _, _ => none
  | _ => none

def byteAV (v : AV) : Option UInt8 :=
  match v with
  | .int .u8 n => some (UInt8.ofNat n.toNat)
  | _ => none

def findIdxV (p : UInt8 → Bool) : List UInt8 → Nat → Int
  | [], _ => -1
  | c :: l, i => if p c then i else findIdxV p l (i + 1)

def extV (x : Ext) (args : List AV) (m : Me) : Option (AV × Me) :=
  match x, args with
  | .indexByte, [.str s, c] => (byteAV c).map fun c => (.int .i64 (findIdxV (· == c) s 0), m)
  | .count, [.str s, c] => (byteAV c).map fun c => (.int .i64 ((s.filter (· == c)).length : Nat), m)
  | .cmp, [.str a, .str b] => some (.int .i64 (if Op.bytesLess a b then -1 else if a == b then 0 else 1), m)
  | .same, [v] => some (v, m)
  | .mclone, [.iface t (.map (some r))] => match m.get r with
    | some (.map es clock) => some (.iface t (.map (some m.nx)), m.new (.map es clock))
    | _ => none
  | .noZero el, [.int .i64 n] => if 0 ≤ n ∧ n ≤ 2 ^ 48 then some (.slice (some (m.nx, 0, 1)) n.toNat n.toNat, m.new (.cells .e n.toNat none el .open_)) else none
  | _, _ => none

end Go.Den

/- The abstract interpreter: code and calls. -/
namespace Go.Den
open Go

inductive Ex where
  | nrm | exit (id : Nat) | ret
  deriving Inhabited

structure St where
  fr : T AV
  ds : List Nat
  m : Me
  deriving Inhabited

abbrev Env := List (Nat × AV)

def Env.get : Env → Nat → AV
  | [], _ => .unk
  | (k, v) :: e, t => if k = t then v else Env.get e t

/-- What an operand is, by a region's own slots and the frame's. -/
def look (e : Env) (fr : T AV) : Opd → AV
  | .tmp t => (fr.get t).getD .unk
  | .loc t => e.get t
  | .const v => v
  | .global g => .ptr (some (g, 0))
  | .func f => .func (.func f) [] []

/-- Is an operation wanted? none: that is not known. -/
def wantedV (e : Env) (fr : T AV) (g : Option (Opd × Bool)) : Option Bool :=
  match g with
  | none => some true
  | some (x, want) => match look e fr x with
    | .bool b => some (b == want)
    | .unk => none
    | _ => some false

def putE (e : Env) (dst : Option (Bool × Nat)) (v : AV) : Env :=
  match dst with
  | some (false, d) => (d, v) :: e
  | _ => e

def putV (fr : T AV) (dst : Option (Bool × Nat)) (v : AV) : T AV :=
  match dst with
  | some (true, d) => fr.set d v
  | _ => fr

abbrev CallF := FuncId → List AV → Me → Option (AV × Me)

/-- One operation that is no call. -/
def simpleV (ρ : Opd → AV) (m : Me) (o : AOp) : Option (AV × Me) :=
  match o.cls with
  | .pure => (pureV ρ o).map fun v => (v, m)
  | .read => (readV ρ m o).map fun v => (v, m)
  | .alloc => (allocV ρ o).map fun (ob, f) => (f m.nx, m.new ob)
  | .store => match o with
    | .store n a x => (storeV ρ m n a x).map fun m => (.undef, m)
    | _ => none
  | .eff => effV ρ m o

/-- A function value's call. -/
def targetV (callF : CallF) (round : Nat → List AV → Me → Option (AV × Me)) (f : AV) (args : List AV) (m : Me) : Option (AV × Me) :=
  match f with
  | .func (.func g) first cap => callF g (first ++ args ++ cap) m
  | .func (.yield l) first _ => round l (first ++ args) m
  | _ => none

def operV (callF : CallF) (round : Nat → List AV → Me → Option (AV × Me)) (ρ : Opd → AV) (m : Me) (o : AOp) : Option (AV × Me) :=
  match o with
  | .call f args => targetV callF round (ρ f) (args.map ρ) m
  | .invoke .. => none
  | o => simpleV ρ m o

def opsV (callF : CallF) (round : Nat → List AV → Me → Option (AV × Me)) : List AOper → Env → T AV → Me → Option (T AV × Me)
  | [], _, fr, m => some (fr, m)
  | o :: l, e, fr, m =>
    match wantedV e fr o.guard with
    | some true => match operV callF round (look e fr) m o.op with
      | some (v, m) => opsV callF round l (putE e o.dst v) (putV fr o.dst v) m
      | none => none
    | some false => opsV callF round l (putE e o.dst .undef) (putV fr o.dst .undef) m
    | none => none

/-- A read that has been answered, and may be asked again behind so many effects. -/
structure Rd where
  n : Nat
  op : AOp
  e : Env
  fr : T AV
  v : AV

def againV (m : Me) (r : Rd) : Bool :=
  match readV (look r.e r.fr) m r.op with
  | some v => AV.beq v r.v
  | none => false

def nextR (rds : List Rd) : List Rd := (rds.filter (fun r => 1 < r.n)).map fun r => { r with n := r.n - 1 }

/-- 'mh': memory behind the last effect; 'old': what it was ahead of each of them. -/
def drawV (callF : CallF) (round : Nat → List AV → Me → Option (AV × Me)) : List AOper → Env → T AV → Me → Me → List Me → List Rd → Option (T AV × Me)
  | [], _, fr, m, _, _, _ => some (fr, m)
  | o :: l, e, fr, m, mh, old, rds =>
    match wantedV e fr o.guard with
    | some true => match operV callF round (look e fr) m o.op with
      | some (v, m') =>
        match o.op.cls with
        | .read => if (old.take o.early).all (fun x => againV x ⟨0, o.op, e, fr, v⟩) then
            drawV callF round l (putE e o.dst v) (putV fr o.dst v) m' mh old (if o.late = 0 then rds else ⟨o.late, o.op, e, fr, v⟩ :: rds)
          else none
        | .eff | .store => if rds.all (againV m') then drawV callF round l (putE e o.dst v) (putV fr o.dst v) m' m' (mh :: old) (nextR rds) else none
        | _ => drawV callF round l (putE e o.dst v) (putV fr o.dst v) m' mh old rds
      | none => none
    | some false =>
      if heavyC o.op.cls then
        if rds.all (againV m) then drawV callF round l (putE e o.dst .undef) (putV fr o.dst .undef) m m (mh :: old) (nextR rds) else none
      else drawV callF round l (putE e o.dst .undef) (putV fr o.dst .undef) m mh old rds
    | none => none

def Me.loop (m : Me) (l : Nat) : Option Lp :=
  match m.get l with
  | some (.loop p) => some p
  | _ => none

def putAll (fr : T AV) : List Nat → List AV → T AV
  | t :: ts, v :: vs => putAll (fr.set t v) ts vs
  | _, _ => fr

/-- A loop is entered: the block for deferred calls is made, if it is the outermost one. -/
def enterV (rd : Option Nat) (s : St) : Option (Nat × List Nat × Me) :=
  match rd with
  | some l => match s.m.loop l with
    | some p => some (p.defers, s.ds, s.m)
    | none => none
  | none => some (s.m.nx, s.m.nx :: s.ds, s.m.new (.dfr true))

mutual
/-- 'isB': is the function one with a body? -/
def exec (isB : FuncId → Bool) (callF : CallF) : Nat → Option Nat → FuncId → ACode → St → Option (Ex × St)
  | 0, _, _, _, _ => none
  | n + 1, rd, fn, c, s =>
    match c with
    | .skip => some (.nrm, s)
    | .ops l => match opsV callF (roundV isB callF n) l [] s.fr s.m with
      | some (fr, m) => some (.nrm, { s with fr := fr, m := m })
      | none => none
    | .draw l => match drawV callF (roundV isB callF n) l [] s.fr s.m s.m [] [] with
      | some (fr, m) => some (.nrm, { s with fr := fr, m := m })
      | none => none
    | .seq a b => match exec isB callF n rd fn a s with
      | some (.nrm, s) => exec isB callF n rd fn b s
      | r => r
    | .cond x a b => match look [] s.fr x with
      | .bool true => exec isB callF n rd fn a s
      | .bool false => exec isB callF n rd fn b s
      | _ => none
    | .block id b => match exec isB callF n rd fn b s with
      | some (.exit i, s) => if i = id then some (.nrm, s) else some (.exit i, s)
      | r => r
    | .loop b => match exec isB callF n rd fn b s with
      | some (.nrm, s) => exec isB callF n rd fn c s
      | r => r
    | .exit id => some (.exit id, s)
    | .ret => some (.ret, s)
    | .rangeFunc f ps a b =>
      match enterV rd s with
      | none => none
      | some (dn, ds, m) =>
        match look [] s.fr f with
        | .func (.func g) first cap =>
          if !isB g then none else
          match callF g (first ++ [.func (.yield m.nx) [] []] ++ cap) (m.new (.loop { state := .ready, pend := none, fn := fn, fr := s.fr, params := ps, assign := a, body := b, defers := dn })) with
          | some (_, m') => match m'.loop m.nx with
            | some p =>
              if p.state = .busy then none else
              match p.pend with
              | none => some (.nrm, { fr := s.fr, ds := ds, m := m'.put m.nx (.loop { p with state := .exhausted }) })
              | some c => exec isB callF n rd fn c { fr := s.fr, ds := ds, m := m'.put m.nx (.loop { p with state := .exhausted }) }
            | none => none
          | none => none
        | _ => none
    | .bad => none
def roundV (isB : FuncId → Bool) (callF : CallF) : Nat → Nat → List AV → Me → Option (AV × Me)
  | 0, _, _, _ => none
  | n + 1, l, args, m =>
    match m.loop l with
    | none => none
    | some p =>
      if args.length ≠ p.params.length then none else
      match exec isB callF n (some l) p.fn p.assign { fr := putAll p.fr p.params args, ds := [], m := m } with
      | some (.nrm, s) => match s.m.loop l with
        | none => none
        | some p2 =>
          if p2.state ≠ .ready then none else
          match exec isB callF n (some l) p.fn p.body { s with m := s.m.put l (.loop { p2 with state := .busy }) } with
          | some (e, s) =>
            if !s.ds.isEmpty then none else
            match s.m.loop l with
            | none => none
            | some p3 =>
              let jump : Option ACode := match e with | .nrm => none | .exit i => some (.exit i) | .ret => some .ret
              some (.bool jump.isNone, s.m.put l (.loop { p3 with state := if jump.isNone then .ready else .done, pend := jump }))
          | none => none
      | _ => none
end

def resV (fr : T AV) (m : Me) : List ARes → Option (List AV)
  | [] => some []
  | .tmp t :: l => (resV fr m l).map fun vs => (fr.get t).getD .unk :: vs
  | .cell n a :: l => match readV (look [] fr) m (.load n (.tmp a)) with
    | some v => (resV fr m l).map (v :: ·)
    | none => none

def takeDs (m : Me) : List Nat → Option Me
  | [] => some m
  | d :: ds => match m.get d with
    | some (.dfr true) => takeDs (m.put d (.dfr false)) ds
    | _ => none

def callV (F : FuncId → Option AFunc) (fuel : Nat) : Nat → FuncId → List AV → Me → Option (AV × Me)
  | 0, _, _, _ => none
  | d + 1, f, args, m =>
    match F f with
    | none => none
    | some (.ext x) => extV x args m
    | some (.body na _ rs c) =>
      if na < args.length then none else
      match exec (fun g => match F g with | some (.body ..) => true | _ => false) (callV F fuel d) fuel none f c { fr := T.puts .e 0 args, ds := [], m := m } with
      | some (e, s) =>
        match e with
        | .exit _ => none
        | _ => match takeDs s.m s.ds with
          | some m => match resV s.fr m rs with
            | some [v] => some (v, m)
            | some vs => some (.tuple vs, m)
            | none => none
          | none => none
      | none => none

end Go.Den
