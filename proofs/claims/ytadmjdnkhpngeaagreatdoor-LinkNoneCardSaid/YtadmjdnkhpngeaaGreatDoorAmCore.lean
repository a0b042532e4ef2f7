/-
  A small abstract machine for Go code: values with named blocks in place of addresses, no tape, no capacities.
-/
import GoSem.Step
namespace Go.Am

/-! ### A map from numbers, as a tree -/

inductive Tr (α : Type) where
  | nil
  | node (v : Option α) (l r : Tr α)

namespace Tr
variable {α : Type}

def get : Tr α → Nat → Option α
  | nil, _ => none
  | node v l r, n => bif Nat.beq n 0 then v else bif Nat.beq (n % 2) 1 then l.get (n / 2) else r.get (n / 2 - 1)

def leaf (v : α) : Nat → Nat → Tr α
  | 0, _ => node (some v) nil nil
  | f + 1, n => bif Nat.beq n 0 then node (some v) nil nil else bif Nat.beq (n % 2) 1 then node none (leaf v f (n / 2)) nil else node none nil (leaf v f (n / 2 - 1))

def set (v : α) : Tr α → Nat → Tr α
  | nil, n => leaf v n n
  | node u l r, n => bif Nat.beq n 0 then node (some v) l r else bif Nat.beq (n % 2) 1 then node u (l.set v (n / 2)) r else node u l (r.set v (n / 2 - 1))

end Tr

/-! ### Values, blocks -/

inductive AV where
  | bool (b : Bool)
  | int (k : IntKind) (n : Int)
  | str (s : List Nat)
  | ptr (id off : Nat)
  | nilp
  | slice (id off len sz : Nat)
  | nils
  | map (id : Nat)
  | nilm
  | func (f : Nat) (cap : List AV)
  | nilf
  | iface (t : Nat) (v : AV)
  | nili
  | agg (l : List AV)
  | tup (l : List AV)

inductive Blk where
  | cells (l : List AV) (ro : Bool)
  | siter (s : List Nat) (pos : Nat)
  | smap (es : List (AV × AV))
  | dead

abbrev Hp := Tr Blk

inductive Lg where
  | e
  | r (id : Nat)
  | w (id : Nat)
  | app (a b : Lg)

/-! ### Code -/

inductive Opd where
  | tmp (t : Nat)
  | const (v : AV)
  | glob (g : Nat)

inductive Conv where
  | toInt (k : IntKind)
  | same
  | strBytes
  | bytesStr
  | runesStr
  | intStr
  | sliceSame

/-- What kind of type stands at an operation. -/
inductive EK where
  | bool | ptr | slice | map | func | iface | str

inductive AK where
  | move (x : Opd)
  | pick (c a b : Opd)
  | alloc (zero : List AV)
  | box (x : Opd)
  | build (zero : List AV) (parts : List (Nat × Nat × Opd))
  | buildSlice (sz len : Nat) (zero : List AV) (parts : List (Nat × Nat × Opd))
  | load (agg : Bool) (n : Nat) (x : Opd)
  | store (n : Nat) (x v : Opd)
  | nilCheck (x : Opd)
  | bin (op : BinOp) (x y : Opd)
  | eqk (k : EK) (neg : Bool) (x y : Opd)
  | binAgg (neg : Bool) (offs : List (Nat × Nat)) (x y : Opd)
  | un (op : UnOp) (x : Opd)
  | conv (c : Conv) (x : Opd)
  | makeIface (t : Nat) (x : Opd)
  | makeFunc (f : Nat) (cap : List Opd)
  | makeSlice (sz bytes : Nat) (zero : List AV) (l c : Opd)
  | sliceStr (x : Opd) (lo hi : Option Opd)
  | sliceSlc (sz : Nat) (x : Opd) (lo hi : Option Opd)
  | sliceArr (sz n : Nat) (x : Opd) (lo hi : Option Opd)
  | fieldAddr (off : Nat) (x : Opd)
  | field (agg : Bool) (off n : Nat) (x : Opd)
  | indexAddrS (sz : Nat) (x i : Opd)
  | indexAddrA (sz n : Nat) (x i : Opd)
  | indexA (agg : Bool) (sz n : Nat) (x i : Opd)
  | indexS (x i : Opd)
  | range (x : Opd)
  | next (x : Opd)
  | typeAssert (t : Nat) (commaOk : Bool) (zero : AV) (x : Opd)
  | extract (x : Opd) (i : Nat)
  | callF (f : Nat) (args : List Opd)
  | callV (x : Opd) (args : List Opd)
  | len (k : EK) (x : Opd)
  | cap (x : Opd)
  | appendZ (sz bytes : Nat) (zero : List AV) (x n : Opd)
  | append (sz : Nat) (bytes : Nat) (x y : Opd)
  | copy (sz : Nat) (x y : Opd)
  | min (xs : List Opd)
  | max (xs : List Opd)
  | clear (sz : Nat) (zero : List AV) (x : Opd)
  | bad

structure AOp where
  dst : Option Nat
  k : AK
  guard : Option (Nat × Bool)

inductive ACode where
  | skip
  | region (ops : List AOp) (ord : Option (List Nat))
  | seq (a b : ACode)
  | cond (c : Opd) (a b : ACode)
  | block (id : Nat) (b : ACode)
  | loop (b : ACode)
  | exit (id : Nat)
  | ret

inductive ARes where
  | tmp (t : Nat)
  | cell (t n : Nat) (agg : Bool)

structure AFn where
  ntmps : Nat
  results : List ARes
  body : ACode

/-! ### Small functions -/

def iltB : Int → Int → Bool
  | .ofNat a, .ofNat b => Nat.blt a b
  | .negSucc _, .ofNat _ => true
  | .ofNat _, .negSucc _ => false
  | .negSucc a, .negSucc b => Nat.blt b a

def ieqB : Int → Int → Bool
  | .ofNat a, .ofNat b => Nat.beq a b
  | .negSucc a, .negSucc b => Nat.beq a b
  | _, _ => false

def smallF : IntKind → Nat → Bool
  | .i8, n => Nat.blt n 128
  | .i16, n => Nat.blt n 32768
  | .i32, n => Nat.blt n 2147483648
  | .i64, n => Nat.blt n 9223372036854775808
  | .u8, n => Nat.blt n 256
  | .u16, n => Nat.blt n 65536
  | .u32, n => Nat.blt n 4294967296
  | .u64, n => Nat.blt n 18446744073709551616

def wrapF (k : IntKind) (n : Int) : Int :=
  match n with
  | .ofNat m => bif smallF k m then .ofNat m else k.wrap (.ofNat m)
  | .negSucc m => k.wrap (.negSucc m)

def bitsF (op : BinOp) (k : IntKind) (x y : Int) : Option Int :=
  match x, y with
  | .ofNat a, .ofNat b =>
    match op with
    | .and => some (wrapF k (.ofNat (Nat.land a b)))
    | .or => some (wrapF k (.ofNat (Nat.lor a b)))
    | .xor => some (wrapF k (.ofNat (Nat.xor a b)))
    | .andNot => some (wrapF k (.ofNat (Nat.xor a (Nat.land a b))))
    | _ => none
  | _, _ =>
    let a := BitVec.ofInt k.bits x
    let b := BitVec.ofInt k.bits y
    match op with
    | .and => some (k.wrap (a &&& b).toNat)
    | .or => some (k.wrap (a ||| b).toNat)
    | .xor => some (k.wrap (a ^^^ b).toNat)
    | .andNot => some (k.wrap (a &&& ~~~b).toNat)
    | _ => none

def shiftF (op : BinOp) (k : IntKind) (x y : Int) : Option Int :=
  bif iltB y 0 then none else
  let n := Nat.min y.toNat k.bits
  match op with
  | .shl => some (wrapF k (x * 2 ^ n))
  | .shr => match x with
    | .ofNat a => some (.ofNat (Nat.div a (2 ^ n)))
    | .negSucc a => some ((Int.negSucc a).fdiv (2 ^ n))
  | _ => none

def kindEq : IntKind → IntKind → Bool
  | .i8, .i8 | .i16, .i16 | .i32, .i32 | .i64, .i64 | .u8, .u8 | .u16, .u16 | .u32, .u32 | .u64, .u64 => true
  | _, _ => false

/-- Bytes, equal as bytes. -/
def seqB : List Nat → List Nat → Bool
  | [], [] => true
  | a :: x, b :: y => Nat.beq (a % 256) (b % 256) && seqB x y
  | _, _ => false

def intBin (op : BinOp) (k : IntKind) (x y : Int) : Option AV :=
  match op with
  | .add => some (.int k (wrapF k (x + y)))
  | .sub => some (.int k (wrapF k (x - y)))
  | .mul => some (.int k (wrapF k (x * y)))
  | .quo => bif ieqB y 0 then none else some (.int k (wrapF k (x.tdiv y)))
  | .rem => bif ieqB y 0 then none else some (.int k (x.tmod y))
  | .eql => some (.bool (ieqB x y))
  | .neq => some (.bool (!ieqB x y))
  | .lss => some (.bool (iltB x y))
  | .leq => some (.bool (!iltB y x))
  | .gtr => some (.bool (iltB y x))
  | .geq => some (.bool (!iltB x y))
  | op => (bitsF op k x y).map (.int k)

def maxStr : Nat := 1000000000000

def binF (op : BinOp) (x y : AV) : Option AV :=
  match x, y with
  | .int k a, .int k' b =>
    match op with
    | .shl => (shiftF .shl k a b).map (.int k)
    | .shr => (shiftF .shr k a b).map (.int k)
    | op => bif kindEq k k' then intBin op k a b else none
  | .str a, .str b =>
    match op with
    | .add => bif Nat.blt (a.length + b.length) maxStr then some (.str (a ++ b)) else none
    | .eql => some (.bool (seqB a b))
    | .neq => some (.bool (!seqB a b))
    | _ => none
  | _, _ => none

/-- '==' at a type of a kind: with nil, or of two bools. -/
def eqF (k : EK) (x y : AV) : Option Bool :=
  match k, x, y with
  | .bool, .bool a, .bool b => some (a == b)
  | .ptr, .ptr _ _, .nilp | .ptr, .nilp, .ptr _ _ | .slice, .slice .., .nils | .slice, .nils, .slice .. | .iface, .iface _ _, .nili | .iface, .nili, .iface _ _
  | .map, .map _, .nilm | .map, .nilm, .map _ | .func, .func _ _, .nilf | .func, .nilf, .func _ _ => some false
  | .ptr, .nilp, .nilp | .slice, .nils, .nils | .map, .nilm, .nilm | .func, .nilf, .nilf => some true
  | _, _, _ => none

/-- Two cells compared, at a kind: 0: bools, 1: numbers, else: texts. -/
def cellEq : Nat → AV → AV → Option Bool
  | 0, .bool a, .bool b => some (a == b)
  | 1, .int k a, .int k' b => bif kindEq k k' then some (ieqB a b) else none
  | 2, .str a, .str b => some (seqB a b)
  | _, _, _ => none

def aggEq (xs ys : List AV) : List (Nat × Nat) → Option Bool
  | [] => some true
  | o :: r => match xs[o.1]?, ys[o.1]? with
    | some x, some y => match cellEq o.2 x y with
      | some b => match aggEq xs ys r with
        | some c => some (b && c)
        | none => none
      | none => none
    | _, _ => none

def unF (op : UnOp) (x : AV) : Option AV :=
  match op, x with
  | .neg, .int k n => some (.int k (wrapF k (0 - n)))
  | .xor, .int k n => (bitsF .xor k (if k.signed then -1 else k.max) n).map (.int k)
  | .not, .bool b => some (.bool (!b))
  | _, _ => none

def avCells : AV → List AV
  | .agg l => l
  | v => [v]

/-- A value that may be one cell. -/
def isCell : AV → Bool
  | .agg _ | .tup _ => false
  | _ => true

def baOf (l : List Nat) : ByteArray := ⟨(l.map UInt8.ofNat).toArray⟩
def natsOf (b : ByteArray) : List Nat := b.data.toList.map UInt8.toNat

def repl (zero : List AV) : Nat → List AV
  | 0 => []
  | n + 1 => zero ++ repl zero n

/-- Values over a part of a list. -/
def put (cs : List AV) (off : Nat) : List AV → List AV
  | [] => cs
  | v :: r => put (cs.set off v) (off + 1) r

def bytesOf : List AV → Option (List Nat)
  | [] => some []
  | .int .u8 n :: r => match bytesOf r with
    | some l => some (n.toNat :: l)
    | none => none
  | _ => none

def runesOf : List AV → Option (List Nat)
  | [] => some []
  | .int .i32 n :: r => match runesOf r with
    | some l => some (natsOf (Utf8.encode n) ++ l)
    | none => none
  | _ => none

def bytesAV (s : List Nat) : List AV := s.map fun b => .int .u8 (Int.ofNat (b % 256))

/-! ### Operands -/

def gbase : Nat := 1000000

def ev (T : Tr AV) : Opd → Option AV
  | .tmp t => T.get t
  | .const v => some v
  | .glob g => some (.ptr (gbase + g) 0)

def evs (T : Tr AV) : List Opd → Option (List AV)
  | [] => some []
  | x :: r => match ev T x with
    | some v => match evs T r with
      | some l => some (v :: l)
      | none => none
    | none => none

def fillF (T : Tr AV) (cells : List AV) : List (Nat × Nat × Opd) → Option (List AV)
  | [] => some cells
  | (off, sz, x) :: r => match ev T x with
    | none => none
    | some v => let vs := avCells v
      bif Nat.beq vs.length sz && Nat.ble (off + sz) cells.length then fillF T (put cells off vs) r else none

/-! ### Memory -/

structure Out (α : Type) where
  v : α
  h : Hp
  c : Nat
  l : Lg

def okv (v : AV) (h : Hp) (c : Nat) : Option (Out AV) := some ⟨v, h, c, .e⟩

def newB (b : Blk) (h : Hp) (c : Nat) (mk : Nat → AV) : Option (Out AV) :=
  match h.get c with
  | none => some ⟨mk c, h.set b c, c + 1, .w c⟩
  | some _ => none

/-- n cells of a block, from an offset on. -/
def rdCells (h : Hp) (id off n : Nat) : Option (List AV) :=
  match h.get id with
  | some (.cells l _) => bif Nat.ble (off + n) l.length then some ((l.drop off).take n) else none
  | _ => none

def wrCells (h : Hp) (id off : Nat) (vs : List AV) : Option Hp :=
  match h.get id with
  | some (.cells l false) => bif Nat.ble (off + vs.length) l.length && vs.all isCell then some (h.set (.cells (put l off vs) false) id) else none
  | _ => none

def idx : AV → Option Nat
  | .int _ (.ofNat n) => some n
  | _ => none

def bnd (d : Nat) : Option AV → Option Nat
  | none => some d
  | some v => idx v

def evo (T : Tr AV) : Option Opd → Option (Option AV)
  | none => some none
  | some x => match ev T x with
    | some v => some (some v)
    | none => none

def minmax (mx : Bool) : Int → List AV → IntKind → Option Int
  | a, [], _ => some a
  | a, .int k' b :: r, k => bif kindEq k k' then minmax mx (bif (bif mx then iltB a b else iltB b a) then b else a) r k else none
  | _, _, _ => none

def appendF (sz bytes : Nat) (x : AV) (n : Nat) (new : List AV) (lg : Lg) (h : Hp) (c : Nat) : Option (Out AV) :=
  match x with
  | .nils => bif Nat.beq n 0 then some ⟨.nils, h, c, lg⟩
    else bif Nat.ble (n * (bytes + sz + 1)) maxStr then match newB (.cells new false) h c fun i => .slice i 0 n sz with
      | some o => some ⟨o.v, o.h, o.c, .app lg o.l⟩
      | none => none
    else none
  | .slice id off m sz' => bif Nat.beq n 0 then some ⟨.slice id off m sz', h, c, lg⟩
    else bif Nat.beq sz sz' && Nat.ble ((m + n) * (bytes + sz + 1)) maxStr && new.all isCell then
      match h.get id with
      | some (.cells l false) => bif Nat.ble (off + m * sz) l.length then
          match newB (.cells ((l.drop off).take (m * sz) ++ new) false) (h.set .dead id) c fun i => .slice i 0 (m + n) sz with
          | some o => some ⟨o.v, o.h, o.c, .app lg (.app (.w id) o.l)⟩
          | none => none
        else none
      | _ => none
    else none
  | _ => none

def O.move (T : Tr AV) (h : Hp) (c : Nat) (x : Opd) : Option (Out AV) :=
  match ev T x with
  | some v => okv v h c
  | none => none

def O.pick (T : Tr AV) (h : Hp) (c : Nat) (q : Opd) (a : Opd) (b : Opd) : Option (Out AV) :=
  match ev T q with
  | some (.bool true) => match ev T a with
    | some v => okv v h c
    | none => none
  | some (.bool false) => match ev T b with
    | some v => okv v h c
    | none => none
  | _ => none

def O.alloc (T : Tr AV) (h : Hp) (c : Nat) (zero : List AV) : Option (Out AV) :=
  newB (.cells zero false) h c fun i => .ptr i 0

def O.box (T : Tr AV) (h : Hp) (c : Nat) (x : Opd) : Option (Out AV) :=
  match ev T x with
  | some v => newB (.cells (avCells v) false) h c fun i => .ptr i 0
  | none => none

def O.build (T : Tr AV) (h : Hp) (c : Nat) (zero : List AV) (parts : List (Nat × Nat × Opd)) : Option (Out AV) :=
  match fillF T zero parts with
  | some l => okv (.agg l) h c
  | none => none

def O.buildSlice (T : Tr AV) (h : Hp) (c : Nat) (sz : Nat) (len : Nat) (zero : List AV) (parts : List (Nat × Nat × Opd)) : Option (Out AV) :=
  match fillF T zero parts with
  | some l => newB (.cells l false) h c fun i => .slice i 0 len sz
  | none => none

def O.load (T : Tr AV) (h : Hp) (c : Nat) (agg : Bool) (n : Nat) (x : Opd) : Option (Out AV) :=
  match ev T x with
  | some (.ptr id off) => match rdCells h id off n with
    | some vs => match agg, vs with
      | true, vs => some ⟨.agg vs, h, c, .r id⟩
      | false, [v] => some ⟨v, h, c, .r id⟩
      | _, _ => none
    | none => none
  | _ => none

def O.store (T : Tr AV) (h : Hp) (c : Nat) (n : Nat) (x : Opd) (v : Opd) : Option (Out AV) :=
  match ev T x, ev T v with
  | some (.ptr id off), some v => bif Nat.beq (avCells v).length n then
      match wrCells h id off (avCells v) with
      | some h' => some ⟨.tup [], h', c, .w id⟩
      | none => none
    else none
  | _, _ => none

def O.nilCheck (T : Tr AV) (h : Hp) (c : Nat) (x : Opd) : Option (Out AV) :=
  match ev T x with
  | some (.ptr id off) => okv (.ptr id off) h c
  | some (.iface t v) => okv (.iface t v) h c
  | some (.func f l) => okv (.func f l) h c
  | _ => none

def O.bin (T : Tr AV) (h : Hp) (c : Nat) (op : BinOp) (x : Opd) (y : Opd) : Option (Out AV) :=
  match ev T x, ev T y with
  | some a, some b => match binF op a b with
    | some v => okv v h c
    | none => none
  | _, _ => none

def O.eqk (T : Tr AV) (h : Hp) (c : Nat) (k : EK) (neg : Bool) (x : Opd) (y : Opd) : Option (Out AV) :=
  match ev T x, ev T y with
  | some a, some b => match eqF k a b with
    | some r => okv (.bool (bif neg then !r else r)) h c
    | none => none
  | _, _ => none

def O.binAgg (T : Tr AV) (h : Hp) (c : Nat) (neg : Bool) (offs : List (Nat × Nat)) (x : Opd) (y : Opd) : Option (Out AV) :=
  match ev T x, ev T y with
  | some (.agg a), some (.agg b) => match aggEq a b offs with
    | some r => okv (.bool (bif neg then !r else r)) h c
    | none => none
  | _, _ => none

def O.un (T : Tr AV) (h : Hp) (c : Nat) (op : UnOp) (x : Opd) : Option (Out AV) :=
  match ev T x with
  | some a => match unF op a with
    | some v => okv v h c
    | none => none
  | none => none

def O.conv (T : Tr AV) (h : Hp) (c : Nat) (cv : Conv) (x : Opd) : Option (Out AV) :=
  match cv with
  | .toInt k => match ev T x with
    | some (.int _ n) => okv (.int k (wrapF k n)) h c
    | _ => none
  | .same => match ev T x with
    | some (.str s) => okv (.str s) h c
    | _ => none
  | .strBytes => match ev T x with
    | some (.str s) => newB (.cells (bytesAV s) false) h c fun i => .slice i 0 s.length 1
    | _ => none
  | .bytesStr => match ev T x with
    | some .nils => okv (.str []) h c
    | some (.slice id off n _) => match rdCells h id off n with
      | some vs => match bytesOf vs with
        | some l => some ⟨.str l, h, c, .r id⟩
        | none => none
      | none => none
    | _ => none
  | .runesStr => match ev T x with
    | some .nils => okv (.str []) h c
    | some (.slice id off n _) => match rdCells h id off n with
      | some vs => match runesOf vs with
        | some l => some ⟨.str l, h, c, .r id⟩
        | none => none
      | none => none
    | _ => none
  | .sliceSame => match ev T x with
    | some (.slice id off n sz) => match h.get id with
      | some (.cells _ false) => some ⟨.slice id off n sz, h, c, .w id⟩
      | _ => none
    | _ => none
  | .intStr => match ev T x with
    | some (.int _ n) => okv (.str (natsOf (Utf8.encode n))) h c
    | _ => none

def O.makeIface (T : Tr AV) (h : Hp) (c : Nat) (t : Nat) (x : Opd) : Option (Out AV) :=
  match ev T x with
  | some v => okv (.iface t v) h c
  | none => none

def O.makeFunc (T : Tr AV) (h : Hp) (c : Nat) (f : Nat) (cap : List Opd) : Option (Out AV) :=
  match evs T cap with
  | some l => okv (.func f l) h c
  | none => none

def O.makeSlice (T : Tr AV) (h : Hp) (c : Nat) (sz : Nat) (bytes : Nat) (zero : List AV) (l : Opd) (cp : Opd) : Option (Out AV) :=
  match ev T l, ev T cp with
  | some (.int .i64 (.ofNat n)), some (.int .i64 (.ofNat m)) => bif Nat.ble n m && Nat.ble (m * (bytes + sz + 1)) maxStr then
      newB (.cells (repl zero m) false) h c fun i => .slice i 0 n sz
    else none
  | _, _ => none

def O.sliceStr (T : Tr AV) (h : Hp) (c : Nat) (x : Opd) (lo : Option Opd) (hi : Option Opd) : Option (Out AV) :=
  match ev T x, evo T lo, evo T hi with
  | some (.str s), some lo, some hi => match bnd 0 lo, bnd s.length hi with
    | some l, some u => bif Nat.ble l u && Nat.ble u s.length then okv (.str ((s.drop l).take (u - l))) h c else none
    | _, _ => none
  | _, _, _ => none

def O.sliceSlc (T : Tr AV) (h : Hp) (c : Nat) (sz : Nat) (x : Opd) (lo : Option Opd) (hi : Option Opd) : Option (Out AV) :=
  match ev T x, evo T lo, evo T hi with
  | some (.slice id off n sz'), some lo, some hi => match bnd 0 lo, bnd n hi with
    | some l, some u => bif Nat.ble l u && Nat.ble u n && Nat.beq sz sz' then okv (.slice id (off + l * sz) (u - l) sz) h c else none
    | _, _ => none
  | some .nils, some lo, some hi => match bnd 0 lo, bnd 0 hi with
    | some 0, some 0 => okv .nils h c
    | _, _ => none
  | _, _, _ => none

def O.sliceArr (T : Tr AV) (h : Hp) (c : Nat) (sz : Nat) (m : Nat) (x : Opd) (lo : Option Opd) (hi : Option Opd) : Option (Out AV) :=
  match ev T x, evo T lo, evo T hi with
  | some (.ptr id off), some lo, some hi => match bnd 0 lo, bnd m hi with
    | some l, some u => bif Nat.ble l u && Nat.ble u m then (match rdCells h id off (m * sz) with
        | some _ => some ⟨.slice id (off + l * sz) (u - l) sz, h, c, .r id⟩
        | none => none)
      else none
    | _, _ => none
  | _, _, _ => none

def O.fieldAddr (T : Tr AV) (h : Hp) (c : Nat) (o : Nat) (x : Opd) : Option (Out AV) :=
  match ev T x with
  | some (.ptr id off) => okv (.ptr id (off + o)) h c
  | _ => none

def O.field (T : Tr AV) (h : Hp) (c : Nat) (agg : Bool) (off : Nat) (n : Nat) (x : Opd) : Option (Out AV) :=
  match ev T x with
  | some (.agg l) => match agg with
    | true => okv (.agg ((l.drop off).take n)) h c
    | false => match l[off]? with
      | some v => okv v h c
      | none => none
  | _ => none

def O.indexAddrS (T : Tr AV) (h : Hp) (c : Nat) (sz : Nat) (x : Opd) (i : Opd) : Option (Out AV) :=
  match ev T x, ev T i with
  | some (.slice id off n sz'), some (.int _ (.ofNat j)) => bif Nat.blt j n && Nat.beq sz sz' then okv (.ptr id (off + j * sz)) h c else none
  | _, _ => none

def O.indexAddrA (T : Tr AV) (h : Hp) (c : Nat) (sz : Nat) (n : Nat) (x : Opd) (i : Opd) : Option (Out AV) :=
  match ev T x, ev T i with
  | some (.ptr id off), some (.int _ (.ofNat j)) => bif Nat.blt j n then okv (.ptr id (off + j * sz)) h c else none
  | _, _ => none

def O.indexA (T : Tr AV) (h : Hp) (c : Nat) (agg : Bool) (sz : Nat) (n : Nat) (x : Opd) (i : Opd) : Option (Out AV) :=
  match ev T x, ev T i with
  | some (.agg l), some (.int _ (.ofNat j)) => bif Nat.blt j n then
      (match agg with
      | true => okv (.agg ((l.drop (j * sz)).take sz)) h c
      | false => match l[j * sz]? with
        | some v => okv v h c
        | none => none)
    else none
  | _, _ => none

def O.indexS (T : Tr AV) (h : Hp) (c : Nat) (x : Opd) (i : Opd) : Option (Out AV) :=
  match ev T x, ev T i with
  | some (.str s), some (.int _ (.ofNat j)) => match s[j]? with
    | some b => okv (.int .u8 (.ofNat (b % 256))) h c
    | none => none
  | _, _ => none

def O.range (T : Tr AV) (h : Hp) (c : Nat) (x : Opd) : Option (Out AV) :=
  match ev T x with
  | some (.str s) => newB (.siter s 0) h c fun i => .ptr i 0
  | _ => none

def O.next (T : Tr AV) (h : Hp) (c : Nat) (x : Opd) : Option (Out AV) :=
  match ev T x with
  | some (.ptr id 0) => match h.get id with
    | some (.siter s pos) => bif Nat.blt pos s.length then
        let d := Utf8.decode (baOf s) pos
        some ⟨.tup [.bool true, .int .i64 (.ofNat pos), .int .i32 (.ofNat d.1)], h.set (.siter s (pos + d.2)) id, c, .w id⟩
      else some ⟨.tup [.bool false], h, c, .r id⟩
    | _ => none
  | _ => none

def O.typeAssert (T : Tr AV) (h : Hp) (c : Nat) (t : Nat) (ok : Bool) (zero : AV) (x : Opd) : Option (Out AV) :=
  match ev T x with
  | some (.iface t' v) => bif Nat.beq t t' then okv (bif ok then .tup [v, .bool true] else v) h c
    else bif ok then okv (.tup [zero, .bool false]) h c else none
  | some .nili => bif ok then okv (.tup [zero, .bool false]) h c else none
  | _ => none

def O.extract (T : Tr AV) (h : Hp) (c : Nat) (x : Opd) (i : Nat) : Option (Out AV) :=
  match ev T x with
  | some (.tup l) => match l[i]? with
    | some v => okv v h c
    | none => none
  | _ => none

def O.len (T : Tr AV) (h : Hp) (c : Nat) (k : EK) (x : Opd) : Option (Out AV) :=
  match k, ev T x with
  | .str, some (.str s) => okv (.int .i64 (.ofNat s.length)) h c
  | .slice, some (.slice _ _ n _) => okv (.int .i64 (.ofNat n)) h c
  | .slice, some .nils => okv (.int .i64 0) h c
  | _, _ => none

def O.cap (T : Tr AV) (h : Hp) (c : Nat) (x : Opd) : Option (Out AV) :=
  match ev T x with
  | some .nils => okv (.int .i64 0) h c
  | _ => none

def O.append (T : Tr AV) (h : Hp) (c : Nat) (sz : Nat) (bytes : Nat) (x : Opd) (y : Opd) : Option (Out AV) :=
  match (match ev T y with
    | some .nils => some (0, [], Lg.e)
    | some (.str s) => bif Nat.beq sz 1 then some (s.length, bytesAV s, Lg.e) else none
    | some (.slice id off n sz') => bif Nat.beq sz sz' then
        (match rdCells h id off (n * sz) with
        | some vs => some (n, vs, Lg.r id)
        | none => none)
      else none
    | _ => none : Option (Nat × List AV × Lg)) with
  | none => none
  | some (n, new, lg) => match ev T x with
    | some v => appendF sz bytes v n new lg h c
    | none => none

def O.appendZ (T : Tr AV) (h : Hp) (c : Nat) (sz : Nat) (bytes : Nat) (zero : List AV) (x : Opd) (n : Opd) : Option (Out AV) :=
  match ev T x, ev T n with
  | some v, some (.int _ (.ofNat n)) => bif Nat.ble (n * (bytes + sz + 1)) maxStr then appendF sz bytes v n (repl zero n) .e h c else none
  | _, _ => none

def copyW (id off n : Nat) (new : List AV) (lg : Lg) (h : Hp) (c : Nat) : Option (Out AV) :=
  bif Nat.beq n 0 then some ⟨.int .i64 (.ofNat 0), h, c, lg⟩ else
  match wrCells h id off new with
  | some h' => some ⟨.int .i64 (.ofNat n), h', c, .app lg (.w id)⟩
  | none => none

def copyF (sz : Nat) (x y : AV) (h : Hp) (c : Nat) : Option (Out AV) :=
  match x with
  | .nils => match y with
    | .nils | .str _ | .slice .. => some ⟨.int .i64 (.ofNat 0), h, c, .e⟩
    | _ => none
  | .slice id off m sz' => bif Nat.beq sz sz' then
      (match y with
      | .nils => some ⟨.int .i64 (.ofNat 0), h, c, .e⟩
      | .str s => bif Nat.beq sz 1 then copyW id off (Nat.min s.length m) (bytesAV (s.take (Nat.min s.length m))) .e h c else none
      | .slice id2 off2 n sz2 => bif Nat.beq sz sz2 then
          (match rdCells h id2 off2 (Nat.min n m * sz) with
          | some vs => copyW id off (Nat.min n m) vs (.r id2) h c
          | none => none)
        else none
      | _ => none)
    else none
  | _ => none

def O.copy (T : Tr AV) (h : Hp) (c : Nat) (sz : Nat) (x : Opd) (y : Opd) : Option (Out AV) :=
  match ev T x, ev T y with
  | some x, some y => copyF sz x y h c
  | _, _ => none

def O.min (T : Tr AV) (h : Hp) (c : Nat) (xs : List Opd) : Option (Out AV) :=
  match evs T xs with
  | some (.int k a :: r) => match minmax false a r k with
    | some v => okv (.int k v) h c
    | none => none
  | _ => none

def O.max (T : Tr AV) (h : Hp) (c : Nat) (xs : List Opd) : Option (Out AV) :=
  match evs T xs with
  | some (.int k a :: r) => match minmax true a r k with
    | some v => okv (.int k v) h c
    | none => none
  | _ => none

def O.clear (T : Tr AV) (h : Hp) (c : Nat) (sz : Nat) (zero : List AV) (x : Opd) : Option (Out AV) :=
  match ev T x with
  | some .nils => okv (.tup []) h c
  | some (.slice id off n sz') => bif Nat.beq n 0 then okv (.tup []) h c else
    bif Nat.beq sz sz' then match wrCells h id off (repl zero n) with
      | some h' => some ⟨.tup [], h', c, .w id⟩
      | none => none
    else none
  | _ => none

/-- One operation that is no call. -/
def op1 (T : Tr AV) (h : Hp) (c : Nat) (k : AK) : Option (Out AV) :=
  match k with
  | .move x => O.move T h c x
  | .pick q a b => O.pick T h c q a b
  | .alloc zero => O.alloc T h c zero
  | .box x => O.box T h c x
  | .build zero parts => O.build T h c zero parts
  | .buildSlice sz len zero parts => O.buildSlice T h c sz len zero parts
  | .load agg n x => O.load T h c agg n x
  | .store n x v => O.store T h c n x v
  | .nilCheck x => O.nilCheck T h c x
  | .bin op x y => O.bin T h c op x y
  | .eqk k neg x y => O.eqk T h c k neg x y
  | .binAgg neg offs x y => O.binAgg T h c neg offs x y
  | .un op x => O.un T h c op x
  | .conv cv x => O.conv T h c cv x
  | .makeIface t x => O.makeIface T h c t x
  | .makeFunc f cap => O.makeFunc T h c f cap
  | .makeSlice sz bytes zero l cp => O.makeSlice T h c sz bytes zero l cp
  | .sliceStr x lo hi => O.sliceStr T h c x lo hi
  | .sliceSlc sz x lo hi => O.sliceSlc T h c sz x lo hi
  | .sliceArr sz m x lo hi => O.sliceArr T h c sz m x lo hi
  | .fieldAddr o x => O.fieldAddr T h c o x
  | .field agg off n x => O.field T h c agg off n x
  | .indexAddrS sz x i => O.indexAddrS T h c sz x i
  | .indexAddrA sz n x i => O.indexAddrA T h c sz n x i
  | .indexA agg sz n x i => O.indexA T h c agg sz n x i
  | .indexS x i => O.indexS T h c x i
  | .range x => O.range T h c x
  | .next x => O.next T h c x
  | .typeAssert t ok zero x => O.typeAssert T h c t ok zero x
  | .extract x i => O.extract T h c x i
  | .callF _ _ | .callV _ _ => none
  | .len k x => O.len T h c k x
  | .cap x => O.cap T h c x
  | .append sz bytes x y => O.append T h c sz bytes x y
  | .appendZ sz bytes zero x n => O.appendZ T h c sz bytes zero x n
  | .copy sz x y => O.copy T h c sz x y
  | .min xs => O.min T h c xs
  | .max xs => O.max T h c xs
  | .clear sz zero x => O.clear T h c sz zero x
  | .bad => none

abbrev CallF := Nat → List AV → Hp → Nat → Option (Out AV)

def op2 (call : CallF) (T : Tr AV) (h : Hp) (c : Nat) (k : AK) : Option (Out AV) :=
  match k with
  | .callF f args => match evs T args with
    | some l => call f l h c
    | none => none
  | .callV x args => match ev T x, evs T args with
    | some (.func f cap), some l => call f (l ++ cap) h c
    | _, _ => none
  | k => op1 T h c k

def putT (T : Tr AV) (d : Option Nat) (v : AV) : Tr AV :=
  match d with
  | some d => T.set v d
  | none => T

/-- Is an operation to be carried out? -/
def wantedF (T : Tr AV) : Option (Nat × Bool) → Option Bool
  | none => some true
  | some (g, b) => match T.get g with
    | some (.bool x) => some (x == b)
    | some _ => some false
    | none => none

def stepO (call : CallF) (o : AOp) (T : Tr AV) (h : Hp) (c : Nat) : Option (Out (Tr AV)) :=
  match wantedF T o.guard with
  | some true => match op2 call T h c o.k with
    | some r => some ⟨putT T o.dst r.v, r.h, r.c, r.l⟩
    | none => none
  | some false => some ⟨putT T o.dst (.tup []), h, c, .e⟩
  | none => none

def addL {α : Type} (l : Lg) : Option (Out α) → Option (Out α)
  | some s => some ⟨s.v, s.h, s.c, .app l s.l⟩
  | none => none

def ops (call : CallF) : List AOp → Tr AV → Hp → Nat → Option (Out (Tr AV))
  | [], T, h, c => some ⟨T, h, c, .e⟩
  | o :: r, T, h, c => match stepO call o T h c with
    | some x => addL x.l (ops call r x.v x.h x.c)
    | none => none

/-! ### Regions whose order is drawn -/

/-- Is a block written by what a log tells? -/
def Lg.writes : Lg → Nat → Bool
  | e, _ => false
  | r _, _ => false
  | w i, n => Nat.beq i n
  | app a b, n => a.writes n || b.writes n

/-- Nothing that b touches is written by m. -/
def Lg.offW (m : Lg) : Lg → Bool
  | e => true
  | r i => !m.writes i
  | w i => !m.writes i
  | app a b => Lg.offW m a && Lg.offW m b

def Lg.isE : Lg → Bool
  | e => true
  | app a b => a.isE && b.isE
  | _ => false

def Lg.touches : Lg → Nat → Bool
  | e, _ => false
  | r i, n => Nat.beq i n
  | w i, n => Nat.beq i n
  | app a b, n => a.touches n || b.touches n

def Lg.apart (a b : Lg) : Bool := a.isE || b.isE || (a.offW b && b.offW a)

/-- Those ahead: (place, log); the last one's log must be apart from each that is not ordered ahead of it. -/
def apartAll (ord : Nat) (l : Lg) : List (Nat × Lg) → Bool
  | [] => true
  | (i, m) :: r => (Nat.testBit ord i || m.apart l) && apartAll ord l r

def opsD (call : CallF) : List AOp → List Nat → Nat → List (Nat × Lg) → Tr AV → Hp → Nat → Option (Out (Tr AV))
  | [], _, _, _, T, h, c => some ⟨T, h, c, .e⟩
  | o :: r, ords, i, seen, T, h, c => match ords with
    | [] => none
    | ord :: ords => match stepO call o T h c with
      | some x => bif apartAll ord x.l seen then addL x.l (opsD call r ords (i + 1) (bif x.l.isE then seen else (i, x.l) :: seen) x.v x.h x.c) else none
      | none => none

inductive AEx where
  | normal
  | exit (id : Nat)
  | ret

abbrev Fin := Out (AEx × Tr AV)

abbrev Sem1 := Tr AV → Hp → Nat → Option Fin

def C.plain (x : AEx) (T : Tr AV) (h : Hp) (c : Nat) : Option Fin := some ⟨(x, T), h, c, .e⟩

def C.fin : Option (Out (Tr AV)) → Option Fin
  | some r => some ⟨(.normal, r.v), r.h, r.c, r.l⟩
  | none => none

def C.reg (call : CallF) (os : List AOp) (T : Tr AV) (h : Hp) (c : Nat) : Option Fin := C.fin (ops call os T h c)

def C.regD (call : CallF) (os : List AOp) (ords : List Nat) (T : Tr AV) (h : Hp) (c : Nat) : Option Fin := C.fin (opsD call os ords 0 [] T h c)

def C.seq (f g : Sem1) (T : Tr AV) (h : Hp) (c : Nat) : Option Fin :=
  match f T h c with
  | none => none
  | some r => match r.v.1 with
    | .normal => addL r.l (g r.v.2 r.h r.c)
    | x => some ⟨(x, r.v.2), r.h, r.c, r.l⟩

def C.cond (q : Opd) (f g : Sem1) (T : Tr AV) (h : Hp) (c : Nat) : Option Fin :=
  match ev T q with
  | some (.bool b) => bif b then f T h c else g T h c
  | _ => none

def C.exitB (id : Nat) : AEx → AEx
  | .exit i => bif Nat.beq i id then .normal else .exit i
  | x => x

def C.block (id : Nat) (f : Sem1) (T : Tr AV) (h : Hp) (c : Nat) : Option Fin :=
  match f T h c with
  | none => none
  | some r => some ⟨(C.exitB id r.v.1, r.v.2), r.h, r.c, r.l⟩

def iter (f : Sem1) : Nat → Sem1
  | 0, _, _, _ => none
  | n + 1, T, h, c => C.seq f (iter f n) T h c

def execC (call : CallF) (fuel : Nat) : ACode → Sem1
  | .skip => C.plain .normal
  | .region os none => C.reg call os
  | .region os (some ords) => C.regD call os ords
  | .seq a b => C.seq (execC call fuel a) (execC call fuel b)
  | .cond q a b => C.cond q (execC call fuel a) (execC call fuel b)
  | .block id b => C.block id (execC call fuel b)
  | .loop b => iter (execC call fuel b) fuel
  | .exit id => C.plain (.exit id)
  | .ret => C.plain .ret

def enterT : List AV → Nat → Tr AV → Tr AV
  | [], _, T => T
  | v :: r, i, T => enterT r (i + 1) (T.set v i)

def result (T : Tr AV) (h : Hp) : List ARes → Option (List AV × Lg)
  | [] => some ([], .e)
  | .tmp t :: r => match T.get t with
    | none => none
    | some v => match result T h r with
      | some (l, g) => some (v :: l, g)
      | none => none
  | .cell t n agg :: r => match T.get t with
    | some (.ptr id off) => match rdCells h id off n with
      | none => none
      | some vs => match result T h r with
        | none => none
        | some (l, g) => match agg, vs with
          | true, vs => some (.agg vs :: l, .app (.r id) g)
          | false, [v] => some (v :: l, .app (.r id) g)
          | _, _ => none
    | _ => none

def one : List AV → AV
  | [v] => v
  | l => .tup l

def enter (call : CallF) (fuel : Nat) (fn : AFn) (args : List AV) (h : Hp) (c : Nat) : Option (Out AV) :=
  match execC call fuel fn.body (enterT args 0 .nil) h c with
  | none => none
  | some r => match r.v.1 with
    | .exit _ => none
    | _ => match result r.v.2 r.h fn.results with
      | some (l, g) => some ⟨one l, r.h, r.c, .app r.l g⟩
      | none => none

def run (P : Nat → Option AFn) : Nat → CallF
  | 0, _, _, _, _ => none
  | n + 1, f, args, h, c => match P f with
    | some fn => enter (run P n) n fn args h c
    | none => none

end Go.Am

/-! ### Short names, for printed code -/
namespace Go.Am.S
abbrev t (n : Nat) : Opd := .tmp n
abbrev g (n : Nat) : Opd := .glob n
abbrev k (v : AV) : Opd := .const v
abbrev i (n : Nat) : Opd := .const (.int .i64 (.ofNat n))
abbrev im (n : Nat) : Opd := .const (.int .i64 (.negSucc n))
abbrev u8 (n : Nat) : Opd := .const (.int .u8 (.ofNat n))
abbrev u32 (n : Nat) : Opd := .const (.int .u32 (.ofNat n))
abbrev z (n : Nat) : AV := .int .i64 (.ofNat n)
abbrev tt : Opd := .const (.bool true)
abbrev ff : Opd := .const (.bool false)
abbrev ns : Opd := .const .nils
abbrev np : Opd := .const .nilp
abbrev s (l : List Nat) : Opd := .const (.str l)
abbrev o (d : Nat) (x : AK) : AOp := ⟨some d, x, none⟩
abbrev oT (d : Nat) (x : AK) (q : Nat) : AOp := ⟨some d, x, some (q, true)⟩
abbrev oF (d : Nat) (x : AK) (q : Nat) : AOp := ⟨some d, x, some (q, false)⟩
abbrev n (x : AK) : AOp := ⟨none, x, none⟩
abbrev nT (x : AK) (q : Nat) : AOp := ⟨none, x, some (q, true)⟩
abbrev nF (x : AK) (q : Nat) : AOp := ⟨none, x, some (q, false)⟩
abbrev m (d x : Nat) : AOp := ⟨some d, .move (.tmp x), none⟩
abbrev mT (d x q : Nat) : AOp := ⟨some d, .move (.tmp x), some (q, true)⟩
abbrev mF (d x q : Nat) : AOp := ⟨some d, .move (.tmp x), some (q, false)⟩
abbrev R (l : List AOp) : ACode := .region l none
abbrev D (l : List AOp) (p : List Nat) : ACode := .region l (some p)
abbrev Q (a b : ACode) : ACode := .seq a b
abbrev C (x : Opd) (a b : ACode) : ACode := .cond x a b
abbrev B (x : Nat) (b : ACode) : ACode := .block x b
abbrev L (b : ACode) : ACode := .loop b
abbrev E (x : Nat) : ACode := .exit x
end Go.Am.S
