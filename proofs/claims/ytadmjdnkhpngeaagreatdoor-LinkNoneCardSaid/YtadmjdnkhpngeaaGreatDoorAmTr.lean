/-
  The code of the model, turned into the abstract machine's.
-/
import Derived.Test.YtadmjdnkhpngeaaGreatDoorAmCore
namespace Go.Am

/-! ### Which slots an operation looks at -/

def Opd.slots : Opd → List Nat
  | .tmp t => [t]
  | _ => []

def slotsL : List Opd → List Nat
  | [] => []
  | x :: r => x.slots ++ slotsL r

def slotsP : List (Nat × Nat × Opd) → List Nat
  | [] => []
  | (_, _, x) :: r => x.slots ++ slotsP r

def slotsO : Option Opd → List Nat
  | none => []
  | some x => x.slots

def AK.slots : AK → List Nat
  | .alloc _ | .bad => []
  | .move x | .box x | .load _ _ x | .nilCheck x | .un _ x | .conv _ x | .makeIface _ x | .fieldAddr _ x | .field _ _ _ x | .range x | .next x | .typeAssert _ _ _ x | .extract x _
  | .len _ x | .cap x | .clear _ _ x => x.slots
  | .pick c a b => c.slots ++ a.slots ++ b.slots
  | .build _ p | .buildSlice _ _ _ p => slotsP p
  | .store _ x v | .bin _ x v | .eqk _ _ x v | .binAgg _ _ x v | .makeSlice _ _ _ x v | .indexAddrS _ x v | .indexAddrA _ _ x v | .indexA _ _ _ x v | .indexS x v | .append _ _ x v | .appendZ _ _ _ x v | .copy _ x v => x.slots ++ v.slots
  | .makeFunc _ l | .callF _ l | .min l | .max l => slotsL l
  | .callV x l => x.slots ++ slotsL l
  | .sliceStr x a b | .sliceSlc _ x a b | .sliceArr _ _ x a b => x.slots ++ slotsO a ++ slotsO b

def AOp.looks (o : AOp) : List Nat := match o.guard with
  | some (g, _) => g :: o.k.slots
  | none => o.k.slots

/-- Two operations, the first ahead in the text: ordered, or they name no slot that the other one writes. -/
def pairOkA (i ord : Nat) (x y : AOp) : Bool :=
  Nat.testBit ord i ||
    ((match x.dst with
      | some d => !(y.looks.contains d) && !(y.dst == some d)
      | none => true) &&
     (match y.dst with
      | some d => !(x.looks.contains d)
      | none => true))

def slotsGo : List (Nat × AOp) → List AOp → List Nat → Nat → Bool
  | seen, y :: r, o :: os, j => seen.all (fun x => pairOkA x.1 o x.2 y) && slotsGo ((j, y) :: seen) r os (j + 1)
  | _, [], _, _ => true
  | _, _ :: _, [], _ => false

def kindB (d : TypeDesc) : Option IntKind := match d with | .int k => some k | _ => none

mutual
def trVal : Value → Option AV
  | .bool b => some (.bool b)
  | .int k n => some (.int k n)
  | .string s => some (.str (natsOf s))
  | .pointer none => some .nilp
  | .slice none 0 0 => some .nils
  | .map none => some .nilm
  | .nilFunc => some .nilf
  | .nilIface => some .nili
  | .agg ⟨l⟩ => match trVals l with
    | some l => some (.agg l)
    | none => none
  | .tuple ⟨l⟩ => match trVals l with
    | some l => some (.tup l)
    | none => none
  | _ => none
def trVals : List Value → Option (List AV)
  | [] => some []
  | v :: r => match trVal v with
    | some a => match trVals r with
      | some l => some (a :: l)
      | none => none
    | none => none
end

def trOpd (P : Program) : Operand → Option Opd
  | .tmp t => some (.tmp t)
  | .const v => match trVal v with
    | some a => some (.const a)
    | none => none
  | .global g => if g < P.globals.size then some (.glob g) else none
  | .func f => some (.const (.func f []))

def trOpds (P : Program) : List Operand → Option (List Opd)
  | [] => some []
  | x :: r => match trOpd P x with
    | some a => match trOpds P r with
      | some l => some (a :: l)
      | none => none
    | none => none

def trO (P : Program) : Option Operand → Option (Option Opd)
  | none => some none
  | some x => match trOpd P x with
    | some a => some (some a)
    | none => none

section
variable (P : Program)

def isAggT (d : TypeDesc) : Bool := match d with | .struct _ | .array _ _ => true | _ => false

/-- A type: what it is, how many cells, how many bytes, its zero value's cells. -/
structure TI where
  d : TypeDesc
  size : Nat
  bytes : Nat
  zero : Option Value

def ti (t : TypeId) : Option TI :=
  match P.underlying t, P.info? t with
  | some d, some i => some ⟨d, i.size, i.bytes, i.zero⟩
  | _, _ => none

def zeroC (i : TI) : Option (List AV) :=
  match i.zero with
  | some z => match trVal z with
    | some a => some (avCells a)
    | none => none
  | none => none

def trParts (pl : Nat → Option (Nat × Nat)) : List (Nat × Operand) → Option (List (Nat × Nat × Opd))
  | [] => some []
  | (i, x) :: r => match pl i, trOpd P x, trParts pl r with
    | some (off, sz), some a, some l => some ((off, sz, a) :: l)
    | _, _, _ => none

/-- The cells that '==' looks at, at a type that holds numbers, bools, strings alone. -/
def eqOffs : Nat → TypeId → Nat → Option (List (Nat × Nat))
  | 0, _, _ => none
  | d + 1, t, base =>
    match ti P t with
    | none => none
    | some i => match i.d with
      | .bool => some [(base, 0)]
      | .int _ => some [(base, 1)]
      | .string => some [(base, 2)]
      | .struct fs => if P.stoodInHeld t then none else
          fs.toList.foldr (fun f acc => match acc with
            | none => none
            | some l => match ti P f.type with
              | none => none
              | some j => if f.name = "_" ∨ j.size = 0 ∨ i.size < f.offset + j.size then none else match eqOffs d f.type (base + f.offset) with
                | some m => some (m ++ l)
                | none => none) (some [])
      | .array n e => match ti P e with
        | some j => (List.range n).foldr (fun k acc => match acc with
            | none => none
            | some l => if j.size = 0 ∨ i.size < k * j.size + j.size then none else match eqOffs d e (base + k * j.size) with
              | some m => some (m ++ l)
              | none => none) (some [])
        | none => none
      | _ => none

def ekOf : TypeDesc → Option EK
  | .bool => some .bool
  | .pointer _ => some .ptr
  | .slice _ => some .slice
  | .map _ _ => some .map
  | .func _ _ _ => some .func
  | .interface _ => some .iface
  | .string => some .str
  | _ => none

def callable (f : Nat) : Bool :=
  match P.funcs[f]? with
  | some fn => fn.body.isSome && fn.name != "runtime.NumGoroutine"
  | none => false

def trBuiltin (b : Builtin) (ts : Array TypeId) (args : List Opd) : Option AK :=
  match b, args with
  | .len, [x] => match ts[0]? with
    | some t => match P.underlying t with
      | some .string => some (.len .str x)
      | some (.slice _) => some (.len .slice x)
      | _ => none
    | none => none
  | .cap, [x] => match ts[0]? with
    | some t => match P.underlying t with
      | some (.slice _) => some (.cap x)
      | _ => none
    | none => none
  | .append, [x, y] => match ts[0]?, ts[1]? with
    | some t, some u => match P.underlying t, P.underlying u with
      | some (.slice e), some (.int _) => match ti P e with
        | some i => match zeroC i with
          | some z => if z.length = i.size then some (.appendZ i.size i.bytes z x y) else none
          | none => none
        | none => none
      | some (.slice e), some _ => match ti P e with
        | some i => match i.zero with
          | some z => if z.cells.size = i.size then some (.append i.size i.bytes x y) else none
          | none => none
        | none => none
      | _, _ => none
    | _, _ => none
  | .copy, [x, y] => match ts[0]? with
    | some t => match P.underlying t with
      | some (.slice e) => match ti P e with
        | some i => some (.copy i.size x y)
        | none => none
      | _ => none
    | none => none
  | .min, xs => some (.min xs)
  | .max, xs => some (.max xs)
  | .clear, [x] => match ts[0]? with
    | some t => match P.underlying t with
      | some (.slice e) => match ti P e with
        | some i => match zeroC i with
          | some z => some (.clear i.size z x)
          | none => none
        | none => none
      | _ => none
    | none => none
  | _, _ => none

def trK (op : Op) : Option AK :=
  match op with
  | .move x | .assign x => match trOpd P x with
    | some x => some (.move x)
    | none => none
  | .pick c a b => match trOpd P c, trOpd P a, trOpd P b with
    | some c, some a, some b => some (.pick c a b)
    | _, _, _ => none
  | .alloc e => match ti P e with
    | some i => match zeroC i with
      | some z => some (.alloc z)
      | none => none
    | none => none
  | .box _ x => match trOpd P x with
    | some x => some (.box x)
    | none => none
  | .build t parts => match ti P t with
    | some i => match zeroC i with
      | some z => match i.d with
        | .struct fs => match trParts P (fun k => match fs[k]? with
            | some f => match ti P f.type with
              | some j => some (f.offset, j.size)
              | none => none
            | none => none) parts.toList with
          | some l => if (fs.toList.all fun f => (ti P f.type).isSome) then some (.build z l) else none
          | none => none
        | .array _ e => match ti P e with
          | some j => match trParts P (fun k => some (k * j.size, j.size)) parts.toList with
            | some l => some (.build z l)
            | none => none
          | none => none
        | _ => none
      | none => none
    | none => none
  | .buildSlice t len parts => match P.underlying t with
    | some (.slice e) => match ti P e with
      | some i => match zeroC i with
        | some z => match trParts P (fun k => some (k * i.size, i.size)) parts.toList with
          | some l => if len * i.size ≤ 100000 ∧ z.length = i.size then some (.buildSlice i.size len (repl z len) l) else none
          | none => none
        | none => none
      | none => none
    | _ => none
  | .load t a => match ti P t, trOpd P a with
    | some i, some a => some (.load (isAggT i.d) (if isAggT i.d then i.size else 1) a)
    | _, _ => none
  | .store t a v => match ti P t, trOpd P a, trOpd P v with
    | some i, some a, some v => some (.store i.size a v)
    | _, _, _ => none
  | .nilCheck x => match trOpd P x with
    | some x => some (.nilCheck x)
    | none => none
  | .binOp op t x y _ => match ti P t, trOpd P x, trOpd P y with
    | some i, some x, some y =>
      match op with
      | .eql | .neq => let neg := match op with | .neq => true | _ => false
        match i.d with
        | .int _ | .string => some (.bin op x y)
        | .struct _ | .array _ _ => if P.eqGuardType P.depth t then none else match eqOffs P 100 t 0 with
          | some offs => some (.binAgg neg offs x y)
          | none => none
        | d => match ekOf d with
          | some k => some (.eqk k neg x y)
          | none => none
      | op => some (.bin op x y)
    | _, _, _ => none
  | .unOp op _ x => match trOpd P x with
    | some x => some (.un op x)
    | none => none
  | .convert s d x => match P.underlying s, P.underlying d, trOpd P x with
    | some _, some (.int k), some x => some (.conv (.toInt k) x)
    | some .string, some .string, some x => some (.conv .same x)
    | some .string, some (.slice e), some x => match P.underlying e with
      | some (.int .u8) => some (.conv .strBytes x)
      | _ => none
    | some (.slice e), some .string, some x => match P.underlying e with
      | some (.int .u8) => some (.conv .bytesStr x)
      | some (.int .i32) => some (.conv .runesStr x)
      | _ => none
    | some (.slice _), some (.slice e), some x => match P.underlying e with
      | some (.int .u8) => if s = d then some (.conv .sliceSame x) else none
      | _ => none
    | some (.int _), some .string, some x => some (.conv .intStr x)
    | _, _, _ => none
  | .makeInterface t x => match P.underlying t, trOpd P x with
    | some (.interface _), _ => none
    | some _, some x => some (.makeIface t x)
    | _, _ => none
  | .makeFunc (.func f) first captured => if first.isEmpty then match trOpds P captured.toList with
      | some l => some (.makeFunc f l)
      | none => none
    else none
  | .makeSlice t l c => match P.underlying t with
    | some (.slice e) => match ti P e with
      | some i => match zeroC i, trOpd P l, trOpd P c with
        | some z, some l, some c => if z.length = i.size then some (.makeSlice i.size i.bytes z l c) else none
        | _, _, _ => none
      | none => none
    | _ => none
  | .slice t x lo hi none => match P.underlying t, trOpd P x, trO P lo, trO P hi with
    | some .string, some x, some lo, some hi => some (.sliceStr x lo hi)
    | some (.slice e), some x, some lo, some hi => match ti P e with
      | some i => some (.sliceSlc i.size x lo hi)
      | none => none
    | some (.array n e), some x, some lo, some hi => match ti P e with
      | some i => some (.sliceArr i.size n x lo hi)
      | none => none
    | some (.pointer a), some x, some lo, some hi => match P.underlying a with
      | some (.array n e) => match ti P e with
        | some i => some (.sliceArr i.size n x lo hi)
        | none => none
      | _ => none
    | _, _, _, _ => none
  | .fieldAddr s x f => match P.underlying s, trOpd P x with
    | some (.struct fs), some x => match fs[f]? with
      | some fd => match ti P fd.type with
        | some i => if i.size = 0 then none else some (.fieldAddr fd.offset x)
        | none => none
      | none => none
    | _, _ => none
  | .field s x f => match P.underlying s, trOpd P x with
    | some (.struct fs), some x => match fs[f]? with
      | some fd => match ti P fd.type with
        | some i => some (.field (isAggT i.d) fd.offset i.size x)
        | none => none
      | none => none
    | _, _ => none
  | .indexAddr t x ix => match P.underlying t, trOpd P x, trOpd P ix with
    | some (.slice e), some x, some ix => match ti P e with
      | some i => some (.indexAddrS i.size x ix)
      | none => none
    | some (.array n e), some x, some ix => match ti P e with
      | some i => some (.indexAddrA i.size n x ix)
      | none => none
    | _, _, _ => none
  | .index t x ix => match P.underlying t, trOpd P x, trOpd P ix with
    | some .string, some x, some ix => some (.indexS x ix)
    | some (.array n e), some x, some ix => match ti P e with
      | some i => some (.indexA (isAggT i.d) i.size n x ix)
      | none => none
    | _, _, _ => none
  | .range t x => match P.underlying t, trOpd P x with
    | some .string, some x => some (.range x)
    | _, _ => none
  | .next it true => match trOpd P it with
    | some x => some (.next x)
    | none => none
  | .typeAssert x _ t ok => match ti P t, trOpd P x with
    | some i, some x => match i.d with
      | .interface _ => none
      | _ => match i.zero with
        | some z => match trVal z with
          | some z => some (.typeAssert t ok z x)
          | none => none
        | none => none
    | _, _ => none
  | .extract x i => match trOpd P x with
    | some x => some (.extract x i)
    | none => none
  | .call c => match c.callee with
    | .value (.func f) => if callable P f then match trOpds P c.args.toList with
        | some l => some (.callF f l)
        | none => none
      else none
    | .value (.tmp t) => match trOpds P c.args.toList with
      | some l => some (.callV (.tmp t) l)
      | none => none
    | .builtin b => match trOpds P c.args.toList with
      | some l => trBuiltin P b c.argTypes l
      | none => none
    | _ => none
  | .panic _ => some .bad
  | _ => none

def trGuard (os : Array Oper) : Option (Nat × Bool) → Option (Option (Nat × Bool))
  | none => some none
  | some (j, b) => match (os[j]?).bind (·.dst) with
    | some d => some (some (d, b))
    | none => none

def trOper (os : Array Oper) (n : Nat) (o : Oper) : Option AOp :=
  match trK P o.op, trGuard os o.guard with
  | some k, some g => if o.dst.all (· < n) then some ⟨o.dst, k, g⟩ else none
  | _, _ => none

def trOpers (os : Array Oper) (n : Nat) : List Oper → Option (List AOp)
  | [] => some []
  | o :: r => match trOper P os n o with
    | some a => match trOpers os n r with
      | some l => some (a :: l)
      | none => none
    | none => none

/-- The edges go back. -/
def edgesOk (os : Array Oper) : Bool := os.toList.zipIdx.all fun (o, j) => o.after.all fun e => !Region.binds .any e || decide (e.on < j)

def trCode (n : Nat) : Code → Option ACode
  | .skip => some .skip
  | .region _ os draw => match trOpers P os n os.toList with
    | none => none
    | some l => if draw then
        let b := Region.before os
        if edgesOk os && slotsGo [] l b.toList 0 then some (.region l (some b.toList)) else none
      else some (.region l none)
  | .seq a b => match trCode n a, trCode n b with
    | some a, some b => some (.seq a b)
    | _, _ => none
  | .cond c a b => match trOpd P c, trCode n a, trCode n b with
    | some c, some a, some b => some (.cond c a b)
    | _, _, _ => none
  | .block id b => match trCode n b with
    | some b => some (.block id b)
    | none => none
  | .loop b => match trCode n b with
    | some b => some (.loop b)
    | none => none
  | .exit id => some (.exit id)
  | .ret => some .ret
  | _ => none

def trRes : List ResultVar → Option (List ARes)
  | [] => some []
  | .tmp t :: r => match trRes r with
    | some l => some (.tmp t :: l)
    | none => none
  | .cell a t :: r => match ti P t, trRes r with
    | some i, some l => some (.cell a (if isAggT i.d then i.size else 1) (isAggT i.d) :: l)
    | _, _ => none

def trFn (fn : Func) : Option AFn :=
  match fn.body with
  | none => none
  | some c => match trCode P fn.ntmps c, trRes P fn.results.toList with
    | some b, some r => some ⟨fn.ntmps, r, b⟩
    | _, _ => none
end
end Go.Am
