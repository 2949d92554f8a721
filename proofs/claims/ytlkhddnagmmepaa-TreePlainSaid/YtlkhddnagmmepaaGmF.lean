/-
  The ghost code of a function, by a function on the program's own code.
-/
import Derived.Test.YtlkhddnagmmepaaGmE
namespace Go.Gm
set_option linter.unusedSimpArgs false
set_option linter.unusedVariables false
open Go.RowKit

/-- What the ghost is told: which variables others may hold, and which operations touch such (each by the temporary that it writes; a store by the one that holds its address); which calls make data of their arguments, which see the caller's memory; and what is kept at loops' heads, and behind them. -/
structure Hint where
  sh : List Nat := []
  conv : List Nat := []
  shCall : List Nat := []
  loops : List (List Nat × List Nat × List Nat × List Nat) := []

def con1 : Value → Option D
  | .int k n => some (.int k n)
  | .bool b => some (.bool b)
  | .string s => some (.str s)
  | .slice Option.none 0 0 => some .nilSl
  | .pointer Option.none => some .nilPtr
  | .nilFunc => some .nilFn
  | .nilIface => some .nilIface
  | _ => Option.none
def conL : List Value → Option (List D)
  | [] => some []
  | v :: r => match con1 v, conL r with
    | some x, some xs => some (x :: xs)
    | _, _ => Option.none
def con : Value → Option D
  | .agg cs => (conL cs.toList).map .agg
  | v => con1 v

def trOpd : Operand → Option Opd
  | .tmp t => some (.t t)
  | .const v => (con v).map .c
  | .func f => some (.c (.fn (.func f) [] []))
  | .global _ => Option.none
def trOpds : List Operand → Option (List Opd)
  | [] => some []
  | x :: r => match trOpd x, trOpds r with
    | some y, some ys => some (y :: ys)
    | _, _ => Option.none

def szOf (P : Program) (t : TypeId) : Option Nat := (P.info? t).map (·.size)
def aggOf (P : Program) (t : TypeId) : Option Bool :=
  match P.underlying t with
  | some (.struct _) => some true
  | some (.array _ _) => some true
  | some _ => some false
  | Option.none => Option.none
def zeroOf (P : Program) (t : TypeId) : Option (List D) := ((P.info? t).bind (·.zero)).bind fun z => conL z.cells.toList
def elemOf? (P : Program) (t : TypeId) : Option TypeId :=
  match P.underlying t with
  | some (.slice e) => some e
  | _ => Option.none
def fieldsOf? (P : Program) (t : TypeId) : Option (Array Field) :=
  match P.underlying t with
  | some (.struct fs) => some fs
  | _ => Option.none

def isInt (P : Program) (t : TypeId) : Bool := match P.underlying t with | some (.int _) => true | _ => false
def isSlice (P : Program) (t : TypeId) : Bool := match P.underlying t with | some (.slice _) => true | _ => false
/-- Compared with nil. -/
def trNil (op : BinOp) (x : Opd) : Opd → Option GOp
  | .c .nilSl => if op = .eql then some (.en false x) else if op = .neq then some (.en true x) else Option.none
  | _ => Option.none
def isBool (P : Program) (t : TypeId) : Bool := match P.underlying t with | some .bool => true | _ => false

/-- The parts of a struct: each with its place and size. -/
def trParts (P : Program) (fs : Array Field) : List (Nat × Operand) → Option (List (Nat × Nat × Opd))
  | [] => some []
  | (i, x) :: r => match fs[i]? with
    | some f => match szOf P f.type, trOpd x, trParts P fs r with
      | some n, some y, some s => some ((f.offset, n, y) :: s)
      | _, _, _ => Option.none
    | Option.none => Option.none
def trElems : List (Nat × Operand) → Option (List (Nat × Opd))
  | [] => some []
  | (i, x) :: r => match trOpd x, trElems r with
    | some y, some s => some ((i, y) :: s)
    | _, _ => Option.none
def allSizes (P : Program) : List Field → Bool
  | [] => true
  | f :: r => (P.info? f.type).isSome && allSizes P r

def tmpOf : Operand → Option Nat
  | .tmp t => some t
  | _ => Option.none
def shOf (h : Hint) (d : Option Nat) : Bool := d.any fun d => h.sh.contains d

/-- Is it math/bits.Add64, which has no body? -/
def isA64 (P : Program) : Operand → Bool
  | .func n => match P.funcs[n]? with
    | some fn => fn.body.isNone && (fn.name == "math/bits.Add64" && fn.origin == "")
    | Option.none => false
  | _ => false

def trLoad (P : Program) (sh : Bool) (t : TypeId) (x : Operand) : Option GOp :=
  match trOpd x, szOf P t, aggOf P t with
  | some y, some n, some g => some (.ld sh y (if g then n else 1) g)
  | _, _, _ => Option.none

def trOp (P : Program) (h : Hint) (dst : Option Nat) : Op → Option GOp
  | .move x => (trOpd x).map .mv
  | .assign x => (trOpd x).map .mv
  | .box e x => (trOpd x).map fun y => if shOf h dst then .bs e y else .bp y
  | .alloc e => (((P.info? e).bind (·.zero)).bind con).map fun z => if shOf h dst then .bs e (.c z) else .bp (.c z)
  | .load t x => trLoad P (shOf h dst) t x
  | .store t a x => match trOpd a, trOpd x, szOf P t with
    | some p, some x, some n => some (.st (shOf h (tmpOf a)) p x n)
    | _, _, _ => Option.none
  | .fieldAddr t x f => match fieldsOf? P t with
    | some fs => match fs[f]? with
      | some g => match szOf P g.type, trOpd x with
        | some (_ + 1), some y => some (.ad y g.offset)
        | _, _ => Option.none
      | Option.none => Option.none
    | Option.none => Option.none
  | .indexAddr t x i => match P.underlying t with
    | some (.slice e) => match szOf P e, trOpd x, trOpd i with
      | some es, some y, some j => some (.el (shOf h dst) y j es)
      | _, _, _ => Option.none
    | some (.array len e) => match szOf P e, trOpd x, trOpd i with
      | some es, some y, some j => some (.ea y j len es)
      | _, _, _ => Option.none
    | _ => Option.none
  | .binOp op t x y _ => match trOpd x, trOpd y with
    | some x, some y =>
      if isBool P t then (if op = .eql then some (.be false x y) else if op = .neq then some (.be true x y) else Option.none)
      else if isSlice P t then trNil op x y else some (.bi op x y)
    | _, _ => Option.none
  | .unOp op _ x => (trOpd x).map (.un op)
  | .convert src dst x => match P.underlying src, P.underlying dst, trOpd x with
    | some _, some (.int k), some y => some (.cv k y)
    | _, _, _ => Option.none
  | .pick c a b => match trOpd c, trOpd a, trOpd b with
    | some c, some a, some b => some (.pk c a b)
    | _, _, _ => Option.none
  | .build t parts => match fieldsOf? P t, zeroOf P t with
    | some fs, some z => if allSizes P fs.toList then (trParts P fs parts.toList).map (.bu z) else Option.none
    | Option.none, some z => match P.underlying t with
      | some (.array _ e) => match szOf P e, trElems parts.toList with
        | some es, some ps => some (.bu z (ps.map fun (i, x) => (i * es, es, x)))
        | _, _ => Option.none
      | _ => Option.none
    | _, _ => Option.none
  | .buildSlice t len parts => match elemOf? P t with
    | some e => match szOf P e, zeroOf P e, trElems parts.toList with
      | some es, some z, some ps => if z.length = es ∧ len * es ≤ 16777216 ∧ 0 < es then some (.bl es len z ps) else Option.none
      | _, _, _ => Option.none
    | Option.none => Option.none
  | .makeFunc f first caps => match trOpds first.toList, trOpds caps.toList with
    | some us, some ws => some (.mf f us ws)
    | _, _ => Option.none
  | .makeSlice t l c => match elemOf? P t with
    | some e => match P.info? e, zeroOf P e, trOpd l, trOpd c with
      | some i, some z, some l, some c => if z.length = i.size ∧ 0 < i.size then some (.ms e i.size i.bytes z l c) else Option.none
      | _, _, _, _ => Option.none
    | Option.none => Option.none
  | .slice t x lo hi mx => match elemOf? P t, mx with
    | some e, Option.none => match szOf P e, trOpd x with
      | some n, some y =>
        match lo, hi with
        | Option.none, Option.none => some (.sl n y Option.none Option.none)
        | some l, Option.none => (trOpd l).map fun l => .sl n y (some l) Option.none
        | Option.none, some h => (trOpd h).map fun h => .sl n y Option.none (some h)
        | some l, some h => match trOpd l, trOpd h with
          | some l, some h => some (.sl n y (some l) (some h))
          | _, _ => Option.none
      | _, _ => Option.none
    | _, _ => Option.none
  | .field t x f => match fieldsOf? P t with
    | some fs => match fs[f]? with
      | some g => match szOf P g.type, aggOf P g.type, trOpd x with
        | some n, some b, some y => some (.fi y g.offset (if b then n else 1) b)
        | _, _, _ => Option.none
      | Option.none => Option.none
    | Option.none => Option.none
  | .index t x i => match P.underlying t with
    | some (.array len e) => match szOf P e, aggOf P e, trOpd x, trOpd i with
      | some es, some b, some y, some j => some (.ix y j len es (if b then es else 1) b)
      | _, _, _, _ => Option.none
    | some .string => match trOpd x, trOpd i with
      | some y, some j => some (.xs y j)
      | _, _ => Option.none
    | _ => Option.none
  | .extract x i => (trOpd x).map fun y => .ex y i
  | .call c => match c.callee with
    | .value f => if isA64 P f then (match trOpds c.args.toList with
      | some [x, y, z] => some (.a64 x y z)
      | _ => Option.none) else match trOpd f, trOpds c.args.toList with
      | some f, some xs => some (.ca (if (dst.any fun d => h.shCall.contains d) then 2 else if (dst.any fun d => h.conv.contains d) then 1 else 0) f xs)
      | _, _ => Option.none
    | .builtin .len => match c.args.toList, c.argTypes[0]? with
      | [x], some t => match P.underlying t with
        | some (.slice _) => (trOpd x).map (.ln (shOf h dst))
        | some .string => (trOpd x).map .ls
        | _ => Option.none
      | _, _ => Option.none
    | .builtin .max => (trOpds c.args.toList).map .mx
    | .builtin .min => (trOpds c.args.toList).map .mn
    | .builtin .append => match c.args.toList, c.argTypes.toList with
      | [s, x], [t, t'] => match elemOf? P t with
        | some e => match P.info? e, zeroOf P e, trOpd s, trOpd x with
          | some i, some z, some s, some x => if t = t' ∧ z.length = i.size ∧ 0 < i.size then some (.ap e i.size i.bytes s x) else Option.none
          | _, _, _, _ => Option.none
        | Option.none => Option.none
      | _, _ => Option.none
    | _ => Option.none
  | _ => Option.none

/-- An operation of a region: its guard speaks of the temporary that the operation of that number writes. -/
def trOper (P : Program) (h : Hint) (ops : Array Oper) (x : Oper) : Option GOper :=
  match trOp P h x.dst x.op with
  | some g => match x.guard with
    | Option.none => some ⟨x.dst, g, Option.none⟩
    | some (j, b) => match (ops[j]?).bind (·.dst) with
      | some t => some ⟨x.dst, g, some (t, b)⟩
      | Option.none => Option.none
  | Option.none => Option.none
def trOpers (P : Program) (h : Hint) (ops : Array Oper) : List Oper → Option (List GOper)
  | [] => some []
  | x :: r => match trOper P h ops x, trOpers P h ops r with
    | some y, some ys => some (y :: ys)
    | _, _ => Option.none

/-- The code, and the loops' hints that are left. -/
def trCode (P : Program) (h : Hint) : Code → List (List Nat × List Nat × List Nat × List Nat) → Option (GCode × List (List Nat × List Nat × List Nat × List Nat))
  | .skip, l => some (.skip, l)
  | .ret, l => some (.ret, l)
  | .label _, l => some (.label, l)
  | .exit id, l => some (.exit id, l)
  | .region _ ops draw, l => (trOpers P h ops ops.toList).map fun g => (.ops draw g, l)
  | .seq a b, l => match trCode P h a l with
    | some (x, l) => match trCode P h b l with
      | some (y, l) => some (.seq x y, l)
      | Option.none => Option.none
    | Option.none => Option.none
  | .cond c a b, l => match trOpd c, trCode P h a l with
    | some c, some (x, l) => match trCode P h b l with
      | some (y, l) => some (.cond c x y, l)
      | Option.none => Option.none
    | _, _ => Option.none
  | .block id a, l => (trCode P h a l).map fun (x, l) => (.block id x, l)
  | .scope a, l => (trCode P h a l).map fun (x, l) => (.scope x, l)
  | .loop a, (bs, vs, bs', vs') :: l => (trCode P h a l).map fun (x, l) => (.loop bs vs bs' vs' x, l)
  | _, _ => Option.none

def trRes (P : Program) : List ResultVar → Option (List Res)
  | [] => some []
  | .tmp t :: r => (trRes P r).map (Res.tmp t :: ·)
  | .cell a t :: r => match szOf P t, aggOf P t, trRes P r with
    | some n, some g, some s => some (Res.cell a (if g then n else 1) g :: s)
    | _, _, _ => Option.none

def trFn (P : Program) (h : Hint) (f : Func) : Option GFn :=
  match f.body with
  | some c => match trCode P h c h.loops, trRes P f.results.toList with
    | some (x, []), some res => some ⟨f.ntmps, res, x⟩
    | _, _ => Option.none
  | Option.none => Option.none

end Go.Gm
