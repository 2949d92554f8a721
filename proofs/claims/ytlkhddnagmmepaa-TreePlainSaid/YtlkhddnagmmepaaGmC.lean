/-
  The ghost machine: its operations, code, and runs. Nothing of the model's world is in sight here.
-/
import Derived.Test.YtlkhddnagmmepaaGmB
namespace Go.Gm
set_option linter.unusedSimpArgs false
set_option linter.unusedVariables false

/-- An operand: a temporary, or a constant. -/
inductive Opd where
  | t (n : Nat)
  | c (x : D)
  deriving Inhabited

inductive GOp where
  | mv (x : Opd)
  | bp (x : Opd)
  | bs (ty : TypeId) (x : Opd)
  | ld (sh : Bool) (a : Opd) (n : Nat) (g : Bool)
  | st (sh : Bool) (a x : Opd) (n : Nat)
  | ad (a : Opd) (off : Nat)
  | el (sh : Bool) (x i : Opd) (es : Nat)
  | ea (x i : Opd) (len es : Nat)
  | bi (op : BinOp) (x y : Opd)
  | be (neg : Bool) (x y : Opd)
  | en (neg : Bool) (x : Opd)
  | un (op : UnOp) (x : Opd)
  | cv (k : IntKind) (x : Opd)
  | pk (c a b : Opd)
  | bu (zero : List D) (parts : List (Nat × Nat × Opd))
  | bl (es len : Nat) (zero : List D) (parts : List (Nat × Opd))
  | mf (f : Fn) (first caps : List Opd)
  | ms (ty : TypeId) (es bytes : Nat) (zero : List D) (len cap : Opd)
  | sl (es : Nat) (x : Opd) (lo hi : Option Opd)
  | fi (x : Opd) (off n : Nat) (g : Bool)
  | ix (x i : Opd) (len es n : Nat) (g : Bool)
  | ex (x : Opd) (i : Nat)
  | ca (k : Nat) (f : Opd) (args : List Opd)
  | ln (sh : Bool) (x : Opd)
  | ls (x : Opd)
  | mx (args : List Opd)
  | mn (args : List Opd)
  | ap (ty : TypeId) (es bytes : Nat) (s x : Opd)
  | a64 (x y c : Opd)
  | xs (x i : Opd)
  deriving Inhabited

structure GOper where
  dst : Option Nat
  op : GOp
  guard : Option (Nat × Bool)
  deriving Inhabited

def o (d : Nat) (op : GOp) : GOper := ⟨some d, op, .none⟩
def u (op : GOp) : GOper := ⟨.none, op, .none⟩
def og (d : Nat) (op : GOp) (t : Nat) (b : Bool) : GOper := ⟨some d, op, some (t, b)⟩
def ug (op : GOp) (t : Nat) (b : Bool) : GOper := ⟨.none, op, some (t, b)⟩

inductive GCode where
  | skip
  | ret
  | label
  | exit (id : Nat)
  | ops (draw : Bool) (l : List GOper)
  | seq (a b : GCode)
  | cond (x : Opd) (a b : GCode)
  | block (id : Nat) (a : GCode)
  | loop (boxes live boxes' live' : List Nat) (a : GCode)
  | scope (a : GCode)
  deriving Inhabited

inductive Res where
  | tmp (t : Nat)
  | cell (t : Nat) (n : Nat) (g : Bool)
  deriving Inhabited

structure GFn where
  regs : Nat
  res : List Res
  body : GCode
  deriving Inhabited

/-! ### values -/
def allD : List V → Option (List D)
  | [] => some []
  | .d x :: r => (allD r).map (x :: ·)
  | _ :: _ => Option.none

/-- A value as cells. -/
def V.cells : V → Option (List V)
  | .d (.agg cs) => some (cs.map V.d)
  | .agg cs => some cs
  | .none => Option.none
  | .tup _ => Option.none
  | .d (.tup _) => Option.none
  | x => some [x]

/-- Cells as a value. -/
def mkV (g : Bool) (cs : List V) : Option V :=
  if g then match allD cs with
    | some ds => some (.d (.agg ds))
    | Option.none => some (.agg cs)
  else match cs with
    | [x] => some x
    | _ => Option.none

/-- Rows of es. -/
def chunk (es : Nat) : Nat → List D → List (List D)
  | 0, _ => []
  | n + 1, xs => xs.take es :: chunk es n (xs.drop es)

/-- One by one. -/
def allBy (f : V → Option (D × List Nat)) : List V → Option (List D × List Nat)
  | [] => some ([], [])
  | x :: r => match f x, allBy f r with
    | some (y, l), some (s, l') => some (y :: s, l ++ l')
    | _, _ => Option.none

/-- What a value comes to, if nothing that it leads to is written any more; and the blocks that it leads to. -/
def toD (sh : List Blk) : Nat → V → Option (D × List Nat)
  | 0, x => match x with
    | .d x => some (x, [])
    | _ => Option.none
  | n + 1, x => match x with
    | .d x => some (x, [])
    | .rs b off len =>
      match sh[b]? with
      | some blk => if blk.cells.length = off + len * blk.es then
          match allBy (toD sh n) blk.cells with
          | some (ds, l) => some (.sl false blk.es (chunk blk.es len (ds.drop off)), b :: l)
          | Option.none => Option.none
        else Option.none
      | Option.none => Option.none
    | .sp b m off =>
      match sh[b]? with
      | some blk => if blk.cells.length = m then
          match allBy (toD sh n) blk.cells with
          | some (ds, l) => some (.pp ds off, b :: l)
          | Option.none => Option.none
        else Option.none
      | Option.none => Option.none
    | .agg cs => match allBy (toD sh n) cs with
      | some (ds, l) => some (.agg ds, l)
      | Option.none => Option.none
    | .tup cs => match allBy (toD sh n) cs with
      | some (ds, l) => some (.tup ds, l)
      | Option.none => Option.none
    | .fn f first caps => match allBy (toD sh n) first, allBy (toD sh n) caps with
      | some (ds, l), some (es, l') => some (.fn f ds es, l ++ l')
      | _, _ => Option.none
    | _ => Option.none
def toDs (sh : List Blk) (n : Nat) (xs : List V) : Option (List D × List Nat) := allBy (toD sh n) xs

def freeze (sh : List Blk) : List Nat → List Blk
  | [] => sh
  | b :: r => freeze (sh.modify b fun blk => { blk with frozen := true }) r

/-! ### operators of data -/
def bin (op : BinOp) : D → D → Option D
  | .int k a, .int k' b =>
    match op with
    | .shl => if b < 0 then Option.none else some (.int k (k.wrap (a * 2 ^ min b.toNat k.bits)))
    | .shr => if b < 0 then Option.none else some (.int k (a.fdiv (2 ^ min b.toNat k.bits)))
    | _ =>
    if k ≠ k' then Option.none else
    match op with
    | .add => some (.int k (k.wrap (a + b)))
    | .sub => some (.int k (k.wrap (a - b)))
    | .mul => some (.int k (k.wrap (a * b)))
    | .quo => if b = 0 then Option.none else some (.int k (k.wrap (a.tdiv b)))
    | .rem => if b = 0 then Option.none else some (.int k (a.tmod b))
    | .and => some (.int k (k.wrap (BitVec.ofInt k.bits a &&& BitVec.ofInt k.bits b).toNat))
    | .or => some (.int k (k.wrap (BitVec.ofInt k.bits a ||| BitVec.ofInt k.bits b).toNat))
    | .xor => some (.int k (k.wrap (BitVec.ofInt k.bits a ^^^ BitVec.ofInt k.bits b).toNat))
    | .eql => some (.bool (a == b))
    | .neq => some (.bool (a != b))
    | .lss => some (.bool (a < b))
    | .leq => some (.bool (a ≤ b))
    | .gtr => some (.bool (a > b))
    | .geq => some (.bool (a ≥ b))
    | _ => Option.none
  | _, _ => Option.none

def una (op : UnOp) : D → Option D
  | .bool b => match op with
    | .not => some (.bool !b)
    | _ => Option.none
  | .int k n => match op with
    | .neg => some (.int k (k.wrap (0 - n)))
    | _ => Option.none
  | _ => Option.none

def maxD : D → D → Option D
  | .int k x, .int _ y => some (.int k (if y > x then y else x))
  | _, _ => Option.none
def minD : D → D → Option D
  | .int k x, .int _ y => some (.int k (if y < x then y else x))
  | _, _ => Option.none

/-! ### operations -/
section
def Opd.ev (s : St) : Opd → V
  | .t n => s.tmps.getD n V.none
  | .c x => .d x

def intOf? : V → Option (IntKind × Int)
  | .d (.int k n) => some (k, n)
  | _ => Option.none

/-- n cells from a place on. -/
def cut {α : Type} (cs : List α) (off n : Nat) : Option (List α) := if off + n ≤ cs.length then some ((cs.drop off).take n) else Option.none

def splice (cs : List V) (off : Nat) (xs : List V) : List V := cs.take off ++ xs ++ cs.drop (off + xs.length)

def St.load (s : St) : V → Nat → Option (List V)
  | .lp i off, n => match s.ph[i]? with
    | some cs => cut cs off n
    | Option.none => Option.none
  | .sp b m off, n => match s.sh[b]? with
    | some blk => if blk.cells.length = m then cut blk.cells off n else Option.none
    | Option.none => Option.none
  | .d (.pp cs off), n => (cut cs off n).map (·.map V.d)
  | _, _ => Option.none

def St.store (s : St) : V → List V → Option St
  | .lp i off, xs => match s.ph[i]? with
    | some cs => if off + xs.length ≤ cs.length then some { s with ph := s.ph.set i (splice cs off xs) } else Option.none
    | Option.none => Option.none
  | .sp b m off, xs => match s.sh[b]? with
    | some blk => if blk.cells.length = m ∧ off + xs.length ≤ m ∧ blk.frozen = false then some { s with sh := s.sh.set b { blk with cells := splice blk.cells off xs } } else Option.none
    | Option.none => Option.none
  | _, _ => Option.none

/-- Is it a reference into memory that others see? -/
def V.far : V → Bool
  | .sp _ _ _ => true
  | .rs _ _ _ => true
  | _ => false

def V.near : V → Bool
  | .lp _ _ => true
  | _ => false

/-- A load or a store is said to be among the shared memory, or among private variables: is the address elsewhere? -/
def V.astray (v : V) (sh : Bool) : Bool := if sh then v.near else v.far

def addP : V → Nat → Option V
  | .lp i off, k => some (.lp i (off + k))
  | .sp b m off, k => some (.sp b m (off + k))
  | .d (.pp cs off), k => some (.d (.pp cs (off + k)))
  | _, _ => Option.none

def elemP (s : St) (es : Nat) : V → Int → Option V
  | .rs b off len, i => match s.sh[b]? with
    | some blk => if blk.cells.length = off + len * blk.es ∧ blk.es = es ∧ 0 ≤ i ∧ i < len then some (.sp b blk.cells.length (off + i.toNat * es)) else Option.none
    | Option.none => Option.none
  | .d (.sl _ es' xs), i => if es' = es ∧ 0 ≤ i then
      match xs[i.toNat]? with
      | some ys => some (.d (.pp ys 0))
      | Option.none => Option.none
    else Option.none
  | _, _ => Option.none

def fillG (cells : List V) : List (Nat × Nat × V) → Option (List V)
  | [] => some cells
  | (off, n, x) :: r => match x.cells with
    | some xs => if xs.length = n ∧ off + n ≤ cells.length then fillG (splice cells off xs) r else Option.none
    | Option.none => Option.none

def lenV (s : St) : V → Option Nat
  | .d .nilSl => some 0
  | .d (.sl _ _ xs) => some xs.length
  | .rs b off len => match s.sh[b]? with
    | some blk => if blk.cells.length = off + len * blk.es then some len else Option.none
    | Option.none => Option.none
  | _ => Option.none

/-- Is it nil? -/
def nilV : V → Option Bool
  | .d .nilSl => some true
  | .d (.sl _ _ _) => some false
  | _ => Option.none

/-- The cells of a slice. -/
def rowOf (s : St) (es : Nat) : V → Option (List V)
  | .d .nilSl => some []
  | .d (.sl _ es' xs) => if es' = es then some (xs.flatten.map V.d) else Option.none
  | .rs b off len => match s.sh[b]? with
    | some blk => if blk.cells.length = off + len * blk.es ∧ blk.es = es then some (blk.cells.drop off) else Option.none
    | Option.none => Option.none
  | _ => Option.none

def appendV (s : St) (ty : TypeId) (es bytes : Nat) (x : V) (m : Nat) (news : List V) : Option (V × List Blk) :=
  if m = 0 then (lenV s x).map fun _ => (x, s.sh) else
  match x with
  | .rs b off len => match s.sh[b]? with
    | some blk =>
      if off = 0 ∧ blk.cells.length = len * es ∧ blk.es = es ∧ blk.ety = ty ∧ 0 < es ∧ noLps news = true ∧ (len + m) * bytes ≤ 140737488355328 ∧ len + m ≤ 9223372036854775807 then
        some (.rs b 0 (len + m), s.sh.set b { blk with cells := blk.cells ++ news })
      else Option.none
    | Option.none => Option.none
  | .d .nilSl =>
      if 0 < es ∧ noLps news = true ∧ m * bytes ≤ 140737488355328 ∧ m ≤ 9223372036854775807 then
        some (.rs s.sh.length 0 m, s.sh ++ [⟨news, es, ty, false⟩])
      else Option.none
  | .d (.sl true es' xs) =>
      if es' = es ∧ 0 < es ∧ noLps news = true ∧ (xs.length + m) * bytes ≤ 140737488355328 ∧ xs.length + m ≤ 9223372036854775807 then
        some (.rs s.sh.length 0 (xs.length + m), s.sh ++ [⟨xs.flatten.map V.d ++ news, es, ty, false⟩])
      else Option.none
  | _ => Option.none

def sliceV (es : Nat) (x : V) (lo : Option Int) (hi : Option Int) : Option V :=
  match x with
  | .d .nilSl => if lo.getD 0 = 0 ∧ hi.getD 0 = 0 then some (.d .nilSl) else Option.none
  | .d (.sl full es' xs) =>
    if es' = es ∧ 0 ≤ lo.getD 0 ∧ lo.getD 0 ≤ hi.getD (xs.length : Int) ∧ hi.getD (xs.length : Int) ≤ xs.length then
      some (.d (.sl (full && hi.getD (xs.length : Int) == xs.length) es ((xs.take (hi.getD (xs.length : Int)).toNat).drop (lo.getD 0).toNat))) else Option.none
  | _ => Option.none

def put (s : St) (d : Option Nat) (v : V) : St :=
  match d with
  | some d => { s with tmps := s.tmps.set d v }
  | Option.none => s

def fnOf : V → Option (FuncId × List V × List V)
  | .d (.fn (.func f) first caps) => some (f, first.map V.d, caps.map V.d)
  | .fn (.func f) first caps => some (f, first, caps)
  | _ => Option.none

/-- How deep data that a call is given, or answers, may lie. -/
def deepest : Nat := 100

abbrev CallG := FuncId → List V → List Blk → Option (V × List Blk)

/-- A call among data alone: it sees nothing of the caller's memory, and leaves nothing there. -/
def pureCall (call : CallG) (s : St) (f : FuncId) (args : List V) : Option (V × St) :=
  match toDs s.sh deepest args with
  | some (ds, l) =>
    match call f (ds.map V.d) [] with
    | some (v, sh') => match toD sh' deepest v with
      | some (x, _) => some (.d x, { s with sh := freeze s.sh l })
      | Option.none => Option.none
    | Option.none => Option.none
  | Option.none => Option.none

/-- A call of data, as it is. -/
def dataCall (call : CallG) (s : St) (f : FuncId) (args : List V) : Option (V × St) :=
  match allD args with
  | some ds =>
    match call f (ds.map V.d) [] with
    | some (v, sh') => match toD sh' deepest v with
      | some (x, _) => some (.d x, s)
      | Option.none => Option.none
    | Option.none => Option.none
  | Option.none => Option.none

def sharedCall (call : CallG) (s : St) (f : FuncId) (args : List V) : Option (V × St) :=
  if noLps args then
    match call f args s.sh with
    | some (v, sh') => some (v, { s with sh := sh' })
    | Option.none => Option.none
  else Option.none

def foldD (f : D → D → Option D) : D → List V → Option D
  | x, [] => some x
  | x, .d y :: r => match f x y with
    | some z => foldD f z r
    | Option.none => Option.none
  | _, _ => Option.none

/-- What an operation comes to: a value (nothing for a store), and the state. -/
def run1 (call : CallG) (s : St) : GOp → Option (V × St)
  | .mv x => some (x.ev s, s)
  | .bp x => match (x.ev s).cells with
    | some cs => if noLps cs then some (.lp s.ph.length 0, { s with ph := s.ph ++ [cs] }) else Option.none
    | Option.none => Option.none
  | .bs ty x => match (x.ev s).cells with
    | some cs => if noLps cs then some (.sp s.sh.length cs.length 0, { s with sh := s.sh ++ [⟨cs, 1, ty, false⟩] }) else Option.none
    | Option.none => Option.none
  | .ld sh a n g => if (a.ev s).astray sh then Option.none else match s.load (a.ev s) n with
    | some cs => (mkV g cs).map fun v => (v, s)
    | Option.none => Option.none
  | .st sh a x n => if (a.ev s).astray sh then Option.none else match (x.ev s).cells with
    | some cs => if cs.length = n ∧ noLps cs = true then (s.store (a.ev s) cs).map fun s' => (.none, s') else Option.none
    | Option.none => Option.none
  | .ad a off => (addP (a.ev s) off).map fun v => (v, s)
  | .el sh x i es => if (x.ev s).far && !sh then Option.none else match intOf? (i.ev s) with
    | some (_, n) => (elemP s es (x.ev s) n).map fun v => (v, s)
    | Option.none => Option.none
  | .ea x i len es => match intOf? (i.ev s) with
    | some (_, n) => if 0 ≤ n ∧ n < len then (addP (x.ev s) (n.toNat * es)).map fun v => (v, s) else Option.none
    | Option.none => Option.none
  | .bi op x y => match x.ev s, y.ev s with
    | .d a, .d b => (bin op a b).map fun v => (.d v, s)
    | _, _ => Option.none
  | .be neg x y => match x.ev s, y.ev s with
    | .d (.bool a), .d (.bool b) => some (.d (.bool (if neg then !(a == b) else a == b)), s)
    | _, _ => Option.none
  | .en neg x => match nilV (x.ev s) with
    | some b => some (.d (.bool (if neg then !b else b)), s)
    | Option.none => Option.none
  | .un op x => match x.ev s with
    | .d a => (una op a).map fun v => (.d v, s)
    | _ => Option.none
  | .cv k x => match intOf? (x.ev s) with
    | some (_, n) => some (.d (.int k (k.wrap n)), s)
    | Option.none => Option.none
  | .pk c a b => match c.ev s with
    | .d (.bool true) => some (a.ev s, s)
    | .d (.bool false) => some (b.ev s, s)
    | _ => Option.none
  | .bu zero parts => match fillG (zero.map V.d) (parts.map fun (off, n, x) => (off, n, x.ev s)) with
    | some cs => (mkV true cs).map fun v => (v, s)
    | Option.none => Option.none
  | .bl es len zero parts => match fillG ((List.replicate len (zero.map V.d)).flatten) (parts.map fun (i, x) => (i * es, es, x.ev s)) with
    | some cs => match allD cs with
      | some ds => some (.d (.sl true es (chunk es len ds)), s)
      | Option.none => Option.none
    | Option.none => Option.none
  | .mf f first caps =>
    let us := first.map (Opd.ev s)
    let ws := caps.map (Opd.ev s)
    match allD us, allD ws with
    | some ds, some es => some (.d (.fn f ds es), s)
    | _, _ => if noLps us && noLps ws then some (.fn f us ws, s) else Option.none
  | .ms ty es bytes zero len cap => match intOf? (len.ev s), intOf? (cap.ev s) with
    | some (_, n), some (_, c) => if n = c ∧ 0 ≤ n ∧ bytes * n ≤ 281474976710656 ∧ n ≤ 9223372036854775807 ∧ zero.length = es then
        some (.rs s.sh.length 0 n.toNat, { s with sh := s.sh ++ [⟨((List.replicate n.toNat zero).flatten).map V.d, es, ty, false⟩] }) else Option.none
    | _, _ => Option.none
  | .sl es x lo hi =>
    let f : Option Opd → Option (Option Int) := fun y => match y with
      | Option.none => some Option.none
      | some y => (intOf? (y.ev s)).map fun p => some p.2
    match f lo, f hi with
    | some l, some h => (sliceV es (x.ev s) l h).map fun v => (v, s)
    | _, _ => Option.none
  | .fi x off n g => match x.ev s with
    | .d (.agg cs) => match cut cs off n with
      | some ds => (mkV g (ds.map V.d)).map fun v => (v, s)
      | Option.none => Option.none
    | .agg cs => match cut cs off n with
      | some ds => (mkV g ds).map fun v => (v, s)
      | Option.none => Option.none
    | _ => Option.none
  | .ix x i len es n g => match intOf? (i.ev s), x.ev s with
    | some (_, j), .d (.agg cs) => if 0 ≤ j ∧ j < len then
        match cut cs (j.toNat * es) n with
        | some ds => (mkV g (ds.map V.d)).map fun v => (v, s)
        | Option.none => Option.none
      else Option.none
    | _, _ => Option.none
  | .ex x i => match x.ev s with
    | .d (.tup vs) => vs[i]?.map fun v => (.d v, s)
    | .tup vs => vs[i]?.map fun v => (v, s)
    | _ => Option.none
  | .ca k f args => match fnOf (f.ev s) with
    | some (f, first, caps) =>
      let all := first ++ args.map (Opd.ev s) ++ caps
      match k with
      | 0 => dataCall call s f all
      | 1 => pureCall call s f all
      | _ => sharedCall call s f all
    | Option.none => Option.none
  | .ln sh x => if (x.ev s).far && !sh then Option.none else (lenV s (x.ev s)).map fun (n : Nat) => (V.d (.int .i64 (n : Int)), s)
  | .ls x => match x.ev s with
    | .d (.str b) => some (.d (.int .i64 b.size), s)
    | _ => Option.none
  | .mx args => match args.map (Opd.ev s) with
    | .d x :: r => (foldD maxD x r).map fun v => (.d v, s)
    | _ => Option.none
  | .mn args => match args.map (Opd.ev s) with
    | .d x :: r => (foldD minD x r).map fun v => (.d v, s)
    | _ => Option.none
  | .ap ty es bytes x y => match rowOf s es (y.ev s), lenV s (y.ev s) with
    | some news, some m => (appendV s ty es bytes (x.ev s) m news).map fun (v, sh) => (v, { s with sh := sh })
    | _, _ => Option.none
  | .a64 x y c => match x.ev s, y.ev s, c.ev s with
    | .d (.int .u64 a), .d (.int .u64 b), .d (.int .u64 c) => if 0 ≤ a ∧ 0 ≤ b ∧ 0 ≤ c ∧ c ≤ 1 then
        some (.d (.tup [.int .u64 ((a + b + c) % 18446744073709551616), .int .u64 ((a + b + c) / 18446744073709551616)]), s) else Option.none
    | _, _, _ => Option.none
  | .xs x i => match x.ev s, intOf? (i.ev s) with
    | .d (.str b), some (_, n) => match (if 0 ≤ n then b[n.toNat]? else Option.none) with
      | some c => some (.d (.int .u8 c.toNat), s)
      | Option.none => Option.none
    | _, _ => Option.none
end

/-- One operation, if it is wanted. -/
def step1 (call : CallG) (g : GOper) (s : St) : Option St :=
  match g.guard with
  | Option.none => (run1 call s g.op).map fun (v, s') => put s' g.dst v
  | some (t, b) => match s.tmps.getD t V.none with
    | .d (.bool c) => if c = b then (run1 call s g.op).map fun (v, s') => put s' g.dst v else some (put s g.dst (.d (.tup [])))
    | .d (.tup []) => some (put s g.dst (.d (.tup [])))
    | _ => Option.none

def steps (call : CallG) : List GOper → St → Option St
  | [], s => some s
  | g :: r, s => match step1 call g s with
    | some s' => steps call r s'
    | Option.none => Option.none

/-! ### code -/
inductive GExit where
  | normal
  | brk (id : Nat)
  | ret
  deriving DecidableEq

/-- At a loop's head: of private variables those of some temporaries, and of other temporaries some, are kept. -/
def keepBoxes (s : St) : List Nat → Nat → List V → Option (List V × List (List V) × List Nat)
  | [], _, acc => some (acc, [], [])
  | t :: r, j, acc => match s.tmps.getD t V.none with
    | .lp i 0 => match s.ph[i]?, keepBoxes s r (j + 1) (acc.set t (.lp j 0)) with
      | some cs, some (acc', ph, l) => if i ∈ l then Option.none else some (acc', cs :: ph, i :: l)
      | _, _ => Option.none
    | _ => Option.none
def keepLive (s : St) : List Nat → List V → Option (List V)
  | [], acc => some acc
  | t :: r, acc => match s.tmps.getD t V.none with
    | .lp _ _ => Option.none
    | .none => keepLive s r acc
    | x => if noLp x then keepLive s r (acc.set t x) else Option.none
def canon (boxes live : List Nat) (s : St) : Option St :=
  match keepLive s live (List.replicate s.tmps.length V.none) with
  | some acc => match keepBoxes s boxes 0 acc with
    | some (tmps, ph, _) => some { tmps := tmps, ph := ph, sh := s.sh }
    | Option.none => Option.none
  | Option.none => Option.none

def iter (body : St → Option (GExit × St)) : Nat → St → Option (GExit × St)
  | 0, _ => Option.none
  | n + 1, s => match body s with
    | some (.normal, s') => iter body n s'
    | some (e, s') => some (e, s')
    | Option.none => Option.none

def atHead (boxes live : List Nat) (f : St → Option (GExit × St)) (s : St) : Option (GExit × St) :=
  match canon boxes live s with
  | some s' => f s'
  | Option.none => Option.none

def gcode (call : CallG) (lf : Nat) : GCode → St → Option (GExit × St)
  | .skip, s => some (.normal, s)
  | .label, s => some (.normal, s)
  | .ret, s => some (.ret, s)
  | .exit id, s => some (.brk id, s)
  | .ops _ l, s => (steps call l s).map fun s' => (.normal, s')
  | .seq a b, s => match gcode call lf a s with
    | some (.normal, s') => gcode call lf b s'
    | some (e, s') => some (e, s')
    | Option.none => Option.none
  | .cond x a b, s => match x.ev s with
    | .d (.bool c) => if c then gcode call lf a s else gcode call lf b s
    | _ => Option.none
  | .block id a, s => match gcode call lf a s with
    | some (.brk i, s') => if i = id then some (.normal, s') else some (.brk i, s')
    | some (e, s') => some (e, s')
    | Option.none => Option.none
  | .loop boxes live boxes' live' a, s => match iter (atHead boxes live (gcode call lf a)) lf s with
    | some (e, s') => (canon boxes' live' s').map fun s'' => (e, s'')
    | Option.none => Option.none
  | .scope a, s => gcode call lf a s

def resOne (s : St) : Res → Option V
  | .tmp t => some (s.tmps.getD t V.none)
  | .cell t n g => match s.load (s.tmps.getD t V.none) n with
    | some cs => mkV g cs
    | Option.none => Option.none
def resAll (s : St) : List Res → Option (List V)
  | [] => some []
  | r :: rs => match resOne s r, resAll s rs with
    | some v, some vs => some (v :: vs)
    | _, _ => Option.none
/-- What a function answers. -/
def answer (s : St) (res : List Res) : Option V :=
  match resAll s res with
  | some [v] => if noLp v then some v else Option.none
  | some vs => match allD vs with
    | some ds => some (.d (.tup ds))
    | Option.none => if noLps vs then some (.tup vs) else Option.none
  | Option.none => Option.none

def body (call : CallG) (lf : Nat) (f : GFn) (args : List V) (sh : List Blk) : Option (V × List Blk) :=
  match gcode call lf f.body ⟨args ++ List.replicate (f.regs - args.length) V.none, [], sh⟩ with
  | some (.normal, s) => (answer s f.res).map fun v => (v, s.sh)
  | some (.ret, s) => (answer s f.res).map fun v => (v, s.sh)
  | _ => Option.none

def gcall (T : FuncId → Option GFn) : Nat → CallG
  | 0, _, _, _ => Option.none
  | n + 1, f, args, sh => match T f with
    | some g => body (gcall T n) n g args sh
    | Option.none => Option.none

end Go.Gm
