/- An abstract reading of the translated code: values without addresses ('AV'), a small store of named rows, and a function 'acall' that runs a Go function over them. Nothing is claimed here; the next texts show that what it answers is what the machine does. -/
import Derived.Deep.AppendSrc
import Derived.Laws.CopyRow
import Derived.Orders
import Derived.WalkKit
namespace Go.Ax

/-- The nil values, and 'no value'. -/
inductive Nl where
  | ptr | slice | map | func | iface | undef
  deriving DecidableEq, Inhabited

def Nl.val : Nl → Value
  | .ptr => .pointer none
  | .slice => .slice none 0 0
  | .map => .map none
  | .func => .nilFunc
  | .iface => .nilIface
  | .undef => .tuple #[]

/-- Values. 'ptr n ver off', 'row n off len sz' (sz cells an element): into the named row n (good while it has ver cells, while the slice ends where it ends). 'tree': a slice whose cells are never written again; 'full': its capacity is its length. 'iptr': a pointer to such cells. -/
inductive AV where
  | int (k : IntKind) (n : Int)
  | bool (b : Bool)
  | str (s : List UInt8)
  | nil (k : Nl)
  | ptr (n ver off : Nat)
  | row (n off len sz : Nat)
  | tree (len : Nat) (cells : List AV) (full : Bool)
  | iptr (cells : List AV)
  | agg (cs : List AV)
  | tuple (cs : List AV)
  | func (f : Nat) (caps : List AV)
  | iface (t : Nat) (v : AV)
  | map (n : Nat)
  | iter (n : Nat)
  deriving Inhabited

/-- Named rows: cells of an element type; a map's entries; a string that is ranged over. -/
inductive ARow where
  | cells (e : Nat) (cs : List AV)
  | map (es : List (AV × AV))
  | iter (s : List UInt8) (pos : Nat)
  | dead
  deriving Inhabited

abbrev ASt := List ARow
abbrev Env := List (Nat × AV)

inductive AEnd where
  | ret (v : AV)
  | panic (v : AV)
  deriving Inhabited

inductive AExit where
  | normal
  | exit (id : Nat)
  | ret
  | panic (v : AV)
  deriving Inhabited

inductive AK where
  | int (k : IntKind)
  | bool
  | string
  | pointer (e : Nat)
  | slice (e : Nat)
  | array (n : Nat) (e : Nat)
  | struct (fs : List (Nat × Nat × Nat))
  | map (k e : Nat)
  | iface
  | func
  | other
  deriving Inhabited

structure ATy where
  k : AK
  size : Nat
  bytes : Nat
  zero : List AV
  deriving Inhabited

/-- What is fixed: the types' table, the functions that are run by their own code ('fn'), which of these share the caller's rows ('inl'), which are answered for otherwise ('ext'), which temporaries live at a region's begin ('live'), of which slice types a literal stays a row ('mutS'); which functions hand on the rows that they made ('own'); at which regions rows are given up ('sw'). -/
structure Cfg where
  ty : Nat → Option ATy
  fn : Nat → Option Func
  inl : Nat → Bool
  ext : Nat → Option (List AV → ASt → Option (AEnd × ASt))
  live : Nat → Nat → Option (List Nat)
  mutS : Nat → Bool
  own : Nat → Bool
  sw : Nat → Nat → Bool

def Env.get : Env → Nat → Option AV
  | [], _ => none
  | e :: l, t => bif Nat.beq e.1 t then some e.2 else Env.get l t

def AV.cells : AV → List AV
  | .agg cs => cs
  | v => [v]

def AV.one : AV → Bool
  | .agg _ | .tuple _ | .nil .undef => false
  | _ => true

mutual
/-- All names in it are below n. -/
def AV.under (n : Nat) : AV → Bool
  | .ptr m _ _ => decide (m < n)
  | .row m _ _ _ => decide (m < n)
  | .map m => decide (m < n)
  | .iter m => decide (m < n)
  | .agg cs => underL n cs
  | .tuple cs => underL n cs
  | .func _ cs => underL n cs
  | .iface _ v => v.under n
  | _ => true
def underL (n : Nat) : List AV → Bool
  | [] => true
  | v :: l => v.under n && underL n l
end

mutual
/-- The names that stand in it, as bits. -/
def AV.mask : AV → Nat
  | .ptr m _ _ => 2 ^ m
  | .row m _ _ _ => 2 ^ m
  | .map m => 2 ^ m
  | .iter m => 2 ^ m
  | .agg cs => maskL cs
  | .tuple cs => maskL cs
  | .func _ cs => maskL cs
  | .iface _ v => v.mask
  | _ => 0
def maskL : List AV → Nat
  | [] => 0
  | v :: l => v.mask ||| maskL l
end

def maskP : List (AV × AV) → Nat
  | [] => 0
  | e :: l => e.1.mask ||| e.2.mask ||| maskP l

def ARow.mask : ARow → Nat
  | .cells _ cs => maskL cs
  | .map es => maskP es
  | _ => 0

def maskR : List ARow → Nat
  | [] => 0
  | r :: l => r.mask ||| maskR l

def maskE : Env → Nat
  | [] => 0
  | e :: l => e.2.mask ||| maskE l

def ofValue : Value → Option AV
  | .bool b => some (.bool b)
  | .int k n => some (.int k n)
  | .string s => some (.str s.data.toList)
  | .pointer none => some (.nil .ptr)
  | .slice none 0 0 => some (.nil .slice)
  | .map none => some (.nil .map)
  | .nilFunc => some (.nil .func)
  | .nilIface => some (.nil .iface)
  | _ => none

def eval (E : Env) : Operand → Option AV
  | .tmp t => E.get t
  | .const v => ofValue v
  | .global _ => none
  | .func f => some (.func f [])

def evalL (E : Env) : List Operand → Option (List AV)
  | [] => some []
  | o :: l => match eval E o, evalL E l with
    | some v, some vs => some (v :: vs)
    | _, _ => none

def ATy.agg (t : ATy) : Bool :=
  match t.k with
  | .struct _ | .array _ _ => true
  | _ => false

/-- A value of type t out of cells, from a place on. -/
def partOf (T : ATy) (cs : List AV) (off : Nat) : Option AV :=
  if T.agg then (if off + T.size ≤ cs.length then some (.agg ((cs.drop off).take T.size)) else none)
  else cs[off]?

def aload (C : Cfg) (σ : ASt) (t : Nat) (a : AV) : Option AV :=
  match C.ty t, a with
  | some T, .ptr n ver off =>
    match σ[n]? with
    | some (.cells _ cs) => if cs.length = ver then partOf T cs off else none
    | _ => none
  | some T, .iptr cells => partOf T cells 0
  | _, _ => none

/-- Cells laid over others, from a place on. -/
def splice {α : Type} (cs : List α) (off : Nat) (vs : List α) : List α := cs.take off ++ vs ++ cs.drop (off + vs.length)

def barrier (bases : List Nat) (n : Nat) (vs : List AV) : Bool := bases.all fun b => decide (b ≤ n) || underL b vs

def astore (C : Cfg) (bases : List Nat) (σ : ASt) (t : Nat) (a v : AV) : Option ASt :=
  match C.ty t, a with
  | some T, .ptr n ver off =>
    match σ[n]? with
    | some (.cells e cs) =>
      if cs.length = ver ∧ v.cells.length = T.size ∧ off + T.size ≤ ver ∧ v.cells.all AV.one = true ∧ barrier bases n v.cells = true
      then some (σ.set n (.cells e (splice cs off v.cells))) else none
    | _ => none
  | _, _ => none

/-- What a slice (or a string, where it is appended) holds. -/
def sliceOf (C : Cfg) (σ : ASt) (e : Nat) (a : AV) : Option (Nat × List AV) :=
  match a with
  | .nil .slice => some (0, [])
  | .tree len cells _ => some (len, cells)
  | .row n off len sz =>
    match σ[n]?, C.ty e with
    | some (.cells _ cs), some T => if cs.length = off + len * sz ∧ sz = T.size then some (len, cs.drop off) else none
    | _, _ => none
  | .str s => some (s.length, s.map fun b => .int .u8 b.toNat)
  | _ => none

def lenOf : AV → Option Nat
  | .nil .slice => some 0
  | .tree len _ _ => some len
  | .row _ _ len _ => some len
  | .str s => some s.length
  | _ => none

mutual
/-- What may be handed on as never written again: its rows (from fb on) become trees. -/
def frz (C : Cfg) (σ : ASt) (fb : Nat) : Nat → AV → Option AV
  | 0, _ => none
  | k + 1, v => match v with
    | .row n off len sz =>
      if n < fb then none else
      match σ[n]? with
      | some (.cells _ cs) => if cs.length = off + len * sz then (frzL C σ fb k (cs.drop off)).map fun l => .tree len l false else none
      | _ => none
    | .nil .slice => some (.tree 0 [] false)
    | .tree len cells _ => some (.tree len cells false)
    | .agg cs => (frzL C σ fb k cs).map .agg
    | .tuple cs => (frzL C σ fb k cs).map .tuple
    | .iface t x => (frz C σ fb k x).map (.iface t)
    | .int _ _ | .bool _ | .str _ | .nil _ | .iptr _ => some v
    | .func f [] => some (.func f [])
    | _ => none
def frzL (C : Cfg) (σ : ASt) (fb : Nat) : Nat → List AV → Option (List AV)
  | 0, _ => none
  | k + 1, l => match l with
    | [] => some []
    | v :: l => match frz C σ fb k v, frzL C σ fb k l with
      | some x, some xs => some (x :: xs)
      | _, _ => none
end

/-- The same at a function's end: rows below fb stay what they are. -/
def retv (C : Cfg) (σ : ASt) (fb : Nat) : AV → Option AV
  | .row n off len sz => if n < fb then some (.row n off len sz) else frz C σ fb 100000 (.row n off len sz)
  | .ptr n ver off => if n < fb then some (.ptr n ver off) else none
  | v => frz C σ fb 100000 v

def retvL (C : Cfg) (σ : ASt) (fb : Nat) : List AV → Option (List AV)
  | [] => some []
  | v :: l => match retv C σ fb v, retvL C σ fb l with
    | some x, some xs => some (x :: xs)
    | _, _ => none

def retV (C : Cfg) (σ : ASt) (fb : Nat) : AV → Option AV
  | .tuple cs => (retvL C σ fb cs).map .tuple
  | v => retv C σ fb v

end Go.Ax
