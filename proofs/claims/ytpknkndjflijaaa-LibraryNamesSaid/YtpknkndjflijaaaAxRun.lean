/- The abstract run: operations, regions, code, calls. -/
import Derived.Test.YtpknkndjflijaaaAxDefs
namespace Go.Ax

/-! ### Operations that look at their operands alone -/

def abin (op : BinOp) (x y : AV) : Option AV :=
  match x, y with
  | .int k a, .int k' b =>
    match op with
    | .shl => if b < 0 then none else some (.int k (k.wrap (a * 2 ^ (min b.toNat k.bits))))
    | .shr => if b < 0 then none else some (.int k (a.fdiv (2 ^ (min b.toNat k.bits))))
    | .add => if k = k' then some (.int k (k.wrap (a + b))) else none
    | .sub => if k = k' then some (.int k (k.wrap (a - b))) else none
    | .mul => if k = k' then some (.int k (k.wrap (a * b))) else none
    | .quo => if k = k' ∧ b ≠ 0 then some (.int k (k.wrap (a.tdiv b))) else none
    | .rem => if k = k' ∧ b ≠ 0 then some (.int k (a.tmod b)) else none
    | .and => if k = k' then some (.int k (bits .and k a b)) else none
    | .or => if k = k' then some (.int k (bits .or k a b)) else none
    | .xor => if k = k' then some (.int k (bits .xor k a b)) else none
    | .andNot => if k = k' then some (.int k (bits .andNot k a b)) else none
    | .eql => if k = k' then some (.bool (a == b)) else none
    | .neq => if k = k' then some (.bool (a != b)) else none
    | .lss => if k = k' then some (.bool (decide (a < b))) else none
    | .leq => if k = k' then some (.bool (decide (a ≤ b))) else none
    | .gtr => if k = k' then some (.bool (decide (a > b))) else none
    | .geq => if k = k' then some (.bool (decide (a ≥ b))) else none
  | .str a, .str b =>
    match op with
    | .add => if a.length + b.length ≤ 4611686018427387904 then some (.str (a ++ b)) else none
    | .eql => some (.bool (a == b))
    | .neq => some (.bool (!(a == b)))
    | .lss => some (.bool (Op.bytesLess a b))
    | .leq => some (.bool (Op.bytesLess a b || a == b))
    | .gtr => some (.bool (!(Op.bytesLess a b || a == b)))
    | .geq => some (.bool (!(Op.bytesLess a b)))
    | _ => none
  | _, _ => none

/-- '==' where it is no operation on numbers or texts. -/
def aeql (k : AK) (cst : Bool) (x y : AV) : Option Bool :=
  match k, x, y with
  | .bool, .bool a, .bool b => some (a == b)
  | .pointer _, .nil .ptr, .nil .ptr => some true
  | .pointer _, .ptr _ _ _, .nil .ptr => some false
  | .pointer _, .iptr _, .nil .ptr => some false
  | .slice _, .nil .slice, .nil .slice => some true
  | .slice _, .row _ _ _ _, .nil .slice => some false
  | .slice _, .tree (_ + 1) _ _, .nil .slice => some false
  | .func, .func _ _, .nil .func => some false
  | .func, .nil .func, .nil .func => some true
  | .iface, .nil .iface, .nil .iface => if cst then some true else none
  | .iface, .iface _ _, .nil .iface => some false
  | _, _, _ => none

def isCst : Operand → Bool
  | .const _ => true
  | _ => false

def abinOp (C : Cfg) (op : BinOp) (t : Nat) (cst : Bool) (x y : AV) : Option AV :=
  match abin op x y with
  | some v => some v
  | none =>
    match C.ty t with
    | none => none
    | some T =>
      match op with
      | .eql => (aeql T.k cst x y).map .bool
      | .neq => (aeql T.k cst x y).map fun b => .bool (!b)
      | _ => none

def aun (op : UnOp) (x : AV) : Option AV :=
  match op, x with
  | .neg, .int k n => some (.int k (k.wrap (0 - n)))
  | .xor, .int k n => some (.int k (bits .xor k (if k.signed then -1 else k.max) n))
  | .not, .bool b => some (.bool (!b))
  | _, _ => none

/-- int to int, string to string. -/
def aconv (C : Cfg) (src dst : Nat) (x : AV) : Option AV :=
  match C.ty src, C.ty dst, x with
  | some _, some D, .int _ n =>
    match D.k with
    | .int k => some (.int k (k.wrap n))
    | _ => none
  | some _, some D, .str s =>
    match D.k with
    | .string => some (.str s)
    | _ => none
  | _, _, _ => none

def abound (x : Option AV) (dflt most : Nat) : Option Nat :=
  match x with
  | none => some dflt
  | some (.int _ i) => if 0 ≤ i ∧ i ≤ most then some i.toNat else none
  | some _ => none

/-- x[lo:hi]; of a slice hi at most its length. -/
def aslice (C : Cfg) (t : Nat) (x : AV) (lo hi : Option AV) : Option AV :=
  match x with
  | .str s =>
    match C.ty t with
    | some T =>
      match T.k with
      | .string =>
        match abound hi s.length s.length with
        | some h =>
          match abound lo 0 h with
          | some l => some (.str ((s.take h).drop l))
          | none => none
        | none => none
      | _ => none
    | none => none
  | .tree len cells _ =>
    match C.ty t with
    | some T =>
      match T.k with
      | .slice e =>
        match C.ty e with
        | some S =>
          match abound hi len len with
          | some h =>
            match abound lo 0 h with
            | some l => some (.tree (h - l) ((cells.take (h * S.size)).drop (l * S.size)) false)
            | none => none
          | none => none
        | none => none
      | _ => none
    | none => none
  | _ => none

def optEval (E : Env) : Option Operand → Option (Option AV)
  | none => some none
  | some x => (eval E x).map some

def afieldAddr (C : Cfg) (s : Nat) (x : AV) (f : Nat) : Option AV :=
  match C.ty s with
  | some T =>
    match T.k with
    | .struct fs =>
      match fs[f]? with
      | some (off, size, _) =>
        if size = 0 then none else
        match x with
        | .ptr n ver o => some (.ptr n ver (o + off))
        | .iptr cells => some (.iptr (cells.drop off))
        | _ => none
      | none => none
    | _ => none
  | none => none

def afield (C : Cfg) (s : Nat) (x : AV) (f : Nat) : Option AV :=
  match C.ty s with
  | some T =>
    match T.k with
    | .struct fs =>
      match fs[f]?, x with
      | some (off, _, ft), .agg cs =>
        match C.ty ft with
        | some F => partOf F cs off
        | none => none
      | _, _ => none
    | _ => none
  | none => none

def aindexAddr (C : Cfg) (t : Nat) (x i : AV) : Option AV :=
  match C.ty t, i with
  | some T, .int _ i =>
    match T.k with
    | .slice e =>
      match C.ty e with
      | some S =>
        match x with
        | .row n off len sz => if 0 ≤ i ∧ i < len ∧ sz = S.size then some (.ptr n (off + len * S.size) (off + i.toNat * S.size)) else none
        | .tree len cells _ => if 0 ≤ i ∧ i < len then some (.iptr (cells.drop (i.toNat * S.size))) else none
        | _ => none
      | none => none
    | .array m e =>
      match C.ty e with
      | some S =>
        match x with
        | .ptr n ver off => if 0 ≤ i ∧ i < m then some (.ptr n ver (off + i.toNat * S.size)) else none
        | .iptr cells => if 0 ≤ i ∧ i < m then some (.iptr (cells.drop (i.toNat * S.size))) else none
        | _ => none
      | none => none
    | _ => none
  | _, _ => none

def aindex (C : Cfg) (t : Nat) (x i : AV) : Option AV :=
  match C.ty t, i with
  | some T, .int _ i =>
    match T.k, x with
    | .string, .str s => if 0 ≤ i then (s[i.toNat]?).map fun b => .int .u8 b.toNat else none
    | .array m e, .agg cs =>
      match C.ty e with
      | some S => if 0 ≤ i ∧ i < m then partOf S cs (i.toNat * S.size) else none
      | none => none
    | _, _ => none
  | _, _ => none

/-- Parts laid into cells. -/
def afill (place : Nat → Option (Nat × Nat)) : List AV → List (Nat × AV) → Option (List AV)
  | cells, [] => some cells
  | cells, (i, v) :: rest =>
    match place i with
    | none => none
    | some (off, size) => if v.cells.length = size ∧ off + size ≤ cells.length then afill place (splice cells off v.cells) rest else none

def evalP (E : Env) : List (Nat × Operand) → Option (List (Nat × AV))
  | [] => some []
  | (i, x) :: l => match eval E x, evalP E l with
    | some v, some vs => some ((i, v) :: vs)
    | _, _ => none

def abuild (C : Cfg) (t : Nat) (parts : List (Nat × AV)) : Option AV :=
  match C.ty t with
  | some T =>
    match T.k with
    | .struct fs => (afill (fun i => (fs[i]?).map fun f => (f.1, f.2.1)) T.zero parts).map .agg
    | .array _ e =>
      match C.ty e with
      | some S => (afill (fun i => some (i * S.size, S.size)) T.zero parts).map .agg
      | none => none
    | _ => none
  | none => none

def amax : List AV → Option AV
  | [.int k a, .int _ b] => some (.int k (if b > a then b else a))
  | _ => none

def amin : List AV → Option AV
  | [.int k a, .int _ b] => some (.int k (if b < a then b else a))
  | _ => none

def alen (C : Cfg) (t : Nat) (x : AV) : Option AV :=
  match C.ty t with
  | some T =>
    match T.k, x with
    | .string, .str s => some (.int .i64 s.length)
    | .slice _, .nil .slice => some (.int .i64 0)
    | .slice _, .tree len _ _ => some (.int .i64 len)
    | .slice _, .row _ _ len _ => some (.int .i64 len)
    | .array n _, _ => some (.int .i64 n)
    | _, _ => none
  | none => none

def apure (C : Cfg) (E : Env) (op : Op) : Option AV :=
  match op with
  | .move x => eval E x
  | .assign x => eval E x
  | .pick c a b =>
    match eval E c with
    | some (.bool true) => eval E a
    | some (.bool false) => eval E b
    | _ => none
  | .nilCheck x =>
    match eval E x with
    | some (.ptr n v o) => some (.ptr n v o)
    | some (.iptr c) => some (.iptr c)
    | some (.func f c) => some (.func f c)
    | some (.iface t v) => some (.iface t v)
    | _ => none
  | .binOp op t x y _ =>
    match eval E x, eval E y with
    | some a, some b => abinOp C op t (isCst x || isCst y) a b
    | _, _ => none
  | .unOp op _ x =>
    match eval E x with
    | some a => aun op a
    | none => none
  | .convert src dst x =>
    match eval E x with
    | some a => aconv C src dst a
    | none => none
  | .makeInterface t x =>
    match C.ty t, eval E x with
    | some T, some a => match T.k with | .iface => none | _ => some (.iface t a)
    | _, _ => none
  | .makeFunc (.func f) first caps => if first.size = 0 then (evalL E caps.toList).map (.func f) else none
  | .slice t x lo hi none =>
    match eval E x, optEval E lo, optEval E hi with
    | some a, some l, some h => aslice C t a l h
    | _, _, _ => none
  | .fieldAddr s x f =>
    match eval E x with
    | some a => afieldAddr C s a f
    | none => none
  | .field s x f =>
    match eval E x with
    | some a => afield C s a f
    | none => none
  | .indexAddr t x i =>
    match eval E x, eval E i with
    | some a, some j => aindexAddr C t a j
    | _, _ => none
  | .index t x i =>
    match eval E x, eval E i with
    | some a, some j => aindex C t a j
    | _, _ => none
  | .extract x i =>
    match eval E x with
    | some (.tuple cs) => cs[i]?
    | _ => none
  | .build t parts =>
    match evalP E parts.toList with
    | some ps => abuild C t ps
    | none => none
  | .call c =>
    match c.callee with
    | .builtin .len =>
      match c.args.toList, c.argTypes.toList with
      | [x], [t] => match eval E x with
        | some a => alen C t a
        | none => none
      | _, _ => none
    | .builtin .max => match evalL E c.args.toList with
      | some l => amax l
      | none => none
    | .builtin .min => match evalL E c.args.toList with
      | some l => amin l
      | none => none
    | _ => none
  | _ => none

/-! ### Operations that read -/

def afind (k : AV) : List (AV × AV) → Option (Option AV)
  | [] => some none
  | (k', v) :: l =>
    match k, k' with
    | .int i a, .int j b => if i = j then (if a = b then some (some v) else afind k l) else none
    | .str a, .str b => if a = b then some (some v) else afind k l
    | _, _ => none

/-- Keys that are whole numbers or texts. -/
def keyTy (C : Cfg) (t : Nat) (k : AV) : Bool :=
  match C.ty t with
  | some K => match K.k, k with
    | .int _, .int _ _ => true
    | .string, .str _ => true
    | _, _ => false
  | none => false

def alookup (C : Cfg) (σ : ASt) (t : Nat) (m k : AV) : Option AV :=
  match C.ty t, m with
  | some T, .map n =>
    match T.k, σ[n]? with
    | .map kt e, some (.map es) =>
      if keyTy C kt k then
      match C.ty e, afind k es with
      | some _, some (some v) => some v
      | some S, some none => if S.agg then none else S.zero[0]?
      | _, _ => none
      else none
    | _, _ => none
  | _, _ => none

/-- The bytes of a slice of bytes, as a text. -/
def bytesOf : List AV → Option (List UInt8)
  | [] => some []
  | .int .u8 n :: l => (bytesOf l).map (UInt8.ofNat n.toNat :: ·)
  | _ => none

def aread (C : Cfg) (σ : ASt) (E : Env) (op : Op) : Option AV :=
  match op with
  | .load t a =>
    match eval E a with
    | some x => aload C σ t x
    | none => none
  | .lookup t m k false =>
    match eval E m, eval E k with
    | some x, some y => alookup C σ t x y
    | _, _ => none
  | .convert src dst x =>
    match eval E x, C.ty src, C.ty dst with
    | some a, some S, some D =>
      match S.k, D.k with
      | .slice e, .string =>
        match C.ty e with
        | some B =>
          match B.k, sliceOf C σ e a with
          | .int .u8, some (m, cells) => match a with
            | .str _ => none
            | _ => if cells.length = m then (bytesOf cells).map .str else none
          | _, _ => none
        | none => none
      | _, _ => none
    | _, _, _ => none
  | _ => none

/-! ### Operations that act -/

inductive OR where
  | val (v : AV) (σ : ASt)
  | panic (v : AV) (σ : ASt)

abbrev ACall := List Nat → Nat → List AV → ASt → Option (AEnd × ASt)

def asrc (C : Cfg) (σ : ASt) (e : Nat) (k : AK) (x : AV) : Option (Nat × List AV) :=
  match k with
  | .slice _ =>
    match x with
    | .str _ => none
    | y => sliceOf C σ e y
  | .string =>
    match x, C.ty e with
    | .str s, some S => if S.size = 1 then some (s.length, s.map fun b => .int .u8 b.toNat) else none
    | _, _ => none
  | _ => none

def aappend (C : Cfg) (bases : List Nat) (σ : ASt) (st xt : Nat) (s x : AV) : Option (AV × ASt) :=
  match C.ty st, C.ty xt with
  | some T, some X =>
    match T.k with
    | .slice e =>
      match C.ty e, asrc C σ e X.k x with
      | some S, some (m, cells) =>
        if cells.all AV.one = true ∧ cells.length = m * S.size ∧ S.bytes ≤ 1024 then
        match s with
        | .nil .slice =>
          if m = 0 then some (.nil .slice, σ)
          else if m ≤ 1073741824 then some (.row σ.length 0 m S.size, σ ++ [.cells e cells]) else none
        | .tree len cs true =>
          if m = 0 then some (.tree len cs true, σ)
          else if len + m ≤ 1073741824 ∧ cs.length = len * S.size ∧ cs.all AV.one = true then some (.row σ.length 0 (len + m) S.size, σ ++ [.cells e (cs ++ cells)]) else none
        | .row n off len sz =>
          match σ[n]? with
          | some (.cells e' cs) =>
            if e' = e ∧ off = 0 ∧ sz = S.size ∧ cs.length = len * S.size ∧ len + m ≤ 1073741824 ∧ barrier bases n cells = true ∧ 0 < S.size
            then some (.row n 0 (len + m) S.size, σ.set n (.cells e (cs ++ cells))) else none
          | _ => none
        | _ => none
        else none
      | _, _ => none
    | _ => none
  | _, _ => none

def aeff (C : Cfg) (call : ACall) (bases : List Nat) (E : Env) (σ : ASt) (op : Op) : Option OR :=
  match op with
  | .alloc t =>
    match C.ty t with
    | some T => some (.val (.ptr σ.length T.zero.length 0) (σ ++ [.cells t T.zero]))
    | none => none
  | .box t x =>
    match eval E x with
    | some v => if v.cells.all AV.one = true then some (.val (.ptr σ.length v.cells.length 0) (σ ++ [.cells t v.cells])) else none
    | none => none
  | .buildSlice t len parts =>
    match C.ty t, evalP E parts.toList with
    | some T, some ps =>
      match T.k with
      | .slice e =>
        match C.ty e with
        | some S =>
          if len * S.size ≤ 16777216 then
          match afill (fun i => some (i * S.size, S.size)) ((List.range (len * S.size)).map fun j => S.zero.getD (j % S.zero.length) (.nil .undef)) ps with
          | some cells =>
            if cells.all AV.one = true ∧ 0 < S.size then
            match (if C.mutS t then none else frzL C σ σ.length 100000 cells) with
            | some cs => some (.val (.tree len cs true) σ)
            | none => some (.val (.row σ.length 0 len S.size) (σ ++ [.cells e cells]))
            else none
          | none => none
          else none
        | none => none
      | _ => none
    | _, _ => none
  | .store t a x =>
    match eval E a, eval E x with
    | some p, some v =>
      match astore C bases σ t p v with
      | some σ' => some (.val (.nil .undef) σ')
      | none => none
    | _, _ => none
  | .makeMap _ none => some (.val (.map σ.length) (σ ++ [.map []]))
  | .insert t m k x =>
    match C.ty t, eval E m, eval E k, eval E x with
    | some T, some (.map n), some kv, some v =>
      match T.k, σ[n]?, afind kv (match σ[n]? with | some (.map es) => es | _ => []) with
      | .map kt _, some (.map es), some none =>
        match kv with
        | .int _ _ | .str _ => if keyTy C kt kv = true ∧ barrier bases n [v] = true ∧ v.one = true then some (.val (.nil .undef) (σ.set n (.map (es ++ [(kv, v)])))) else none
        | _ => none
      | _, _, _ => none
    | _, _, _, _ => none
  | .range t x =>
    match C.ty t, eval E x with
    | some T, some (.str s) =>
      match T.k with
      | .string => some (.val (.iter σ.length) (σ ++ [.iter s 0]))
      | _ => none
    | _, _ => none
  | .next it true =>
    match eval E it with
    | some (.iter n) =>
      match σ[n]? with
      | some (.iter s pos) =>
        if pos < s.length then
          let d := Utf8.decode ⟨s.toArray⟩ pos
          some (.val (.tuple [.bool true, .int .i64 pos, .int .i32 d.1]) (σ.set n (.iter s (pos + d.2))))
        else some (.val (.tuple [.bool false]) σ)
      | _ => none
    | _ => none
  | .panic x =>
    match eval E x with
    | some (.iface t v) => some (.panic (.iface t v) σ)
    | _ => none
  | .call c =>
    match c.callee with
    | .value g =>
      match eval E g, evalL E c.args.toList with
      | some (.func f caps), some args =>
        match call bases f (args ++ caps) σ with
        | some (.ret v, σ') => some (.val v σ')
        | some (.panic v, σ') => some (.panic v σ')
        | none => none
      | _, _ => none
    | .builtin .append =>
      match c.argTypes.toList, evalL E c.args.toList with
      | [st, xt], some [s, x] =>
        match aappend C bases σ st xt s x with
        | some (v, σ') => some (.val v σ')
        | none => none
      | _, _ => none
    | _ => none
  | _ => none

inductive Cls where
  | pure | read | eff
  deriving DecidableEq

def cls (C : Cfg) (op : Op) : Cls :=
  match op with
  | .load _ _ | .lookup _ _ _ _ => .read
  | .convert src dst _ =>
    match C.ty src, C.ty dst with
    | some S, some D =>
      match S.k, D.k with
      | .slice _, .string => .read
      | _, _ => .pure
    | _, _ => .pure
  | .alloc _ | .box _ _ | .buildSlice _ _ _ | .store _ _ _ | .makeMap _ _ | .insert _ _ _ _ | .range _ _ | .next _ _ | .panic _ => .eff
  | .call c =>
    match c.callee with
    | .builtin .len | .builtin .max | .builtin .min => .pure
    | _ => .eff
  | _ => .pure

def aop (C : Cfg) (call : ACall) (bases : List Nat) (E : Env) (σ : ASt) (op : Op) : Option OR :=
  match cls C op with
  | .pure => (apure C E op).map (.val · σ)
  | .read => (aread C σ E op).map (.val · σ)
  | .eff => aeff C call bases E σ op

/-! ### Regions -/

def awanted (ops : List Oper) (E : Env) (o : Oper) : Option Bool :=
  match o.guard with
  | none => some true
  | some (j, want) =>
    match (ops[j]?).bind (·.dst) with
    | none => none
    | some d =>
      match E.get d with
      | some (.bool b) => some (b == want)
      | some (.nil .undef) => some false
      | _ => none

/-- What stands in the temporary behind the operation; none: there is no such temporary. -/
def setDst (nt : Nat) (o : Oper) (v : AV) (E : Env) : Option Env :=
  match o.dst with
  | none => some E
  | some d => if d < nt then some ((d, v) :: E) else none

def aops (C : Cfg) (call : ACall) (bases : List Nat) (nt : Nat) (ops : List Oper) : List Oper → Env → ASt → Option (AExit × Env × ASt)
  | [], E, σ => some (.normal, E, σ)
  | o :: rest, E, σ =>
    match awanted ops E o with
    | none => none
    | some false =>
      match setDst nt o (.nil .undef) E with
      | some E' => aops C call bases nt ops rest E' σ
      | none => none
    | some true =>
      match aop C call bases E σ o.op with
      | none => none
      | some (.panic v σ') => some (.panic v, E, σ')
      | some (.val v σ') =>
        match setDst nt o v E with
        | some E' => aops C call bases nt ops rest E' σ'
        | none => none

/-- The operations that must come ahead of each, as bits. -/
def preOf (acc : List Nat) (o : Oper) : Nat :=
  o.after.toList.foldl (fun s e => if Region.binds .any e then s ||| 2 ^ e.on ||| acc.getD e.on 0 else s) 0

def pres : List Nat → List Oper → List Nat
  | acc, [] => acc
  | acc, o :: l => pres (acc ++ [preOf acc o]) l

def opTmps (o : Oper) : List Nat := o.op.operands.toList.filterMap fun | .tmp t => some t | _ => none

def guardTmp (ops : List Oper) (o : Oper) : List Nat :=
  match o.guard with
  | none => []
  | some (j, _) => ((ops[j]?).bind (·.dst)).toList

/-- May the operations be run in the order of the text, whatever order is drawn? (temporaries; those that act, one behind the other) -/
def regOK (C : Cfg) (ops : List Oper) : Bool :=
  let pr := pres [] ops
  let ix := ops.zipIdx
  ix.all fun (o, j) =>
    (o.after.toList.all fun e => !Region.binds .any e || decide (e.on < j)) &&
    ix.all fun (p, i) =>
      (i == j || (match p.dst with | some d => o.dst != some d | none => true)) &&
      (i == j || (match p.dst with
        | some d => if (opTmps o ++ guardTmp ops o).contains d then (if i < j then (pr.getD j 0).testBit i else (pr.getD i 0).testBit j) else true
        | none => true)) &&
      (if i < j && cls C o.op == .eff && cls C p.op == .eff then (pr.getD j 0).testBit i else true)

mutual
def AV.beq : AV → AV → Bool
  | .int k n, .int k' n' => decide (k = k') && decide (n = n')
  | .bool b, .bool b' => b == b'
  | .str s, .str s' => s == s'
  | .nil k, .nil k' => decide (k = k')
  | .ptr a b c, .ptr a' b' c' => a == a' && b == b' && c == c'
  | .row a b c d, .row a' b' c' d' => a == a' && b == b' && c == c' && d == d'
  | .tree l c f, .tree l' c' f' => l == l' && f == f' && beqL c c'
  | .iptr c, .iptr c' => beqL c c'
  | .agg c, .agg c' => beqL c c'
  | .tuple c, .tuple c' => beqL c c'
  | .func f c, .func f' c' => f == f' && beqL c c'
  | .iface t v, .iface t' v' => t == t' && v.beq v'
  | .map n, .map n' => n == n'
  | .iter n, .iter n' => n == n'
  | _, _ => false
def beqL : List AV → List AV → Bool
  | [], [] => true
  | a :: l, b :: m => a.beq b && beqL l m
  | _, _ => false
end

/-- What was met on the way: before each operation, and (if it was carried out) what it came to. -/
structure TR where
  E : Env
  σ : ASt
  σ' : ASt
  v : Option AV

def adraw (C : Cfg) (call : ACall) (bases : List Nat) (nt : Nat) (ops : List Oper) : List Oper → Env → ASt → List TR → Option (AExit × Env × ASt × List TR)
  | [], E, σ, tr => some (.normal, E, σ, tr)
  | o :: rest, E, σ, tr =>
    match awanted ops E o with
    | none => none
    | some false =>
      match setDst nt o (.nil .undef) E with
      | some E' => adraw C call bases nt ops rest E' σ (tr ++ [⟨E, σ, σ, none⟩])
      | none => none
    | some true =>
      match aop C call bases E σ o.op with
      | none => none
      | some (.panic v σ') => some (.panic v, E, σ', tr)
      | some (.val v σ') =>
        match setDst nt o v E with
        | some E' => adraw C call bases nt ops rest E' σ' (tr ++ [⟨E, σ, σ', some v⟩])
        | none => none

/-- The reads give the same at every time at which they may come; nothing comes beside what panics. -/
def drawOK (C : Cfg) (ops : List Oper) (tr : List TR) : Bool :=
  let pr := pres [] ops
  (ops.zipIdx.all fun (o, i) =>
    match tr[i]? with
    | none => true
    | some T =>
      match cls C o.op, T.v with
      | .read, some v =>
        (ops.zipIdx.all fun (p, j) =>
          match tr[j]? with
          | none => true
          | some U =>
            if cls C p.op == .eff && U.v.isSome && !(pr.getD i 0).testBit j && !(pr.getD j 0).testBit i then
              (match aread C U.σ T.E o.op with | some x => x.beq v | none => false) && (match aread C U.σ' T.E o.op with | some x => x.beq v | none => false)
            else true)
      | _, _ => true) &&
  (ops.zipIdx.all fun (_, i) => decide (i ≤ tr.length) || (pr.getD i 0).testBit tr.length)

def filterE (ts : List Nat) (E : Env) : Env := ts.filterMap fun t => (E.get t).map fun v => (t, v)

def markFrom (u : Nat) : Nat → List ARow → List (Option ARow)
  | _, [] => []
  | n, r :: l => (bif u.testBit n then some r else none) :: markFrom u (n + 1) l

def popNone : List (Option ARow) → List ARow
  | [] => []
  | o :: l => match o, popNone l with
    | none, [] => []
    | o, l' => o.getD .dead :: l'

/-- Rows from cb on that nothing names any more are given up. -/
def sweep (fb cb : Nat) (E : Env) (σ : ASt) : ASt := σ.take cb ++ popNone (markFrom (maskE E ||| maskR (σ.drop fb)) cb (σ.drop cb))

structure Fr where
  f : Nat
  nt : Nat
  fb : Nat
  cb : Nat
  bases : List Nat

/-- Could it panic? (of what is run here) -/
def dies : Op → Bool
  | .panic _ => true
  | .call c => match c.callee with
    | .value _ => true
    | _ => false
  | _ => false

/-- May it be run in the order of the text, whatever is met? -/
def easyOK (C : Cfg) (ops : List Oper) : Bool :=
  regOK C ops &&
  (let pr := pres [] ops
   (ops.zipIdx.all fun (o, i) => !(cls C o.op == .read) || ops.zipIdx.all fun (p, j) => !(cls C p.op == .eff) || (pr.getD i 0).testBit j || (pr.getD j 0).testBit i) &&
   (ops.zipIdx.all fun (o, i) => !dies o.op || ops.zipIdx.all fun (_, j) => decide (j ≤ i) || (pr.getD j 0).testBit i))

def giveUp (C : Cfg) (F : Fr) (id : Nat) (E : Env) (σ : ASt) : ASt := bif C.sw F.f id then sweep F.fb F.cb E σ else σ

def aregion (C : Cfg) (call : ACall) (F : Fr) (id : Nat) (ops : List Oper) (draw : Bool) (E : Env) (σ : ASt) : Option (AExit × Env × ASt) :=
  match C.live F.f id with
  | none => none
  | some ts =>
    bif draw && !easyOK C ops then
      if regOK C ops then
        match adraw C call F.bases F.nt ops ops (filterE ts E) (giveUp C F id (filterE ts E) σ) [] with
        | some (x, E', σ', tr) => if drawOK C ops tr then some (x, E', σ') else none
        | none => none
      else none
    else aops C call F.bases F.nt ops ops (filterE ts E) (giveUp C F id (filterE ts E) σ)

/-! ### Code -/

def aloop (body : Env → ASt → Option (AExit × Env × ASt)) : Nat → Env → ASt → Option (AExit × Env × ASt)
  | 0, _, _ => none
  | k + 1, E, σ =>
    match body E σ with
    | some (.normal, E', σ') => aloop body k E' σ'
    | r => r

def acode (C : Cfg) (call : ACall) (F : Fr) (fuel : Nat) : Code → Env → ASt → Option (AExit × Env × ASt)
  | .skip, E, σ => some (.normal, E, σ)
  | .label _, E, σ => some (.normal, E, σ)
  | .region id ops draw, E, σ => aregion C call F id ops.toList draw E σ
  | .seq a b, E, σ =>
    match acode C call F fuel a E σ with
    | some (.normal, E', σ') => acode C call F fuel b E' σ'
    | r => r
  | .cond c t e, E, σ =>
    match eval E c with
    | some (.bool b) => bif b then acode C call F fuel t E σ else acode C call F fuel e E σ
    | _ => none
  | .block id body, E, σ =>
    match acode C call F fuel body E σ with
    | some (.exit i, E', σ') => if i = id then some (.normal, E', σ') else some (.exit i, E', σ')
    | r => r
  | .loop body, E, σ => aloop (acode C call F fuel body) fuel E σ
  | .exit id, E, σ => some (.exit id, E, σ)
  | .ret, E, σ => some (.ret, E, σ)
  | _, _, _ => none

def argEnv : Nat → List AV → Env
  | _, [] => []
  | i, v :: l => (i, v) :: argEnv (i + 1) l

def aresult (C : Cfg) (E : Env) (σ : ASt) : ResultVar → Option AV
  | .tmp t => E.get t
  | .cell a t =>
    match E.get a with
    | some p => aload C σ t p
    | none => none

def aresults (C : Cfg) (E : Env) (σ : ASt) : List ResultVar → Option (List AV)
  | [] => some []
  | r :: l => match aresult C E σ r, aresults C E σ l with
    | some v, some vs => some (v :: vs)
    | _, _ => none

def tupled : List AV → AV
  | [v] => v
  | vs => .tuple vs

def aend (C : Cfg) (fn : Func) (inl : Bool) (len : Nat) : Option (AExit × Env × ASt) → Option (AEnd × ASt)
  | some (.normal, E, σ) | some (.ret, E, σ) =>
    match aresults C E σ fn.results.toList with
    | some vs =>
      if inl then some (.ret (tupled vs), σ) else
      match retV C σ len (tupled vs) with
      | some v => some (.ret v, σ.take len)
      | none => none
    | none => none
  | some (.panic v, _, σ) =>
    if inl then some (.panic v, σ) else
    match retV C σ len v with
    | some v => some (.panic v, σ.take len)
    | none => none
  | _ => none

def acall (C : Cfg) : Nat → ACall
  | 0, _, _, _, _ => none
  | k + 1, bases, f, args, σ =>
    match C.ext f with
    | some g => g args σ
    | none =>
      match C.fn f with
      | none => none
      | some fn =>
        match fn.body with
        | none => none
        | some c =>
          if args.length ≤ fn.ntmps then
            aend C fn (C.inl f || C.own f) σ.length
              (acode C (acall C k) ⟨f, fn.ntmps, if C.inl f then bases.headD 0 else σ.length, σ.length, if C.inl f then bases else σ.length :: bases⟩ k c (argEnv 0 args) σ)
          else none

end Go.Ax
