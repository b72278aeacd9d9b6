/- The framework, part B: the evaluator: it turns a function's code, as the model has it, into a tree of part A. -/
import Derived.Test.YtaeaipkjlhigmaaEvA
namespace Go.Ev

inductive AVal where
  | v (x : Value)
  | bp (id off : Nat)
  | junk

/-- a slot that was written by a guarded operation: under which tests, all of them as one Bool, what it holds then -/
structure GV where
  g : List (Nat × Bool)
  b : Bool
  x : AVal

def GV.none : GV := ⟨[], false, .junk⟩

structure St where
  n : Nat
  t : Nat → AVal
  gt : Nat → GV
  gs : List Nat
  box : Nat → Option (List Value)
  next : Nat
  lockT : List Nat
  lockB : List Nat

def upd {α : Type} (f : Nat → α) (i : Nat) (x : α) : Nat → α := fun j => bif Nat.beq j i then x else f j

/-- a variable of a loop: a slot, or what a box holds -/
inductive LV where
  | slot (i : Nat) (sh : Sh)
  | box (id : Nat) (sh : Sh)

structure LoopHint where
  vars : List LV
  keepT : List Nat
  keepB : List Nat

structure Cx where
  P : Program
  pure : FuncId → Bool
  good : FuncId → Bool
  eqT : TypeId → Bool

structure Fx where
  loops : Nat → LoopHint
  esc : Nat → Bool
  own : Nat → Bool

def memN (i : Nat) : List Nat → Bool
  | [] => false
  | j :: l => Nat.beq i j || memN i l

/-! ### types -/

def Cx.under (cx : Cx) (t : TypeId) : TypeDesc := (cx.P.underlying t).getD .invalid
def Cx.size (cx : Cx) (t : TypeId) : Nat := cx.P.cellsOf t
def Cx.isAgg (cx : Cx) (t : TypeId) : Bool :=
  match cx.under t with
  | .struct _ => true
  | .array _ _ => true
  | _ => false

def repSh (s : Sh) : Nat → Sh
  | 0 => .unit
  | 1 => s
  | n + 2 => .pair s (repSh s (n + 1))
def rowSh : List Sh → Sh
  | [] => .unit
  | [s] => s
  | s :: t :: l => .pair s (rowSh (t :: l))

def Cx.shape (cx : Cx) : Nat → TypeId → Sh
  | 0, _ => .unit
  | d + 1, t =>
    match cx.under t with
    | .int k => .int k
    | .bool => .bool
    | .string => .str
    | .slice _ => .slice
    | .pointer _ => .ptr
    | .chan _ _ => .chan
    | .struct fs => .agg (rowSh (fs.toList.map fun f => cx.shape d f.type))
    | .array n e => .agg (repSh (cx.shape d e) n)
    | _ => .unit

def Cx.shp (cx : Cx) (t : TypeId) : Sh := cx.shape 12 t

def Cx.ret (cx : Cx) (f : FuncId) : Sh :=
  match cx.P.funcs[f]? with
  | some fn => match fn.resultTypes.toList with
    | [t] => cx.shp t
    | ts => .tup (rowSh (ts.map cx.shp))
  | none => .unit

def Cx.zero (cx : Cx) (t : TypeId) : Option Value := (cx.P.info? t).bind (·.zero)

/-! ### reading -/

def subG (l g : List (Nat × Bool)) : Bool :=
  l.all fun x => g.any fun y => Nat.beq x.1 y.1 && (x.2 == y.2)

def AVal.isJunk : AVal → Bool
  | .junk => true
  | _ => false

def rdT (σ : St) (g : List (Nat × Bool)) (i : Nat) : AVal :=
  match σ.t i with
  | .junk => match (σ.gt i).g with
    | [] => .junk
    | l => bif subG l g then (σ.gt i).x else .junk
  | x => x

def rd (σ : St) (g : List (Nat × Bool)) : Operand → AVal
  | .tmp i => rdT σ g i
  | .const v => .v v
  | .func f => .v (.func (.func f) #[] #[])
  | .global _ => .junk

def AVal.val? : AVal → Option Value
  | .v x => some x
  | _ => none

def bool? : Option Value → Option Bool
  | some (.bool b) => some b
  | _ => none

/-- under which tests an operation stands -/
def guardOf (σ : St) (ops : Array Oper) (o : Oper) : Option (List (Nat × Bool) × Bool) :=
  match o.guard with
  | none => some ([], true)
  | some (j, w) =>
    match (ops[j]?).bind (·.dst) with
    | none => none
    | some s =>
      match σ.t s with
      | .v y => match bool? (some y) with
        | some b => some ([(s, w)], bif w then b else !b)
        | none => none
      | .bp _ _ => none
      | .junk => match (σ.gt s).g with
        | [] => none
        | l => match bool? ((σ.gt s).x.val?) with
          | some b => some ((s, w) :: l, (bif w then b else !b) && (σ.gt s).b)
          | none => none

/-! ### writing -/

def bpOk (n : Nat) : AVal → Bool
  | .bp id _ => Nat.blt id n
  | _ => true

def St.put (σ : St) (dst : Option Nat) (g : List (Nat × Bool)) (B : Bool) (x : AVal) : Option St :=
  match dst with
  | none => some σ
  | some d =>
    bif Nat.blt d σ.n && !memN d σ.lockT && !memN d σ.gs && bpOk σ.next x then
      match g with
      | [] => some { σ with t := upd σ.t d x, gt := upd σ.gt d GV.none }
      | _ :: _ => bif g.all fun y => !Nat.beq y.1 d then some { σ with t := upd σ.t d .junk, gt := upd σ.gt d ⟨g, B, x⟩, gs := g.map (·.1) ++ σ.gs } else none
    else none

/-! ### effects -/

inductive Eff where
  | val (x : AVal)
  | must (p : Prop) (x : AVal)
  | dcall (f : FuncId) (args : List Value) (sh : Sh)
  | call (f : FuncId) (args : List Value) (sh : Sh)
  | load (sh : Sh) (a : Addr)
  | loadStr (a : Option Addr) (n : Nat)
  | store (a : Addr) (vs : List Value)
  | setbox (id off : Nat) (vs : List Value)
  | newbox (cs : List Value)
  | new (cs : List Value) (ty : TypeId)
  | mk (p : Prop) (cs : List Value) (ty : TypeId) (len cap : Nat)
  | lit (cs : List Value) (ty : TypeId) (len : Nat)
  | append (ty : TypeId) (size bytes : Nat) (s x : Sl)
  | mkObj (o : Obj)
  | trySend (c : Option Nat) (v : Value)
  | recv (c : Option Nat)
  | clear (a : Option Addr) (n : Nat) (vs : List Value)
  | bad

def splice (cs : List Value) (off : Nat) (vs : List Value) : List Value := cs.take off ++ vs ++ cs.drop (off + vs.length)

def vals? : List AVal → Option (List Value)
  | [] => some []
  | .v x :: l => match vals? l with
    | some r => some (x :: r)
    | none => none
  | _ :: _ => none

def bitsI (op : BinOp) (k : IntKind) (x y : Int) : Int :=
  match op with
  | .and => k.wrap (BitVec.ofInt k.bits x &&& BitVec.ofInt k.bits y).toNat
  | .or => k.wrap (BitVec.ofInt k.bits x ||| BitVec.ofInt k.bits y).toNat
  | .xor => k.wrap (BitVec.ofInt k.bits x ^^^ BitVec.ofInt k.bits y).toNat
  | _ => k.wrap (BitVec.ofInt k.bits x &&& ~~~BitVec.ofInt k.bits y).toNat

/-- are two data of a shape the same? -/
def eqDen : (s : Sh) → s.den → s.den → Bool
  | .unit, _, _ => true
  | .int _, a, b => @BEq.beq Int _ a b
  | .bool, a, b => @BEq.beq Bool _ a b
  | .str, a, b => @BEq.beq ByteArray _ a b
  | .slice, _, _ => false
  | .ptr, _, _ => false
  | .chan, _, _ => false
  | .pair s t, a, b => eqDen s a.1 b.1 && eqDen t a.2 b.2
  | .agg s, a, b => eqDen s a b
  | .tup s, a, b => eqDen s a b

def effBin (cx : Cx) (op : BinOp) (xt : TypeId) (x y : Value) : Eff :=
  match x, y with
  | .int k a, .int k' b =>
    match op with
    | .shl => .must (0 ≤ b) (.v (.int k (k.wrap (a * 2 ^ min b.toNat k.bits))))
    | .shr => .must (0 ≤ b) (.v (.int k (a.fdiv (2 ^ min b.toNat k.bits))))
    | _ =>
      bif decide (k = k') then
        match op with
        | .add => .val (.v (.int k (k.wrap (a + b))))
        | .sub => .val (.v (.int k (k.wrap (a - b))))
        | .mul => .val (.v (.int k (k.wrap (a * b))))
        | .quo => .must (b ≠ 0) (.v (.int k (k.wrap (a.tdiv b))))
        | .rem => .must (b ≠ 0) (.v (.int k (a.tmod b)))
        | .and => .val (.v (.int k (bitsI .and k a b)))
        | .or => .val (.v (.int k (bitsI .or k a b)))
        | .xor => .val (.v (.int k (bitsI .xor k a b)))
        | .andNot => .val (.v (.int k (bitsI .andNot k a b)))
        | .eql => .val (.v (.bool (a == b)))
        | .neq => .val (.v (.bool (a != b)))
        | .lss => .val (.v (.bool (decide (a < b))))
        | .leq => .val (.v (.bool (decide (a ≤ b))))
        | .gtr => .val (.v (.bool (decide (a > b))))
        | .geq => .val (.v (.bool (decide (a ≥ b))))
        | _ => .bad
      else .bad
  | .string a, .string b =>
    match op with
    | .add => .must (a.size + b.size ≤ 9223372036854775807) (.v (.string (a ++ b)))
    | .eql => .val (.v (.bool (a.toList == b.toList)))
    | .neq => .val (.v (.bool (!(a.toList == b.toList))))
    | _ => .bad
  | .bool a, .bool b =>
    match cx.under xt with
    | .bool => match op with
      | .eql => .val (.v (.bool (a == b)))
      | .neq => .val (.v (.bool (!(a == b))))
      | _ => .bad
    | _ => .bad
  | .agg a, .agg b =>
    bif cx.eqT xt then
      match (cx.shp xt).dec (.agg a), (cx.shp xt).dec (.agg b) with
      | some x, some y => match op with
        | .eql => .val (.v (.bool (eqDen (cx.shp xt) x y)))
        | .neq => .val (.v (.bool (!eqDen (cx.shp xt) x y)))
        | _ => .bad
      | _, _ => .bad
    else .bad
  | .pointer p, .pointer none =>
    match cx.under xt with
    | .pointer _ => match op with
      | .eql => .val (.v (.bool p.isNone))
      | .neq => .val (.v (.bool (!p.isNone)))
      | _ => .bad
    | _ => .bad
  | .slice p _ _, .slice none _ _ =>
    match cx.under xt with
    | .slice _ => match op with
      | .eql => .val (.v (.bool p.isNone))
      | .neq => .val (.v (.bool (!p.isNone)))
      | _ => .bad
    | _ => .bad
  | _, _ => .bad

def intOf? : AVal → Option (IntKind × Int)
  | .v x => match x with
    | .int k n => some (k, n)
    | _ => none
  | _ => none

/-- a bound of a slice expression: its value, and that it lies between 0 and y -/
def boundOf (y : Nat) : Option AVal → Nat → Option (Nat × Prop)
  | none, d => some (d, True)
  | some x, _ => match intOf? x with
    | some (_, i) => some (i.toNat, 0 ≤ i ∧ i ≤ (y : Int))
    | none => none

def byteAt (s : ByteArray) (i : Int) : Int := ((s.data.getD i.toNat 0).toNat : Int)

def effSlice (cx : Cx) (t : TypeId) (x : AVal) (lo hi : Option AVal) : Eff :=
  match x with
  | .v v => match v with
    | .string s => match cx.under t with
      | .string => match boundOf s.size hi s.size with
        | some (h, ph) => match boundOf h lo 0 with
          | some (l, pl) => .must (ph ∧ pl) (.v (.string (s.extract l h)))
          | none => .bad
        | none => .bad
      | _ => .bad
    | .slice a len cap => match cx.under t with
      | .slice e => match boundOf cap hi len with
        | some (h, ph) => match boundOf h lo 0 with
          | some (l, pl) => bif Nat.beq (cx.size e) 0 then .bad else .must (ph ∧ pl) (.v (.slice (if cap = l then a else a.map (·.add (l * cx.size e))) (h - l) (cap - l)))
          | none => .bad
        | none => .bad
      | _ => .bad
    | _ => .bad
  | _ => .bad

def effSlice3 (cx : Cx) (t : TypeId) (x : AVal) (lo : Option AVal) (hi mx : AVal) : Eff :=
  match x with
  | .v v => match v with
    | .slice a _ cap => match cx.under t with
      | .slice e => match boundOf cap (some mx) 0 with
        | some (m, pm) => match boundOf m (some hi) 0 with
          | some (h, ph) => match boundOf h lo 0 with
            | some (l, pl) => bif Nat.beq (cx.size e) 0 then .bad else .must (pm ∧ ph ∧ pl) (.v (.slice (if m = l then a else a.map (·.add (l * cx.size e))) (h - l) (m - l)))
            | none => .bad
          | none => .bad
        | none => .bad
      | _ => .bad
    | _ => .bad
  | _ => .bad

def fillCells (places : List (Nat × Nat)) (cells : List Value) : List (Nat × Value) → Option (List Value)
  | [] => some cells
  | (i, v) :: rest => match places[i]? with
    | some (off, size) =>
      bif Nat.beq v.cells.size size && Nat.ble (off + v.cells.size) cells.length then fillCells places (splice cells off v.cells.toList) rest else none
    | none => none

def parts? (σ : St) (g : List (Nat × Bool)) : List (Nat × Operand) → Option (List (Nat × Value))
  | [] => some []
  | (i, x) :: l => match (rd σ g x).val? with
    | some v => match parts? σ g l with
      | some r => some ((i, v) :: r)
      | none => none
    | none => none

def repeatL (z : List Value) : Nat → List Value
  | 0 => []
  | n + 1 => z ++ repeatL z n

def slOf? : AVal → Option Sl
  | .v x => match x with
    | .slice a n c => some ⟨a, n, c⟩
    | _ => none
  | _ => none

def effLen (cx : Cx) (t : TypeId) (x : AVal) : Eff :=
  match x with
  | .v v => match cx.under t, v with
    | .string, .string s => .val (.v (.int .i64 s.size))
    | .slice _, .slice _ n _ => .val (.v (.int .i64 n))
    | .array n _, _ => .val (.v (.int .i64 n))
    | _, _ => .bad
  | _ => .bad

def chanOf? : AVal → Option (Option Nat)
  | .v x => match x with
    | .chan c => some c
    | _ => none
  | _ => none

def addr? : AVal → Option Addr
  | .v x => match x with
    | .pointer (some a) => some a
    | _ => none
  | _ => none

def effCall (cx : Cx) (σ : St) (g : List (Nat × Bool)) (c : Call) : Eff :=
  match c.callee with
  | .value f => match (rd σ g f).val? with
    | some (.func (.func n) first captured) =>
      bif cx.good n then
        match vals? (c.args.toList.map (rd σ g)) with
        | some vs => bif cx.pure n then .dcall n (first.toList ++ vs ++ captured.toList) (cx.ret n) else .call n (first.toList ++ vs ++ captured.toList) (cx.ret n)
        | none => .bad
      else .bad
    | _ => .bad
  | .builtin b =>
    match b, c.args.toList, c.argTypes.toList with
    | .len, [x], [t] => effLen cx t (rd σ g x)
    | .append, [x, y], [t, u] =>
      match slOf? (rd σ g x), slOf? (rd σ g y) with
      | some s, some z => match cx.under t, cx.under u with
        | .slice e, .slice _ => match cx.zero e with
          | some zv => bif Nat.beq t u && Nat.blt 0 (cx.size e) && Nat.beq zv.cells.size (cx.size e) then .append e (cx.size e) (cx.P.bytesOf e) s z else .bad
          | none => .bad
        | _, _ => .bad
      | _, _ => .bad
    | .clear, [x], [t] => match slOf? (rd σ g x) with
      | some s => match cx.under t with
        | .slice e => match cx.zero e with
          | some z => bif z.cells.toList.all Value.oneCell' && Nat.blt 0 z.cells.size then .clear s.a s.len (repeatL z.cells.toList s.len) else .bad
          | none => .bad
        | _ => .bad
      | none => .bad
    | .min, [x, y], _ => match intOf? (rd σ g x), intOf? (rd σ g y) with
      | some (k, a), some (k', b) => bif decide (k = .i64) && decide (k' = .i64) then .val (.v (.int .i64 (min a b))) else .bad
      | _, _ => .bad
    | .max, [x, y], _ => match intOf? (rd σ g x), intOf? (rd σ g y) with
      | some (k, a), some (k', b) => bif decide (k = .i64) && decide (k' = .i64) then .val (.v (.int .i64 (max a b))) else .bad
      | _, _ => .bad
    | _, _, _ => .bad
  | _ => .bad

/-- a struct's shape for a struct, a leaf for all else -/
def fits : Sh → Bool → Bool
  | .agg _, b => b
  | .int _, b => !b
  | .bool, b => !b
  | .str, b => !b
  | .slice, b => !b
  | .ptr, b => !b
  | .chan, b => !b
  | _, _ => false

def eff (cx : Cx) (fx : Fx) (σ : St) (g : List (Nat × Bool)) (o : Oper) : Eff :=
  match o.op with
  | .move x => .val (rd σ g x)
  | .assign x => .val (rd σ g x)
  | .alloc e => match cx.zero e with
    | some z => match o.dst with
      | some d => bif fx.esc d then .new z.cells.toList e else .newbox z.cells.toList
      | none => .bad
    | none => .bad
  | .box e x => match (rd σ g x).val? with
    | some v => match o.dst with
      | some d => bif fx.esc d then .new v.cells.toList e else .newbox v.cells.toList
      | none => .bad
    | none => .bad
  | .build t parts => match cx.zero t, parts? σ g parts.toList with
    | some z, some ps => match cx.under t with
      | .struct fs => bif fs.toList.all fun f => Nat.blt 0 (cx.size f.type) then
        (match fillCells (fs.toList.map fun f => (f.offset, cx.size f.type)) z.cells.toList ps with
        | some cs => .val (.v (.agg cs.toArray))
        | none => .bad) else .bad
      | _ => .bad
    | _, _ => .bad
  | .buildSlice t len parts => match cx.under t, parts? σ g parts.toList with
    | .slice e, some ps => match cx.zero e with
      | some z =>
        bif Nat.ble (len * cx.size e) 16777216 && Nat.beq z.cells.size (cx.size e) && Nat.blt 0 (cx.size e) then
          match fillCells ((List.range len).map fun i => (i * cx.size e, cx.size e)) (repeatL z.cells.toList len) ps with
          | some cs => .lit cs e len
          | none => .bad
        else .bad
      | none => .bad
    | _, _ => .bad
  | .load t a => match rd σ g a with
    | .bp id off => match σ.box id with
      | some cs =>
        bif Nat.ble (off + cx.size t) cs.length && Nat.blt 0 (cx.size t) && (cx.P.underlying t).isSome then
          (match cx.isAgg t with
          | true => .val (.v (.agg ((cs.drop off).take (cx.size t)).toArray))
          | false => match cs[off]? with
            | some v => .val (.v v)
            | none => .bad)
        else .bad
      | none => .bad
    | x => match addr? x with
      | some ad => bif Nat.beq (cx.shp t).size (cx.size t) && Nat.blt 0 (cx.size t) && (cx.P.underlying t).isSome && fits (cx.shp t) (cx.isAgg t) then .load (cx.shp t) ad else .bad
      | none => .bad
  | .store t a x => match (rd σ g x).val? with
    | some v =>
      bif Nat.beq v.cells.size (cx.size t) && Nat.blt 0 (cx.size t) && v.cells.toList.all Value.oneCell' then
        match rd σ g a with
        | .bp id off => .setbox id off v.cells.toList
        | y => match addr? y with
          | some ad => .store ad v.cells.toList
          | none => .bad
      else .bad
    | none => .bad
  | .nilCheck x => match rd σ g x with
    | .bp id off => .val (.bp id off)
    | .v v => match v with
      | .pointer p => .must (p.isSome = true) (.v (.pointer (some (p.getD ⟨0, 0, none⟩))))
      | _ => .bad
    | .junk => .bad
  | .binOp op xt x y _ => match (rd σ g x).val?, (rd σ g y).val? with
    | some a, some b => effBin cx op xt a b
    | _, _ => .bad
  | .unOp op _ x => match (rd σ g x).val? with
    | some (.bool b) => match op with
      | .not => .val (.v (.bool !b))
      | _ => .bad
    | some (.int k n) => match op with
      | .neg => .val (.v (.int k (k.wrap (0 - n))))
      | .xor => .val (.v (.int k (bitsI .xor k (if k.signed then -1 else k.max) n)))
      | _ => .bad
    | _ => .bad
  | .convert src dst x => match (rd σ g x).val? with
    | some (.int _ n) => match cx.P.underlying src, cx.under dst with
      | some _, .int k => .val (.v (.int k (k.wrap n)))
      | _, _ => .bad
    | some (.string s) => match cx.P.underlying src, cx.under dst with
      | some _, .string => .val (.v (.string s))
      | _, _ => .bad
    | some (.slice a n _) => match cx.under src, cx.under dst with
      | .slice e, .string => match cx.under e with
        | .int .u8 => .loadStr a n
        | _ => .bad
      | _, _ => .bad
    | _ => .bad
  | .makeFunc fn first captured => match vals? (first.toList.map (rd σ g)), vals? (captured.toList.map (rd σ g)) with
    | some a, some b => .val (.v (.func fn a.toArray b.toArray))
    | _, _ => .bad
  | .makeSlice t l c => match cx.under t, intOf? (rd σ g l), intOf? (rd σ g c) with
    | .slice e, some (.i64, x), some (.i64, y) => match cx.zero e with
      | some z => bif Nat.beq z.cells.size (cx.size e) && Nat.blt 0 (cx.size e) then .mk (0 ≤ x ∧ x ≤ y ∧ y * cx.P.bytesOf e ≤ 140737488355328 ∧ y ≤ 140737488355328) (repeatL z.cells.toList y.toNat) e x.toNat y.toNat else .bad
      | none => .bad
    | _, _, _ => .bad
  | .slice t x lo hi none => effSlice cx t (rd σ g x) (lo.map (rd σ g)) (hi.map (rd σ g))
  | .slice t x lo (some hi) (some m) => effSlice3 cx t (rd σ g x) (lo.map (rd σ g)) (rd σ g hi) (rd σ g m)
  | .fieldAddr s x f => match cx.under s with
    | .struct fs => match fs[f]? with
      | some fl => bif Nat.beq (cx.size fl.type) 0 then .bad else match rd σ g x with
        | .bp id off => .val (.bp id (off + fl.offset))
        | y => match addr? y with
          | some ad => .val (.v (.pointer (some (ad.add fl.offset))))
          | none => .bad
      | none => .bad
    | _ => .bad
  | .field t x f => match cx.under t with
    | .struct fs => match fs[f]?, (rd σ g x).val? with
      | some fl, some (.agg cs) => bif Nat.ble (fl.offset + cx.size fl.type) cs.size && Nat.blt 0 (cx.size fl.type) && (cx.P.underlying fl.type).isSome then
        (match cx.isAgg fl.type with
        | true => .val (.v (.agg ((cs.toList.drop fl.offset).take (cx.size fl.type)).toArray))
        | false => match cs.toList[fl.offset]? with
          | some v => .val (.v v)
          | none => .bad) else .bad
      | _, _ => .bad
    | _ => .bad
  | .indexAddr t x i => match intOf? (rd σ g i) with
    | some (_, j) => match cx.under t with
      | .slice e => match slOf? (rd σ g x) with
        | some s => bif Nat.beq (cx.size e) 0 then .bad else .must (0 ≤ j ∧ j < (s.len : Int) ∧ s.a.isSome = true) (.v (.pointer (some ((s.a.getD ⟨0, 0, none⟩).add (j.toNat * cx.size e)))))
        | none => .bad
      | .array n e => bif Nat.beq (cx.size e) 0 then .bad else match rd σ g x with
        | .bp id off => .must (0 ≤ j ∧ j < (n : Int)) (.bp id (off + j.toNat * cx.size e))
        | y => match addr? y with
          | some ad => .must (0 ≤ j ∧ j < (n : Int)) (.v (.pointer (some (ad.add (j.toNat * cx.size e)))))
          | none => .bad
      | _ => .bad
    | none => .bad
  | .index t x i => match intOf? (rd σ g i), (rd σ g x).val? with
    | some (_, j), some (.string s) => match cx.under t with
      | .string => .must (0 ≤ j ∧ j < (s.size : Int)) (.v (.int .u8 (byteAt s j)))
      | _ => .bad
    | _, _ => .bad
  | .extract x i => match (rd σ g x).val? with
    | some (.tuple vs) => match vs[i]? with
      | some v => .val (.v v)
      | none => .bad
    | _ => .bad
  | .call c => effCall cx σ g c
  | .makeChan t x => match cx.under t with
    | .chan _ e => match intOf? (rd σ g x) with
      | some (_, n) => bif decide (0 ≤ n) && (decide (n ≤ 1000000) && ((cx.P.info? e).isSome && Nat.ble (cx.P.bytesOf e) 1000000)) then .mkObj (.chan n.toNat #[] false 0 0 false) else .bad
      | none => .bad
    | _ => .bad
  | .select cases false => match cases.toList with
    | [s] => match s.send with
      | some y => match chanOf? (rd σ g s.chan) with
        | some c => match (rd σ g y).val? with
          | some v => bif (cx.zero s.elem).isSome then .trySend c v else .bad
          | none => .bad
        | none => .bad
      | none => .bad
    | _ => .bad
  | .recv t x false => match cx.under t with
    | .chan _ e => match chanOf? (rd σ g x) with
      | some c => bif (cx.zero e).isSome then .recv c else .bad
      | none => .bad
    | _ => .bad
  | _ => .bad

/-- 'pick': what '&&' and '||' come to -/
def effPick (σ : St) (g : List (Nat × Bool)) (c a b : Operand) : Eff :=
  match c with
  | .tmp s =>
    match bool? ((rdT σ g s).val?) with
    | some cb =>
      match bool? ((rd σ ((s, true) :: g) a).val?), bool? ((rd σ ((s, false) :: g) b).val?) with
      | some x, some y => .val (.v (.bool (bif cb then x else y)))
      | _, _ => .bad
    | none => .bad
  | _ => .bad

def isNilG : List (Nat × Bool) → Bool
  | [] => true
  | _ :: _ => false

/-- an effect, and what stands behind it -/
def stepT (σ : St) (dst : Option Nat) (g : List (Nat × Bool)) (B : Bool) (k : St → T) : Eff → T
  | .val x => match σ.put dst g B x with
    | some σ' => k σ'
    | none => .stuck
  | .must p x => .must (B = true → p) (match σ.put dst g B x with
    | some σ' => k σ'
    | none => .stuck)
  | .dcall f args sh => .dcall B f args sh fun r => match σ.put dst g B (.v (sh.enc r)) with
    | some σ' => k σ'
    | none => .stuck
  | .call f args sh => bif isNilG g then .call f args sh (fun r => match σ.put dst g B (.v (sh.enc r)) with
    | some σ' => k σ'
    | none => .stuck) else .callG B f args sh (fun r => match σ.put dst g B (.v (sh.enc r)) with
    | some σ' => k σ'
    | none => .stuck)
  | .load sh a => .load B sh a fun r => match σ.put dst g B (.v (sh.enc r)) with
    | some σ' => k σ'
    | none => .stuck
  | .loadStr a n => bif isNilG g then .loadStr a n (fun s => match σ.put dst g B (.v (.string s)) with
    | some σ' => k σ'
    | none => .stuck) else .stuck
  | .store a vs => bif isNilG g then match dst with
    | none => .store a vs (k σ)
    | some _ => .stuck else .stuck
  | .setbox id off vs => bif isNilG g && !memN id σ.lockB then match dst, σ.box id with
    | none, some cs => bif Nat.ble (off + vs.length) cs.length then k { σ with box := upd σ.box id (some (splice cs off vs)) } else .stuck
    | _, _ => .stuck else .stuck
  | .newbox cs => bif isNilG g && cs.all Value.oneCell' && !memN σ.next σ.lockB then match ({ σ with box := upd σ.box σ.next (some cs), next := σ.next + 1 } : St).put dst g B (.bp σ.next 0) with
    | some σ' => k σ'
    | none => .stuck else .stuck
  | .new cs ty => bif isNilG g && cs.all Value.oneCell' then .new cs ty (fun n => match σ.put dst g B (.v (.pointer (some ⟨n, 0, none⟩))) with
    | some σ' => k σ'
    | none => .stuck) else .stuck
  | .mk p cs ty len cap => bif isNilG g then .must p (.new cs ty fun n => match σ.put dst g B (.v (.slice (some ⟨n, 0, none⟩) len cap)) with
    | some σ' => k σ'
    | none => .stuck) else .stuck
  | .lit cs ty len => .lit B cs ty fun n => match σ.put dst g B (.v (.slice (some ⟨n, 0, none⟩) len len)) with
    | some σ' => k σ'
    | none => .stuck
  | .append ty size bytes s x => bif isNilG g then .append ty size bytes s x (fun s' => match σ.put dst g B (.v (.slice s'.a s'.len s'.cap)) with
    | some σ' => k σ'
    | none => .stuck) else .stuck
  | .mkObj ob => bif isNilG g then .newObj ob (fun n => match σ.put dst g B (.v (.chan (some n))) with
    | some σ' => k σ'
    | none => .stuck) else .stuck
  | .clear a n vs => bif isNilG g then (match dst with
    | none => .cond (Nat.beq n 0) (k σ) (.must (a.isSome = true) (.store (a.getD ⟨0, 0, none⟩) vs (k σ)))
    | some _ => .stuck) else .stuck
  | .trySend _ _ => .stuck
  | .recv _ => .stuck
  | .bad => .stuck

/-- communications, too -/
def stepC (σ : St) (dst : Option Nat) (g : List (Nat × Bool)) (B : Bool) (k : St → T) : Eff → T
  | .trySend c v => bif isNilG g then .trySend c v (fun ok => match σ.put dst g B (.v (.tuple #[.int .i64 (bif ok then 0 else -1), .bool false])) with
    | some σ' => k σ'
    | none => .stuck) else .stuck
  | .recv c => bif isNilG g then .recv c (fun v => match σ.put dst g B (.v v) with
    | some σ' => k σ'
    | none => .stuck) else .stuck
  | e => stepT σ dst g B k e

/-- the effect of an operation -/
def effOf (cx : Cx) (fx : Fx) (σ : St) (g : List (Nat × Bool)) (o : Oper) : Eff :=
  match o.op with
  | .pick c a b => effPick σ g c a b
  | _ => eff cx fx σ g o

def evOp (cx : Cx) (fx : Fx) (ops : Array Oper) (o : Oper) (σ : St) (k : St → T) : T :=
  match guardOf σ ops o with
  | none => .stuck
  | some (g, B) => stepC σ o.dst g B k (effOf cx fx σ g o)

def evOps (cx : Cx) (fx : Fx) (ops : Array Oper) : List Oper → St → (St → T) → T
  | [], σ, k => k σ
  | o :: rest, σ, k => evOp cx fx ops o σ fun σ' => evOps cx fx ops rest σ' k

/-! ### a region whose order is open: all of it only computes -/

def effQuiet : Eff → Bool
  | .val x => !x.isJunk
  | .must _ x => !x.isJunk
  | .dcall _ _ _ => true
  | .load _ _ => true
  | _ => false

def evOpsQ (cx : Cx) (fx : Fx) (ops : Array Oper) : List Oper → St → (St → T) → T
  | [], σ, k => k σ
  | o :: rest, σ, k => match guardOf σ ops o with
    | none => .stuck
    | some (g, B) => bif effQuiet (effOf cx fx σ g o) then stepT σ o.dst g B (fun σ' => evOpsQ cx fx ops rest σ' k) (effOf cx fx σ g o) else .stuck

/-! ### a region whose order is open: what only computes comes first; of the rest, all orders -/

def bnd (e : Edge) : Bool := Region.binds .any e
def rdyO (l : List Nat) (o : Oper) : Bool := o.after.toList.all fun e => !bnd e || memN e.on l
def rdyB (ops : Array Oper) (l : List Nat) (i : Nat) : Bool := !memN i l && match ops[i]? with
  | some o => rdyO l o
  | none => false
def rdyL (ops : Array Oper) (l : List Nat) : List Nat := (List.range ops.size).filter (rdyB ops l)
def freeB (ops : Array Oper) (l : List Nat) (i : Nat) (oi : Oper) : Bool :=
  (List.range ops.size).all fun j => Nat.beq j i || (memN j l || match ops[j]? with
    | some oj => (oj.after.toList.any fun e => bnd e && Nat.beq e.on i) || oi.apart ops oj
    | none => true)

def isStore : Op → Bool
  | .store _ _ _ => true
  | _ => false
def storesWait (ops : Array Oper) (l : List Nat) (i : Nat) : Bool :=
  (List.range ops.size).all fun j => Nat.beq j i || (memN j l || match ops[j]? with
    | some oj => !isStore oj.op || (oj.after.toList.any fun e => bnd e && Nat.beq e.on i)
    | none => true)

/-- a load out of a box: which -/
def boxLoad (σ : St) (g : List (Nat × Bool)) (o : Oper) : Option Nat :=
  match o.op with
  | .load _ x => match rd σ g x with
    | .bp id _ => some id
    | _ => none
  | _ => none

/-- may it come first? -/
def canFirst (ops : Array Oper) (base : Nat) (l : List Nat) (σ : St) (g : List (Nat × Bool)) (i : Nat) (o : Oper) (e : Eff) : Bool :=
  rdyB ops l i && (effQuiet e && (freeB ops l i o && match boxLoad σ g o with
    | none => true
    | some id => Nat.blt id base && storesWait ops l i))

/-- one to try -/
def firstQ (cx : Cx) (fx : Fx) (ops : Array Oper) (base : Nat) (l : List Nat) (σ : St) : List Nat → Option Nat
  | [] => none
  | i :: r => bif !rdyB ops l i then firstQ cx fx ops base l σ r else match ops[i]? with
    | none => none
    | some o => match guardOf σ ops o with
      | none => firstQ cx fx ops base l σ r
      | some (g, _) => bif canFirst ops base l σ g i o (effOf cx fx σ g o) then some i else firstQ cx fx ops base l σ r

def stepQ (m : Bool) (σ : St) (dst : Option Nat) (g : List (Nat × Bool)) (B : Bool) (k : St → T) (e : Eff) : T :=
  match m with
  | true => stepT σ dst g B k e
  | false => match e with
    | .dcall f args sh => .dcallG B f args sh fun r => match σ.put dst g B (.v (sh.enc r)) with
      | some σ' => k σ'
      | none => .stuck
    | .load sh a => .loadG B sh a fun r => match σ.put dst g B (.v (sh.enc r)) with
      | some σ' => k σ'
      | none => .stuck
    | _ => stepT σ dst g B k e

/-- what leaves all owned memory as it is -/
def effKeeps : Eff → Bool
  | .val _ => true
  | .must _ _ => true
  | .dcall _ _ _ => true
  | .load _ _ => true
  | .loadStr _ _ => true
  | .setbox _ _ _ => true
  | .newbox _ => true
  | .new _ _ => true
  | .mk _ _ _ _ _ => true
  | .lit _ _ _ => true
  | _ => false
def isSetbox : Eff → Bool
  | .setbox _ _ _ => true
  | _ => false

def allT : List T → T
  | [] => .stuck
  | t :: l => match l with
    | [] => t
    | _ :: _ => .both t (allT l)

def evAny (cx : Cx) (fx : Fx) (m : Bool) (ops : Array Oper) (base : Nat) : Nat → List Nat → St → (St → T) → T
  | 0, l, σ, k => match rdyL ops l with
    | [] => k σ
    | _ :: _ => .stuck
  | n + 1, l, σ, k => match firstQ cx fx ops base l σ (List.range ops.size) with
    | some i => match ops[i]? with
      | none => .stuck
      | some o => match guardOf σ ops o with
        | none => .stuck
        | some (g, B) => bif canFirst ops base l σ g i o (effOf cx fx σ g o) then stepQ m σ o.dst g B (fun σ' => evAny cx fx m ops base n (i :: l) σ' k) (effOf cx fx σ g o) else .stuck
    | none => match rdyL ops l with
      | [] => k σ
      | r => allT (r.map fun i => match ops[i]? with
        | none => .stuck
        | some o => match guardOf σ ops o with
          | none => .stuck
          | some (g, B) => bif (!m || effKeeps (effOf cx fx σ g o)) && (!isSetbox (effOf cx fx σ g o) || isStore o.op) then stepT σ o.dst g B (fun σ' => evAny cx fx m ops base n (i :: l) σ' k) (effOf cx fx σ g o) else .stuck)

/-- all of it only computes, by its look -/
def quietOp (cx : Cx) : Op → Bool
  | .store _ _ _ => false
  | .alloc _ => false
  | .box _ _ => false
  | .makeSlice _ _ _ => false
  | .buildSlice _ _ _ => false
  | .call c => match c.callee with
    | .builtin b => match b with
      | .append => false
      | _ => true
    | .value (.func n) => cx.pure n
    | _ => true
  | _ => true
def quietReg (cx : Cx) (ops : Array Oper) : Bool := ops.toList.all fun o => quietOp cx o.op
def noSelL (ops : Array Oper) : Bool := ops.toList.all fun o => match o.op with
  | .select _ _ => false
  | _ => true

/-! ### code -/

def varsSh : List LV → Sh
  | [] => .unit
  | .slot _ sh :: l => .pair sh (varsSh l)
  | .box _ sh :: l => .pair sh (varsSh l)

def getVars : (l : List LV) → St → Option (varsSh l).den
  | [], _ => some ()
  | .slot i sh :: l, σ => match (σ.t i).val? with
    | some x => match sh.dec x with
      | some y => match getVars l σ with
        | some z => some (y, z)
        | none => none
      | none => none
    | none => none
  | .box id sh :: l, σ => match σ.box id with
    | some cs => match done (sh.deFlat cs) with
      | some y => match getVars l σ with
        | some z => some (y, z)
        | none => none
      | none => none
    | none => none

def setVars : (l : List LV) → (varsSh l).den → St → St
  | [], _, σ => σ
  | .slot i sh :: l, x, σ => setVars l x.2 { σ with t := upd σ.t i (.v (sh.enc x.1)) }
  | .box id sh :: l, x, σ => setVars l x.2 { σ with box := upd σ.box id (some (sh.flat x.1)) }

def headT (h : LoopHint) (σ : St) (i : Nat) : AVal := bif memN i (h.keepT ++ σ.lockT) then σ.t i else .junk
def headB (h : LoopHint) (σ : St) (id : Nat) : Option (List Value) := bif memN id (h.keepB ++ σ.lockB) then σ.box id else none
def noGV : Nat → GV := fun _ => GV.none

def headOf (h : LoopHint) (σ : St) (x : (varsSh h.vars).den) : St :=
  setVars h.vars x (St.mk σ.n (headT h σ) noGV [] (headB h σ) σ.next (h.keepT ++ σ.lockT) (h.keepB ++ σ.lockB))

def slotsOf : List LV → List Nat
  | [] => []
  | .slot i _ :: l => i :: slotsOf l
  | .box _ _ :: l => slotsOf l
def boxesOf : List LV → List Nat
  | [] => []
  | .slot _ _ :: l => boxesOf l
  | .box i _ :: l => i :: boxesOf l
def apart (l m : List Nat) : Bool := l.all fun i => !memN i m

/-- a loop's variables are not among what it keeps -/
def hintOk (h : LoopHint) (σ : St) : Bool := apart (slotsOf h.vars) (h.keepT ++ σ.lockT) && apart (boxesOf h.vars) (h.keepB ++ σ.lockB)

def firstRegion : Code → Nat
  | .region id _ _ => id
  | .seq a _ => firstRegion a
  | .block _ a => firstRegion a
  | .loop a => firstRegion a
  | _ => 0

def ev (cx : Cx) (fx : Fx) : Code → St → (Exit → St → T) → T
  | .skip, σ, k => k .normal σ
  | .ret, σ, k => k .ret σ
  | .exit id, σ, k => k (.exit id) σ
  | .seq a b, σ, k => ev cx fx a σ fun e σ' => match e with
    | .normal => ev cx fx b σ' k
    | .exit id => k (.exit id) σ'
    | .ret => k .ret σ'
    | _ => .stuck
  | .block id a, σ, k => ev cx fx a σ fun e σ' => match e with
    | .normal => k .normal σ'
    | .exit id' => bif Nat.beq id' id then k .normal σ' else k (.exit id') σ'
    | .ret => k .ret σ'
    | _ => .stuck
  | .cond c a b, σ, k => match bool? ((rd σ [] c).val?) with
    | some t => .cond t (ev cx fx a σ k) (ev cx fx b σ k)
    | none => .stuck
  | .region _ ops false, σ, k => evOps cx fx ops ops.toList { σ with gt := noGV, gs := [] } fun σ' => k .normal σ'
  | .region id ops true, σ, k => bif quietReg cx ops then (bif Region.lexB .any ops then evOpsQ cx fx ops ops.toList { σ with gt := noGV, gs := [] } fun σ' => k .normal σ' else .stuck)
      else bif noSelL ops then evAny cx fx (fx.own id) ops σ.next ops.size [] { σ with gt := noGV, gs := [] } fun σ' => k .normal σ' else .stuck
  | .loop a, σ, k => bif !hintOk (fx.loops (firstRegion a)) σ then .stuck else match getVars (fx.loops (firstRegion a)).vars σ with
    | some x0 => .loop (varsSh (fx.loops (firstRegion a)).vars) x0 fun x => ev cx fx a (headOf (fx.loops (firstRegion a)) σ x) fun e σ' => match e with
      | .normal => match getVars (fx.loops (firstRegion a)).vars σ' with
        | some y => .again (varsSh (fx.loops (firstRegion a)).vars) y
        | none => .stuck
      | .exit id => .pop (k (.exit id) { σ' with lockT := σ.lockT, lockB := σ.lockB })
      | .ret => .pop (k .ret { σ' with lockT := σ.lockT, lockB := σ.lockB })
      | _ => .stuck
    | none => .stuck
  | _, _, _ => .stuck

def retVal (cx : Cx) (σ : St) : ResultVar → Option Value
  | .tmp t => (σ.t t).val?
  | .cell a t => match σ.t a with
    | .bp id off => match σ.box id with
      | some cs => bif Nat.ble (off + cx.size t) cs.length && Nat.blt 0 (cx.size t) && (cx.P.underlying t).isSome then
          (match cx.isAgg t with
          | true => some (.agg ((cs.drop off).take (cx.size t)).toArray)
          | false => cs[off]?)
        else none
      | none => none
    | _ => none

def retVals (cx : Cx) (σ : St) : List ResultVar → Option (List Value)
  | [] => some []
  | r :: l => match retVal cx σ r with
    | some v => match retVals cx σ l with
      | some vs => some (v :: vs)
      | none => none
    | none => none

def retOf (cx : Cx) (fn : Func) (σ : St) : T :=
  match retVals cx σ fn.results.toList with
  | some [v] => .ret v
  | some vs => .ret (.tuple vs.toArray)
  | none => .stuck

def argAt (l : List Value) (i : Nat) : AVal :=
  match l, i with
  | [], _ => .junk
  | v :: _, 0 => .v v
  | _ :: l, i + 1 => argAt l i

def start (fn : Func) (args : List Value) : St :=
  St.mk fn.ntmps (argAt args) noGV [] (fun _ => none) 0 [] []

/-- the tree of a function -/
def evFn (cx : Cx) (fx : Fx) (fn : Func) (args : List Value) : T :=
  match fn.body with
  | some c => bif Nat.ble args.length fn.ntmps then (ev cx fx c (start fn args) fun e σ => match e with
    | .normal => retOf cx fn σ
    | .ret => retOf cx fn σ
    | _ => .stuck) else .stuck
  | none => .stuck

end Go.Ev
