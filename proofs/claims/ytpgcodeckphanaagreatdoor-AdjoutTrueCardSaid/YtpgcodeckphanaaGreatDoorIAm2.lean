/-
 AM, PART 2. One operation with its types resolved (I), what it does to abstract values (exec), and how it is read off the program (zcp).
-/
import Derived.Test.YtpgcodeckphanaaGreatDoorIAm1
import Derived.Lib.Bytealg
namespace Go.Am

inductive StIn where
 | indexByte
 | count
 | compare
 deriving Inhabited, DecidableEq

inductive A where
 | t (i : Nat)
 | c (v : V)
 deriving Inhabited
def A.ev (tm : Nat -> V) : A -> V
 | .t i => tm i
 | .c v => v

inductive TS where
 | bool | int | str | ptr | sl | map | func | iface
 | st (fs : List (Nat × Nat × Bool × TS))
 | ifc (l : List Nat)
 deriving Inhabited

def zb0 (agg : Bool) (off sz : Nat) (cs : List V) : Option V := if agg then some (.agg ((cs.drop off).take sz)) else cs[off]?

mutual
def eqV : TS -> V -> V -> Option Bool
 | .bool, .bool a, .bool b => some (a == b)
 | .int, .int k a, .int k' b => if k = k' then some (a == b) else none
 | .str, .str a, .str b => some (a == b)
 | .ptr, .nilptr, .nilptr => some true
 | .ptr, .nilptr, .ptr _ _ _ => some false
 | .ptr, .ptr _ _ _, .nilptr => some false
 | .ptr, .nilptr, .gp _ _ => some false
 | .ptr, .gp _ _, .nilptr => some false
 | .sl, .nilsl, .nilsl => some true
 | .sl, .nilsl, .sl _ _ _ _ _ => some false
 | .sl, .nilsl, .slz => some false
 | .sl, .sl _ _ _ _ _, .nilsl => some false
 | .sl, .slz, .nilsl => some false
 | .map, .nilmap, .nilmap => some true
 | .map, .nilmap, .map _ => some false
 | .map, .map _, .nilmap => some false
 | .func, .nilfunc, .nilfunc => some true
 | .func, .nilfunc, .func _ _ _ => some false
 | .func, .func _ _ _, .nilfunc => some false
 | .iface, .niliface, .niliface => some true
 | .iface, .niliface, .iface _ _ => some false
 | .iface, .iface _ _, .niliface => some false
 | .st fs, .agg xs, .agg ys => eqFs fs xs ys
 | .ifc _, .niliface, .iface _ _ => some false
 | .ifc _, .iface _ _, .niliface => some false
 | .ifc l, .iface t (.int k a), .iface t' (.int k' b) => if t = t' then (if l.contains t then (if k = k' then some (a == b) else none) else none) else some false
 | _, _, _ => none
def eqFs : List (Nat × Nat × Bool × TS) -> List V -> List V -> Option Bool
 | [], _, _ => some true
 | (off, sz, agg, ts) :: fs, xs, ys =>
  match zb0 agg off sz xs, zb0 agg off sz ys with
  | some x, some y =>
   match eqV ts x y with
   | some true => eqFs fs xs ys
   | some false => some false
   | none => none
  | _, _ => none
end

def V.one : V -> Bool
 | .agg _ | .tup _ | .dead => false
 | _ => true
def V.solid : V -> Bool
 | .agg cs => cs.all V.one
 | .tup _ | .dead => false
 | _ => true
def V.cells : V -> List V
 | .agg cs => cs
 | v => [v]

def TS.isSt : TS -> Bool
 | .st _ => true
 | _ => false
mutual
def zdE : TS -> Option Nat
 | .bool => some 1
 | .int => some 1
 | .str => some 1
 | .st fs => zg3 fs 0
 | _ => none
def zg3 : List (Nat × Nat × Bool × TS) -> Nat -> Option Nat
 | [], o => some o
 | (off, sz, agg, ts) :: fs, o => if zdE ts = some sz ∧ off = o ∧ agg = ts.isSt then zg3 fs (o + sz) else none
end
mutual
def zbX : TS -> V -> Bool
 | .bool, .bool _ => true
 | .int, .int _ _ => true
 | .str, .str _ => true
 | .st fs, .agg cs => zd3 fs cs
 | _, _ => false
def zd3 : List (Nat × Nat × Bool × TS) -> List V -> Bool
 | [], _ => true
 | (off, sz, agg, ts) :: fs, cs => match zb0 agg off sz cs with
  | some x => zbX ts x && zd3 fs cs
  | none => false
end
def V.plain : V -> Bool
 | .int _ _ | .str _ | .bool _ => true
 | _ => false
def spc (n : Nat) : V := .sl 0 0 0 (n + 1) (some 0)
inductive KD where
 | int (k : IntKind)
 | str
 | bool
 | st (ts : TS) (n : Nat)
 deriving Inhabited
def KD.isSt : KD -> Bool
 | .st _ _ => true
 | _ => false
def KD.desc : KD -> TypeDesc
 | .int k => .int k
 | .str => .string
 | .bool => .bool
 | .st _ _ => .bool
def zbB : KD -> V -> Bool
 | .int k, .int k' _ => decide (k' = k)
 | .str, .str _ => true
 | .bool, .bool _ => true
 | .st ts n, .agg cs => zbX ts (.agg cs) && cs.all V.plain && decide (cs.length = n)
 | _, _ => false
def zgU : V -> V -> Bool
 | .int _ a, .int _ b => a == b
 | .str a, .str b => a == b
 | .bool a, .bool b => a == b
 | _, _ => false

inductive I where
 | mov (x : A)
 | pick (c a b : A)
 | alloc (zero : List V)
 | box (x : A)
 | mkIface (t : TypeId) (x : A)
 | build (zero : List V) (parts : List (Nat × Nat × A))
 | buildSlice (sz len : Nat) (zero : List V) (parts : List (Nat × A))
 | load (agg : Bool) (n : Nat) (a : A)
 | store (n : Nat) (a x : A)
 | nilchk (x : A)
 | bin (op : BinOp) (x y : A)
 | eq (neg : Bool) (ts : TS) (x y : A)
 | un (op : UnOp) (x : A)
 | convInt (k : IntKind) (x : A)
 | convId (x : A)
 | bytesOf (x : A)
 | strOf (x : A)
 | fieldAddr (off : Nat) (x : A)
 | field (agg : Bool) (off n : Nat) (x : A)
 | indexAddr (sz : Nat) (x i : A)
 | indexAddrArr (len sz : Nat) (x i : A)
 | indexStr (x i : A)
 | ext (e : StIn) (x y : A)
 | pcall (k : Nat) (fn : List V -> Option V) (args : List A)
 | indexArr (agg : Bool) (len sz : Nat) (x i : A)
 | sliceStr (x : A) (lo hi : Option A)
 | sliceSl (sz : Nat) (x : A) (lo hi mx : Option A)
 | resl (sz : Nat) (x hi : A)
 | sliceArr (len sz : Nat) (x : A) (lo hi mx : Option A)
 | makeSlice (sz bytes : Nat) (zero : List V) (len cap : A)
 | makeFunc (fn : Fn) (first cap : List A)
 | extract (x : A) (i : Nat)
 | len (k : Nat) (x : A)
 | append (sz bytes : Nat) (s x : A)
 | minmax (max : Bool) (x : A) (rest : List A)
 | makeMap
 | lookup (kd : KD) (zero : V) (commaOk : Bool) (x k : A)
 | mapSet (kd : KD) (x k v : A)
 | mapDel (kd : KD) (x k : A)
 | copy (sz : Nat) (d s : A)
 | clearSl (sz : Nat) (zero : List V) (x : A)
 | clearMap (x : A)
 deriving Inhabited


def zcT (op : BinOp) (k : IntKind) (a b : Int) : Option V :=
 if b < 0 then none else
 match op with
 | .shl => some (.int k (k.wrap (a * 2 ^ min b.toNat k.bits)))
 | .shr => some (.int k (a.fdiv (2 ^ min b.toNat k.bits)))
 | _ => none
def zep (op : BinOp) (k : IntKind) (x y : Int) : Option Int :=
 match op with
 | .and => some (k.wrap (BitVec.ofInt k.bits x &&& BitVec.ofInt k.bits y).toNat)
 | .or => some (k.wrap (BitVec.ofInt k.bits x ||| BitVec.ofInt k.bits y).toNat)
 | .xor => some (k.wrap (BitVec.ofInt k.bits x ^^^ BitVec.ofInt k.bits y).toNat)
 | .andNot => some (k.wrap (BitVec.ofInt k.bits x &&& ~~~ BitVec.ofInt k.bits y).toNat)
 | _ => none
def intV (op : BinOp) (k : IntKind) (x y : Int) : Option V :=
 match op with
 | .add => some (.int k (k.wrap (x + y)))
 | .sub => some (.int k (k.wrap (x - y)))
 | .mul => some (.int k (k.wrap (x * y)))
 | .quo => if y = 0 then none else some (.int k (k.wrap (x.tdiv y)))
 | .rem => if y = 0 then none else some (.int k (x.tmod y))
 | .and => (zep .and k x y).map (.int k)
 | .or => (zep .or k x y).map (.int k)
 | .xor => (zep .xor k x y).map (.int k)
 | .andNot => (zep .andNot k x y).map (.int k)
 | .eql => some (.bool (x == y))
 | .neq => some (.bool (x != y))
 | .lss => some (.bool (decide (x < y)))
 | .leq => some (.bool (decide (x ≤ y)))
 | .gtr => some (.bool (decide (y < x)))
 | .geq => some (.bool (decide (y ≤ x)))
 | _ => none
def strV (op : BinOp) (x y : List UInt8) : Option V :=
 match op with
 | .add => if x.length + y.length ≤ 9223372036854775807 then some (.str (x ++ y)) else none
 | .eql => some (.bool (x == y))
 | .neq => some (.bool (!(x == y)))
 | .lss => some (.bool (Op.bytesLess x y))
 | .leq => some (.bool (Op.bytesLess x y || x == y))
 | .gtr => some (.bool (!(Op.bytesLess x y || x == y)))
 | .geq => some (.bool (!Op.bytesLess x y))
 | _ => none
def zc2 : BinOp -> Bool
 | .shl | .shr => true
 | _ => false
def binV (op : BinOp) : V -> V -> Option V
 | .int k a, .int k' b => if zc2 op then zcT op k a b else if k = k' then intV op k a b else none
 | .str a, .str b => strV op a b
 | _, _ => none
def unV (op : UnOp) : V -> Option V
 | .int k n => match op with
  | .neg => some (.int k (k.wrap (0 - n)))
  | .xor => (zep .xor k (if k.signed then -1 else k.max) n).map (.int k)
  | _ => none
 | .bool b => match op with
  | .not => some (.bool (!b))
  | _ => none
 | _ => none

def zab (get : Nat -> Option O) (i n : Nat) : Option (List V) :=
 match get i with
 | some o => if o.len = n then some o.cells else none
 | none => none

def zdj (get : Nat -> Option O) (agg : Bool) (n : Nat) : V -> Option V
 | .ptr i m off => match zab get i m with
  | some cs => if agg then (if off + n ≤ cs.length then some (.agg ((cs.drop off).take n)) else none) else cs[off]?
  | none => none
 | .gp g off => match GT.lookup g with
  | some cs => if agg then (if off + n ≤ cs.length then some (.agg ((cs.drop off).take n)) else none) else cs[off]?
  | none => none
 | _ => none
def putCells (cs : List V) (off : Nat) (xs : List V) : List V := cs.take off ++ xs ++ cs.drop (off + xs.length)
def O.put (o : O) (off : Nat) (xs : List V) : Option O :=
 match o with
 | .row cs => if off + xs.length ≤ cs.length then some (.row (putCells cs off xs)) else none
 | .grow s cs => if off + xs.length ≤ cs.length then some (.grow s (putCells cs off xs)) else none
 | _ => none
def zdF (get : Nat -> Option O) (n : Nat) (a x : V) : Option D :=
 if x.solid && x.cells.length == n then
  match a with
  | .ptr i m off => match get i with
   | some o => if o.len = m then (o.put off x.cells).map (D.set i) else none
   | none => none
  | _ => none
 else none
def zcN : V -> Option V
 | .ptr i n o => some (.ptr i n o)
 | .gp g o => some (.gp g o)
 | .func (.func f) a b => some (.func (.func f) a b)
 | .iface t v => some (.iface t v)
 | _ => none
def zgA : V -> Option Int
 | .int _ n => some n
 | _ => none
def zaA (sz : Nat) : V -> V -> Option V
 | .sl i n off len _, .int _ m => if 0 ≤ m ∧ m < len then some (.ptr i n (off + m.toNat * sz)) else none
 | _, _ => none
def za4 (len sz : Nat) : V -> V -> Option V
 | .ptr i n off, .int _ m => if 0 ≤ m ∧ m < len then some (.ptr i n (off + m.toNat * sz)) else none
 | .gp g off, .int _ m => if 0 ≤ m ∧ m < len then some (.gp g (off + m.toNat * sz)) else none
 | _, _ => none
def zbZ : V -> V -> Option V
 | .str s, .int _ m => if 0 ≤ m then (s[m.toNat]?).map fun b => .int .u8 b.toNat else none
 | _, _ => none
def extV : StIn -> V -> V -> Option V
 | .indexByte, .str s, .int .u8 c => some (.int .i64 (Go.Lib.indexByte s c.toNat.toUInt8))
 | .count, .str s, .int .u8 c => some (.int .i64 (Go.Lib.countByte s c.toNat.toUInt8 : Nat))
 | .compare, .str s, .str u => some (.int .i64 (Go.Lib.compareBytes s u))
 | _, _, _ => none
def zc1 (agg : Bool) (len sz : Nat) : V -> V -> Option V
 | .agg cs, .int _ m => if 0 ≤ m ∧ m < len then zb0 agg (m.toNat * sz) sz cs else none
 | _, _ => none
def zan (d y : Nat) : Option V -> Option Nat
 | none => some d
 | some (.int _ n) => if 0 ≤ n ∧ n ≤ (y : Int) then some n.toNat else none
 | some _ => none
def zbW (lo hi : Option V) : V -> Option V
 | .str s => match zan s.length s.length hi with
  | some h => match zan 0 h lo with
   | some l => some (.str ((s.take h).drop l))
   | none => none
  | none => none
 | _ => none
def zay (sz : Nat) (lo hi mx : Option V) : V -> Option V
 | .nilsl => match zan 0 0 mx, zan 0 0 hi, zan 0 0 lo with
  | some _, some _, some _ => some .nilsl
  | _, _, _ => none
 | .slz => match mx with
  | none => match zan 0 0 hi, zan 0 0 lo with
   | some _, some _ => some .slz
   | _, _ => none
  | some _ => none
 | .sl i n off len (some c) => match zan c c mx with
  | some m => match zan len m hi with
   | some h => match zan 0 h lo with
    | some l => if h ≤ m then some (.sl i n (if m = l then off else off + l * sz) (h - l) (some (m - l))) else none
    | none => none
   | none => none
  | none => none
 | .sl i n off len none => match mx with
  | none => match zan len len hi with
   | some h => match zan 0 h lo with
    | some l => if l < len then some (.sl i n (off + l * sz) (h - l) none) else some .slz
    | none => none
   | none => none
  | some mv => match zan len len (some mv) with
   | some m => match zan len m hi with
    | some h => match zan 0 h lo with
     | some l => if h ≤ m then some (.sl i n (if m = l then off else off + l * sz) (h - l) (some (m - l))) else none
     | none => none
    | none => none
   | none => none
 | _ => none
def zfc (len sz : Nat) (lo hi mx : Option V) : V -> Option V
 | .ptr i n off => match zan len len mx with
  | some m => match zan len m hi with
   | some h => match zan 0 h lo with
    | some l => if h ≤ m then some (.sl i n (if m = l then off else off + l * sz) (h - l) (some (m - l))) else none
    | none => none
   | none => none
  | none => none
 | _ => none
def zaq (n : Nat) (zero : List V) : List V := (List.replicate n zero).flatten
def zaH (next sz bytes : Nat) (zero : List V) : V -> V -> Option (V × D)
 | .int _ l, .int _ c => if 0 ≤ l ∧ l ≤ c ∧ bytes * c ≤ 140737488355328 ∧ c ≤ 9223372036854775807 then
   some (.sl next (c.toNat * sz) 0 l.toNat (some c.toNat), .push (.row (zaq c.toNat zero))) else none
 | _, _ => none
def zi7 (get : Nat -> Option O) (sz : Nat) (hi : V) : V -> Option V
 | .sl i n off _ none => match hi, get i with
  | .int _ k, some (.grow sz' cs) => if (sz' = sz ∧ off = 0 ∧ cs.length = n) ∧ 0 ≤ k ∧ k.toNat * sz ≤ n then some (.sl i n 0 k.toNat none) else none
  | _, _ => none
 | _ => none
def lenV (k : Nat) (get : Nat -> Option O) : V -> Option V
 | .str s => if k = 0 then some (.int .i64 s.length) else none
 | .sl _ _ _ len _ => if k = 1 then some (.int .i64 len) else none
 | .nilsl => if k = 1 then some (.int .i64 0) else none
 | .slz => if k = 1 then some (.int .i64 0) else none
 | .nilmap => if k = 2 then some (.int .i64 0) else none
 | .map i => if k = 2 then (match get i with
  | some (.mapo es _ _) => some (.int .i64 es.length)
  | _ => none) else none
 | _ => none
def zcg (b : UInt8) : V := .int .u8 b.toNat
def zaB (get : Nat -> Option O) (sz : Nat) : V -> Option (Nat × List V)
 | .sl i n off len _ => if len = 0 then some (0, []) else match zab get i n with
  | some cs => if off + len * sz ≤ cs.length then some (len, (cs.drop off).take (len * sz)) else none
  | none => none
 | .nilsl | .slz => some (0, [])
 | .str s => if sz = 1 then some (s.length, s.map zcg) else none
 | _ => none
def zaG (get : Nat -> Option O) (next sz bytes : Nat) (s x : V) : Option (V × D) :=
 match zaB get sz x with
 | none => none
 | some (m, xs) =>
  if m = 0 then (match s with
   | .nilsl | .slz | .sl _ _ _ _ _ => some (s, .keep)
   | _ => none)
  else if xs.all V.one = false ∨ sz = 0 then none
  else match s with
  | .nilsl => if m * bytes ≤ 140737488355328 ∧ m ≤ 9223372036854775807 then some (.sl next (m * sz) 0 m none, .push (.grow sz xs)) else none
  | .sl i n off len (some k) =>
   if len + m ≤ k then
    (match get i with
     | some o => if o.len = n then (o.put (off + len * sz) xs).map fun o' => (.sl i n off (len + m) (some k), .set i o') else none
     | none => none)
   else (match zaB get sz s with
    | some (_, old) => if (len + m) * bytes ≤ 140737488355328 ∧ len + m ≤ 9223372036854775807 then some (.sl next ((len + m) * sz) 0 (len + m) none, .push (.grow sz (old ++ xs))) else none
    | none => none)
  | .sl i n off len none =>
   (match get i with
    | some (.grow sz' cs) => if sz' = sz ∧ off = 0 ∧ cs.length = n ∧ len * sz = n ∧ (len + m) * bytes ≤ 140737488355328 ∧ len + m ≤ 9223372036854775807 then
      some (.sl i (n + m * sz) 0 (len + m) none, .set i (.grow sz (cs ++ xs))) else none
    | _ => none)
  | _ => none
def minmaxV (max : Bool) : V -> List V -> Option V
 | .int k x, [] => some (.int k x)
 | .int k x, .int k' y :: rest => if k = k' then minmaxV max (.int k (if max then (if x < y then y else x) else (if y < x then y else x))) rest else none
 | _, _ => none
def zg0 : V -> V -> V -> Option V
 | .bool b, x, y => some (if b then x else y)
 | _, _, _ => none
def u8Of : V -> Option UInt8
 | .int .u8 n => some (UInt8.ofNat n.toNat)
 | _ => none
def zen (get : Nat -> Option O) (v : V) : Option V :=
 match v with
 | .str _ => none
 | v => match zaB get 1 v with
  | some (_, cs) => (cs.mapM u8Of).map .str
  | none => none
def zcI : List V -> List (Nat × Nat × V) -> Option (List V)
 | cs, [] => some cs
 | cs, (off, sz, v) :: rest => if v.solid && v.cells.length == sz && decide (off + sz ≤ cs.length) then zcI (putCells cs off v.cells) rest else none

def zb2 (kd : KD) (k : V) : List (V × V) -> Nat -> Option (Option (Nat × V))
 | [], _ => some none
 | e :: es, i => if zbB kd e.1 then (match kd with
  | .st ts _ => (match eqV ts k e.1 with
   | some true => some (some (i, e.2))
   | some false => zb2 kd k es (i + 1)
   | none => none)
  | _ => if zgU k e.1 then some (some (i, e.2)) else zb2 kd k es (i + 1)) else none
def zcB (get : Nat -> Option O) : V -> Option (List (V × V))
 | .nilmap => some []
 | .map i => match get i with
  | some (.mapo es _ _) => some es
  | _ => none
 | _ => none
def zcw (get : Nat -> Option O) (kd : KD) (zero : V) (commaOk : Bool) (x k : V) : Option V :=
 if zbB kd k then
  match zcB get x with
  | none => none
  | some es => match zb2 kd k es 0 with
   | none => none
   | some (some (_, v)) => some (if commaOk then .tup [v, .bool true] else v)
   | some none => some (if commaOk then .tup [zero, .bool false] else zero)
 else none
def zcj (get : Nat -> Option O) (kd : KD) (x k v : V) : Option D :=
 if zbB kd k then
  match x with
  | .map i => match get i with
   | some (.mapo es bs tk) => match zb2 kd k es 0 with
    | none => none
    | some (some (j, _)) => some (.set i (.mapo (es.set j (k, v)) bs tk))
    | some none => some (.set i (.mapo (es ++ [(k, v)]) (bs ++ [tk]) (tk + 1)))
   | _ => none
  | _ => none
 else none
def zch (get : Nat -> Option O) (kd : KD) (x k : V) : Option D :=
 if zbB kd k then
  match x with
  | .nilmap => some .keep
  | .map i => match get i with
   | some (.mapo es bs tk) => match zb2 kd k es 0 with
    | none => none
    | some (some (j, _)) => some (.set i (.mapo (es.eraseIdx j) (bs.eraseIdx j) tk))
    | some none => some (.set i (.mapo es bs tk))
   | _ => none
  | _ => none
 else none
def zhy (get : Nat -> Option O) (sz : Nat) (d s : V) : Option (V × D) :=
 match zaB get sz s with
 | none => none
 | some (m, xs) => match d with
  | .nilsl | .slz => some (.int .i64 0, .keep)
  | .sl i n off len _ =>
   if min m len = 0 then some (.int .i64 0, .keep) else
   if (xs.take (min m len * sz)).all V.one then
    (match get i with
     | some o => if o.len = n then (o.put off (xs.take (min m len * sz))).map fun o' => (.int .i64 (min m len : Nat), .set i o') else none
     | none => none)
   else none
  | _ => none
def zcz (get : Nat -> Option O) (zero : List V) (x : V) : Option D :=
 match x with
 | .nilsl | .slz => some .keep
 | .sl i n off len _ => if len = 0 then some .keep else
  match get i with
  | some o => if o.len = n then (o.put off (zaq len zero)).map (D.set i) else none
  | none => none
 | _ => none
def zbY (get : Nat -> Option O) (x : V) : Option D :=
 match x with
 | .nilmap => some .keep
 | .map i => match get i with
  | some (.mapo _ _ tk) => some (.set i (.mapo [] [] tk))
  | _ => none
 | _ => none

def zam : Option V -> Option (V × D)
 | some v => some (v, .keep)
 | none => none

def exec (i : I) (tm : Nat -> V) (get : Nat -> Option O) (next : Nat) : Option (V × D) :=
 match i with
 | .mov x => some (x.ev tm, .keep)
 | .pick c a b => zam (zg0 (c.ev tm) (a.ev tm) (b.ev tm))
 | .alloc zero => some (.ptr next zero.length 0, .push (.row zero))
 | .box x => if (x.ev tm).solid then some (.ptr next (x.ev tm).cells.length 0, .push (.row (x.ev tm).cells)) else none
 | .mkIface t x => some (.iface t (x.ev tm), .keep)
 | .build zero parts => zam ((zcI zero (parts.map fun (o, n, x) => (o, n, x.ev tm))).map .agg)
 | .buildSlice sz len zero parts => (zcI (zaq len zero) (parts.map fun (k, x) => (k * sz, sz, x.ev tm))).map fun cs => (.sl next (len * sz) 0 len (some len), .push (.row cs))
 | .load agg n a => zam (zdj get agg n (a.ev tm))
 | .store n a x => (zdF get n (a.ev tm) (x.ev tm)).map fun d => (V.undef, d)
 | .nilchk x => zam (zcN (x.ev tm))
 | .bin op x y => zam (binV op (x.ev tm) (y.ev tm))
 | .eq neg ts x y => zam ((eqV ts (x.ev tm) (y.ev tm)).map fun b => .bool (if neg then !b else b))
 | .un op x => zam (unV op (x.ev tm))
 | .convInt k x => zam ((zgA (x.ev tm)).map fun n => .int k (k.wrap n))
 | .convId x => match x.ev tm with
  | .str s => some (.str s, .keep)
  | _ => none
 | .bytesOf x => match x.ev tm with
  | .str s => if s.length ≤ 9223372036854775807 then some (.sl next s.length 0 s.length none, .push (.grow 1 (s.map zcg))) else none
  | _ => none
 | .strOf x => zam (zen get (x.ev tm))
 | .fieldAddr off x => match x.ev tm with
  | .ptr i n o => some (.ptr i n (o + off), .keep)
  | .gp g o => some (.gp g (o + off), .keep)
  | _ => none
 | .field agg off n x => match x.ev tm with
  | .agg cs => zam (zb0 agg off n cs)
  | _ => none
 | .indexAddr sz x i => zam (zaA sz (x.ev tm) (i.ev tm))
 | .indexAddrArr len sz x i => zam (za4 len sz (x.ev tm) (i.ev tm))
 | .indexStr x i => zam (zbZ (x.ev tm) (i.ev tm))
 | .ext e x y => zam (extV e (x.ev tm) (y.ev tm))
 | .pcall _ fn args => zam (fn (args.map (·.ev tm)))
 | .indexArr agg len sz x i => zam (zc1 agg len sz (x.ev tm) (i.ev tm))
 | .sliceStr x lo hi => zam (zbW (lo.map (·.ev tm)) (hi.map (·.ev tm)) (x.ev tm))
 | .sliceSl sz x lo hi mx => zam (zay sz (lo.map (·.ev tm)) (hi.map (·.ev tm)) (mx.map (·.ev tm)) (x.ev tm))
 | .resl sz x hi => zam ((zay sz none (some (hi.ev tm)) none (x.ev tm)).or (zi7 get sz (hi.ev tm) (x.ev tm)))
 | .sliceArr len sz x lo hi mx => zam (zfc len sz (lo.map (·.ev tm)) (hi.map (·.ev tm)) (mx.map (·.ev tm)) (x.ev tm))
 | .makeSlice sz bytes zero l c => zaH next sz bytes zero (l.ev tm) (c.ev tm)
 | .makeFunc fn first cap => some (.func fn (first.map (·.ev tm)) (cap.map (·.ev tm)), .keep)
 | .extract x i => match x.ev tm with
  | .tup vs => zam vs[i]?
  | _ => none
 | .len k x => zam (lenV k get (x.ev tm))
 | .append sz bytes s x => zaG get next sz bytes (s.ev tm) (x.ev tm)
 | .minmax max x rest => zam (minmaxV max (x.ev tm) (rest.map (·.ev tm)))
 | .makeMap => some (.map next, .push (.mapo [] [] 0))
 | .lookup kd zero ok x k => zam (zcw get kd zero ok (x.ev tm) (k.ev tm))
 | .mapSet kd x k v => (zcj get kd (x.ev tm) (k.ev tm) (v.ev tm)).map fun d => (V.undef, d)
 | .mapDel kd x k => (zch get kd (x.ev tm) (k.ev tm)).map fun d => (V.undef, d)
 | .copy sz d s => zhy get sz (d.ev tm) (s.ev tm)
 | .clearSl _ zero x => (zcz get zero (x.ev tm)).map fun d => (V.undef, d)
 | .clearMap x => (zbY get (x.ev tm)).map fun d => (V.undef, d)


def zca : Value -> Option V
 | .bool b => some (.bool b)
 | .int k n => some (.int k n)
 | .string s => some (.str s.data.toList)
 | .pointer none => some .nilptr
 | .slice none 0 0 => some .nilsl
 | .map none => some .nilmap
 | .nilFunc => some .nilfunc
 | .nilIface => some .niliface
 | _ => none
def zeQ : Value -> Option V
 | .agg cs => (cs.toList.mapM zca).map .agg
 | .tuple vs => if vs.size = 0 then some (.tup []) else none
 | v => zca v
def zag : Operand -> Option A
 | .tmp t => some (.t t)
 | .const v => (zeQ v).map .c
 | .func f => some (.c (.func (.func f) [] []))
 | .global g => some (.c (.gp g 0))

section
variable (P : Program)
def szOf (t : TypeId) : Option Nat := (P.info? t).map (·.size)
def zde (t : TypeId) : Option Nat := (P.info? t).map (·.bytes)
def zcD (t : TypeId) : Option Bool := (P.underlying t).map fun
 | .struct _ | .array _ _ => true
 | _ => false
def zcH (t : TypeId) : Option (List V) := (P.info? t).bind fun i => i.zero.bind fun z => if z.cells.size = i.size then z.cells.toList.mapM zca else none

def tsOf : Nat -> TypeId -> Option TS
 | 0, _ => none
 | d + 1, t =>
  match P.underlying t with
  | some .bool => some .bool
  | some (.int _) => some .int
  | some .string => some .str
  | some (.pointer _) => some .ptr
  | some (.slice _) => some .sl
  | some (.map _ _) => some .map
  | some (.func _ _ _) => some .func
  | some (.interface _) => some .iface
  | some (.struct fs) =>
   if P.stoodInHeld t || P.eqGuardType P.depth t then none else
   (fs.toList.mapM fun f => if f.name = "_" then none else do
    let ts <- tsOf d f.type
    let sz <- szOf P f.type
    let agg <- zcD P f.type
    pure (f.offset, sz, agg, ts)).map .st
  | _ => none

def zvOf (t : TypeId) : Option V := (P.info? t).bind fun i => i.zero.bind zeQ
def kdOf (t : TypeId) : Option KD :=
 match P.underlying t with
 | some (.int k) => some (.int k)
 | some .string => some .str
 | some .bool => some .bool
 | some (.struct _) => match tsOf P 20 t with
  | some ts => (zdE ts).map (KD.st ts)
  | none => none
 | _ => none

def zbm : Operand -> Bool
 | .const _ => true
 | _ => false

def intCmp : List Nat := (List.range P.types.size).filter fun t => (match P.underlying t with | some (.int _) => true | _ => false) && (match P.info? t with | some i => i.comparable | none => false)
def zck (neg : Bool) (t : TypeId) (x y : Operand) : Option I := do
 let ts <- tsOf P 20 t
 let a <- zag x
 let b <- zag y
 match ts with
 | .int | .str => none
 | .iface => if zbm x || zbm y then pure (.eq neg ts a b) else pure (.eq neg (.ifc (intCmp P)) a b)
 | _ => pure (.eq neg ts a b)

def znA (f : FuncId) : Option StIn :=
 match P.funcs[f]? with
 | some fn =>
  if fn.body.isNone && (fn.origin == "" || fn.origin == fn.name) then
   (if fn.name == "internal/bytealg.IndexByteString" then some .indexByte
   else if fn.name == "internal/bytealg.CountString" then some .count
   else if fn.name == "internal/bytealg.abigen_runtime_cmpstring" then some .compare else none)
  else none
 | none => none

def zcp (o : Oper) : Option I :=
 match o.op with
 | .move x | .assign x => (zag x).map .mov
 | .pick c a b => do pure (.pick (<- zag c) (<- zag a) (<- zag b))
 | .alloc e => (zcH P e).map .alloc
 | .box _ x => (zag x).map .box
 | .makeInterface t x => match P.underlying t with
  | some (.interface _) => none
  | some _ => (zag x).map (.mkIface t)
  | none => none
 | .build t parts => match P.underlying t with
  | some (.struct fs) => do
   let zero <- zcH P t
   let ps <- parts.toList.mapM fun (i, x) => do
    let f <- fs[i]?
    pure (f.offset, <- szOf P f.type, <- zag x)
   if (fs.toList.all fun f => (szOf P f.type).isSome) then pure (.build zero ps) else none
  | some (.array _ e) => do
   let zero <- zcH P t
   let sz <- szOf P e
   let ps <- parts.toList.mapM fun (i, x) => do pure (i, <- zag x)
   pure (.build zero (ps.map fun (i, a) => (i * sz, sz, a)))
  | _ => none
 | .buildSlice t len parts => match P.underlying t with
  | some (.slice e) => do
   let sz <- szOf P e
   let zero <- zcH P e
   let ps <- parts.toList.mapM fun (i, x) => do pure (i, <- zag x)
   if len * sz ≤ 16777216 ∧ sz ≠ 0 then pure (.buildSlice sz len zero ps) else none
  | _ => none
 | .load t a => do pure (.load (<- zcD P t) (<- szOf P t) (<- zag a))
 | .store t a x => do pure (.store (<- szOf P t) (<- zag a) (<- zag x))
 | .nilCheck x => (zag x).map .nilchk
 | .binOp op t x y _ =>
  match op, P.underlying t with
  | .eql, some (.int _) | .neq, some (.int _) | .eql, some .string | .neq, some .string => do pure (.bin op (<- zag x) (<- zag y))
  | .eql, _ => zck P false t x y
  | .neq, _ => zck P true t x y
  | _, _ => do pure (.bin op (<- zag x) (<- zag y))
 | .unOp op _ x => (zag x).map (.un op)
 | .convert src dst x => match P.underlying src, P.underlying dst with
  | some (.int _), some (.int k) => (zag x).map (.convInt k)
  | some .string, some .string => (zag x).map .convId
  | some .string, some (.slice e) => match P.underlying e with
   | some (.int .u8) => (zag x).map .bytesOf
   | _ => none
  | some (.slice e), some .string => match P.underlying e with
   | some (.int .u8) => (zag x).map .strOf
   | _ => none
  | _, _ => none
 | .makeFunc fn first cap => do pure (.makeFunc fn (<- first.toList.mapM zag) (<- cap.toList.mapM zag))
 | .makeSlice t l c => match P.underlying t with
  | some (.slice e) => do
   let sz <- szOf P e
   let zero <- zcH P e
   if sz ≠ 0 then pure (.makeSlice sz (<- zde P e) zero (<- zag l) (<- zag c)) else none
  | _ => none
 | .slice t x lo hi mx => match P.underlying t with
  | some .string => if mx.isSome then none else do pure (.sliceStr (<- zag x) (<- lo.mapM zag) (<- hi.mapM zag))
  | some (.slice e) => if (mx.isSome && hi.isNone) || szOf P e == some 0 then none else match lo, hi, mx with
   | none, some b, none => do pure (.resl (<- szOf P e) (<- zag x) (<- zag b))
   | lo, hi, mx => do pure (.sliceSl (<- szOf P e) (<- zag x) (<- lo.mapM zag) (<- hi.mapM zag) (<- mx.mapM zag))
  | some (.array n e) => if (mx.isSome && hi.isNone) || decide (9223372036854775807 < n) then none else do pure (.sliceArr n (<- szOf P e) (<- zag x) (<- lo.mapM zag) (<- hi.mapM zag) (<- mx.mapM zag))
  | _ => none
 | .fieldAddr s x f => match P.underlying s with
  | some (.struct fs) => do
   let fd <- fs[f]?
   let n <- szOf P fd.type
   if n ≠ 0 then pure (.fieldAddr fd.offset (<- zag x)) else none
  | _ => none
 | .field s x f => match P.underlying s with
  | some (.struct fs) => do
   let fd <- fs[f]?
   pure (.field (<- zcD P fd.type) fd.offset (<- szOf P fd.type) (<- zag x))
  | _ => none
 | .indexAddr t x i => match P.underlying t with
  | some (.slice e) => do pure (.indexAddr (<- szOf P e) (<- zag x) (<- zag i))
  | some (.array n e) => do pure (.indexAddrArr n (<- szOf P e) (<- zag x) (<- zag i))
  | _ => none
 | .index t x i => match P.underlying t with
  | some .string => do pure (.indexStr (<- zag x) (<- zag i))
  | some (.array n e) => do pure (.indexArr (<- zcD P e) n (<- szOf P e) (<- zag x) (<- zag i))
  | _ => none
 | .extract x i => (zag x).map (.extract · i)
 | .makeMap _ none => some .makeMap
 | .lookup t x k ok => match P.underlying t with
  | some (.map kt et) => do
   let kd <- kdOf P kt
   pure (.lookup kd (<- zvOf P et) ok (<- zag x) (<- zag k))
  | _ => none
 | .mapUpdate t m k x | .insert t m k x => match P.underlying t with
  | some (.map kt _) => do
   let kd <- kdOf P kt
   pure (.mapSet kd (<- zag m) (<- zag k) (<- zag x))
  | _ => none
 | .call c => match c.callee with
  | .value (.func g) => match znA P g, c.args.toList with
   | some e, [x, y] => do pure (.ext e (<- zag x) (<- zag y))
   | _, _ => none
  | .builtin .len => match c.args.toList, c.argTypes.toList with
   | [x], [t] => match P.underlying t with
    | some .string => (zag x).map (.len 0)
    | some (.slice _) => (zag x).map (.len 1)
    | some (.map _ _) => (zag x).map (.len 2)
    | some (.array n _) => some (.mov (.c (.int .i64 n)))
    | _ => none
   | _, _ => none
  | .builtin .append => match c.args.toList, c.argTypes.toList with
   | [s, x], [t, u] => match P.underlying t, P.underlying u with
    | some (.slice e), some (.slice _) | some (.slice e), some .string => do
     let _ <- zcH P e
     pure (.append (<- szOf P e) (<- zde P e) (<- zag s) (<- zag x))
    | _, _ => none
   | _, _ => none
  | .builtin .copy => match c.args.toList, c.argTypes.toList with
   | [d, s], t :: _ => match P.underlying t with
    | some (.slice e) => do pure (.copy (<- szOf P e) (<- zag d) (<- zag s))
    | _ => none
   | _, _ => none
  | .builtin .clear => match c.args.toList, c.argTypes.toList with
   | [x], [t] => match P.underlying t with
    | some (.slice e) => do pure (.clearSl (<- szOf P e) (<- zcH P e) (<- zag x))
    | some (.map _ _) => (zag x).map .clearMap
    | _ => none
   | _, _ => none
  | .builtin .delete => match c.args.toList, c.argTypes.toList with
   | [x, k], t :: _ => match P.underlying t with
    | some (.map kt _) => do pure (.mapDel (<- kdOf P kt) (<- zag x) (<- zag k))
    | _ => none
   | _, _ => none
  | .builtin .min => match c.args.toList with
   | x :: rest => do pure (.minmax false (<- zag x) (<- rest.mapM zag))
   | _ => none
  | .builtin .max => match c.args.toList with
   | x :: rest => do pure (.minmax true (<- zag x) (<- rest.mapM zag))
   | _ => none
  | _ => none
 | _ => none
def zdr (o : Oper) : Option (A × List A) :=
 match o.op with
 | .range t x => match P.underlying t with
  | some (.map _ _) => (zag x).map fun a => (.c (spc 0), [a])
  | _ => none
 | .next x false => (zag x).map fun a => (.c (spc 1), [a])
 | .entry x => (zag x).map fun a => (.c (spc 2), [a])
 | .call c => match c.callee with
  | .value f => do pure (<- zag f, <- c.args.toList.mapM zag)
  | _ => none
 | _ => none
end
end Go.Am
