import GoSem.Step
import Derived.Calls
import Derived.Laws.Sem
import Derived.Laws.World
set_option linter.all false
set_option autoImplicit false
namespace Go.Vm
inductive V where
 | junk
 | bool (b : Bool)
 | int (k : IntKind) (n : Int)
 | str (s : List UInt8)
 | nilp
 | ref (id off : Nat)
 | imm (cs : List V)
 | slN
 | slI (n : Nat) (cs : List V)
 | slR (id off len cap sz : Nat)
 | fn (f : Fn) (first captured : List V)
 | nilf
 | ifc (t : TypeId) (v : V)
 | nili
 | agg (cs : List V)
 | tup (vs : List V)
 | mapN
 | mapR (id : Nat)
 | it (id : Nat)
 | yld (id : Nat)
instance : Inhabited V := ⟨.junk⟩
inductive Ob where
 | gone
 | cells (cs : List V) (e : TypeId)
 | iter (s : List UInt8) (pos : Nat)
 | mp (es : List (V × V))
 | lp (busy : Bool) (key : Nat) (fr : List V)
abbrev Store := List Ob
abbrev Fr := List V
abbrev Prim := List V → Store → Option (V × Store)
inductive Tg where
 | fn (f : FuncId)
 | yl (id : Nat)
structure Env where
 P : Program
 glob : Nat → Option (List V)
 prim : FuncId → Option Prim
 keep : FuncId → Bool
 loops : Nat → Option (Nat × Array Tmp × Code × Code)
 /-- the functions that defer calls -/
 defs : FuncId → Bool := fun _ => false
 /-- the functions that, deferred, do nothing but recover what panicked -/
 catches : FuncId → Bool := fun _ => false
mutual
def V.beq : V → V → Bool
 | .junk, .junk => true
 | .bool a, .bool b => a == b
 | .int j a, .int k b => j == k && a == b
 | .str a, .str b => a == b
 | .nilp, .nilp => true
 | .ref a b, .ref c d => a == c && b == d
 | .imm a, .imm b => V.beqL a b
 | .slN, .slN => true
 | .slI n a, .slI m b => n == m && V.beqL a b
 | .slR a b c d e, .slR a' b' c' d' e' => a == a' && b == b' && c == c' && d == d' && e == e'
 | .fn f a b, .fn g c d => f == g && V.beqL a c && V.beqL b d
 | .nilf, .nilf => true
 | .ifc t v, .ifc u x => t == u && V.beq v x
 | .nili, .nili => true
 | .agg a, .agg b => V.beqL a b
 | .tup a, .tup b => V.beqL a b
 | .mapN, .mapN => true
 | .mapR a, .mapR b => a == b
 | .it a, .it b => a == b
 | .yld a, .yld b => a == b
 | _, _ => false
def V.beqL : List V → List V → Bool
 | [], [] => true
 | a :: l, b :: m => V.beq a b && V.beqL l m
 | _, _ => false
end
def V.beqP : List (V × V) → List (V × V) → Bool
 | [], [] => true
 | a :: l, b :: m => V.beq a.1 b.1 && V.beq a.2 b.2 && V.beqP l m
 | _, _ => false
def Ob.beq : Ob → Ob → Bool
 | .gone, .gone => true
 | .cells a e, .cells b f => e == f && V.beqL a b
 | .iter s p, .iter t q => s == t && p == q
 | .mp a, .mp b => V.beqP a b
 | .lp a k f, .lp b j g => a == b && k == j && V.beqL f g
 | _, _ => false
def Store.beq : Store → Store → Bool
 | [], [] => true
 | a :: l, b :: m => Ob.beq a b && Store.beq l m
 | _, _ => false
mutual
def V.noRef : V → Bool
 | .ref _ _ => false
 | .slR _ _ _ _ _ => false
 | .mapR _ => false
 | .it _ => false
 | .yld _ => false
 | .imm cs => V.noRefL cs
 | .slI _ cs => V.noRefL cs
 | .agg cs => V.noRefL cs
 | .tup cs => V.noRefL cs
 | .fn _ a b => V.noRefL a && V.noRefL b
 | .ifc _ v => V.noRef v
 | _ => true
def V.noRefL : List V → Bool
 | [] => true
 | c :: cs => V.noRef c && V.noRefL cs
end
def lget : List V → Nat → V
 | [], _ => .junk
 | x :: _, 0 => x
 | _ :: l, n + 1 => lget l n
def lset : List V → Nat → V → List V
 | [], 0, v => [v]
 | _ :: l, 0, v => v :: l
 | [], n + 1, v => .junk :: lset [] n v
 | x :: l, n + 1, v => x :: lset l n v
def put (fr : Fr) (dst : Option Nat) (v : V) : Fr := match dst with | some d => lset fr d v | none => fr
def vLeaf : Value → V
 | .bool b => .bool b
 | .int k n => .int k n
 | .string s => .str s.data.toList
 | .pointer none => .nilp
 | .slice none 0 0 => .slN
 | .nilFunc => .nilf
 | .nilIface => .nili
 | .map none => .mapN
 | _ => .junk
def leafB : Value → Bool
 | .agg _ | .tuple _ => false
 | _ => true
def vOf : Value → V
 | .agg cs => if cs.toList.all leafB then .agg (cs.toList.map vLeaf) else .junk
 | .tuple ⟨[]⟩ => .tup []
 | v => vLeaf v
def vcells : V → List V
 | .agg cs => cs
 | v => [v]
def solid : V → Bool
 | .junk => false
 | .tup _ => false
 | .it _ => false
 | .yld _ => false
 | _ => true
def splice {α : Type} (cs : List α) (off : Nat) : List α → List α
 | [] => cs
 | v :: vs => splice (cs.set off v) (off + 1) vs
def tk (cs : List V) (n : Nat) : Option (List V) := if n ≤ cs.length then some (cs.take n) else none
def repl (n : Nat) (zs : List V) : List V := (List.replicate n zs).flatten
def bytesV (s : List UInt8) : List V := s.map fun b => V.int .u8 b.toNat
def vByte : V → Option UInt8
 | .int .u8 n => some (UInt8.ofNat n.toNat)
 | _ => none
def vBytes : List V → Option (List UInt8)
 | [] => some []
 | c :: cs => do
  let b ← vByte c
  let r ← vBytes cs
  some (b :: r)
def cellsOf (S : Store) (id : Nat) : Option (List V) := match S[id]? with | some (.cells cs _) => some cs | _ => none
def elemOf (S : Store) (id : Nat) : Option TypeId := match S[id]? with | some (.cells _ e) => some e | _ => none
def cellsAt (S : Store) (p : V) (n : Nat) : Option (List V) :=
 match p with
 | .ref id off => do
  let cs ← cellsOf S id
  tk (cs.drop off) n
 | .imm cs => tk cs n
 | _ => none
def putAt (S : Store) (p : V) (vs : List V) : Option Store :=
 match p with
 | .ref id off => do
  let cs ← cellsOf S id
  let e ← elemOf S id
  if off + vs.length ≤ cs.length then some (S.set id (.cells (splice cs off vs) e)) else none
 | _ => none
section
variable (E : Env)
def tsize (t : TypeId) : Option Nat := (E.P.info? t).map (·.size)
def tbytes (t : TypeId) : Option Nat := (E.P.info? t).map (·.bytes)
def isAggO (t : TypeId) : Option Bool :=
 match E.P.underlying t with
 | some (.struct _) | some (.array _ _) => some true
 | some _ => some false
 | none => none
def zeroV (t : TypeId) : Option V := do
 let i ← E.P.info? t
 let z ← i.zero
 some (vOf z)
def elemT (t : TypeId) : Option TypeId := match E.P.underlying t with | some (.slice e) => some e | _ => none
def opLoad (S : Store) (t : TypeId) (p : V) : Option V := do
 let g ← isAggO E t
 if g then do
  let n ← tsize E t
  let cs ← cellsAt S p n
  some (.agg cs)
 else do
  let cs ← cellsAt S p 1
  cs.head?
def opStore (S : Store) (t : TypeId) (p v : V) : Option Store := do
 let n ← tsize E t
 if solid v && (vcells v).length == n then putAt S p (vcells v) else none
def opAlloc (S : Store) (t : TypeId) : Option (V × Store) := do
 let z ← zeroV E t
 if solid z then some (.ref S.length 0, S ++ [.cells (vcells z) t]) else none
def opBox (S : Store) (t : TypeId) (v : V) : Option (V × Store) :=
 if solid v then some (.ref S.length 0, S ++ [.cells (vcells v) t]) else none
def fillV (place : Nat → Option (Nat × Nat)) (cells : List V) : List (Nat × V) → Option (List V)
 | [] => some cells
 | (i, v) :: rest =>
  match place i with
  | none => none
  | some (off, size) =>
   if solid v && (vcells v).length == size && off + size ≤ cells.length then fillV place (splice cells off (vcells v)) rest else none
def fieldPlaces (fields : Array Field) (i : Nat) : Option (Nat × Nat) :=
 match fields[i]? with
 | some f => (tsize E f.type).map fun n => (f.offset, n)
 | none => none
def opBuild (t : TypeId) (parts : List (Nat × V)) : Option V :=
 match zeroV E t with
 | none => none
 | some z =>
  if !solid z then none else
  match E.P.underlying t with
  | some (.struct fields) =>
   if fields.toList.all (fun f => (tsize E f.type).isSome) then (fillV (fieldPlaces E fields) (vcells z) parts).map .agg else none
  | some (.array _ elem) =>
   match tsize E elem with
   | some size => (fillV (fun i => some (i * size, size)) (vcells z) parts).map .agg
   | none => none
  | _ => none
def opBuildSlice (S : Store) (t : TypeId) (len : Nat) (parts : List (Nat × V)) : Option (V × Store) := do
 let elem ← elemT E t
 let size ← tsize E elem
 let z ← zeroV E elem
 if solid z && len * size ≤ 16777216 && (vcells z).length == size then do
  let cs ← fillV (fun i => some (i * size, size)) (repl len (vcells z)) parts
  some (.slR S.length 0 len len size, S ++ [.cells cs elem])
 else none
def vInt : V → Option Int
 | .int _ n => some n
 | _ => none
def opMakeSlice (S : Store) (t : TypeId) (l c : V) : Option (V × Store) := do
 let elem ← elemT E t
 let size ← tsize E elem
 let bytes ← tbytes E elem
 let z ← zeroV E elem
 let l ← vInt l
 let c ← vInt c
 if solid z && (vcells z).length == size && decide (0 ≤ l) && decide (l ≤ c) && decide ((bytes : Int) * c ≤ 140737488355328) && decide (c ≤ 140737488355328) then
  some (.slR S.length 0 l.toNat c.toNat size, S ++ [.cells (repl c.toNat (vcells z)) elem])
 else none
def bnd (x : Option V) (dflt lo hi : Nat) : Option Nat :=
 match x with
 | none => some dflt
 | some (.int _ i) => if decide ((lo : Int) ≤ i) && decide (i ≤ (hi : Int)) then some i.toNat else none
 | some _ => none
def opSlice (t : TypeId) (x : V) (lo hi mx : Option V) : Option V :=
 match E.P.underlying t, x with
 | some .string, .str s =>
  if mx.isSome then none else do
   let h ← bnd hi s.length 0 s.length
   let l ← bnd lo 0 0 h
   some (.str ((s.take h).drop l))
 | some (.slice e), .slN => do
  let _ ← tsize E e
  let m ← bnd mx 0 0 0
  let h ← bnd hi (if mx.isSome then m + 1 else 0) 0 m
  let _ ← bnd lo 0 0 h
  if h ≤ m then some .slN else none
 | some (.slice e), .slI n cs => do
  let size ← tsize E e
  let m ← bnd mx n 0 n
  let h ← bnd hi (if mx.isSome then m + 1 else n) 0 m
  let l ← bnd lo 0 0 h
  if h ≤ m && cs.length == n * size then some (.slI (h - l) ((cs.drop (l * size)).take ((h - l) * size))) else none
 | some (.slice e), .slR id off len cap sz => do
  let size ← tsize E e
  let m ← bnd mx cap 0 cap
  let h ← bnd hi (if mx.isSome then m + 1 else len) 0 m
  let l ← bnd lo 0 0 h
  if size == sz && h ≤ m then some (.slR id (off + l * sz) (h - l) (m - l) sz) else none
 | _, _ => none
def opIndexAddr (t : TypeId) (x i : V) : Option V := do
 let i ← vInt i
 match E.P.underlying t, x with
 | some (.slice e), .slI n cs => do
  let size ← tsize E e
  if decide (0 ≤ i) && decide (i < (n : Int)) then some (.imm (cs.drop (i.toNat * size))) else none
 | some (.slice e), .slR id off len _ sz => do
  let size ← tsize E e
  if size == sz && decide (0 ≤ i) && decide (i < (len : Int)) then some (.ref id (off + i.toNat * sz)) else none
 | some (.array n e), .ref id off => do
  let size ← tsize E e
  if decide (0 ≤ i) && decide (i < (n : Int)) then some (.ref id (off + i.toNat * size)) else none
 | some (.array n e), .imm cs => do
  let size ← tsize E e
  if decide (0 ≤ i) && decide (i < (n : Int)) then some (.imm (cs.drop (i.toNat * size))) else none
 | _, _ => none
def partV (t : TypeId) (cs : List V) (off : Nat) : Option V := do
 let g ← isAggO E t
 if g then do
  let n ← tsize E t
  some (.agg ((cs.drop off).take n))
 else cs[off]?
def opIndex (t : TypeId) (x i : V) : Option V := do
 let i ← vInt i
 match E.P.underlying t, x with
 | some .string, .str s => if 0 ≤ i then (s[i.toNat]?).map fun b => V.int .u8 b.toNat else none
 | some (.array n e), .agg cs => do
  let size ← tsize E e
  if decide (0 ≤ i) && decide (i < (n : Int)) then partV E e cs (i.toNat * size) else none
 | _, _ => none
def opFieldAddr (s : TypeId) (x : V) (f : Nat) : Option V :=
 match E.P.underlying s with
 | some (.struct fields) =>
  match fields[f]? with
  | some fd => do
   let n ← tsize E fd.type
   if n == 0 then none else
   match x with
   | .ref id off => some (.ref id (off + fd.offset))
   | .imm cs => some (.imm (cs.drop fd.offset))
   | _ => none
  | none => none
 | _ => none
def opField (s : TypeId) (x : V) (f : Nat) : Option V :=
 match E.P.underlying s with
 | some (.struct fields) =>
  match fields[f]?, x with
  | some fd, .agg cs => partV E fd.type cs fd.offset
  | _, _ => none
 | _ => none
def vEqs (eq : TypeId → V → V → Option Bool) (xs ys : List V) : List Field → Option Bool
 | [] => some true
 | f :: fs => if f.name ≠ "_" then do
   let a ← partV E f.type xs f.offset
   let b ← partV E f.type ys f.offset
   let r ← eq f.type a b
   if r then vEqs eq xs ys fs else some false
  else vEqs eq xs ys fs
def vEq : Nat → TypeId → V → V → Option Bool
 | 0, _, _, _ => none
 | d + 1, t, x, y =>
  match E.P.underlying t, x, y with
  | some .bool, .bool a, .bool b => some (a == b)
  | some (.int _), .int k a, .int k' b => if k = k' then some (a == b) else none
  | some .string, .str a, .str b => some (a == b)
  | some (.pointer _), .nilp, .nilp => some true
  | some (.pointer _), .nilp, .ref _ _ => some false
  | some (.pointer _), .nilp, .imm _ => some false
  | some (.pointer _), .ref _ _, .nilp => some false
  | some (.pointer _), .imm _, .nilp => some false
  | some (.pointer e), .ref i a, .ref j b => do
   let n ← tsize E e
   if n != 0 && i == j then some (a == b) else none
  | some (.slice _), .slN, .slN => some true
  | some (.slice _), .slN, .slR _ _ _ _ _ => some false
  | some (.slice _), .slR _ _ _ _ _, .slN => some false
  | some (.slice _), .slN, .slI _ _ => some false
  | some (.slice _), .slI _ _, .slN => some false
  | some (.interface _), .nili, .nili => some true
  | some (.interface _), .nili, .ifc _ _ => some false
  | some (.interface _), .ifc _ _, .nili => some false
  | some (.func _ _ _), .nilf, .nilf => some true
  | some (.func _ _ _), .nilf, .fn _ _ _ => some false
  | some (.func _ _ _), .fn _ _ _, .nilf => some false
  | some (.map _ _), .mapN, .mapN => some true
  | some (.map _ _), .mapN, .mapR _ => some false
  | some (.map _ _), .mapR _, .mapN => some false
  | some (.struct fields), .agg xs, .agg ys =>
   if E.P.stoodInHeld t then none else vEqs E (vEq d) xs ys fields.toList
  | _, _, _ => none
def isLit : Operand → Bool
 | .const _ => true
 | _ => false
def eqOk (lit : Bool) (t : TypeId) (x y : V) : Bool :=
 match x, y with
 | .nili, .nili => lit
 | .agg _, .agg _ => !E.P.eqGuardType E.P.depth t
 | _, _ => true
def strOp (op : BinOp) (x y : List UInt8) : Option V :=
 match op with
 | .add => if x.length + y.length ≤ 9223372036854775807 then some (.str (x ++ y)) else none
 | .eql => some (.bool (x == y))
 | .neq => some (.bool (!(x == y)))
 | .lss => some (.bool (Op.bytesLess x y))
 | .leq => some (.bool (Op.bytesLess x y || x == y))
 | .gtr => some (.bool (!(Op.bytesLess x y || x == y)))
 | .geq => some (.bool (!(Op.bytesLess x y)))
 | _ => none
def intOp (op : BinOp) (k : IntKind) (x y : Int) : Option V :=
 match op with
 | .add => some (.int k (k.wrap (x + y)))
 | .sub => some (.int k (k.wrap (x - y)))
 | .mul => some (.int k (k.wrap (x * y)))
 | .quo => if y = 0 then none else some (.int k (k.wrap (x.tdiv y)))
 | .rem => if y = 0 then none else some (.int k (x.tmod y))
 | .and => some (.int k (k.wrap (BitVec.ofInt k.bits x &&& BitVec.ofInt k.bits y).toNat))
 | .or => some (.int k (k.wrap (BitVec.ofInt k.bits x ||| BitVec.ofInt k.bits y).toNat))
 | .xor => some (.int k (k.wrap (BitVec.ofInt k.bits x ^^^ BitVec.ofInt k.bits y).toNat))
 | .andNot => some (.int k (k.wrap (BitVec.ofInt k.bits x &&& ~~~ BitVec.ofInt k.bits y).toNat))
 | .eql => some (.bool (x == y))
 | .neq => some (.bool (x != y))
 | .lss => some (.bool (decide (x < y)))
 | .leq => some (.bool (decide (x ≤ y)))
 | .gtr => some (.bool (decide (x > y)))
 | .geq => some (.bool (decide (x ≥ y)))
 | _ => none
def opBin (lit : Bool) (op : BinOp) (t : TypeId) (x y : V) : Option V :=
 match op, x, y with
 | .shl, .int k a, .int _ b => if b < 0 then none else some (.int k (k.wrap (a * 2 ^ (min b.toNat k.bits))))
 | .shr, .int k a, .int _ b => if b < 0 then none else some (.int k (a.fdiv (2 ^ (min b.toNat k.bits))))
 | _, .int k a, .int k' b => if k = k' then intOp op k a b else none
 | _, .str a, .str b => strOp op a b
 | .eql, x, y => if eqOk E lit t x y then do
   let r ← vEq E 100 t x y
   some (.bool r)
  else none
 | .neq, x, y => if eqOk E lit t x y then do
   let r ← vEq E 100 t x y
   some (.bool (!r))
  else none
 | _, _, _ => none
def opUn (op : UnOp) (x : V) : Option V :=
 match op, x with
 | .neg, .int k n => intOp .sub k 0 n
 | .xor, .int k n => intOp .xor k (if k.signed then -1 else k.max) n
 | .not, .bool b => some (.bool (!b))
 | _, _ => none
def sliceCells (S : Store) (x : V) (size : Nat) : Option (Nat × List V) :=
 match x with
 | .slN => some (0, [])
 | .slI n cs => if cs.length == n * size then some (n, cs) else none
 | .slR id off len _ sz => if sz == size then do
   let cs ← cellsAt S (.ref id off) (len * size)
   some (len, cs)
  else none
 | _ => none
def opConvert (S : Store) (src dst : TypeId) (x : V) : Option (V × Store) :=
 match E.P.underlying src, E.P.underlying dst, x with
 | some _, some (.int k), .int _ n => some (.int k (k.wrap n), S)
 | some _, some .string, .int _ n => some (.str (Utf8.encode n).data.toList, S)
 | some _, some .string, .str s => some (.str s, S)
 | some _, some (.slice e), .str s =>
  match E.P.underlying e with
  | some (.int .u8) => if s.length ≤ 140737488355328 then some (.slR S.length 0 s.length s.length 1, S ++ [.cells (bytesV s) e]) else none
  | _ => none
 | some (.slice e), some .string, x =>
  match E.P.underlying e with
  | some (.int .u8) => do
   let (_, cs) ← sliceCells S x 1
   let b ← vBytes cs
   some (.str b, S)
  | _ => none
 | some (.pointer t), some .unsafePointer, .ref id off => do
  let n ← tsize E t
  let cs ← cellsOf S id
  if n != 0 && decide (off < cs.length) then some (.ref id off, S) else none
 | some .unsafePointer, some (.pointer u), .ref id off => do
  let n ← tsize E u
  let cs ← cellsOf S id
  let e ← elemOf S id
  if n != 0 && e == u && off % n == 0 && decide (off + n ≤ cs.length) then some (.ref id off, S) else none
 | _, _, _ => none
def opMakeIface (t : TypeId) (x : V) : Option V :=
 match E.P.underlying t with
 | some (.interface _) => none
 | some _ => some (.ifc t x)
 | none => none
def opExtract (x : V) (i : Nat) : Option V := match x with | .tup vs => vs[i]? | _ => none
def keyEq (k : TypeDesc) (x y : V) : Option Bool :=
 match k, x, y with
 | .int _, .int j a, .int k b => if j = k then some (a == b) else none
 | .string, .str a, .str b => some (a == b)
 | .bool, .bool a, .bool b => some (a == b)
 | _, _, _ => none
def mpFind (k : TypeDesc) (x : V) : List (V × V) → Option (Option V)
 | [] => some none
 | e :: es => match keyEq k x e.1 with
  | some true => some (some e.2)
  | some false => mpFind k x es
  | none => none
def mpPut (k : TypeDesc) (x v : V) : List (V × V) → Option (List (V × V))
 | [] => some [(x, v)]
 | e :: es => match keyEq k x e.1 with
  | some true => some ((x, v) :: es)
  | some false => (mpPut k x v es).map (e :: ·)
  | none => none
def keyKind : TypeDesc → V → Bool
 | .int _, .int _ _ => true
 | .string, .str _ => true
 | .bool, .bool _ => true
 | _, _ => false
def mapEntries (S : Store) (m : V) : Option (List (V × V)) :=
 match m with
 | .mapN => some []
 | .mapR id => match S[id]? with | some (.mp es) => some es | _ => none
 | _ => none
def opLookup (S : Store) (t : TypeId) (m k : V) (ok : Bool) : Option V :=
 match E.P.underlying t with
 | some (.map kt et) => do
  let kd ← E.P.underlying kt
  if keyKind kd k then do
   let es ← mapEntries S m
   let r ← mpFind kd k es
   match r with
   | some v => some (if ok then .tup [v, .bool true] else v)
   | none => do
    let z ← zeroV E et
    some (if ok then .tup [z, .bool false] else z)
  else none
 | _ => none
def opMapUpdate (S : Store) (t : TypeId) (m k v : V) : Option Store :=
 match E.P.underlying t, m with
 | some (.map kt _), .mapR id => do
  let kd ← E.P.underlying kt
  if keyKind kd k then do
   let es ← mapEntries S m
   let es' ← mpPut kd k v es
   some (S.set id (.mp es'))
  else none
 | _, _ => none
def opLen (S : Store) (t : TypeId) (x : V) : Option V :=
 match E.P.underlying t, x with
 | some .string, .str s => some (.int .i64 s.length)
 | some (.slice _), .slN => some (.int .i64 0)
 | some (.slice _), .slI n _ => some (.int .i64 n)
 | some (.slice _), .slR _ _ n _ _ => some (.int .i64 n)
 | some (.array n _), _ => some (.int .i64 n)
 | some (.map _ _), .mapN => some (.int .i64 0)
 | some (.map _ _), .mapR id => match S[id]? with | some (.mp es) => some (.int .i64 es.length) | _ => none
 | _, _ => none
def appended (S : Store) (size : Nat) (x : V) : Option (Nat × List V) :=
 match x with
 | .str s => some (s.length, bytesV s)
 | x => sliceCells S x size
def appendZ (S : Store) (e : TypeId) (size bytes : Nat) (z s x : V) : Option (V × Store) :=
 match s, x with
 | .slN, .int .i64 n => if solid z && (vcells z).length == size && decide (0 < size) && decide (0 < n) && decide (n * bytes ≤ 140737488355328) && decide (n ≤ 140737488355328) then
   some (.slR S.length 0 n.toNat n.toNat size, S ++ [.cells (repl n.toNat (vcells z)) e]) else none
 | _, _ => none
def opAppend (S : Store) (ts : List TypeId) (s x : V) : Option (V × Store) :=
 match ts with
 | [t, u] => do
  let e ← elemT E t
  let size ← tsize E e
  let bytes ← tbytes E e
  let z ← zeroV E e
  match E.P.underlying u with
  | some (.int _) => appendZ S e size bytes z s x
  | none => none
  | some _ => do
   let (n, new) ← appended S size x
   if !(solid z && (vcells z).length == size && decide (0 < size) && new.length == n * size) then none else
   if n == 0 then (match s with | .slN | .slI _ _ | .slR _ _ _ _ _ => some (s, S) | _ => none) else
   match s with
   | .slN => if n * bytes ≤ 140737488355328 && n ≤ 140737488355328 then some (.slR S.length 0 n n size, S ++ [.cells new e]) else none
   | .slR id off len cap sz =>
    if sz != size then none else
    if len + n ≤ cap then do
     let S' ← putAt S (.ref id (off + len * sz)) new
     some (.slR id off (len + n) cap sz, S')
    else if (len + n) * bytes ≤ 140737488355328 && len + n ≤ 140737488355328 && elemOf S id == some e && off % size == 0 then do
     let cs ← cellsAt S (.ref id off) (len * sz)
     some (.slR S.length 0 (len + n) (len + n) sz, (S.set id .gone) ++ [.cells (cs ++ new) e])
    else none
   | _ => none
 | _ => none
def opCopy (S : Store) (ts : List TypeId) (d x : V) : Option (V × Store) :=
 match ts with
 | t :: _ => do
  let e ← elemT E t
  let size ← tsize E e
  let (n, new) ← appended S size x
  if new.length != n * size then none else
  match d with
  | .slN => some (.int .i64 0, S)
  | .slR id off len _ sz =>
   if sz != size then none else
   let m := min n len
   do
   let S' ← putAt S (.ref id off) (new.take (m * size))
   some (.int .i64 m, S')
  | _ => none
 | _ => none
def opClear (S : Store) (ts : List TypeId) (x : V) : Option Store :=
 match ts with
 | t :: _ => do
  let e ← elemT E t
  let size ← tsize E e
  let z ← zeroV E e
  match x with
  | .slN => some S
  | .slR id off len _ sz =>
   if sz != size || !(solid z && (vcells z).length == size) then none else putAt S (.ref id off) (repl len (vcells z))
  | _ => none
 | _ => none
def opCap (t : TypeId) (x : V) : Option V :=
 match E.P.underlying t, x with
 | some (.slice _), .slN => some (.int .i64 0)
 | _, _ => none
def opSliceData (x : V) : Option V :=
 match x with
 | .slN => some .nilp
 | .slR id off _ cap _ => if decide (0 < cap) then some (.ref id off) else none
 | _ => none
def opUnsafeString (S : Store) (ts : List TypeId) (p n : V) : Option (V × Store) :=
 match ts, p, n with
 | _ :: _, .nilp, .int _ n => if n = 0 then some (.str [], S) else none
 | t :: _, .ref id off, .int _ n =>
  if n = 0 then some (.str [], S) else
  match E.P.underlying t with
  | some (.pointer u) => do
   let sz ← tsize E u
   let e ← elemOf S id
   let cs ← cellsAt S (.ref id off) n.toNat
   let b ← vBytes cs
   if decide (0 < n) && decide (n ≤ 140737488355328) && sz == 1 && e == u then some (.str b, S.set id .gone) else none
  | _ => none
 | _, _, _ => none
def minMax (mx : Bool) : V → List V → Option V
 | x, [] => some x
 | .int k a, .int k' b :: r => if k = k' then minMax mx (.int k (if mx then (if b > a then b else a) else (if b < a then b else a))) r else none
 | _, _ => none
def idxInt : Option Nat → Int
 | some i => i
 | none => -1
def externV (name : String) (res : List TypeId) (args : List V) (S : Store) : Option (V × Store) :=
 match name, args with
 | "internal/bytealg.IndexByteString", [.str s, .int .u8 c] => some (.int .i64 (idxInt (s.findIdx? (· == UInt8.ofNat c.toNat))), S)
 | "internal/bytealg.CountString", [.str s, .int .u8 c] => some (.int .i64 (s.filter (· == UInt8.ofNat c.toNat)).length, S)
 | "internal/abi.NoEscape", [x] => some (x, S)
 | "internal/bytealg.MakeNoZero", [.int .i64 n] => match res with
  | [t] => do
   let e ← elemT E t
   let size ← tsize E e
   if decide (0 ≤ n) && decide (n ≤ 140737488355328) && size == 1 then some (.slR S.length 0 n.toNat n.toNat 1, S ++ [.cells (List.replicate n.toNat .junk) e]) else none
  | _ => none
 | "internal/race.Disable", _ => some (.tup [], S)
 | "internal/race.Enable", _ => some (.tup [], S)
 | "internal/race.Acquire", [.ref id off] => some (.tup [], S)
 | "internal/race.ReleaseMerge", [.ref id off] => some (.tup [], S)
 | "sync/atomic.LoadUint32", [.ref id off] => match cellsAt S (.ref id off) 1 with | some [.int .u32 x] => some (.int .u32 x, S) | _ => none
 | "sync/atomic.StoreUint32", [.ref id off, .int .u32 y] => match cellsAt S (.ref id off) 1 with | some [.int .u32 _] => (putAt S (.ref id off) [.int .u32 y]).map (.tup [], ·) | _ => none
 | "sync/atomic.CompareAndSwapInt32", [.ref id off, .int .i32 o, .int .i32 y] => match cellsAt S (.ref id off) 1 with
  | some [.int .i32 x] => if x = o then (putAt S (.ref id off) [.int .i32 y]).map (.bool true, ·) else some (.bool false, S)
  | _ => none
 | "sync/atomic.AddInt32", [.ref id off, .int .i32 y] => match cellsAt S (.ref id off) 1 with
  | some [.int .i32 x] => (putAt S (.ref id off) [.int .i32 (IntKind.i32.wrap (x + y))]).map (.int .i32 (IntKind.i32.wrap (x + y)), ·)
  | _ => none
 | _, _ => none
variable (call : Tg → List V → Store → Option (V × Store))
def opnd (fr : Fr) : Operand → V
 | .tmp t => lget fr t
 | .const v => vOf v
 | .global g => match E.glob g with | some cs => .imm cs | none => .junk
 | .func f => .fn (.func f) [] []
def callFn (f : FuncId) (args : List V) (S : Store) : Option (V × Store) :=
 match E.prim f with
 | some p => p args S
 | none =>
  match E.P.funcs[f]? with
  | some fn => if fn.name == "runtime.NumGoroutine" then none else if fn.body.isNone then (if fn.origin == "" then externV E fn.name fn.resultTypes.toList args S else none) else call (.fn f) args S
  | none => none
def callV (f : V) (args : List V) (S : Store) : Option (V × Store) :=
 match f with
 | .fn (.func f) first captured => callFn E call f (first ++ args ++ captured) S
 | .yld id => call (.yl id) args S
 | _ => none
def evOp (ρ : Operand → V) (S : Store) (o : Oper) : Option (V × Store) :=
 match o.op with
 | .move x | .assign x => some (ρ x, S)
 | .pick c a b => match ρ c with | .bool c => some (if c then ρ a else ρ b, S) | _ => none
 | .alloc e => opAlloc E S e
 | .box t x => opBox S t (ρ x)
 | .build t parts => (opBuild E t (parts.toList.map fun p => (p.1, ρ p.2))).map (·, S)
 | .buildSlice t len parts => opBuildSlice E S t len (parts.toList.map fun p => (p.1, ρ p.2))
 | .load t a => (opLoad E S t (ρ a)).map (·, S)
 | .store t a x => (opStore E S t (ρ a) (ρ x)).map (.tup [], ·)
 | .nilCheck x => match ρ x with | .ref a b => some (.ref a b, S) | .imm c => some (.imm c, S) | .fn (.func f) a b => some (.fn (.func f) a b, S) | .yld i => some (.yld i, S) | _ => none
 | .binOp op t x y _ => (opBin E (isLit x || isLit y) op t (ρ x) (ρ y)).map (·, S)
 | .unOp op _ x => (opUn op (ρ x)).map (·, S)
 | .convert src dst x => opConvert E S src dst (ρ x)
 | .makeInterface t x => (opMakeIface E t (ρ x)).map (·, S)
 | .makeFunc fn first captured => some (.fn fn (first.toList.map ρ) (captured.toList.map ρ), S)
 | .makeMap _ r => match r with | none => some (.mapR S.length, S ++ [.mp []]) | some _ => none
 | .makeSlice t l c => opMakeSlice E S t (ρ l) (ρ c)
 | .slice t x lo hi mx => (opSlice E t (ρ x) (lo.map ρ) (hi.map ρ) (mx.map ρ)).map (·, S)
 | .fieldAddr s x f => (opFieldAddr E s (ρ x) f).map (·, S)
 | .field s x f => (opField E s (ρ x) f).map (·, S)
 | .indexAddr t x i => (opIndexAddr E t (ρ x) (ρ i)).map (·, S)
 | .index t x i => (opIndex E t (ρ x) (ρ i)).map (·, S)
 | .lookup t m k ok => (opLookup E S t (ρ m) (ρ k) ok).map (·, S)
 | .mapUpdate t m k v => (opMapUpdate E S t (ρ m) (ρ k) (ρ v)).map (.tup [], ·)
 | .range t x => match E.P.underlying t, ρ x with
  | some .string, .str s => some (.it S.length, S ++ [.iter s 0])
  | _, _ => none
 | .next x true => match ρ x with
  | .it id => match S[id]? with
   | some (.iter s pos) =>
    if pos < s.length then
     let d := Utf8.decode ⟨s.toArray⟩ pos
     some (.tup [.bool true, .int .i64 pos, .int .i32 d.1], S.set id (.iter s (pos + d.2)))
    else some (.tup [.bool false], S)
   | _ => none
  | _ => none
 | .extract x i => (opExtract (ρ x) i).map (·, S)
 | .call c =>
  let args := c.args.toList.map ρ
  match c.callee with
  | .value f => callV E call (ρ f) args S
  | .invoke _ _ => none
  | .builtin b =>
   match b, args with
   | .len, [x] => match c.argTypes.toList with | [t] => (opLen E S t x).map (·, S) | _ => none
   | .append, [s, x] => opAppend E S c.argTypes.toList s x
   | .copy, [d, x] => opCopy E S c.argTypes.toList d x
   | .clear, [x] => (opClear E S c.argTypes.toList x).map (.tup [], ·)
   | .cap, [x] => match c.argTypes.toList with | [t] => (opCap E t x).map (·, S) | _ => none
   | .unsafeSliceData, [x] => (opSliceData x).map (·, S)
   | .unsafeString, [p, n] => opUnsafeString E S c.argTypes.toList p n
   | .min, x :: r => (minMax false x r).map (·, S)
   | .max, x :: r => (minMax true x r).map (·, S)
   | _, _ => none
 | _ => none
def wantedV (ops : List Oper) (fr : Fr) (o : Oper) : Option Bool :=
 match o.guard with
 | none => some true
 | some (j, want) =>
  match ops[j]? with
  | some p => match p.dst with
   | some d => match lget fr d with
    | .bool b => some (b == want)
    | .tup _ => some false
    | _ => none
   | none => none
  | none => none
def evOps (ops : List Oper) : List Oper → Fr → Store → Option (Fr × Store)
 | [], fr, S => some (fr, S)
 | o :: rest, fr, S =>
  match wantedV ops fr o with
  | some true => match evOp E call (opnd E fr) S o with
   | some (v, S') => evOps ops rest (put fr o.dst v) S'
   | none => none
  | some false => evOps ops rest (put fr o.dst (.tup [])) S
  | none => none
def isEff : Op → Bool
 | .move _ | .assign _ | .pick .. | .build .. | .load .. | .nilCheck _ | .binOp .. | .unOp .. | .makeInterface .. | .makeFunc ..
 | .slice .. | .fieldAddr .. | .field .. | .indexAddr .. | .index .. | .lookup .. | .extract .. => false
 | .call { callee := .builtin .len, .. } | .call { callee := .builtin .cap, .. } | .call { callee := .builtin .unsafeSliceData, .. } | .call { callee := .builtin .min, .. } | .call { callee := .builtin .max, .. } => false
 | _ => true
def isRead : Op → Bool
 | .load .. | .lookup .. => true
 | .call { callee := .builtin .len, .. } => true
 | _ => false
def evDraw (ops : List Oper) (b : List Nat) : List Oper → Nat → Fr → Store → List (Nat × Store) → List (Nat × Oper × Fr × V) → Option (Fr × Store)
 | [], _, fr, S, _, _ => some (fr, S)
 | o :: rest, i, fr, S, hist, flts =>
  match wantedV ops fr o with
  | some true => match evOp E call (opnd E fr) S o with
   | some (v, S') =>
    if isEff o.op then
     if flts.all (fun x => (b.getD i 0).testBit x.1 || (match evOp E call (opnd E x.2.2.1) S' x.2.1 with | some (u, _) => u.beq x.2.2.2 | none => false))
     then evDraw ops b rest (i + 1) (put fr o.dst v) S' ((i, S) :: hist) flts
     else none
    else if isRead o.op then
     if hist.all (fun x => (b.getD i 0).testBit x.1 || (match evOp E call (opnd E fr) x.2 o with | some (u, _) => u.beq v | none => false))
     then evDraw ops b rest (i + 1) (put fr o.dst v) S' hist ((i, o, fr, v) :: flts)
     else none
    else evDraw ops b rest (i + 1) (put fr o.dst v) S' hist flts
   | none => none
  | some false => evDraw ops b rest (i + 1) (put fr o.dst (.tup [])) S hist flts
  | none => none
def stillV (fr : Fr) (S : Store) (o : Oper) (v : V) : Bool := match evOp E call (opnd E fr) S o with | some (u, S1) => u.beq v && Store.beq S1 S | none => false
def evDrawQ (ops : List Oper) (b : List Nat) (q : List Bool) : List Oper → Nat → Fr → Store → List (Nat × Store) → List (Nat × Oper × Fr × V) → Option (Fr × Store)
 | [], _, fr, S, _, _ => some (fr, S)
 | o :: rest, i, fr, S, hist, flts =>
  match wantedV ops fr o with
  | some true => match evOp E call (opnd E fr) S o with
   | some (v, S') =>
    if isEff o.op && !(q.getD i false) then
     if flts.all (fun x => (b.getD i 0).testBit x.1 || stillV E call x.2.2.1 S' x.2.1 x.2.2.2)
     then evDrawQ ops b q rest (i + 1) (put fr o.dst v) S' ((i, S) :: hist) flts
     else none
    else if isRead o.op || q.getD i false then
     if Store.beq S' S && hist.all (fun x => (b.getD i 0).testBit x.1 || stillV E call fr x.2 o v)
     then evDrawQ ops b q rest (i + 1) (put fr o.dst v) S hist ((i, o, fr, v) :: flts)
     else none
    else evDrawQ ops b q rest (i + 1) (put fr o.dst v) S' hist flts
   | none => none
  | some false => evDrawQ ops b q rest (i + 1) (put fr o.dst (.tup [])) S hist flts
  | none => none
def chainOk (ops : List Oper) (b : List Nat) : Bool := (List.range ops.length).all fun i => match ops[i]? with
 | none => true
 | some o => !isEff o.op || (List.range i).all fun j => match ops[j]? with | some p => !isEff p.op || (b.getD i 0).testBit j | none => true
def topoGo (ops : List Oper) : Nat → List Nat → List Nat → List Nat
 | 0, _, acc => acc.reverse
 | k + 1, rem, acc => match rem.find? (fun i => match ops[i]? with | some o => o.after.toList.all (fun e => !Region.binds .any e || acc.contains e.on) | none => false) with
  | some i => topoGo ops k (rem.erase i) (i :: acc)
  | none => acc.reverse
def topo (ops : List Oper) : List Nat := topoGo ops ops.length (List.range ops.length) []
def reOp (pos : List Nat) (o : Oper) : Oper := { o with after := o.after.map (fun e => { e with on := pos.idxOf e.on }), guard := o.guard.map fun g => (pos.idxOf g.1, g.2) }
def permOps (ops : List Oper) (ord : List Nat) : List Oper := ord.filterMap fun i => (ops[i]?).map (reOp ord)
def isCallV : Op → Bool
 | .call { callee := .value _, .. } => true
 | _ => false
def qflags (ops : List Oper) (b : List Nat) : List Bool := (List.range ops.length).map fun i => match ops[i]? with
 | some o => isCallV o.op && !((List.range ops.length).all fun j => match ops[j]? with | some p => !isEff p.op || j == i || (b.getD (max i j) 0).testBit (min i j) | none => true)
 | none => false
def evDrawG (ops : List Oper) (fr : Fr) (S : Store) : Option (Fr × Store) :=
 let o' := permOps ops (topo ops)
 let b' := (Region.before o'.toArray).toList
 evDrawQ E call o' b' (qflags o' b') o' 0 fr S [] []
def addAfter (ops : List Oper) (j i : Nat) : List Oper := ops.zipIdx.map fun x => if x.2 = j then { x.1 with after := x.1.after.push { on := i, ground := .data } } else x.1
def loosePair (ops : List Oper) : Option (Nat × Nat) :=
 let b := (Region.before ops.toArray).toList
 let fl := qflags ops b
 (List.range ops.length).findSome? fun j => match ops[j]? with
  | some o => if isEff o.op && !(fl.getD j false) then (List.range j).findSome? (fun i => match ops[i]? with | some p => if isEff p.op && !(fl.getD i false) && !((b.getD j 0).testBit i) then some (i, j) else none | none => none) else none
  | none => none
def evDrawP (ops : Array Oper) (fr : Fr) (S : Store) : Option (Fr × Store) :=
 match loosePair ops.toList with
 | none => evDrawG E call ops.toList fr S
 | some (i, j) => match evDrawG E call (addAfter ops.toList j i) fr S, evDrawG E call (addAfter ops.toList i j) fr S with
  | some (f1, S1), some (f2, S2) => if V.beqL f1 f2 && Store.beq S1 S2 then some (f1, S1) else none
  | _, _ => none
inductive Ex where
 | normal
 | exit (id : Nat)
 | goto (l : Nat)
 | ret
 deriving DecidableEq, Repr
def evLoop (run : Fr → Store → Option (Ex × Fr × Store)) : Nat → Fr → Store → Option (Ex × Fr × Store)
 | 0, _, _ => none
 | k + 1, fr, S =>
  match run fr S with
  | some (.normal, fr', S') => evLoop run k fr' S'
  | r => r
def keyT : Op → Nat
 | .alloc t => t + 1
 | .load t _ => t + 1
 | .store t _ _ => t + 1
 | .build t _ => t + 1
 | .binOp _ t _ _ _ => t + 1
 | .index t _ _ => t + 1
 | .indexAddr t _ _ => t + 1
 | .field t _ _ => t + 1
 | .fieldAddr t _ _ => t + 1
 | .slice t _ _ _ _ => t + 1
 | .convert t _ _ => t + 1
 | _ => 0
def keyOf : Code → Nat
 | .region id ops _ => id + 1000 * ops.size + 1000000 * (match ops[0]? with | some o => keyT o.op | none => 0)
 | .seq a _ => keyOf a
 | .cond _ a _ => keyOf a
 | .block _ a => keyOf a
 | .loop a => keyOf a
 | .scope a => keyOf a
 | _ => 0
def evCode (k : Nat) : Code → Fr → Store → Option (Ex × Fr × Store)
 | .skip, fr, S => some (.normal, fr, S)
 | .label _, fr, S => some (.normal, fr, S)
 | .region _ ops draw, fr, S =>
  if draw then
   (if chainOk ops.toList (Region.before ops).toList then evDraw E call ops.toList (Region.before ops).toList ops.toList 0 fr S [] [] else evDrawP E call ops fr S).map fun x => (.normal, x)
  else (evOps E call ops.toList ops.toList fr S).map fun x => (.normal, x)
 | .seq a b, fr, S =>
  match evCode k a fr S with
  | some (.normal, fr', S') => evCode k b fr' S'
  | r => r
 | .cond c a b, fr, S =>
  match opnd E fr c with
  | .bool true => evCode k a fr S
  | .bool false => evCode k b fr S
  | _ => none
 | .block id b, fr, S =>
  match evCode k b fr S with
  | some (.exit i, fr', S') => if i = id then some (.normal, fr', S') else some (.exit i, fr', S')
  | r => r
 | .loop b, fr, S => evLoop (evCode k b) k fr S
 | .scope b, fr, S =>
  match evCode k b fr S with
  | some (.goto _, _, _) => none
  | r => r
 | .exit id, fr, S => some (.exit id, fr, S)
 | .ret, fr, S => some (.ret, fr, S)
 | .rangeFunc g _ _ body, fr, S =>
  match opnd E fr g with
  | .fn (.func f) first captured =>
   match E.P.funcs[f]? with
   | some fn =>
    if fn.name == "runtime.NumGoroutine" || fn.body.isNone then none
    else match call (.fn f) (first ++ [.yld S.length] ++ captured) (S ++ [.lp false (keyOf body) fr]) with
    | some (_, S') => match S'[S.length]? with
     | some (.lp false _ _) => some (.normal, fr, S'.set S.length .gone)
     | _ => none
    | none => none
   | none => none
  | _ => none
 | _, _, _ => none
def frzIn : Nat → Nat → Store → V → Option V
 | 0, _, _, _ => none
 | d + 1, n, S, v =>
  match v with
  | .slR id off len _ sz => if id < n then none else do
    let cs ← cellsAt S (.ref id off) (len * sz)
    let cs ← cs.mapM (frzIn d n S)
    some (.slI len cs)
  | .ref id off => if id < n then none else do
    let cs ← cellsOf S id
    let cs ← (cs.drop off).mapM (frzIn d n S)
    some (.imm cs)
  | .agg cs => (cs.mapM (frzIn d n S)).map .agg
  | .tup cs => (cs.mapM (frzIn d n S)).map .tup
  | .fn f a b => do
    let a ← a.mapM (frzIn d n S)
    let b ← b.mapM (frzIn d n S)
    some (.fn f a b)
  | .ifc t x => (frzIn d n S x).map (.ifc t)
  | .mapR _ => none
  | .it _ => none
  | .yld _ => none
  | v => some v
def frz : Nat → Nat → Store → V → Option V
 | 0, _, _, _ => none
 | d + 1, n, S, v =>
  match v with
  | .slR id off len cap sz => if id < n then some (.slR id off len cap sz) else frzIn 12 n S (.slR id off len cap sz)
  | .ref id off => if id < n then some (.ref id off) else frzIn 12 n S (.ref id off)
  | .agg cs => (cs.mapM (frz d n S)).map .agg
  | .tup cs => (cs.mapM (frz d n S)).map .tup
  | .fn f a b => do
    let a ← a.mapM (frz d n S)
    let b ← b.mapM (frz d n S)
    some (.fn f a b)
  | .ifc t x => (frz d n S x).map (.ifc t)
  | .mapR id => if id < n then some (.mapR id) else none
  | .it _ => none
  | .yld _ => none
  | v => some v
def freezeRet (S S' : Store) (v : V) : Option (V × Store) :=
 if Store.beq (S'.take S.length) S then (frz 6 S.length S' v).map (·, S) else none
def resultV (fr : Fr) (S : Store) : List ResultVar → Option (List V)
 | [] => some []
 | .tmp t :: r => (resultV fr S r).map (lget fr t :: ·)
 | .cell a t :: r => do
  let v ← opLoad E S t (lget fr a)
  let vs ← resultV fr S r
  some (v :: vs)
def oneOf : List V → V
 | [v] => v
 | vs => .tup vs
def runFn (k : Nat) (fn : Func) (c : Code) (args : List V) (S : Store) : Option (V × Store) :=
 match evCode E call k c args S with
 | some (.normal, fr, S') | some (.ret, fr, S') => (resultV E fr S' fn.results.toList).map fun vs => (oneOf vs, S')
 | _ => none
def putAll (fr : Fr) : List Tmp → List V → Fr
 | t :: ts, v :: vs => putAll (lset fr t v) ts vs
 | _, _ => fr
def runRound (k : Nat) (id : Nat) (args : List V) (S : Store) : Option (V × Store) :=
 match S[id]? with
 | some (.lp false key fr) =>
  match E.loops key with
  | some (_, ps, asg, body) =>
   if args.length = ps.size then
    match evCode E call k asg (putAll fr ps.toList args) S with
    | some (.normal, fr1, S1) => match S1[id]? with
     | some (.lp false key1 f1) => match evCode E call k body fr1 (S1.set id (.lp true key1 f1)) with
      | some (.normal, _, S2) => match S2[id]? with
       | some (.lp true key2 f2) => some (.bool true, S2.set id (.lp false key2 f2))
       | _ => none
      | _ => none
     | _ => none
    | _ => none
   else none
  | none => none
 | _ => none
def isDef : Op → Bool | .defer _ => true | _ => false
def noDef : Code → Bool
 | .region _ ops _ => ops.toList.all fun o => !isDef o.op
 | .seq a b => noDef a && noDef b
 | .cond _ a b => noDef a && noDef b
 | .block _ a => noDef a
 | .loop a => noDef a
 | .rangeFunc _ _ _ _ => false
 | .scope _ => false
 | _ => true
abbrev Dfr := List (FuncId × List V)
def evOpsD (ops : List Oper) : List Oper → Fr → Store → Dfr → Option (Fr × Store × Dfr)
 | [], fr, S, D => some (fr, S, D)
 | o :: rest, fr, S, D =>
  match wantedV ops fr o with
  | some true => match o.op with
   | .defer c => match c.callee with
    | .value f => match opnd E fr f with
     | .fn (.func g) first captured => evOpsD ops rest (put fr o.dst (.tup [])) S ((g, first ++ c.args.toList.map (opnd E fr) ++ captured) :: D)
     | _ => none
    | _ => none
   | _ => match evOp E call (opnd E fr) S o with
    | some (v, S') => evOpsD ops rest (put fr o.dst v) S' D
    | none => none
  | some false => evOpsD ops rest (put fr o.dst (.tup [])) S D
  | none => none
def evD (k : Nat) : Code → Fr → Store → Dfr → Option (Ex × Fr × Store × Dfr)
 | .seq a b, fr, S, D =>
  match evD k a fr S D with
  | some (.normal, fr', S', D') => evD k b fr' S' D'
  | r => r
 | .cond c a b, fr, S, D =>
  match opnd E fr c with
  | .bool true => evD k a fr S D
  | .bool false => evD k b fr S D
  | _ => none
 | .region id ops draw, fr, S, D =>
  if draw then (if noDef (.region id ops draw) then (evCode E call k (.region id ops draw) fr S).map fun x => (x.1, x.2.1, x.2.2, D) else none)
  else (evOpsD E call ops.toList ops.toList fr S D).map fun x => (.normal, x)
 | c, fr, S, D => if noDef c then (evCode E call k c fr S).map fun x => (x.1, x.2.1, x.2.2, D) else none
def flat : Code → Bool
 | .rangeFunc _ _ _ _ => false
 | .scope _ => false
 | .seq a b => flat a && flat b
 | .cond _ a b => flat a && flat b
 | .block _ a => flat a
 | .loop a => flat a
 | _ => true
def dnOk (g : FuncId) : Bool := !E.defs g && (E.prim g).isNone && (match E.P.funcs[g]? with
 | some fn => !(fn.name == "runtime.NumGoroutine") && (match fn.body with | some c => flat c | none => false)
 | none => false)
def runD : Dfr → Store → Option Store
 | [], S => some S
 | (g, args) :: ds, S =>
  if E.catches g then runD ds S
  else if dnOk E g then (match call (.fn g) args S with | some (_, S') => runD ds S' | none => none)
  else none
def runFnD (k : Nat) (fn : Func) (c : Code) (args : List V) (S : Store) : Option (V × Store) :=
 match evD E call k c args S [] with
 | some (.normal, fr, S', D) | some (.ret, fr, S', D) => match runD E call D S' with
  | some S2 => (resultV E fr S2 fn.results.toList).map fun vs => (oneOf vs, S2)
  | none => none
 | _ => none
def vcall : Nat → Tg → List V → Store → Option (V × Store)
 | 0, _, _, _ => none
 | k + 1, .yl id, args, S => runRound E (vcall k) k id args S
 | k + 1, .fn f, args, S =>
  match E.P.funcs[f]? with
  | some fn => match fn.body with
   | some c => match (if E.defs f then runFnD E (vcall k) k fn c args S else runFn E (vcall k) k fn c args S) with
    | some (v, S') => if E.keep f then some (v, S') else freezeRet S S' v
    | none => none
   | none => none
  | none => none
end
end Go.Vm
set_option autoImplicit false
namespace Go.Vm
structure M where
 phi : Nat → Option (Nat × Nat)
 I : Nat → Prop
 w : World
def Leafs (us : List Value) : Prop := ∀ u ∈ us, u.oneCell' = true
def CellsIn (w : World) (B o : Nat) (us : List Value) : Prop := ∀ j u, us[j]? = some u → w.cell? ⟨B, o + j, none⟩ = some u
mutual
def VR (m : M) : V → Value → Prop
 | .junk, _ => True
 | .bool b, u => u = .bool b
 | .int k n, u => u = .int k n
 | .str s, u => u = .string ⟨s.toArray⟩
 | .nilp, u => u = .pointer none
 | .ref id off, u => ∃ R b, m.phi id = some (R, b) ∧ u = .pointer (some ⟨R, b + off, none⟩)
 | .imm cs, u => ∃ B o us, u = .pointer (some ⟨B, o, none⟩) ∧ m.I B ∧ CellsIn m.w B o us ∧ Leafs us ∧ VRL m cs us ∧ V.noRefL cs = true
 | .slN, u => u = .slice none 0 0
 | .slI n cs, u => ∃ A c us, u = .slice A n c ∧ n ≤ c ∧ Leafs us ∧ VRL m cs us ∧ ((n = 0 ∧ A.isSome = true) ∨ ∃ B o, A = some ⟨B, o, none⟩ ∧ m.I B ∧ CellsIn m.w B o us) ∧ V.noRefL cs = true
 | .slR id off len cap sz, u => ∃ R b c o e n, m.phi id = some (R, b) ∧ u = .slice (some ⟨R, o, none⟩) len c ∧ cap ≤ c ∧ len ≤ c ∧ (c ≠ 0 → o = b + off) ∧ m.w.shape? R = some (e, n) ∧ b + off + c * sz ≤ n
 | .fn f a b, u => ∃ x y, u = .func f x y ∧ VRL m a x.toList ∧ VRL m b y.toList
 | .nilf, u => u = .nilFunc
 | .ifc t v, u => ∃ x, u = .iface t x ∧ VR m v x
 | .nili, u => u = .nilIface
 | .agg cs, u => ∃ us, u = .agg us ∧ Leafs us.toList ∧ VRL m cs us.toList
 | .tup vs, u => ∃ us, u = .tuple us ∧ VRL m vs us.toList
 | .mapN, u => u = .map none
 | .mapR id, u => ∃ R, m.phi id = some (R, 0) ∧ u = .map (some R)
 | .it id, u => ∃ R, m.phi id = some (R, 0) ∧ u = .pointer (some ⟨R, 0, none⟩)
 | .yld id, u => ∃ R, m.phi id = some (R, 0) ∧ u = .func (.yield R) #[] #[]
def VRL (m : M) : List V → List Value → Prop
 | [], us => us = []
 | c :: cs, us => ∃ u r, us = u :: r ∧ VR m c u ∧ VRL m cs r
end
def VRM (m : M) : List (V × V) → List MapEntry → Prop
 | [], us => us = []
 | c :: cs, us => ∃ u r, us = u :: r ∧ VR m c.1 u.key ∧ VR m c.2 u.val ∧ VRM m cs r
def Live (E : Env) (m : M) (R b : Nat) : Ob → Prop
 | .gone => True
 | .cells cs e => ∃ us fz vs, m.w.heap[R]? = some (.cells us e fz) ∧ VRL m cs vs ∧ Leafs vs ∧ (∀ j u, vs[j]? = some u → us[b + j]? = some u) ∧ (∀ o, o < us.size → ¬ (fz.1 ≤ o ∧ o < fz.2)) ∧ b ≤ us.size ∧ ∀ n, tsize E e = some n → b % n = 0
 | .iter s pos => m.w.heap[R]? = some (.stringIter ⟨s.toArray⟩ pos) ∧ b = 0
 | .mp es => ∃ mes clock, m.w.heap[R]? = some (.map mes clock) ∧ VRM m es mes.toList ∧ b = 0
 | .lp busy key fr => ∃ nt ps asg body fn tmps defers, E.loops key = some (nt, ps, asg, body) ∧
   m.w.heap[R]? = some (.loop { state := if busy then .busy else .ready, pending := none, fn := fn, tmps := tmps, params := ps, assign := asg, body := body, defers := defers }) ∧
   nt ≤ tmps.size ∧ (∀ i, VR m (lget fr i) (tmps.getD i undef)) ∧ b = 0
structure Ext (m m' : M) : Prop where
 phi : ∀ id x, m.phi id = some x → m'.phi id = some x
 I : ∀ b, m.I b → m'.I b
 blk : ∀ b, m.I b → m'.w.heap[b]? = m.w.heap[b]?
 shape : ∀ b s, m.w.shape? b = some s → m'.w.shape? b = some s
 size : m.w.heap.size ≤ m'.w.heap.size
 os : m'.w.os = m.w.os
 tape : m'.w.tape = m.w.tape
 output : m'.w.output = m.w.output
theorem Ext.refl (m : M) : Ext m m := ⟨fun _ _ h => h, fun _ h => h, fun _ _ => rfl, fun _ _ h => h, Nat.le_refl _, rfl, rfl, rfl⟩
theorem Ext.trans {a b c : M} (h : Ext a b) (k : Ext b c) : Ext a c :=
 ⟨fun i x e => k.phi i x (h.phi i x e), fun i e => k.I i (h.I i e), fun i e => (k.blk i (h.I i e)).trans (h.blk i e), fun i s e => k.shape i s (h.shape i s e),
  Nat.le_trans h.size k.size, k.os.trans h.os, k.tape.trans h.tape, k.output.trans h.output⟩
theorem cell_of_blk {w w' : World} {b : Nat} (h : w'.heap[b]? = w.heap[b]?) (o : Nat) (s : Option Nat) : w'.cell? ⟨b, o, s⟩ = w.cell? ⟨b, o, s⟩ := by
 simp [World.cell?, h]
theorem CellsIn.ext {m m' : M} (h : Ext m m') {B o : Nat} {us : List Value} (hI : m.I B) (hc : CellsIn m.w B o us) : CellsIn m'.w B o us :=
 fun j u hj => (cell_of_blk (h.blk B hI) _ _).trans (hc j u hj)
mutual
theorem VR.ext {m m' : M} (h : Ext m m') : ∀ (v : V) (u : Value), VR m v u → VR m' v u
 | .junk, _, _ => by simp [VR]
 | .bool _, _, hv => by simpa [VR] using hv
 | .int _ _, _, hv => by simpa [VR] using hv
 | .str _, _, hv => by simpa [VR] using hv
 | .nilp, _, hv => by simpa [VR] using hv
 | .ref id off, u, hv => by
  simp only [VR] at hv ⊢
  obtain ⟨R, b, hp, rfl⟩ := hv
  exact ⟨R, b, h.phi _ _ hp, rfl⟩
 | .imm cs, u, hv => by
  simp only [VR] at hv ⊢
  obtain ⟨B, o, us, rfl, hI, hc, hl, hr, hnr⟩ := hv
  exact ⟨B, o, us, rfl, h.I _ hI, hc.ext h hI, hl, VRL.ext h cs us hr, hnr⟩
 | .slN, _, hv => by simpa [VR] using hv
 | .slI n cs, u, hv => by
  simp only [VR] at hv ⊢
  obtain ⟨A, c, us, rfl, hn, hl, hr, hc, hnr⟩ := hv
  refine ⟨A, c, us, rfl, hn, hl, VRL.ext h cs us hr, ?_, hnr⟩
  rcases hc with hc | ⟨B, o, rfl, hI, hc⟩
  ·exact .inl hc
  ·exact .inr ⟨B, o, rfl, h.I _ hI, hc.ext h hI⟩
 | .slR id off len cap sz, u, hv => by
  simp only [VR] at hv ⊢
  obtain ⟨R, b, c, o, e, n, hp, rfl, h1, h2, h3, h4, h5⟩ := hv
  exact ⟨R, b, c, o, e, n, h.phi _ _ hp, rfl, h1, h2, h3, h.shape _ _ h4, h5⟩
 | .fn f a b, u, hv => by
  simp only [VR] at hv ⊢
  obtain ⟨x, y, rfl, h1, h2⟩ := hv
  exact ⟨x, y, rfl, VRL.ext h a _ h1, VRL.ext h b _ h2⟩
 | .nilf, _, hv => by simpa [VR] using hv
 | .ifc t v, u, hv => by
  simp only [VR] at hv ⊢
  obtain ⟨x, rfl, h1⟩ := hv
  exact ⟨x, rfl, VR.ext h v _ h1⟩
 | .nili, _, hv => by simpa [VR] using hv
 | .agg cs, u, hv => by
  simp only [VR] at hv ⊢
  obtain ⟨us, rfl, h1, h2⟩ := hv
  exact ⟨us, rfl, h1, VRL.ext h cs _ h2⟩
 | .tup cs, u, hv => by
  simp only [VR] at hv ⊢
  obtain ⟨us, rfl, h2⟩ := hv
  exact ⟨us, rfl, VRL.ext h cs _ h2⟩
 | .mapN, _, hv => by simpa [VR] using hv
 | .mapR id, u, hv => by
  simp only [VR] at hv ⊢
  obtain ⟨R, hp, rfl⟩ := hv
  exact ⟨R, h.phi _ _ hp, rfl⟩
 | .it id, u, hv => by
  simp only [VR] at hv ⊢
  obtain ⟨R, hp, rfl⟩ := hv
  exact ⟨R, h.phi _ _ hp, rfl⟩
 | .yld id, u, hv => by
  simp only [VR] at hv ⊢
  obtain ⟨R, hp, rfl⟩ := hv
  exact ⟨R, h.phi _ _ hp, rfl⟩
theorem VRL.ext {m m' : M} (h : Ext m m') : ∀ (vs : List V) (us : List Value), VRL m vs us → VRL m' vs us
 | [], _, hv => by simpa [VRL] using hv
 | c :: cs, _, hv => by
  simp only [VRL] at hv ⊢
  obtain ⟨u, r, rfl, h1, h2⟩ := hv
  exact ⟨u, r, rfl, VR.ext h c u h1, VRL.ext h cs r h2⟩
end
theorem VRM.ext {m m' : M} (h : Ext m m') : ∀ (vs : List (V × V)) (us : List MapEntry), VRM m vs us → VRM m' vs us
 | [], _, hv => hv
 | c :: cs, _, hv => by
  simp only [VRM] at hv ⊢
  obtain ⟨u, r, rfl, h1, h2, h3⟩ := hv
  exact ⟨u, r, rfl, VR.ext h _ _ h1, VR.ext h _ _ h2, VRM.ext h cs r h3⟩
theorem Live.ext {E : Env} {m m' : M} (h : Ext m m') {R b : Nat} (hb : m'.w.heap[R]? = m.w.heap[R]?) : ∀ (ob : Ob), Live E m R b ob → Live E m' R b ob
 | .gone, _ => trivial
 | .cells cs e, hl => by
  obtain ⟨us, fz, vs, h1, h2, h3, h4, h5, h6⟩ := hl
  exact ⟨us, fz, vs, hb.trans h1, h2.ext h, h3, h4, h5, h6⟩
 | .iter s pos, hl => ⟨hb.trans hl.1, hl.2⟩
 | .mp es, hl => by
  obtain ⟨mes, clock, h1, h2, h3⟩ := hl
  exact ⟨mes, clock, hb.trans h1, VRM.ext h _ _ h2, h3⟩
 | .lp busy key fr, hl => by
  obtain ⟨nt, ps, asg, body, fn, tmps, defers, h0, h1, h2, h3, h4⟩ := hl
  exact ⟨nt, ps, asg, body, fn, tmps, defers, h0, hb.trans h1, h2, fun i => (h3 i).ext h, h4⟩
section lists
variable {m : M}
theorem VRL.length : ∀ {vs : List V} {us : List Value}, VRL m vs us → us.length = vs.length
 | [], _, h => by simp only [VRL] at h; simp [h]
 | _ :: cs, _, h => by
  simp only [VRL] at h
  obtain ⟨u, r, rfl, _, h2⟩ := h
  simp [VRL.length h2]
theorem VRL.nil : VRL m [] [] := by simp [VRL]
theorem VRL.cons {v : V} {u : Value} {vs : List V} {us : List Value} (h : VR m v u) (k : VRL m vs us) : VRL m (v :: vs) (u :: us) := by
 simp only [VRL]
 exact ⟨u, us, rfl, h, k⟩
theorem VRL.cons_iff {v : V} {u : Value} {vs : List V} {us : List Value} : VRL m (v :: vs) (u :: us) ↔ VR m v u ∧ VRL m vs us := by
 simp only [VRL]
 constructor
 ·rintro ⟨_, _, e, h, k⟩
  cases e
  exact ⟨h, k⟩
 ·rintro ⟨h, k⟩
  exact ⟨u, us, rfl, h, k⟩
theorem VRL.one {v : V} {u : Value} (h : VR m v u) : VRL m [v] [u] := .cons h .nil
theorem VRL.get : ∀ {vs : List V} {us : List Value}, VRL m vs us → ∀ {i : Nat} {v : V}, vs[i]? = some v → ∃ u, us[i]? = some u ∧ VR m v u
 | [], _, _, _, _, hi => by simp at hi
 | c :: cs, _, h, i, v, hi => by
  simp only [VRL] at h
  obtain ⟨u, r, rfl, h1, h2⟩ := h
  cases i with
  | zero =>
   simp at hi
   subst hi
   exact ⟨u, by simp, h1⟩
  | succ i =>
   simp at hi
   obtain ⟨u', hu, hv⟩ := VRL.get h2 hi
   exact ⟨u', by simpa using hu, hv⟩
theorem VRL.append : ∀ {vs : List V} {us : List Value} {vs' : List V} {us' : List Value}, VRL m vs us → VRL m vs' us' → VRL m (vs ++ vs') (us ++ us')
 | [], _, _, _, h, k => by simp only [VRL] at h; subst h; simpa using k
 | c :: cs, _, _, _, h, k => by
  simp only [VRL] at h
  obtain ⟨u, r, rfl, h1, h2⟩ := h
  exact .cons h1 (VRL.append h2 k)
theorem VRL.drop : ∀ (n : Nat) {vs : List V} {us : List Value}, VRL m vs us → VRL m (vs.drop n) (us.drop n)
 | 0, _, _, h => h
 | n + 1, [], _, h => by simp only [VRL] at h; subst h; simp [VRL]
 | n + 1, c :: cs, _, h => by
  simp only [VRL] at h
  obtain ⟨u, r, rfl, h1, h2⟩ := h
  simpa using VRL.drop n h2
theorem VRL.take : ∀ (n : Nat) {vs : List V} {us : List Value}, VRL m vs us → VRL m (vs.take n) (us.take n)
 | 0, _, _, _ => by simp [VRL]
 | n + 1, [], _, h => by simp only [VRL] at h; subst h; simp [VRL]
 | n + 1, c :: cs, _, h => by
  simp only [VRL] at h
  obtain ⟨u, r, rfl, h1, h2⟩ := h
  simpa using VRL.cons h1 (VRL.take n h2)
theorem VRL.set : ∀ (n : Nat) {vs : List V} {us : List Value} {v : V} {u : Value}, VRL m vs us → VR m v u → VRL m (vs.set n v) (us.set n u)
 | _, [], _, _, _, h, _ => by simp only [VRL] at h; subst h; simp [VRL]
 | 0, c :: cs, _, _, _, h, k => by
  simp only [VRL] at h
  obtain ⟨u, r, rfl, h1, h2⟩ := h
  exact .cons k h2
 | n + 1, c :: cs, _, _, _, h, k => by
  simp only [VRL] at h
  obtain ⟨u, r, rfl, h1, h2⟩ := h
  exact .cons h1 (VRL.set n h2 k)
theorem VRL.replicate (n : Nat) {vs : List V} {us : List Value} (h : VRL m vs us) : VRL m (repl n vs) (List.replicate n us).flatten := by
 unfold repl
 induction n with
 | zero => simp [VRL]
 | succ n ih => simpa [List.replicate_succ] using VRL.append h ih
theorem VRL.of_forall {α : Type} (f : α → V) (g : α → Value) (h : ∀ a, VR m (f a) (g a)) : ∀ (l : List α), VRL m (l.map f) (l.map g)
 | [] => .nil
 | a :: l => .cons (h a) (VRL.of_forall f g h l)
theorem VRL.iff_get {vs : List V} {us : List Value} : VRL m vs us ↔ us.length = vs.length ∧ ∀ (i : Nat) (v : V) (u : Value), vs[i]? = some v → us[i]? = some u → VR m v u := by
 constructor
 ·intro h
  refine ⟨h.length, fun i v u hv hu => ?_⟩
  obtain ⟨u', hu', hr⟩ := h.get hv
  rw [hu] at hu'
  cases hu'
  exact hr
 ·revert us
  induction vs with
  | nil =>
   rintro us ⟨hl, _⟩
   have : us = [] := List.eq_nil_of_length_eq_zero (by simpa using hl)
   subst this
   exact .nil
  | cons v vs ih =>
   rintro us ⟨hl, hr⟩
   cases us with
   | nil => simp at hl
   | cons u us =>
    refine .cons (hr 0 v u (by simp) (by simp)) (ih ⟨by simpa using hl, fun i v' u' hv hu => hr (i + 1) v' u' (by simpa using hv) (by simpa using hu)⟩)
end lists
theorem noRefL_iff : ∀ (cs : List V), V.noRefL cs = true ↔ ∀ c ∈ cs, V.noRef c = true
 | [] => by simp [V.noRefL]
 | c :: cs => by simp [V.noRefL, noRefL_iff cs]
theorem noRefL_drop {cs : List V} (h : V.noRefL cs = true) (n : Nat) : V.noRefL (cs.drop n) = true := (noRefL_iff _).2 fun c hc => (noRefL_iff _).1 h c (List.mem_of_mem_drop hc)
theorem noRefL_take {cs : List V} (h : V.noRefL cs = true) (n : Nat) : V.noRefL (cs.take n) = true := (noRefL_iff _).2 fun c hc => (noRefL_iff _).1 h c (List.mem_of_mem_take hc)
structure Inv (E : Env) (S : Store) (m : M) : Prop where
 dom : ∀ id x, m.phi id = some x → id < S.length
 live : ∀ (id : Nat) (ob : Ob), S[id]? = some ob → ob ≠ .gone → ∃ R b, m.phi id = some (R, b) ∧ ¬ m.I R ∧ Live E m R b ob
 inj : ∀ (i j : Nat) (oi oj : Ob) (R b c : Nat), S[i]? = some oi → S[j]? = some oj → oi ≠ .gone → oj ≠ .gone → m.phi i = some (R, b) → m.phi j = some (R, c) → i = j
 bnd : ∀ b, m.I b → b < m.w.heap.size
 glob : ∀ g cs, E.glob g = some cs → VR m (.imm cs) (.pointer (some ⟨g, 0, none⟩))
theorem Live.lt {E : Env} {m : M} {R b : Nat} {ob : Ob} (h : Live E m R b ob) (hg : ob ≠ .gone) : R < m.w.heap.size := by
 have key : ∀ o, m.w.heap[R]? = some o → R < m.w.heap.size := fun o h => by
  rcases Nat.lt_or_ge R m.w.heap.size with hlt | hge
  ·exact hlt
  ·rw [Array.getElem?_eq_none hge] at h
   cases h
 cases ob with
 | gone => exact absurd rfl hg
 | cells cs e =>
  obtain ⟨us, fz, vs, h1, _⟩ := h
  exact key _ h1
 | iter s pos => exact key _ h.1
 | mp es =>
  obtain ⟨mes, clock, h1, _⟩ := h
  exact key _ h1
 | lp busy k fr =>
  obtain ⟨_, _, _, _, _, _, _, _, h1, _⟩ := h
  exact key _ h1
section inv
variable {E : Env} {S : Store} {m m' : M}
theorem Ext.of_heap {w' : World} (h : w'.heap = m.w.heap) (h1 : w'.os = m.w.os) (h2 : w'.tape = m.w.tape) (h3 : w'.output = m.w.output) : Ext m { m with w := w' } :=
 ⟨fun _ _ h => h, fun _ h => h, fun b _ => by simp [h], fun b s hs => by simpa [World.shape?, h] using hs, by simp [h], h1, h2, h3⟩
theorem Inv.of_heap (hi : Inv E S m) {w' : World} (h : w'.heap = m.w.heap) (h1 : w'.os = m.w.os) (h2 : w'.tape = m.w.tape) (h3 : w'.output = m.w.output) : Inv E S { m with w := w' } := by
 have he := Ext.of_heap h h1 h2 h3
 refine ⟨hi.dom, fun id ob ho hg => ?_, hi.inj, fun b hb => by simpa [h] using hi.bnd b hb, fun g cs hg => (hi.glob g cs hg).ext he⟩
 obtain ⟨R, b, hp, hI, hl⟩ := hi.live id ob ho hg
 exact ⟨R, b, hp, hI, hl.ext he (by simp [h]) ob⟩
theorem Inv.change (hi : Inv E S m) (he : Ext m m') (hphi : m'.phi = m.phi) (hI : m'.I = m.I) {id R b : Nat} {ob ob' : Ob}
  (hS : S[id]? = some ob) (hg : ob ≠ .gone) (hp : m.phi id = some (R, b))
  (hoth : ∀ k, k ≠ R → k < m.w.heap.size → m'.w.heap[k]? = m.w.heap[k]?) (hl : Live E m' R b ob') : Inv E (S.set id ob') m' := by
 have hid : id < S.length := (List.getElem?_eq_some_iff.1 hS).1
 refine ⟨fun i x h => by rw [hphi] at h; simpa using hi.dom i x h, fun i o ho hgo => ?_, fun i j oi oj R1 b1 c1 h1 h2 h3 h4 h5 h6 => ?_, fun b hb => ?_, fun g cs hg => (hi.glob g cs hg).ext he⟩
 ·rw [List.getElem?_set] at ho
  by_cases e : id = i
  ·subst e
   rw [if_pos rfl, if_pos hid] at ho
   cases ho
   obtain ⟨R', b', hp', hI', _⟩ := hi.live id ob hS hg
   rw [hp] at hp'
   cases hp'
   exact ⟨R, b, by rw [hphi]; exact hp, by rw [hI]; exact hI', hl⟩
  ·rw [if_neg e] at ho
   obtain ⟨R', b', hp', hI', hl'⟩ := hi.live i o ho hgo
   refine ⟨R', b', by rw [hphi]; exact hp', by rw [hI]; exact hI', hl'.ext he (hoth R' ?_ (hl'.lt hgo)) o⟩
   rintro rfl
   exact e (hi.inj id i ob o _ _ _ hS ho hg hgo hp hp')
 ·have key : ∀ (k : Nat) (ok : Ob), (S.set id ob')[k]? = some ok → ok ≠ .gone → ∃ o, S[k]? = some o ∧ o ≠ .gone := by
   intro k ok hk hne
   rw [List.getElem?_set] at hk
   by_cases e : id = k
   ·subst e
    exact ⟨ob, hS, hg⟩
   ·rw [if_neg e] at hk
    exact ⟨ok, hk, hne⟩
  obtain ⟨o1, a1, a2⟩ := key i oi h1 h3
  obtain ⟨o2, a3, a4⟩ := key j oj h2 h4
  rw [hphi] at h5 h6
  exact hi.inj i j o1 o2 R1 b1 c1 a1 a3 a2 a4 h5 h6
 ·rw [hI] at hb
  exact Nat.lt_of_lt_of_le (hi.bnd b hb) he.size
theorem Inv.drop_ (hi : Inv E S m) (id : Nat) : Inv E (S.set id Ob.gone) m := by
 refine ⟨fun i x h => by simpa using hi.dom i x h, fun i o ho hgo => ?_, fun i j oi oj R1 b1 c1 h1 h2 h3 h4 h5 h6 => ?_, hi.bnd, hi.glob⟩
 ·rw [List.getElem?_set] at ho
  by_cases e : id = i
  ·rw [if_pos e] at ho
   split at ho
   ·cases ho
    exact absurd rfl hgo
   ·cases ho
  ·rw [if_neg e] at ho
   exact hi.live i o ho hgo
 ·have key : ∀ (k : Nat) (ok : Ob), (S.set id Ob.gone)[k]? = some ok → ok ≠ .gone → S[k]? = some ok := by
   intro k ok hk hne
   rw [List.getElem?_set] at hk
   by_cases e : id = k
   ·rw [if_pos e] at hk
    split at hk
    ·cases hk
     exact absurd rfl hne
    ·cases hk
   ·rw [if_neg e] at hk
    exact hk
  exact hi.inj i j oi oj R1 b1 c1 (key _ _ h1 h3) (key _ _ h2 h4) h3 h4 h5 h6
theorem Inv.touch (hi : Inv E S m) (he : Ext m m') (hphi : m'.phi = m.phi) (hI : m'.I = m.I) {R : Nat}
  (hfree : ∀ (i : Nat) (o : Ob) (c : Nat), S[i]? = some o → o ≠ .gone → m.phi i ≠ some (R, c))
  (hoth : ∀ k, k ≠ R → k < m.w.heap.size → m'.w.heap[k]? = m.w.heap[k]?) : Inv E S m' := by
 refine ⟨fun i x h => by rw [hphi] at h; exact hi.dom i x h, fun i o ho hgo => ?_, fun i j oi oj R1 b1 c1 h1 h2 h3 h4 h5 h6 => ?_, fun b hb => ?_, fun g cs hg => (hi.glob g cs hg).ext he⟩
 ·obtain ⟨R', b', hp', hI', hl'⟩ := hi.live i o ho hgo
  refine ⟨R', b', by rw [hphi]; exact hp', by rw [hI]; exact hI', hl'.ext he (hoth R' ?_ (hl'.lt hgo)) o⟩
  rintro rfl
  exact hfree i o b' ho hgo hp'
 ·rw [hphi] at h5 h6
  exact hi.inj i j oi oj R1 b1 c1 h1 h2 h3 h4 h5 h6
 ·rw [hI] at hb
  exact Nat.lt_of_lt_of_le (hi.bnd b hb) he.size
def upd (phi : Nat → Option (Nat × Nat)) (n : Nat) (x : Nat × Nat) : Nat → Option (Nat × Nat) := fun i => if i = n then some x else phi i
theorem Inv.add (hi : Inv E S m) (he : Ext m m') {R b : Nat} {ob : Ob} (hphi : m'.phi = upd m.phi S.length (R, b)) (hI : m'.I = m.I)
  (hoth : ∀ k, k ≠ R → k < m.w.heap.size → m'.w.heap[k]? = m.w.heap[k]?) (hIR : ¬ m.I R)
  (hfree : ∀ (i : Nat) (o : Ob) (c : Nat), S[i]? = some o → o ≠ .gone → m.phi i ≠ some (R, c)) (hl : Live E m' R b ob) : Inv E (S ++ [ob]) m' := by
 have hlt : ∀ (i : Nat) (o : Ob), S[i]? = some o → i ≠ S.length := fun i o h => Nat.ne_of_lt (List.getElem?_eq_some_iff.1 h).1
 have key : ∀ (k : Nat) (ok : Ob), (S ++ [ob])[k]? = some ok → S[k]? = some ok ∨ (k = S.length ∧ ok = ob) := by
  intro k ok hk
  rcases Nat.lt_or_ge k S.length with h | h
  ·exact .inl (by rwa [List.getElem?_append_left h] at hk)
  ·rw [List.getElem?_append_right h] at hk
   have : k - S.length = 0 := by
    rcases Nat.eq_zero_or_pos (k - S.length) with h0 | h0
    ·exact h0
    ·rw [List.getElem?_eq_none (by simp; omega)] at hk
     cases hk
   rw [this] at hk
   simp at hk
   exact .inr ⟨by omega, hk.symm⟩
 have hold : ∀ (i : Nat) (o : Ob), S[i]? = some o → m'.phi i = m.phi i := fun i o h => by rw [hphi]; simp [upd, hlt i o h]
 refine ⟨fun i x h => ?_, fun i o ho hgo => ?_, fun i j oi oj R1 b1 c1 h1 h2 h3 h4 h5 h6 => ?_, fun b hb => ?_, fun g cs hg => (hi.glob g cs hg).ext he⟩
 ·rw [hphi] at h
  simp only [upd] at h
  split at h
  ·simp_all
  ·have := hi.dom i x h
   simp
   omega
 ·rcases key i o ho with h | ⟨rfl, rfl⟩
  ·obtain ⟨R', b', hp', hI', hl'⟩ := hi.live i o h hgo
   refine ⟨R', b', by rw [hold i o h]; exact hp', by rw [hI]; exact hI', hl'.ext he (hoth R' ?_ (hl'.lt hgo)) o⟩
   rintro rfl
   exact hfree i o b' h hgo hp'
  ·exact ⟨R, b, by rw [hphi]; simp [upd], by rw [hI]; exact hIR, hl⟩
 ·rcases key i oi h1 with a | ⟨rfl, rfl⟩
  ·rcases key j oj h2 with c | ⟨rfl, rfl⟩
   ·rw [hold i oi a] at h5
    rw [hold j oj c] at h6
    exact hi.inj i j oi oj R1 b1 c1 a c h3 h4 h5 h6
   ·rw [hold i oi a] at h5
    rw [hphi] at h6
    simp [upd] at h6
    obtain ⟨rfl, _⟩ := h6
    exact absurd h5 (hfree i oi b1 a h3)
  ·rcases key j oj h2 with c | ⟨rfl, rfl⟩
   ·rw [hold j oj c] at h6
    rw [hphi] at h5
    simp [upd] at h5
    obtain ⟨rfl, _⟩ := h5
    exact absurd h6 (hfree j oj c1 c h4)
   ·rfl
 ·rw [hI] at hb
  exact Nat.lt_of_lt_of_le (hi.bnd b hb) he.size
def M.fresh (m : M) (n : Nat) (o : Obj) : M := { phi := upd m.phi n (m.w.heap.size, 0), I := m.I, w := m.w.alloc o }
theorem shape_alloc (w : World) (o : Obj) (b : Nat) (s : TypeId × Nat) (h : w.shape? b = some s) : (w.alloc o).shape? b = some s := by
 have hb : b < w.heap.size := by
  rcases Nat.lt_or_ge b w.heap.size with h' | h'
  ·exact h'
  ·simp [World.shape?, Array.getElem?_eq_none h'] at h
 have : (w.alloc o).heap[b]? = w.heap[b]? := by
  show (w.heap.push o)[b]? = _
  rw [Array.getElem?_push, if_neg (by omega)]
 simpa [World.shape?, this] using h
theorem heap_alloc_lt (w : World) (o : Obj) {k : Nat} (h : k < w.heap.size) : (w.alloc o).heap[k]? = w.heap[k]? := by
 show (w.heap.push o)[k]? = _
 rw [Array.getElem?_push, if_neg (by omega)]
theorem heap_alloc_same (w : World) (o : Obj) : (w.alloc o).heap[w.heap.size]? = some o := by
 show (w.heap.push o)[w.heap.size]? = _
 rw [Array.getElem?_push, if_pos rfl]
theorem Ext.fresh (hi : Inv E S m) (o : Obj) : Ext m (m.fresh S.length o) := by
 refine ⟨fun id x h => ?_, fun _ h => h, fun b hb => heap_alloc_lt _ _ (hi.bnd b hb), fun b s h => shape_alloc _ _ _ _ h, by simp [M.fresh], rfl, rfl, rfl⟩
 have := hi.dom id x h
 simp only [M.fresh, upd]
 rw [if_neg (by omega)]
 exact h
theorem Inv.fresh (hi : Inv E S m) (o : Obj) (ob : Ob) (hl : Live E (m.fresh S.length o) m.w.heap.size 0 ob) : Inv E (S ++ [ob]) (m.fresh S.length o) := by
 refine hi.add (Ext.fresh hi o) rfl rfl (fun k _ hk => heap_alloc_lt _ _ hk) (fun h => absurd (hi.bnd _ h) (by omega)) (fun i o c ho hg hp => ?_) hl
 obtain ⟨R', b', hp', _, hl'⟩ := hi.live i o ho hg
 rw [hp] at hp'
 cases hp'
 exact absurd (hl'.lt hg) (by omega)
end inv
end Go.Vm
