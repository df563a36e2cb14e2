/- A part of a big-step evaluator of the model's language, with the proof that what it comes to, the model comes to for every tape. No conditions. -/
import GoSem.Step
namespace Go.Ev

-- lists, by the recursor

noncomputable def nth (l : List Value) : Nat → Option Value :=
  List.rec (fun _ => none) (fun x _ ih i => Nat.rec (some x) (fun j _ => ih j) i) l
noncomputable def setN (l : List Value) : Nat → Value → List Value :=
  List.rec (fun _ _ => []) (fun x xs ih i v => Nat.rec (v :: xs) (fun j _ => x :: ih j v) i) l

/-- what an abstract block holds -/
inductive AObj where
  | cells (c : List Value) (ro : Bool)
  | map (es : List MapEntry) (clock : Nat)
  | mapIter (m : Option Nat) (since : Nat) (seen : List Nat) (stepped : Nat)
  | loop (l : Loop)
  | defd (there : Bool)

inductive Tr where
  | nil
  | node (v : Option AObj) (l r : Tr)

noncomputable def Tr.get (f : Nat) : Tr → Nat → Option AObj :=
  Nat.rec (fun _ _ => none)
    (fun _ ih t n => match t with
      | .nil => none
      | .node v l r => cond (Nat.beq n 0) v (cond (Nat.beq (n % 2) 1) (ih l (n / 2)) (ih r (n / 2 - 1)))) f

def Tr.v : Tr → Option AObj
  | .nil => none
  | .node v _ _ => v
def Tr.l : Tr → Tr
  | .nil => .nil
  | .node _ l _ => l
def Tr.r : Tr → Tr
  | .nil => .nil
  | .node _ _ r => r

noncomputable def Tr.set (f : Nat) : Tr → Nat → Option AObj → Tr :=
  Nat.rec (fun t _ _ => t)
    (fun _ ih t n o => cond (Nat.beq n 0) (.node o t.l t.r) (cond (Nat.beq (n % 2) 1) (.node t.v (ih t.l (n / 2) o) t.r) (.node t.v t.l (ih t.r (n / 2 - 1) o)))) f

structure AH where
  tr : Tr
  next : Nat

namespace AH
noncomputable def get (h : AH) (n : Nat) : Option AObj := h.tr.get (n + 1) n
noncomputable def put (h : AH) (n : Nat) (o : AObj) : AH := ⟨h.tr.set (n + 1) n (some o), h.next⟩
noncomputable def kill (h : AH) (n : Nat) : AH := ⟨h.tr.set (n + 1) n none, h.next⟩
noncomputable def new (h : AH) (o : AObj) : AH := ⟨h.tr.set (h.next + 1) h.next (some o), h.next + 1⟩

/-- the cells of a block -/
noncomputable def cells (h : AH) (b : Nat) : Option (List Value) :=
  match h.get b with
  | some (.cells c _) => some c
  | _ => none

/-- the cells of a block that may be written -/
noncomputable def wcells (h : AH) (b : Nat) : Option (List Value) :=
  match h.get b with
  | some (.cells c ro) => cond ro none (some c)
  | _ => none

noncomputable def load1 (h : AH) (b off : Nat) : Option Value :=
  match h.cells b with
  | some c => nth c off
  | none => none

noncomputable def loadN (h : AH) (b off n : Nat) : Option (List Value) :=
  match h.cells b with
  | some c => cond (Nat.ble (off + n) c.length) (some ((c.drop off).take n)) none
  | none => none

noncomputable def map (h : AH) (r : Nat) : Option (List MapEntry × Nat) :=
  match h.get r with
  | some (.map es clock) => some (es, clock)
  | _ => none
end AH

def isCell : Value → Bool
  | .agg _ => false
  | .tuple _ => false
  | _ => true

noncomputable def AH.store1 (h : AH) (b off : Nat) (v : Value) : Option AH :=
  match h.wcells b with
  | some c => cond (Nat.blt off c.length && isCell v) (some (h.put b (.cells (setN c off v) false))) none
  | none => none

noncomputable def AH.storeN (h : AH) (b off : Nat) (vs : List Value) : Option AH :=
  match h.wcells b with
  | some c => cond (Nat.ble (off + vs.length) c.length && vs.all isCell) (some (h.put b (.cells (c.take off ++ (vs ++ c.drop (off + vs.length))) false))) none
  | none => none

def vcells : Value → List Value
  | .agg cs => cs.toList
  | v => [v]

/-- what is asked of a type -/
structure TyR where
  und : TypeDesc
  size : Nat
  bytes : Nat
  agg : Bool
  zero : Option Value
  comparable : Bool
  held : Bool
  methods : List Method

def isAggD : TypeDesc → Bool
  | .struct _ => true
  | .array _ _ => true
  | _ => false

def tyOf (P : Program) (t : Nat) : Option TyR :=
  match P.info? t, P.underlying t with
  | some i, some u => some ⟨u, i.size, i.bytes, isAggD u, i.zero, i.comparable, P.stoodInHeld t, i.methods.toList⟩
  | _, _ => none

/-- a contract: where it holds, what a call comes to -/
structure Con where
  ok : List Value → AH → Prop
  run : List Value → AH → Option (Value × AH)

structure Env where
  fn : Nat → Option Func
  ty : Nat → Option TyR
  con : Nat → Option Con

def Env.und (E : Env) (t : Nat) : Option TypeDesc := match E.ty t with | some i => some i.und | none => none

/-- a variable of type t, read -/
noncomputable def loadT (i : TyR) (b off : Nat) (h : AH) : Option Value :=
  match i.agg with
  | true => (match h.loadN b off i.size with
    | some l => some (.agg l.toArray)
    | none => none)
  | false => h.load1 b off

noncomputable def Env.loadV (E : Env) (t : Nat) (b off : Nat) (h : AH) : Option Value :=
  match E.ty t with
  | some i => loadT i b off h
  | none => none

noncomputable def storeT (size b off : Nat) (v : Value) (h : AH) : Option AH :=
  match v with
  | .agg cs => cond (Nat.beq cs.toList.length size) (h.storeN b off cs.toList) none
  | v => cond (Nat.beq 1 size) (h.store1 b off v) none

noncomputable def Env.storeV (E : Env) (t : Nat) (b off : Nat) (v : Value) (h : AH) : Option AH :=
  match E.ty t with
  | some i => storeT i.size b off v h
  | none => none

/-- a part of an aggregate -/
noncomputable def partT (i : TyR) (cs : List Value) (off : Nat) : Option Value :=
  match i.agg with
  | true => some (.agg ((cs.drop off).take i.size).toArray)
  | false => nth cs off

noncomputable def Env.part (E : Env) (t : Nat) (cs : List Value) (off : Nat) : Option Value :=
  match E.ty t with
  | some i => partT i cs off
  | none => none

def ptr (b o : Nat) : Value := .pointer (some ⟨b, o, none⟩)

/-- a thing at an address -/
def atAddr {α : Type} (v : Value) (k : Nat → Nat → Option α) : Option α :=
  match v with
  | .pointer a => (match a with
    | some a => (match a.spot with
      | none => k a.block a.off
      | some _ => none)
    | none => none)
  | _ => none

-- whole numbers

def wrapS (lo hi m : Nat) (n : Int) : Int :=
  match n with
  | .ofNat a => cond (Nat.ble a hi) (.ofNat a) (cond (Nat.ble (a % m) hi) (.ofNat (a % m)) (Int.subNatNat (a % m) m))
  | .negSucc a => cond (Nat.blt a lo) (.negSucc a) (cond (Nat.ble (m - 1 - a % m) hi) (.ofNat (m - 1 - a % m)) (Int.subNatNat (m - 1 - a % m) m))
def wrapU (m : Nat) (n : Int) : Int :=
  match n with
  | .ofNat a => .ofNat (a % m)
  | .negSucc a => .ofNat (m - 1 - a % m)
def wrapK (k : IntKind) (n : Int) : Int :=
  match k with
  | .i64 => wrapS 9223372036854775808 9223372036854775807 18446744073709551616 n
  | .i32 => wrapS 2147483648 2147483647 4294967296 n
  | .i16 => wrapS 32768 32767 65536 n
  | .i8 => wrapS 128 127 256 n
  | .u8 => wrapU 256 n
  | .u16 => wrapU 65536 n
  | .u32 => wrapU 4294967296 n
  | .u64 => wrapU 18446744073709551616 n

def ieq (a b : Int) : Bool :=
  match a with
  | .ofNat a => (match b with | .ofNat b => Nat.beq a b | .negSucc _ => false)
  | .negSucc a => (match b with | .ofNat _ => false | .negSucc b => Nat.beq a b)
def ile (a b : Int) : Bool :=
  match a with
  | .ofNat a => (match b with | .ofNat b => Nat.ble a b | .negSucc _ => false)
  | .negSucc a => (match b with | .ofNat _ => true | .negSucc b => Nat.ble b a)
def ilt (a b : Int) : Bool := !(ile b a)

def digits (m : Nat) (n : Int) : Nat :=
  match n with
  | .ofNat a => a % m
  | .negSucc a => m - 1 - a % m
def modulus : IntKind → Nat
  | .i8 => 256
  | .u8 => 256
  | .i16 => 65536
  | .u16 => 65536
  | .i32 => 4294967296
  | .u32 => 4294967296
  | .i64 => 18446744073709551616
  | .u64 => 18446744073709551616

def kindNo : IntKind → Nat
  | .i8 => 0
  | .u8 => 1
  | .i16 => 2
  | .u16 => 3
  | .i32 => 4
  | .u32 => 5
  | .i64 => 6
  | .u64 => 7
def kindEq (j k : IntKind) : Bool := Nat.beq (kindNo j) (kindNo k)

def bAdd (k : IntKind) (a b : Int) : Option Value := some (.int k (wrapK k (a + b)))
def bSub (k : IntKind) (a b : Int) : Option Value := some (.int k (wrapK k (a - b)))
def bMul (k : IntKind) (a b : Int) : Option Value := some (.int k (wrapK k (a * b)))
def bQuo (k : IntKind) (a b : Int) : Option Value := cond (ieq b 0) none (some (.int k (wrapK k (a.tdiv b))))
def bRem (k : IntKind) (a b : Int) : Option Value := cond (ieq b 0) none (some (.int k (a.tmod b)))
def bAnd (k : IntKind) (a b : Int) : Option Value := some (.int k (wrapK k (.ofNat (Nat.land (digits (modulus k) a) (digits (modulus k) b)))))
def bOr (k : IntKind) (a b : Int) : Option Value := some (.int k (wrapK k (.ofNat (Nat.lor (digits (modulus k) a) (digits (modulus k) b)))))
def bXor (k : IntKind) (a b : Int) : Option Value := some (.int k (wrapK k (.ofNat (Nat.xor (digits (modulus k) a) (digits (modulus k) b)))))
def bAndNot (k : IntKind) (a b : Int) : Option Value := some (.int k (wrapK k (.ofNat (Nat.land (digits (modulus k) a) (modulus k - 1 - digits (modulus k) b)))))
def bShl (k : IntKind) (a b : Int) : Option Value := match b with
  | .ofNat n => some (.int k (wrapK k (a * .ofNat (2 ^ (Nat.min n k.bits)))))
  | .negSucc _ => none
def bShr (k : IntKind) (a b : Int) : Option Value := match b with
  | .ofNat n => some (.int k (a.fdiv (.ofNat (2 ^ (Nat.min n k.bits)))))
  | .negSucc _ => none

def binInt (op : BinOp) (k : IntKind) (a b : Int) : Option Value :=
  match op with
  | .add => bAdd k a b
  | .sub => bSub k a b
  | .mul => bMul k a b
  | .quo => bQuo k a b
  | .rem => bRem k a b
  | .and => bAnd k a b
  | .or => bOr k a b
  | .xor => bXor k a b
  | .andNot => bAndNot k a b
  | .shl => none
  | .shr => none
  | .eql => some (.bool (ieq a b))
  | .neq => some (.bool (!ieq a b))
  | .lss => some (.bool (ilt a b))
  | .leq => some (.bool (ile a b))
  | .gtr => some (.bool (ilt b a))
  | .geq => some (.bool (ile b a))

def isShift : BinOp → Bool
  | .shl => true
  | .shr => true
  | _ => false

def binInts (op : BinOp) (k : IntKind) (a : Int) (j : IntKind) (b : Int) : Option Value :=
  match isShift op with
  | true => (match op with | .shl => bShl k a b | _ => bShr k a b)
  | false => cond (kindEq k j) (binInt op k a b) none

/-- are both blocks there? -/
noncomputable def live2 (h : AH) (a b : Nat) : Bool := (h.wcells a).isSome && (h.wcells b).isSome

noncomputable def Env.eqFields (eqf : Nat → Value → Value → Option Bool) (E : Env) (xs ys : List Value) : List Field → Option Bool
  | [] => some true
  | f :: fs => cond (f.name == "_") (Env.eqFields eqf E xs ys fs)
      (match E.part f.type xs f.offset with
      | some x => (match E.part f.type ys f.offset with
        | some y => (match eqf f.type x y with
          | some b => (match Env.eqFields eqf E xs ys fs with
            | some c => some (b && c)
            | none => none)
          | none => none)
        | none => none)
      | none => none)

def heldAt (E : Env) (t : Nat) : Bool := match E.ty t with | some i => i.held | none => true

noncomputable def eqPtr (E : Env) (h : AH) (e : Nat) (a b : Option Addr) : Option Bool :=
  match a with
  | none => some b.isNone
  | some a => (match b with
    | none => some false
    | some b => (match a.spot with
      | none => (match b.spot with
        | none => (match E.ty e with
          | some i => cond (Nat.blt 0 i.size && live2 h a.block b.block) (some (Nat.beq a.block b.block && Nat.beq a.off b.off)) none
          | none => none)
        | some _ => none)
      | some _ => none))

noncomputable def Env.eq (E : Env) (h : AH) : Nat → Nat → Value → Value → Option Bool
  | 0, _, _, _ => none
  | d + 1, t, x, y =>
    match E.und t with
    | none => none
    | some u => match u, x, y with
      | .bool, .bool a, .bool b => some (a == b)
      | .int _, .int k a, .int j b => cond (kindEq k j) (some (ieq a b)) none
      | .string, .string a, .string b => some (a == b)
      | .pointer e, .pointer a, .pointer b => eqPtr E h e a b
      | .interface _, .nilIface, .nilIface => some true
      | .interface _, .nilIface, .iface _ _ => some false
      | .interface _, .iface _ _, .nilIface => some false
      | .interface _, .iface tx vx, .iface ty vy => cond (Nat.beq tx ty)
        (match E.ty tx with
        | some i => cond i.comparable (Env.eq E h d tx vx vy) none
        | none => none) (some false)
      | .struct fs, .agg xs, .agg ys => cond (heldAt E t) none (Env.eqFields (Env.eq E h d) E xs.toList ys.toList fs.toList)
      | .slice _, .slice none _ _, .slice b _ _ => some b.isNone
      | .slice _, .slice (some _) _ _, .slice none _ _ => some false
      | .map _ _, .map none, .map b => some b.isNone
      | .map _ _, .map (some _), .map none => some false
      | .func _ _ _, .nilFunc, .nilFunc => some true
      | .func _ _ _, .nilFunc, .func _ _ _ => some false
      | .func _ _ _, .func _ _ _, .nilFunc => some false
      | _, _, _ => none

/-- no interface type with methods lies in it (the model's eqGuardType is false) -/
def Env.plainEq (E : Env) : Nat → Nat → Bool
  | 0, _ => false
  | d + 1, t => match E.und t with
    | some (.interface ms) => ms.isEmpty
    | some (.struct fs) => fs.toList.all fun f => f.name == "_" || Env.plainEq E d f.type
    | some (.array _ e) => Env.plainEq E d e
    | some _ => true
    | none => false

def isConst : Operand → Bool
  | .const _ => true
  | _ => false

/-- '==' may be asked: the model's guard lets it by -/
def Env.eqMay (E : Env) (t : Nat) (x y : Operand) (a b : Value) : Bool :=
  match a, b with
  | .nilIface, .nilIface => isConst x || isConst y || E.plainEq 20 t
  | .agg _, .agg _ => E.plainEq 20 t
  | _, _ => true

def binStr (op : BinOp) (a b : ByteArray) : Option Value :=
  match op with
  | .add => cond (ilt 9223372036854775807 (.ofNat (a.size + b.size))) none (some (.string (a ++ b)))
  | .eql => some (.bool (a.toList == b.toList))
  | .neq => some (.bool (!(a.toList == b.toList)))
  | .lss => some (.bool (Op.bytesLess a.toList b.toList))
  | _ => none

def someBool (neg : Bool) : Option Bool → Option Value
  | some r => some (.bool (cond neg (!r) r))
  | none => none

noncomputable def Env.binEq (E : Env) (op : BinOp) (t : Nat) (xo yo : Operand) (x y : Value) (h : AH) : Option Value :=
  match op with
  | .eql => cond (E.eqMay t xo yo x y) (someBool false (E.eq h 30 t x y)) none
  | .neq => cond (E.eqMay t xo yo x y) (someBool true (E.eq h 30 t x y)) none
  | _ => none

noncomputable def Env.bin (E : Env) (op : BinOp) (t : Nat) (xo yo : Operand) (x y : Value) (h : AH) : Option Value :=
  match x with
  | .int k a => (match y with
    | .int j b => binInts op k a j b
    | _ => none)
  | .string a => (match y with
    | .string b => binStr op a b
    | _ => none)
  | x => E.binEq op t xo yo x y h

def un (op : UnOp) (x : Value) : Option Value :=
  match x with
  | .int k n => (match op with
    | .neg => bSub k 0 n
    | .xor => bXor k (cond k.signed (-1) k.max) n
    | _ => none)
  | .bool b => (match op with
    | .not => some (.bool (!b))
    | _ => none)
  | _ => none

def byteList : List Value → Option (List UInt8)
  | [] => some []
  | .int .u8 n :: r => match byteList r with
    | some l => some (UInt8.ofNat n.toNat :: l)
    | none => none
  | _ :: _ => none

noncomputable def bytesStr (a : Option Addr) (len : Nat) (h : AH) : Option Value :=
  match a with
  | none => some (.string .empty)
  | some a => (match h.loadN a.block a.off len with
    | some l => (match byteList l with
      | some bs => some (.string ⟨bs.toArray⟩)
      | none => none)
    | none => none)

noncomputable def Env.conv (E : Env) (s d : Nat) (x : Value) (h : AH) : Option Value :=
  match E.und d with
  | some (.int k) => (match E.und s, x with
    | some _, .int _ n => some (.int k (wrapK k n))
    | _, _ => none)
  | some .string => (match E.und s, x with
    | some _, .string b => some (.string b)
    | some (.slice e), .slice a len _ => (match E.und e with
      | some (.int .u8) => bytesStr a len h
      | _ => none)
    | _, _ => none)
  | _ => none

noncomputable def fillParts (place : Nat → Option (Nat × Nat)) : List Value → List (Nat × Value) → Option (List Value)
  | cells, [] => some cells
  | cells, (i, v) :: rest => match place i with
    | some (off, size) =>
      cond (Nat.beq (vcells v).length size && Nat.ble (off + size) cells.length) (fillParts place (cells.take off ++ (vcells v ++ cells.drop (off + size))) rest) none
    | none => none

def Env.fieldPlace (E : Env) (fs : Array Field) (i : Nat) : Option (Nat × Nat) :=
  match fs[i]? with
  | some f => (match E.ty f.type with | some j => some (f.offset, j.size) | none => none)
  | none => none

def someAgg : Option (List Value) → Option Value
  | some cs => some (.agg cs.toArray)
  | none => none

noncomputable def Env.build (E : Env) (t : Nat) (parts : List (Nat × Value)) : Option Value :=
  match E.ty t with
  | some i => (match i.zero with
    | some z => (match i.und with
      | .struct fs => cond (fs.toList.all fun f => (E.ty f.type).isSome) (someAgg (fillParts (E.fieldPlace fs) (vcells z) parts)) none
      | .array _ e => (match E.ty e with
        | some j => someAgg (fillParts (fun i => some (i * j.size, j.size)) (vcells z) parts)
        | none => none)
      | _ => none)
    | none => none)
  | none => none

def rep (n : Nat) (l : List Value) : List Value := match n with
  | 0 => []
  | n + 1 => l ++ rep n l

noncomputable def newSlice (len : Nat) (h : AH) : Option (List Value) → Option (Value × AH)
  | some cs => some (.slice (some ⟨h.next, 0, none⟩) len len, h.new (.cells cs false))
  | none => none

noncomputable def Env.buildSlice (E : Env) (t len : Nat) (parts : List (Nat × Value)) (h : AH) : Option (Value × AH) :=
  match E.und t with
  | some (.slice e) => (match E.ty e with
    | some i => (match i.zero with
      | some z => cond (Nat.ble (len * i.size) 16777216 && Nat.beq (vcells z).length i.size && Nat.ble 1 i.size)
        (newSlice len h (fillParts (fun k => some (k * i.size, i.size)) (rep len (vcells z)) parts)) none
      | none => none)
    | none => none)
  | _ => none

noncomputable def Env.makeSlice (E : Env) (t : Nat) (len cap : Int) (h : AH) : Option (Value × AH) :=
  match E.und t with
  | some (.slice e) => (match E.ty e with
    | some i => (match i.zero with
      | some z => cond (ile 0 len && ile len cap && ile cap 9223372036854775807 && ile (.ofNat i.bytes * cap) 281474976710656 && Nat.beq (vcells z).length i.size && Nat.ble 1 i.size)
          (some (.slice (some ⟨h.next, 0, none⟩) len.toNat cap.toNat, h.new (.cells (rep cap.toNat (vcells z)) false))) none
      | none => none)
    | none => none)
  | _ => none

/-- a bound of a slice expression -/
def bound (x : Option Value) (dflt most : Nat) : Option Nat :=
  match x with
  | none => some dflt
  | some (.int _ i) => cond (ile 0 i && ile i (.ofNat most)) (some i.toNat) none
  | _ => none

/-- low, high, max -/
def bounds (lo hi mx : Option Value) (len cap : Nat) : Option (Nat × Nat × Nat) :=
  match mx, hi with
  | some _, none => none
  | _, _ => match bound mx cap cap with
    | some m => (match bound hi len m with
      | some h => (match bound lo 0 h with
        | some l => some (l, h, m)
        | none => none)
      | none => none)
    | none => none

def cutStr (s : ByteArray) : Option (Nat × Nat × Nat) → Option Value
  | some (l, h, _) => some (.string (s.extract l h))
  | none => none

/-- a slice of unknown capacity is cut by its own elements' size alone -/
def spotOk (s : Option Nat) (size : Nat) (exact : Bool) : Bool :=
  match s with
  | none => true
  | some s => exact || Nat.beq s size

def cutSlice (a : Option Addr) (size : Nat) (exact : Bool) : Option (Nat × Nat × Nat) → Option Value
  | some (l, h, m) => (match a with
    | none => some (.slice none (h - l) (m - l))
    | some a => cond (spotOk a.spot size exact) (some (.slice (some ⟨a.block, a.off + l * size, cond exact none a.spot⟩) (h - l) (m - l))) none)
  | none => none

def Env.slice (E : Env) (t : Nat) (x : Value) (lo hi mx : Option Value) : Option Value :=
  match E.und t with
  | some .string => (match x, mx with
    | .string s, none => cutStr s (bounds lo hi none s.size s.size)
    | _, _ => none)
  | some (.slice e) => (match x, E.ty e with
    | .slice a len cap, some i => cutSlice a i.size mx.isSome (bounds lo hi mx len cap)
    | _, _ => none)
  | some (.array len e) => (match E.ty e with
    | some i => atAddr x fun b o => cutSlice (some ⟨b, o, none⟩) i.size true (bounds lo hi mx len len)
    | none => none)
  | _ => none

def Env.fieldAddr (E : Env) (t : Nat) (x : Value) (f : Nat) : Option Value :=
  match E.und t with
  | some (.struct fs) => (match E.fieldPlace fs f with
    | some (off, size) => cond (Nat.beq size 0) none (atAddr x fun b o => some (ptr b (o + off)))
    | none => none)
  | _ => none

noncomputable def Env.field (E : Env) (t : Nat) (x : Value) (f : Nat) : Option Value :=
  match E.und t, x with
  | some (.struct fs), .agg cs => (match fs[f]? with
    | some fl => E.part fl.type cs.toList fl.offset
    | none => none)
  | _, _ => none

/-- an index, within bounds -/
def within {α : Type} (i : Value) (len : Nat) (k : Nat → Option α) : Option α :=
  match i with
  | .int _ n => (match n with
    | .ofNat a => cond (Nat.blt a len) (k a) none
    | .negSucc _ => none)
  | _ => none

def Env.indexAddr (E : Env) (t : Nat) (x i : Value) : Option Value :=
  match E.und t with
  | some (.slice e) => (match x with
    | .slice (some a) len _ => (match E.ty e with
      | some r => within i len fun k => some (ptr a.block (a.off + k * r.size))
      | none => none)
    | _ => none)
  | some (.array len e) => (match E.ty e with
    | some r => atAddr x fun b o => within i len fun k => some (ptr b (o + k * r.size))
    | none => none)
  | _ => none

noncomputable def Env.index (E : Env) (t : Nat) (x i : Value) : Option Value :=
  match E.und t with
  | some (.array len e) => (match x with
    | .agg cs => (match E.ty e with
      | some r => within i len fun k => partT r cs.toList (k * r.size)
      | none => none)
    | _ => none)
  | some .string => (match x with
    | .string s => within i s.size fun k => (match s[k]? with | some b => some (.int .u8 (.ofNat b.toNat)) | none => none)
    | _ => none)
  | _ => none

-- maps: keys without addresses

def flatKey : Nat → Value → Bool
  | _, .int _ _ => true
  | _, .string _ => true
  | _, .bool _ => true
  | n + 1, .agg cs => cs.toList.all (flatKey n)
  | _, _ => false

/-- the key's type asks nothing of it -/
noncomputable def Env.keyOk (E : Env) : Nat → Nat → Value → Bool
  | 0, _, _ => false
  | n + 1, t, v => match E.und t, v with
    | some (.struct fs), .agg cs => fs.toList.all fun f => match E.part f.type cs.toList f.offset with
      | some p => f.name == "_" || Env.keyOk E n f.type p
      | none => false
    | some (.int _), .int _ _ => true
    | some .string, .string _ => true
    | some .bool, .bool _ => true
    | _, _ => false

noncomputable def Env.findK (E : Env) (h : AH) (kt : Nat) (k : Value) : List MapEntry → Nat → Option (Option (Nat × MapEntry))
  | [], _ => some none
  | e :: es, i => match E.eq h 30 kt k e.key with
    | some true => some (some (i, e))
    | some false => Env.findK E h kt k es (i + 1)
    | none => none

/-- a map's type, its block, a key: what is found -/
noncomputable def Env.atKey {α : Type} (E : Env) (kt : Nat) (k : Value) (es : List MapEntry) (h : AH) (there : Nat → MapEntry → Option α) (not : Option α) : Option α :=
  cond (flatKey 5 k && E.keyOk 10 kt k)
    (match E.findK h kt k es 0 with
      | some (some (i, e)) => there i e
      | some none => not
      | none => none) none

def zeroOf (E : Env) (t : Nat) : Option Value := match E.ty t with | some i => i.zero | none => none

noncomputable def Env.lookup (E : Env) (t : Nat) (x k : Value) (ok : Bool) (h : AH) : Option Value :=
  match E.und t with
  | some (.map kt et) => (match (match x with
      | .map none => some []
      | .map (some r) => (match h.map r with | some (es, _) => some es | _ => none)
      | _ => none) with
    | some es => E.atKey kt k es h (fun _ e => some (cond ok (.tuple #[e.val, .bool true]) e.val))
      (match zeroOf E et with
        | some z => some (cond ok (.tuple #[z, .bool false]) z)
        | none => none)
    | none => none)
  | _ => none

noncomputable def Env.mapUpdate (E : Env) (t : Nat) (m k v : Value) (h : AH) : Option AH :=
  match E.und t, m with
  | some (.map kt _), .map (some r) => (match h.map r with
    | some (es, clock) => E.atKey kt k es h
      (fun i e => cond (Instr.sameBits 10000 e.key k) (some (h.put r (.map (es.set i ⟨k, v, e.born⟩) clock))) none)
      (some (h.put r (.map (es ++ [⟨k, v, clock⟩]) (clock + 1))))
    | none => none)
  | _, _ => none

noncomputable def Env.mapEntry (E : Env) (t : Nat) (m k : Value) (h : AH) : Option (Value × AH) :=
  match E.und t, m with
  | some (.map kt et), .map (some r) => (match h.map r with
    | some (es, clock) => E.atKey kt k es h
      (fun i e => cond (Instr.sameBits 10000 e.key k) (some (.tuple #[e.val, .int .i64 e.born], h.put r (.map (es.set i ⟨k, e.val, e.born⟩) clock))) none)
      (match zeroOf E et with
        | some z => some (.tuple #[z, .int .i64 clock], h.put r (.map (es ++ [⟨k, z, clock⟩]) (clock + 1)))
        | none => none)
    | none => none)
  | _, _ => none

def bornAt (b : Int) : List MapEntry → Nat → Option (Nat × MapEntry)
  | [], _ => none
  | e :: es, i => cond (ieq (.ofNat e.born) b) (some (i, e)) (bornAt b es (i + 1))

noncomputable def entryStore (m st v : Value) (h : AH) : Option AH :=
  match m, st with
  | .map (some r), .int _ b => (match h.map r with
    | some (es, clock) => (match bornAt b es 0 with
      | some (i, e) => some (h.put r (.map (es.set i ⟨e.key, v, e.born⟩) clock))
      | none => none)
    | _ => none)
  | _, _ => none

noncomputable def Env.delete (E : Env) (t : Nat) (m k : Value) (h : AH) : Option AH :=
  match E.und t with
  | some (.map kt _) => (match m with
      | .map none => cond (flatKey 5 k && E.keyOk 10 kt k) (some h) none
      | .map (some r) => (match h.map r with
        | some (es, clock) => E.atKey kt k es h (fun i _ => some (h.put r (.map (es.eraseIdx i) clock))) (some (h.put r (.map es clock)))
        | _ => none)
      | _ => none)
  | _ => none

noncomputable def Env.range (E : Env) (t : Nat) (x : Value) (h : AH) : Option (Value × AH) :=
  match E.und t, x with
  | some (.map _ _), .map none => some (ptr h.next 0, h.new (.mapIter none 0 [] 0))
  | some (.map _ _), .map (some r) => (match h.map r with
    | some (_, clock) => some (ptr h.next 0, h.new (.mapIter (some r) clock [] clock))
    | _ => none)
  | _, _ => none

noncomputable def nextIn (r m since : Nat) (seen : List Nat) (last : Nat) (es : List MapEntry) (clock : Nat) (h : AH) : Option (Value × AH) :=
  cond (!seen.isEmpty && !es.isEmpty && es.all (fun e => Nat.ble last e.born)) none
    (match es.filter (fun e => !seen.contains e.born) with
      | [] => some (.tuple #[.bool false], h)
      | [e] => cond (Nat.blt e.born since) (some (.tuple #[.bool true, e.key, e.val], h.put r (.mapIter (some m) since (seen ++ [e.born]) clock))) none
      | _ => none)

noncomputable def next (it : Value) (isString : Bool) (h : AH) : Option (Value × AH) :=
  cond isString none (atAddr it fun r o => cond (Nat.beq o 0) (match h.get r with
    | some (.mapIter none _ _ _) => some (.tuple #[.bool false], h)
    | some (.mapIter (some m) since seen last) => (match h.map m with
      | some (es, clock) => nextIn r m since seen last es clock h
      | _ => none)
    | _ => none) none)

noncomputable def entry (it : Value) (h : AH) : Option Value :=
  atAddr it fun r o => cond (Nat.beq o 0) (match h.get r with
    | some (.mapIter (some m) _ seen stepped) => (match h.map m, seen.getLast? with
      | some (es, clock), some st => cond (Nat.beq clock stepped) (match bornAt (.ofNat st) es 0 with | some (_, e) => some (.tuple #[e.key, e.val]) | none => none) none
      | _, _ => none)
    | _ => none) none

-- builtins

def lenOf : Value → Option Nat
  | .slice _ n _ => some n
  | .string s => some s.size
  | _ => none

def strCells (s : ByteArray) : List Value := s.toList.map fun b => .int .u8 (.ofNat b.toNat)

noncomputable def firstCells (size n : Nat) (x : Value) (h : AH) : Option (List Value) :=
  match x with
  | .slice (some a) _ _ => h.loadN a.block a.off (n * size)
  | .slice none _ _ => some []
  | .string s => some ((strCells s).take n)
  | _ => none

/-- what is appended: so many elements, their cells -/
noncomputable def more (xu : TypeDesc) (i : TyR) (z x : Value) (h : AH) : Option (Nat × List Value) :=
  match xu with
  | .int _ => (match x with
    | .int _ k => cond (ile 0 k && ile k 4294967296 && ile (k * .ofNat i.bytes) 281474976710656) (some (k.toNat, rep k.toNat (vcells z))) none
    | _ => none)
  | _ => (match lenOf x with
    | some n => (match firstCells i.size n x h with
      | some l => cond (Nat.beq l.length (n * i.size)) (some (n, l)) none
      | none => none)
    | none => none)

def isIntD : TypeDesc → Bool
  | .int _ => true
  | _ => false

noncomputable def appendIn (size : Nat) (base : Option Addr) (len cap n : Nat) (l : List Value) (h : AH) : Option (Value × AH) :=
  match base with
  | none => some (.slice none (len + n) cap, h)
  | some a => (match h.storeN a.block (a.off + len * size) l with
    | some h' => some (.slice (some a) (len + n) cap, h')
    | none => none)

noncomputable def appendNew (size : Nat) (base : Option Addr) (m : Nat) (old l : List Value) (h : AH) : Option (Value × AH) :=
  match base with
  | none => some (.slice (some ⟨h.next, 0, some size⟩) m m, h.new (.cells (old ++ l) false))
  | some a => (match a.spot with
    | none => some (.slice (some ⟨h.next, 0, some size⟩) m m, h.new (.cells (old ++ l) false))
    | some k => cond (Nat.beq k size && l.all isCell) (match h.wcells a.block with
      | some _ => some (.slice (some ⟨h.next, 0, some size⟩) m m, (h.kill a.block).new (.cells (old ++ l) false))
      | none => none) none)

noncomputable def appendT (i : TyR) (s : Value) (base : Option Addr) (len cap : Nat) (h : AH) : Option (Nat × List Value) → Option (Value × AH)
  | some (n, l) => cond (Nat.ble (len + n) cap) (appendIn i.size base len cap n l h)
    (cond (Nat.ble ((2 * (len + n) + 1000) * i.bytes) 281474976710656)
      (match firstCells i.size len s h with
        | some old => appendNew i.size base (len + n) old l h
        | none => none) none)
  | none => none

noncomputable def Env.append (E : Env) (ts : List Nat) (s x : Value) (h : AH) : Option (Value × AH) :=
  match ts with
  | st :: xt :: _ => (match E.und st, E.und xt, s with
    | some (.slice e), some xu, .slice base len cap => (match E.ty e with
      | some i => (match i.zero with
        | some z => cond (Nat.ble 1 i.size && Nat.ble 1 i.bytes && Nat.beq (vcells z).length i.size) (appendT i s base len cap h (more xu i z x h)) none
        | none => none)
      | none => none)
    | _, _, _ => none)
  | _ => none

noncomputable def Env.copy (E : Env) (ts : List Nat) (d s : Value) (h : AH) : Option (Value × AH) :=
  match ts with
  | dt :: _ => (match E.und dt, d, lenOf s with
    | some (.slice e), .slice base dl _, some sl => (match E.ty e with
      | some i => (match firstCells i.size (Nat.min sl dl) s h with
        | some l => (match base with
          | none => some (.int .i64 (.ofNat (Nat.min sl dl)), h)
          | some a => (match h.storeN a.block a.off l with
            | some h' => some (.int .i64 (.ofNat (Nat.min sl dl)), h')
            | none => none))
        | none => none)
      | none => none)
    | _, _, _ => none)
  | _ => none

noncomputable def Env.clear (E : Env) (ts : List Nat) (x : Value) (h : AH) : Option AH :=
  match ts with
  | t :: _ => (match E.und t with
    | some u => (match x with
      | .map none => some h
      | .slice none _ _ => some h
      | .slice (some _) 0 _ => some h
      | .slice (some a) (n + 1) _ => (match u with
        | .slice e => (match zeroOf E e with
          | some z => cond (Nat.ble 1 (vcells z).length) (h.storeN a.block a.off (rep (n + 1) (vcells z))) none
          | none => none)
        | _ => none)
      | .map (some r) => (match h.map r with
        | some (_, clock) => some (h.put r (.map [] clock))
        | _ => none)
      | _ => none)
    | none => none)
  | _ => none

noncomputable def Env.len (E : Env) (ts : List Nat) (x : Value) (h : AH) : Option Value :=
  match ts with
  | t :: _ => (match E.und t with
    | some (.slice _) => (match x with
      | .slice _ n _ => some (.int .i64 (.ofNat n))
      | _ => none)
    | some .string => (match x with
      | .string s => some (.int .i64 (.ofNat s.size))
      | _ => none)
    | some (.array n _) => some (.int .i64 (.ofNat n))
    | some (.pointer a) => (match E.und a with
      | some (.array n _) => some (.int .i64 (.ofNat n))
      | _ => none)
    | some (.map _ _) => (match x with
      | .map none => some (.int .i64 0)
      | .map (some r) => (match h.map r with
        | some (es, _) => some (.int .i64 (.ofNat es.length))
        | _ => none)
      | _ => none)
    | _ => none)
  | _ => none

def Env.capOf (E : Env) (ts : List Nat) (x : Value) : Option Value :=
  match ts with
  | t :: _ => (match E.und t, x with
    | some (.slice _), .slice none _ c => some (.int .i64 (.ofNat c))
    | some (.slice _), .slice (some a) _ c => (match a.spot with
      | none => some (.int .i64 (.ofNat c))
      | some _ => none)
    | _, _ => none)
  | _ => none

def minFrom (k : IntKind) : Int → List Value → Option Value
  | x, [] => some (.int k x)
  | x, .int _ y :: r => minFrom k (cond (ilt y x) y x) r
  | _, _ :: _ => none
def minInt : List Value → Option Value
  | .int k x :: r => minFrom k x r
  | _ => none
def maxFrom (k : IntKind) : Int → List Value → Option Value
  | x, [] => some (.int k x)
  | x, .int _ y :: r => maxFrom k (cond (ilt x y) y x) r
  | _, _ :: _ => none
def maxInt : List Value → Option Value
  | .int k x :: r => maxFrom k x r
  | _ => none

/-- what an operation comes to -/
inductive AN where
  | val (v : Value) (h : AH)
  | inv (t : Target) (args : List Value)
  | dfr (d : Deferred)
  | no

def ofV (h : AH) : Option Value → AN
  | some v => .val v h
  | none => .no
def ofVH : Option (Value × AH) → AN
  | some (v, h) => .val v h
  | none => .no
def ofH : Option AH → AN
  | some h => .val undef h
  | none => .no
def ofUH : Option AH → AN
  | some h => .val (.tuple #[]) h
  | none => .no

noncomputable def Env.builtin (E : Env) (b : Builtin) (ts : List Nat) (args : List Value) (h : AH) : AN :=
  match b with
  | .len => (match args with | [x] => ofV h (E.len ts x h) | _ => .no)
  | .append => (match args with | [s, x] => ofVH (E.append ts s x h) | _ => .no)
  | .copy => (match args with | [d, s] => ofVH (E.copy ts d s h) | _ => .no)
  | .clear => (match args with | [x] => ofUH (E.clear ts x h) | _ => .no)
  | .cap => (match args with | [x] => ofV h (E.capOf ts x) | _ => .no)
  | .delete => (match args, ts with | [m, k], t :: _ => ofUH (E.delete t m k h) | _, _ => .no)
  | .min => ofV h (minInt args)
  | .max => ofV h (maxInt args)
  | _ => .no

def Env.typeAssert (E : Env) (x : Value) (ta : Nat) (ok : Bool) : Option Value :=
  match E.ty ta with
  | some i => (match i.und, x with
    | .interface _, _ => none
    | _, .nilIface => cond ok (match i.zero with | some z => some (.tuple #[z, .bool false]) | none => none) none
    | _, .iface t v => cond (Nat.beq t ta) (some (cond ok (.tuple #[v, .bool true]) v)) (cond ok (match i.zero with | some z => some (.tuple #[z, .bool false]) | none => none) none)
    | _, _ => none)
  | none => none

/-- a call of a function value -/
def callV (f : Value) (args : List Value) : AN :=
  match f with
  | .func fn first cap => .inv (.fn fn cap) (first.toList ++ args)
  | _ => .no

noncomputable def opPick (c a b : Value) (h : AH) : AN :=
  match c with | .bool t => .val (cond t a b) h | _ => .no
noncomputable def opNew (cs : List Value) (h : AH) : AN := .val (ptr h.next 0) (h.new (.cells cs false))
noncomputable def opAlloc (E : Env) (t : Nat) (h : AH) : AN :=
  match zeroOf E t with | some z => opNew (vcells z) h | none => .no
noncomputable def opLoad (E : Env) (t : Nat) (a : Value) (h : AH) : AN := ofV h (atAddr a fun b o => E.loadV t b o h)
noncomputable def opStore (E : Env) (t : Nat) (a v : Value) (h : AH) : AN := ofH (atAddr a fun b o => E.storeV t b o v h)
def opNil (x : Value) (h : AH) : AN :=
  match x with
  | .pointer (some a) => .val (.pointer (some a)) h
  | .func fn first cap => (match fn with
    | .func f => .val (.func (.func f) first cap) h
    | .yield l => .val (.func (.yield l) first cap) h
    | _ => .no)
  | _ => .no
def opIface (E : Env) (t : Nat) (x : Value) (h : AH) : AN :=
  match E.und t with
  | some (.interface _) => .no
  | some _ => .val (.iface t x) h
  | none => .no
noncomputable def opMap (E : Env) (t : Nat) (hint : Option Value) (h : AH) : AN :=
  match hint with
  | none => .val (.map (some h.next)) (h.new (.map [] 0))
  | some x => (match E.und t, x with
    | some (.map _ _), .int _ _ => .val (.map (some h.next)) (h.new (.map [] 0))
    | _, _ => .no)
noncomputable def opMake (E : Env) (t : Nat) (l c : Value) (h : AH) : AN :=
  match l, c with | .int _ l, .int _ c => ofVH (E.makeSlice t l c h) | _, _ => .no
def opExtract (t : Value) (i : Nat) (h : AH) : AN :=
  match t with | .tuple vs => ofV h vs[i]? | _ => .no
def partsOf (r : Operand → Value) (ps : Array (Nat × Operand)) : List (Nat × Value) := ps.toList.map fun x => (x.1, r x.2)
noncomputable def opCall (E : Env) (r : Operand → Value) (c : Call) (h : AH) : AN :=
  match c.callee with
  | .value f => callV (r f) (c.args.toList.map r)
  | .builtin b => E.builtin b c.argTypes.toList (c.args.toList.map r) h
  | .invoke recv name => .inv (.fn (.method name) #[]) (r recv :: c.args.toList.map r)
def opDefer (r : Operand → Value) (c : Call) : AN :=
  match c.callee with
  | .value f => (match callV (r f) (c.args.toList.map r) with | .inv t a => .dfr { target := t, args := a.toArray } | _ => .no)
  | _ => .no

noncomputable def Env.op (E : Env) (r : Operand → Value) (o : Op) (h : AH) : AN :=
  match o with
  | .move x => .val (r x) h
  | .assign x => .val (r x) h
  | .pick c a b => opPick (r c) (r a) (r b) h
  | .alloc t => opAlloc E t h
  | .box _ x => opNew (vcells (r x)) h
  | .build t ps => ofV h (E.build t (partsOf r ps))
  | .buildSlice t len ps => ofVH (E.buildSlice t len (partsOf r ps) h)
  | .load t a => opLoad E t (r a) h
  | .store t a x => opStore E t (r a) (r x) h
  | .nilCheck x => opNil (r x) h
  | .binOp op t x y _ => ofV h (E.bin op t x y (r x) (r y) h)
  | .unOp op _ x => ofV h (un op (r x))
  | .convert s d x => ofV h (E.conv s d (r x) h)
  | .makeInterface t x => opIface E t (r x) h
  | .makeFunc fn first cap => .val (.func fn (first.map r) (cap.map r)) h
  | .makeMap t hint => opMap E t (hint.map r) h
  | .makeSlice t l c => opMake E t (r l) (r c) h
  | .slice t x lo hi mx => ofV h (E.slice t (r x) (lo.map r) (hi.map r) (mx.map r))
  | .fieldAddr t x f => ofV h (E.fieldAddr t (r x) f)
  | .field t x f => ofV h (E.field t (r x) f)
  | .indexAddr t x i => ofV h (E.indexAddr t (r x) (r i))
  | .index t x i => ofV h (E.index t (r x) (r i))
  | .lookup t x k ok => ofV h (E.lookup t (r x) (r k) ok h)
  | .mapUpdate t m k x => ofH (E.mapUpdate t (r m) (r k) (r x) h)
  | .insert t m k x => ofH (E.mapUpdate t (r m) (r k) (r x) h)
  | .mapEntry t m k => ofVH (E.mapEntry t (r m) (r k) h)
  | .entryStore _ m s x => ofH (entryStore (r m) (r s) (r x) h)
  | .range t x => ofVH (E.range t (r x) h)
  | .next it s => ofVH (next (r it) s h)
  | .entry it => ofV h (entry (r it) h)
  | .typeAssert x _ ta ok => ofV h (E.typeAssert (r x) ta ok)
  | .extract t i => opExtract (r t) i h
  | .call c => opCall E r c h
  | .defer c => opDefer r c
  | _ => .no

-- the state of a frame

structure St where
  tm : List Value
  df : List Deferred
  h : AH

noncomputable def tmpAt (tm : List Value) (t : Nat) : Value := match nth tm t with | some v => v | none => undef

noncomputable def eval (tm : List Value) (x : Operand) : Value :=
  match x with
  | .tmp t => tmpAt tm t
  | .const v => v
  | .global g => .pointer (some ⟨g, 0, some 7⟩)
  | .func f => .func (.func f) #[] #[]

noncomputable def put (tm : List Value) (dst : Option Nat) (v : Value) : List Value :=
  match dst with
  | some d => setN tm d v
  | none => tm

noncomputable def yes (ops : List Oper) (tm : List Value) (j : Nat) : Option Bool :=
  match ops[j]? with
  | some o => (match o.dst with
    | some d => (match nth tm d with
      | some (.bool b) => some b
      | _ => none)
    | none => none)
  | none => none

noncomputable def wanted (ops : List Oper) (tm : List Value) (g : Option (Nat × Bool)) : Bool :=
  match g with
  | none => true
  | some (j, want) => (match yes ops tm j with
    | some b => b == want
    | none => false)

abbrev Inv := Target → List Value → AH → Option (Value × AH)

noncomputable def after1 (inv : Inv) (ro : Bool) (dst : Option Nat) (s : St) (r : AN) : Option St :=
  match r with
  | .val v h => some ⟨put s.tm dst v, s.df, h⟩
  | .inv t a => (match inv t a s.h with
    | some (v, h) => some ⟨put s.tm dst v, s.df, h⟩
    | none => none)
  | .dfr d => cond ro none (some ⟨put s.tm dst undef, d :: s.df, s.h⟩)
  | .no => none

noncomputable def step1 (E : Env) (inv : Inv) (ro : Bool) (ops : List Oper) (o : Oper) (s : St) : Option St :=
  match wanted ops s.tm o.guard with
  | true => after1 inv ro o.dst s (E.op (eval s.tm) o.op s.h)
  | false => some ⟨put s.tm o.dst undef, s.df, s.h⟩

noncomputable def runOps (E : Env) (inv : Inv) (ro : Bool) (ops : List Oper) (l : List Oper) : St → Option St :=
  List.rec (fun s => some s) (fun o _ ih s => match step1 E inv ro ops o s with
    | some s' => ih s'
    | none => none) l

-- a region that draws its order

inductive Cls where
  | pure | read | alloc | eff

def clsB : Builtin → Cls
  | .len => .read
  | .min => .pure
  | .max => .pure
  | _ => .eff

def cls : Op → Cls
  | .move _ => .pure
  | .assign _ => .pure
  | .pick .. => .pure
  | .nilCheck _ => .pure
  | .unOp .. => .pure
  | .fieldAddr .. => .pure
  | .indexAddr .. => .pure
  | .field .. => .pure
  | .index .. => .pure
  | .extract .. => .pure
  | .slice .. => .pure
  | .build .. => .pure
  | .makeInterface .. => .pure
  | .makeFunc .. => .pure
  | .binOp .. => .read
  | .convert .. => .read
  | .load .. => .read
  | .lookup .. => .read
  | .call c => (match c.callee with | .builtin b => clsB b | _ => .eff)
  | .alloc _ => .alloc
  | .box .. => .alloc
  | .buildSlice .. => .alloc
  | .makeSlice .. => .alloc
  | .makeMap .. => .alloc
  | _ => .eff

def isEff (o : Oper) : Bool := match cls o.op with | .eff => true | _ => false
def isRead (o : Oper) : Bool := match cls o.op with | .read => true | _ => false

/-- the operations that go ahead of each, by the edges that bind in any mode: bit sets -/
def befores : List Oper → List Nat → List Nat
  | [], acc => acc
  | o :: r, acc => befores r (acc ++ [o.after.toList.foldl (fun s e => cond (Region.binds .any e) (s ||| 2 ^ e.on ||| acc.getD e.on 0) s) 0])

/-- same values, to a depth -/
def same : Nat → Value → Value → Bool
  | _, .bool a, .bool b => a == b
  | _, .int j a, .int k b => kindEq j k && ieq a b
  | _, .string a, .string b => a == b
  | _, .pointer a, .pointer b => a == b
  | _, .slice a l c, .slice b m d => a == b && Nat.beq l m && Nat.beq c d
  | _, .map a, .map b => a == b
  | _, .nilFunc, .nilFunc => true
  | _, .nilIface, .nilIface => true
  | n + 1, .iface t v, .iface u w => Nat.beq t u && same n v w
  | n + 1, .agg a, .agg b => Nat.beq a.size b.size && (a.toList.zip b.toList).all fun x => same n x.1 x.2
  | n + 1, .tuple a, .tuple b => Nat.beq a.size b.size && (a.toList.zip b.toList).all fun x => same n x.1 x.2
  | n + 1, .func f a c, .func g b d => (f == g) && Nat.beq a.size b.size && ((a.toList.zip b.toList).all fun x => same n x.1 x.2) && Nat.beq c.size d.size && ((c.toList.zip d.toList).all fun x => same n x.1 x.2)
  | _, _, _ => false

/-- a read gives v in each of the heaps -/
noncomputable def stable (E : Env) (r : Operand → Value) (o : Op) (v : Value) : List AH → Bool
  | [] => true
  | h :: hs => (match E.op r o h with
    | .val w _ => same 20 w v
    | _ => false) && stable E r o v hs

/-- how many effects go ahead of an operation -/
def lowOf (effs : List Nat) (b : Nat) : Nat := (effs.filter fun e => b.testBit e).length

structure DSt where
  s : St
  done : Nat          -- bit set
  hist : List AH      -- the heaps ahead of each effect, the latest last

noncomputable def drawOne (E : Env) (inv : Inv) (ro : Bool) (ops : List Oper) (effs bs : List Nat) (i : Nat) (d : DSt) : Option DSt :=
  match ops[i]? with
  | none => none
  | some o => match step1 E inv ro ops o d.s with
    | none => none
    | some s' =>
      cond (isRead o && wanted ops d.s.tm o.guard)
        (match E.op (eval d.s.tm) o.op d.s.h with
          | .val v _ => cond (stable E (eval d.s.tm) o.op v (d.hist.drop (lowOf effs (bs.getD i 0)))) (some ⟨s', d.done ||| 2 ^ i, d.hist⟩) none
          | _ => none)
        (some ⟨s', d.done ||| 2 ^ i, cond (isEff o) (d.hist ++ [d.s.h]) d.hist⟩)

/-- those of a list that are not done, and lie in a set -/
noncomputable def drawSome (E : Env) (inv : Inv) (ro : Bool) (ops : List Oper) (effs bs : List Nat) (set : Nat) : List Nat → DSt → Option DSt
  | [], d => some d
  | i :: r, d => cond (!d.done.testBit i && set.testBit i)
      (match drawOne E inv ro ops effs bs i d with
        | some d' => drawSome E inv ro ops effs bs set r d'
        | none => none)
      (drawSome E inv ro ops effs bs set r d)

noncomputable def drawEffs (E : Env) (inv : Inv) (ro : Bool) (ops : List Oper) (effs bs all : List Nat) : List Nat → DSt → Option DSt
  | [], d => some d
  | e :: r, d => match drawSome E inv ro ops effs bs (bs.getD e 0) all d with
    | none => none
    | some d' => match drawOne E inv ro ops effs bs e d' with
      | none => none
      | some d'' => drawEffs E inv ro ops effs bs all r d''

/-- effects are ordered among themselves -/
def effsOk (bs : List Nat) : List Nat → Bool
  | [] => true
  | e :: r => r.all (fun f => (bs.getD f 0).testBit e) && effsOk bs r

def operandTmp : Operand → List Nat
  | .tmp t => [t]
  | _ => []

/-- each is written once, and read behind that, or ahead of it, by the edges -/
def tmpsOk (ops : List Oper) (bs : List Nat) : Bool :=
  let ws := ops.zipIdx.filterMap fun x => match x.1.dst with | some d => some (d, x.2) | none => none
  (ops.zipIdx.all fun x => ws.all fun y =>
    Nat.beq y.2 x.2 || (
    (match x.1.dst with | some d' => !(Nat.beq y.1 d') | none => true) &&
    (!((x.1.op.operands.toList.flatMap operandTmp).contains y.1) || (bs.getD x.2 0).testBit y.2 || (bs.getD y.2 0).testBit x.2))) &&
  (ops.zipIdx.all fun x => match x.1.guard with
    | none => true
    | some (g, _) => (bs.getD x.2 0).testBit g)

noncomputable def runDraw (E : Env) (inv : Inv) (ro : Bool) (ops : List Oper) (s : St) : Option St :=
  let bs := befores ops []
  let all := List.range ops.length
  let effs := all.filter fun i => match ops[i]? with | some o => isEff o | none => false
  cond (effsOk bs effs && tmpsOk ops bs)
    (match drawEffs E inv ro ops effs bs all effs ⟨s, 0, []⟩ with
      | none => none
      | some d => match drawSome E inv ro ops effs bs (2 ^ ops.length - 1) all d with
        | none => none
        | some d' => some d'.s) none

inductive AX where
  | normal
  | exit (id : Nat)
  | ret
  | goto (l : Nat)

def AX.code : AX → Option Code
  | .normal => none
  | .exit id => some (.exit id)
  | .ret => some .ret
  | .goto l => some (.goto l)

/-- how code ends -/
inductive R where
  | ok (x : AX) (s : St)
  | no

noncomputable def R.of : Option St → R
  | some s => .ok .normal s
  | none => .no
noncomputable def R.andThen (r : R) (k : St → R) : R :=
  match r with
  | .ok x s => (match x with
    | .normal => k s
    | x => .ok x s)
  | .no => .no
noncomputable def R.inBlock (id : Nat) (r : R) : R :=
  match r with
  | .ok x s => (match x with
    | .exit j => cond (Nat.beq j id) (.ok .normal s) (.ok (.exit j) s)
    | x => .ok x s)
  | .no => .no
noncomputable def R.inScope (r : R) : R :=
  match r with
  | .ok x s => (match x with
    | .goto _ => .no
    | x => .ok x s)
  | .no => .no
noncomputable def R.if' (c : Value) (k : Bool → R) : R :=
  match c with
  | .bool t => k t
  | _ => .no

def mkLoop (fn : Nat) (tm : List Value) (params : Array Nat) (asg body : Code) (d : Nat) : Loop :=
  { state := .ready, pending := none, fn, tmps := tm.toArray, params, assign := asg, body, defers := d }

noncomputable def enterLoop (fn : Nat) (params : Array Nat) (asg body : Code) (ro : Option Nat) (s : St) : Option (Nat × St) :=
  match ro with
  | some l => (match s.h.get l with
    | some (.loop r) => some (s.h.next, ⟨s.tm, s.df, s.h.new (.loop (mkLoop fn s.tm params asg body r.defers))⟩)
    | _ => none)
  | none => some (s.h.next + 1, ⟨s.tm, { target := .collected s.h.next, args := #[] } :: s.df, (s.h.new (.defd true)).new (.loop (mkLoop fn s.tm params asg body s.h.next))⟩)

def afterJump (c : Option Code) (s : St) : R :=
  match c with
  | none => .ok .normal s
  | some (.exit id) => .ok (.exit id) s
  | some .ret => .ok .ret s
  | _ => .no

noncomputable def endLoop (l : Nat) (s : St) (h : AH) : R :=
  match h.get l with
  | some (.loop r) => (match r.state with
    | .busy => .no
    | _ => afterJump r.pending ⟨s.tm, s.df, h.put l (.loop { r with state := .exhausted })⟩)
  | _ => .no

noncomputable def rangeF (inv : Inv) (f : Value) : Option (Nat × St) → R
  | none => .no
  | some (l, s) => (match callV f [.func (.yield l) #[] #[]] with
    | .inv t a => (match inv t a s.h with
      | some (_, h) => endLoop l s h
      | none => .no)
    | _ => .no)

noncomputable def evCodeF (E : Env) (inv : Inv) (fn : Nat) (ro : Option Nat) (ih : Code → St → R) (c : Code) (s : St) : R :=
  match c with
  | .skip => .ok .normal s
  | .label _ => .ok .normal s
  | .region _ ops draw => R.of (cond draw (runDraw E inv ro.isSome ops.toList s) (runOps E inv ro.isSome ops.toList ops.toList s))
  | .seq a b => (ih a s).andThen (ih b)
  | .cond x a b => R.if' (eval s.tm x) fun t => ih (cond t a b) s
  | .block id b => (ih b s).inBlock id
  | .loop b => (ih b s).andThen (ih (.loop b))
  | .exit id => .ok (.exit id) s
  | .ret => .ok .ret s
  | .goto l => .ok (.goto l) s
  | .scope b => (ih b s).inScope
  | .rangeFunc f ps asg body => rangeF inv (eval s.tm f) (enterLoop fn ps asg body ro s)
  | .refuse _ => .no

noncomputable def evCode (E : Env) (inv : Inv) (fn : Nat) (ro : Option Nat) (n : Nat) : Code → St → R :=
  Nat.rec (fun _ _ => .no) (fun _ ih => evCodeF E inv fn ro ih) n

noncomputable def runDefers (E : Env) (inv : Inv) : List Deferred → AH → Option AH
  | [], h => some h
  | d :: ds, h => match d.target with
    | .collected b => (match h.get b with
      | some (.defd true) => runDefers E inv ds (h.put b (.defd false))
      | _ => none)
    | .fn (.func f) cap => (match E.con f with
      | some _ => none
      | none => (match inv (.fn (.func f) cap) d.args.toList h with
        | some (_, h') => runDefers E inv ds h'
        | none => none))
    | _ => none

noncomputable def Env.results (E : Env) (tm : List Value) (h : AH) : List ResultVar → Option (List Value)
  | [] => some []
  | .tmp t :: r => match Env.results E tm h r with
    | some l => some (tmpAt tm t :: l)
    | none => none
  | .cell a t :: r => match atAddr (tmpAt tm a) fun b o => E.loadV t b o h with
    | some v => (match Env.results E tm h r with
      | some l => some (v :: l)
      | _ => none)
    | none => none

def pack (l : List Value) : Value := match l with
  | [v] => v
  | l => .tuple l.toArray

noncomputable def finish (E : Env) (inv : Inv) (fn : Func) (s : St) : Option (Value × AH) :=
  match runDefers E inv s.df s.h with
  | none => none
  | some h => (match E.results s.tm h fn.results.toList with
    | some l => some (pack l, h)
    | none => none)

noncomputable def leave (E : Env) (inv : Inv) (fn : Func) (r : R) : Option (Value × AH) :=
  match r with
  | .ok x s => (match x with
    | .normal => finish E inv fn s
    | .ret => finish E inv fn s
    | _ => none)
  | .no => none

noncomputable def evFun (E : Env) (inv : Inv) (n : Nat) (f : Nat) (args : List Value) (h : AH) : Option (Value × AH) :=
  match E.fn f with
  | none => none
  | some fn => (match fn.body with
    | none => none
    | some c => leave E inv fn (evCode E inv f none n c ⟨args ++ List.replicate (fn.ntmps - args.length) undef, [], h⟩))

noncomputable def endRound (l : Nat) (r : R) : Option (Value × AH) :=
  match r with
  | .ok x s => (match s.df with
    | [] => (match s.h.get l with
      | some (.loop r) => some (.bool x.code.isNone, s.h.put l (.loop { r with state := cond x.code.isNone .ready .done, pending := x.code }))
      | _ => none)
    | _ => none)
  | .no => none

noncomputable def midRound (ev : Code → St → R) (l : Nat) (body : Code) (r : R) : Option (Value × AH) :=
  match r with
  | .ok x s => (match x with
    | .normal => (match s.df with
      | [] => (match s.h.get l with
        | some (.loop r) => (match r.state with
          | .ready => endRound l (ev body ⟨s.tm, [], s.h.put l (.loop { r with state := .busy })⟩)
          | _ => none)
        | _ => none)
      | _ => none)
    | _ => none)
  | .no => none

noncomputable def putAll (tm : List Value) : List Nat → List Value → List Value
  | t :: ts, v :: vs => putAll (setN tm t v) ts vs
  | _, _ => tm

noncomputable def evRound (E : Env) (inv : Inv) (n : Nat) (l : Nat) (args : List Value) (h : AH) : Option (Value × AH) :=
  match h.get l with
  | some (.loop r) => cond (Nat.beq args.length r.params.size)
    (midRound (evCode E inv r.fn (some l) n) l r.body (evCode E inv r.fn (some l) n r.assign ⟨putAll r.tmps.toList r.params.toList args, [], h⟩)) none
  | _ => none

noncomputable def Env.methodOf (E : Env) (t : Nat) (v : Value) (name : String) (h : AH) : Option (Nat × Value) :=
  match E.ty t with
  | some i => (match i.methods.find? (·.name == name) with
    | some m => cond m.path.isEmpty (match m.func, i.und with
      | some (f, true), .pointer _ => some (f, v)
      | some (f, false), .pointer e => (match atAddr v fun b o => E.loadV e b o h with
        | some x => some (f, x)
        | none => none)
      | some (f, false), _ => some (f, v)
      | _, _ => none) none
    | none => none)
  | none => none

end Go.Ev
