/- A part of a big-step evaluator of the model's language, with the proof that what it comes to, the model comes to for every tape. No conditions. -/
import Derived.Test.YtpncmonojhlheaaGreatEvDef
namespace Go.Ev

structure COp where
  run : List Value → AH → AN
structure CV where
  run : List Value → Value
structure CSt where
  run : St → Option St
structure CR where
  run : St → R
structure CO where
  run : List Value → Option Value

noncomputable def cval (x : Operand) : CV :=
  match x with
  | .tmp t => ⟨fun tm => tmpAt tm t⟩
  | .const v => ⟨fun _ => v⟩
  | .global g => ⟨fun _ => .pointer (some ⟨g, 0, some 7⟩)⟩
  | .func f => ⟨fun _ => .func (.func f) #[] #[]⟩

noncomputable def cargs : List Operand → List Value → List Value
  | [], _ => []
  | x :: r, tm => (cval x).run tm :: cargs r tm

noncomputable def cLoad (E : Env) (t : Nat) (a : CV) : COp :=
  match E.ty t with
  | some i => (match i.agg with
    | true => ⟨fun tm h => ofV h (atAddr (a.run tm) fun b o => (match h.loadN b o i.size with
      | some l => some (.agg l.toArray)
      | none => none))⟩
    | false => ⟨fun tm h => ofV h (atAddr (a.run tm) fun b o => h.load1 b o)⟩)
  | none => ⟨fun _ _ => .no⟩

noncomputable def cStore (E : Env) (t : Nat) (a x : CV) : COp :=
  match E.ty t with
  | some i => ⟨fun tm h => ofH (atAddr (a.run tm) fun b o => storeT i.size b o (x.run tm) h)⟩
  | none => ⟨fun _ _ => .no⟩

noncomputable def cFieldAddr (E : Env) (t : Nat) (x : CV) (f : Nat) : COp :=
  match E.und t with
  | some (.struct fs) => (match E.fieldPlace fs f with
    | some (off, size) => (match Nat.beq size 0 with
      | true => ⟨fun _ _ => .no⟩
      | false => ⟨fun tm h => ofV h (atAddr (x.run tm) fun b o => some (ptr b (o + off)))⟩)
    | none => ⟨fun _ _ => .no⟩)
  | _ => ⟨fun _ _ => .no⟩

noncomputable def cIndexAddr (E : Env) (t : Nat) (x i : CV) : COp :=
  match E.und t with
  | some (.slice e) => (match E.ty e with
    | some r => ⟨fun tm h => ofV h (match x.run tm with
      | .slice (some a) len _ => within (i.run tm) len fun k => some (ptr a.block (a.off + k * r.size))
      | _ => none)⟩
    | none => ⟨fun _ _ => .no⟩)
  | _ => ⟨fun tm h => ofV h (E.indexAddr t (x.run tm) (i.run tm))⟩

noncomputable def cLen (E : Env) (ts : List Nat) (x : CV) : COp :=
  match ts with
  | t :: _ => (match E.und t with
    | some (.slice _) => ⟨fun tm h => ofV h (match x.run tm with
      | .slice _ n _ => some (.int .i64 (.ofNat n))
      | _ => none)⟩
    | _ => ⟨fun tm h => ofV h (E.len ts (x.run tm) h)⟩)
  | [] => ⟨fun _ _ => .no⟩

noncomputable def cBuiltin (E : Env) (b : Builtin) (ts : List Nat) (args : List Operand) : COp :=
  match b with
  | .len => (match args with | [x] => cLen E ts (cval x) | _ => ⟨fun _ _ => .no⟩)
  | .append => (match args with | [s, x] => ⟨fun tm h => ofVH (E.append ts ((cval s).run tm) ((cval x).run tm) h)⟩ | _ => ⟨fun _ _ => .no⟩)
  | b => ⟨fun tm h => E.builtin b ts (cargs args tm) h⟩

noncomputable def cCall (E : Env) (c : Call) : COp :=
  match c.callee with
  | .value f => (match f with
    | .func f => ⟨fun tm _ => .inv (.fn (.func f) #[]) (cargs c.args.toList tm)⟩
    | f => ⟨fun tm _ => callV ((cval f).run tm) (cargs c.args.toList tm)⟩)
  | .builtin b => cBuiltin E b c.argTypes.toList c.args.toList
  | .invoke recv name => ⟨fun tm _ => .inv (.fn (.method name) #[]) ((cval recv).run tm :: cargs c.args.toList tm)⟩

noncomputable def cBin (E : Env) (op : BinOp) (t : Nat) (x y : Operand) : COp :=
  match op with
  | .add => ⟨fun tm h => ofV h (match (cval x).run tm with
      | .int k a => (match (cval y).run tm with
        | .int j b => cond (kindEq k j) (bAdd k a b) none
        | _ => none)
      | v => E.bin .add t x y v ((cval y).run tm) h)⟩
  | .eql => ⟨fun tm h => ofV h (match (cval x).run tm with
      | .int k a => (match (cval y).run tm with
        | .int j b => cond (kindEq k j) (some (.bool (ieq a b))) none
        | _ => none)
      | v => E.bin .eql t x y v ((cval y).run tm) h)⟩
  | op => ⟨fun tm h => ofV h (E.bin op t x y ((cval x).run tm) ((cval y).run tm) h)⟩

noncomputable def cop (E : Env) (o : Op) : COp :=
  match o with
  | .move x => ⟨fun tm h => .val ((cval x).run tm) h⟩
  | .assign x => ⟨fun tm h => .val ((cval x).run tm) h⟩
  | .load t a => cLoad E t (cval a)
  | .store t a x => cStore E t (cval a) (cval x)
  | .nilCheck x => ⟨fun tm h => opNil ((cval x).run tm) h⟩
  | .binOp op t x y _ => cBin E op t x y
  | .fieldAddr t x f => cFieldAddr E t (cval x) f
  | .indexAddr t x i => cIndexAddr E t (cval x) (cval i)
  | .call c => cCall E c
  | .extract t i => ⟨fun tm h => opExtract ((cval t).run tm) i h⟩
  | .pick c a b => ⟨fun tm h => opPick ((cval c).run tm) ((cval a).run tm) ((cval b).run tm) h⟩
  | o => ⟨fun tm h => E.op (eval tm) o h⟩

noncomputable def after1C (inv : Inv) (ro : Bool) (dst : Option Nat) (c : COp) : CSt :=
  ⟨fun s => after1 inv ro dst s (c.run s.tm s.h)⟩

noncomputable def cstep (E : Env) (inv : Inv) (ro : Bool) (ops : List Oper) (o : Oper) : CSt :=
  match o.guard with
  | none => after1C inv ro o.dst (cop E o.op)
  | some g => ⟨fun s => match wanted ops s.tm (some g) with
    | true => after1 inv ro o.dst s ((cop E o.op).run s.tm s.h)
    | false => some ⟨put s.tm o.dst undef, s.df, s.h⟩⟩

noncomputable def cops (E : Env) (inv : Inv) (ro : Bool) (ops : List Oper) (l : List Oper) : CSt :=
  List.rec ⟨fun s => some s⟩ (fun o _ ih => ⟨fun s => match (cstep E inv ro ops o).run s with
    | some s' => ih.run s'
    | none => none⟩) l

-- draws: the order, reckoned once

def isAlloc (o : Oper) : Bool := match cls o.op with | .alloc => true | _ => false

/-- of how many stages' heaps a read asks nothing; an allocation's own place -/
def extraOf (ops : List Oper) (effs allocs bs : List Nat) (i : Nat) : Nat :=
  match ops[i]? with
  | some o => (match cls o.op with
    | .alloc => allocs.idxOf i
    | _ => (effs.takeWhile fun e => (bs.getD i 0).testBit e).length)
  | none => 0

def planSome (set : Nat) : List Nat → Nat → List Nat × Nat
  | [], done => ([], done)
  | i :: r, done => match (!done.testBit i && set.testBit i) with
    | true => let x := planSome set r (done ||| 2 ^ i); (i :: x.1, x.2)
    | false => planSome set r done

def planEffs (bs all : List Nat) : List Nat → Nat → List Nat × Nat
  | [], done => ([], done)
  | e :: r, done => let x := planSome (bs.getD e 0) all done
    let y := planEffs bs all r (x.2 ||| 2 ^ e)
    (x.1 ++ (e :: y.1), y.2)

def effAt (ops : List Oper) (i : Nat) : Bool := match ops[i]? with | some o => isEff o | none => false
def allocAt (ops : List Oper) (i : Nat) : Bool := match ops[i]? with | some o => isAlloc o | none => false

/-- all that goes ahead is done -/
def ordOk (n : Nat) (bs : List Nat) : List Nat → List Nat → Bool
  | [], done => (List.range n).all fun i => done.contains i
  | i :: r, done => Nat.blt i n && !done.contains i && ((List.range n).all fun j => !((bs.getD i 0).testBit j) || done.contains j) && ordOk n bs r (i :: done)

/-- each stands as late as it may: the next effect asks for it -/
def lateOk (ops : List Oper) (bs : List Nat) : List Nat → Bool
  | [] => true
  | i :: r => (effAt ops i || (match r.find? (effAt ops) with
    | some e => (bs.getD e 0).testBit i
    | none => true)) && lateOk ops bs r

def edgesIn (n : Nat) (ops : List Oper) : Bool := ops.all fun o => o.after.all fun e => !Region.binds .any e || Nat.blt e.on n

structure Plan where
  steps : List (Nat × Nat)   -- the operation, and its extra
  allocs : Nat

def plan (ops : List Oper) : Option Plan :=
  let bs := befores ops []
  let all := List.range ops.length
  let effs := all.filter (effAt ops)
  let x := planEffs bs all effs 0
  let ord := x.1 ++ (planSome (2 ^ ops.length - 1) all x.2).1
  let effs' := ord.filter (effAt ops)
  let allocs := ord.filter (allocAt ops)
  match effsOk bs effs && tmpsOk ops bs && ordOk ops.length bs ord [] && lateOk ops bs ord && edgesIn ops.length ops with
  | true => some ⟨ord.map fun i => (i, extraOf ops effs' allocs bs i), allocs.length⟩
  | false => none

/-- a state in a draw: the heaps at the beginning of each stage, the latest last -/
structure DS where
  s : St
  hs : List AH
structure CD where
  run : DS → Option DS

/-- the same value (nothing that the kernel reckons: EvObl) -/
noncomputable def eqv (a b : Value) : Bool := @decide (a = b) (Classical.propDecidable _)

/-- a read, in each of the stages that it may lie in -/
noncomputable def readAll (c : COp) (tm : List Value) : List AH → Option Value
  | [] => none
  | h :: hs => (match c.run tm h with
    | .val v _ => List.rec (some v) (fun h' _ ih => match c.run tm h' with
      | .val w _ => cond (eqv w v) ih none
      | _ => none) hs
    | _ => none)

noncomputable def drawn1 (inv : Inv) (ro : Bool) (base x : Nat) (o : Oper) (c : COp) (d : DS) : Option DS :=
  match cls o.op with
  | .read => (match readAll c d.s.tm (d.hs.drop x) with
    | some v => some ⟨⟨put d.s.tm o.dst v, d.s.df, d.s.h⟩, d.hs⟩
    | none => none)
  | .eff => (match after1 inv ro o.dst d.s (c.run d.s.tm d.s.h) with
    | some s' => some ⟨s', d.hs ++ [s'.h]⟩
    | none => none)
  | .alloc => (match c.run d.s.tm ⟨d.s.h.tr, base + x⟩ with
    | .val v h => some ⟨⟨put d.s.tm o.dst v, d.s.df, ⟨h.tr, d.s.h.next⟩⟩, d.hs⟩
    | _ => none)
  | .pure => (match c.run d.s.tm d.s.h with
    | .val v _ => some ⟨⟨put d.s.tm o.dst v, d.s.df, d.s.h⟩, d.hs⟩
    | _ => none)

noncomputable def cdrawOne (E : Env) (inv : Inv) (ro : Bool) (ops : List Oper) (base i x : Nat) : CD :=
  match ops[i]? with
  | none => ⟨fun _ => none⟩
  | some o => (match o.guard with
    | none => ⟨drawn1 inv ro base x o (cop E o.op)⟩
    | some g => ⟨fun d => match wanted ops d.s.tm (some g) with
      | true => drawn1 inv ro base x o (cop E o.op) d
      | false => (match isEff o with
        | true => some ⟨⟨put d.s.tm o.dst undef, d.s.df, d.s.h⟩, d.hs ++ [d.s.h]⟩
        | false => some ⟨⟨put d.s.tm o.dst undef, d.s.df, d.s.h⟩, d.hs⟩)⟩)

noncomputable def cdraws (E : Env) (inv : Inv) (ro : Bool) (ops : List Oper) (base : Nat) (l : List (Nat × Nat)) : CD :=
  List.rec ⟨fun d => some d⟩ (fun x _ ih => ⟨fun d => match (cdrawOne E inv ro ops base x.1 x.2).run d with
    | some d' => ih.run d'
    | none => none⟩) l

noncomputable def cdraw (E : Env) (inv : Inv) (ro : Bool) (ops : List Oper) : CSt :=
  match plan ops with
  | some p => ⟨fun s => match (cdraws E inv ro ops s.h.next p.steps).run ⟨⟨s.tm, s.df, ⟨s.h.tr, s.h.next + p.allocs⟩⟩, [⟨s.h.tr, s.h.next + p.allocs⟩]⟩ with
    | some d => some d.s
    | none => none⟩
  | none => ⟨fun _ => none⟩

noncomputable def loopN (body : St → R) (n : Nat) : St → R :=
  Nat.rec (fun _ => .no) (fun _ ih s => (body s).andThen ih) n

noncomputable def ccode (E : Env) (inv : Inv) (fn : Nat) (ro : Option Nat) (n : Nat) (c : Code) : CR :=
  Code.rec (motive := fun _ => CR)
    ⟨fun s => .ok .normal s⟩                                       -- skip
    (fun _ ops draw => match draw with                              -- region
      | true => ⟨fun s => R.of ((cdraw E inv ro.isSome ops.toList).run s)⟩
      | false => ⟨fun s => R.of ((cops E inv ro.isSome ops.toList ops.toList).run s)⟩)
    (fun _ _ a b => ⟨fun s => (a.run s).andThen b.run⟩)            -- seq
    (fun x _ _ a b => ⟨fun s => R.if' ((cval x).run s.tm) fun t => match t with | true => a.run s | false => b.run s⟩)
    (fun id _ b => ⟨fun s => (b.run s).inBlock id⟩)
    (fun _ b => ⟨loopN b.run n⟩)
    (fun f ps asg body _ _ => ⟨fun s => rangeF inv (eval s.tm f) (enterLoop fn ps asg body ro s)⟩)
    (fun id => ⟨fun s => .ok (.exit id) s⟩)
    (fun _ b => ⟨fun s => (b.run s).inScope⟩)
    (fun _ => ⟨fun s => .ok .normal s⟩)
    (fun _ => ⟨fun _ => .no⟩)
    ⟨fun s => .ok .ret s⟩
    (fun _ => ⟨fun _ => .no⟩) c

structure CF where
  run : List Value → AH → Option (Value × AH)

noncomputable def cfun (E : Env) (inv : Inv) (n : Nat) (f : Nat) : CF :=
  match E.fn f with
  | none => ⟨fun _ _ => none⟩
  | some fn => (match fn.body with
    | none => ⟨fun _ _ => none⟩
    | some c => ⟨fun args h => leave E inv fn ((ccode E inv f none n c).run ⟨args ++ List.replicate (fn.ntmps - args.length) undef, [], h⟩)⟩)

noncomputable def cround (E : Env) (inv : Inv) (n : Nat) (l : Nat) (args : List Value) (h : AH) : Option (Value × AH) :=
  match h.get l with
  | some (.loop r) => cond (Nat.beq args.length r.params.size)
    (midRound (fun c => (ccode E inv r.fn (some l) n c).run) l r.body ((ccode E inv r.fn (some l) n r.assign).run ⟨putAll r.tmps.toList r.params.toList args, [], h⟩)) none
  | _ => none

/-- a call of a function by its contract -/
noncomputable def callCon (g : Con) (args : List Value) (h : AH) : Option (Value × AH) := @ite _ (g.ok args h) (Classical.propDecidable _) (g.run args h) none

noncomputable def cinvF (E : Env) (n : Nat) (ih : Inv) : Inv := fun t args h =>
  match t with
  | .fn fn cap => (match fn with
    | .func f => (match E.con f with
      | some g => callCon g (args ++ cap.toList) h
      | none => (cfun E ih n f).run (args ++ cap.toList) h)
    | .yield l => cround E ih n l args h
    | .method name => (match args with
      | .iface t v :: rest => (match E.methodOf t v name h with
        | some (f, x) => (match E.con f with
          | some g => callCon g (x :: rest) h
          | none => (cfun E ih n f).run (x :: rest) h)
        | none => none)
      | _ => none)
    | _ => none)
  | _ => none

noncomputable def cinv (E : Env) (n : Nat) : Inv :=
  Nat.rec (fun _ _ _ => none) (fun n ih => cinvF E n ih) n

end Go.Ev
