/- A part of a big-step evaluator of the model's language, with the proof that what it comes to, the model comes to for every tape. No conditions. -/
import Derived.Test.YtpncmonojhlheaaGreatEvRun
namespace Go.Ev

-- the evaluator that compares nothing: it writes down the pairs that must be the same

/-- the pairs that reads left, the pairs that pins left, what the contracts ask; how many pin places are passed by, and the pins that are left -/
structure Ob where
  ob : List (Value × Value)
  pn : List (Value × Value)
  cn : List Prop
  cnt : Nat
  pins : List (Nat × Value)

/-- an operation's value, or what it is pinned to -/
noncomputable def pinV (v : Value) (ob : Ob) : Value × Ob :=
  match ob.cnt with
  | 0 => (match ob.pins with
    | [] => (v, ob)
    | x :: r => (x.2, ⟨ob.ob, (v, x.2) :: ob.pn, ob.cn, x.1, r⟩))
  | n + 1 => (v, ⟨ob.ob, ob.pn, ob.cn, n, ob.pins⟩)

/-- where a value may be pinned -/
def isPin (o : Op) : Bool := match o with
  | .binOp .. => true
  | .unOp .. => true
  | .convert .. => true
  | .pick .. => true
  | .lookup .. => true
  | .call c => (match c.callee with | .builtin b => (match b with | .min => true | .max => true | _ => false) | _ => false)
  | _ => false

noncomputable def pinIf (pin : Bool) (v : Value) (ob : Ob) : Value × Ob := match pin with
  | true => pinV v ob
  | false => (v, ob)

structure IC where
  run : St → Ob → Option (St × Ob)
inductive RO where
  | ok (x : AX) (s : St) (ob : Ob)
  | no
structure IR where
  run : St → Ob → RO
abbrev IInv := Target → List Value → AH → Ob → Option (Value × AH × Ob)

noncomputable def iafter1 (pin : Bool) (inv : IInv) (ro : Bool) (dst : Option Nat) (s : St) (ob : Ob) (r : AN) : Option (St × Ob) :=
  match r with
  | .val v h => (match pinIf pin v ob with
    | (v', ob') => some (⟨put s.tm dst v', s.df, h⟩, ob'))
  | .inv t a => (match inv t a s.h ob with
    | some p => some (⟨put s.tm dst p.1, s.df, p.2.1⟩, p.2.2)
    | none => none)
  | .dfr d => cond ro none (some (⟨put s.tm dst undef, d :: s.df, s.h⟩, ob))
  | .no => none

noncomputable def istep (E : Env) (inv : IInv) (ro : Bool) (ops : List Oper) (o : Oper) : IC :=
  match o.guard with
  | none => (match cop E o.op, isPin o.op with | c, pin => ⟨fun s ob => iafter1 pin inv ro o.dst s ob (c.run s.tm s.h)⟩)
  | some g => (match cop E o.op, isPin o.op with | c, pin => ⟨fun s ob => match wanted ops s.tm (some g) with
    | true => iafter1 pin inv ro o.dst s ob (c.run s.tm s.h)
    | false => some (⟨put s.tm o.dst undef, s.df, s.h⟩, ob)⟩)

noncomputable def iops (E : Env) (inv : IInv) (ro : Bool) (ops : List Oper) (l : List Oper) : IC :=
  List.rec ⟨fun s ob => some (s, ob)⟩ (fun o _ ih => match istep E inv ro ops o with | c => ⟨fun s ob => match c.run s ob with
    | some p => ih.run p.1 p.2
    | none => none⟩) l

noncomputable def readRest (c : COp) (tm : List Value) (v : Value) (hs : List AH) : Ob → Option Ob :=
  List.rec (fun ob => some ob) (fun h' _ ih ob => match c.run tm h' with
    | .val w _ => ih ⟨(w, v) :: ob.ob, ob.pn, ob.cn, ob.cnt, ob.pins⟩
    | _ => none) hs

noncomputable def readI (c : COp) (tm : List Value) (ob : Ob) : List AH → Option (Value × Ob)
  | [] => none
  | h :: hs => (match c.run tm h with
    | .val v _ => (match readRest c tm v hs ob with
      | some ob' => some (v, ob')
      | none => none)
    | _ => none)

structure ID where
  run : DS → Ob → Option (DS × Ob)

noncomputable def idrawn1 (pin : Bool) (inv : IInv) (ro : Bool) (base x : Nat) (o : Oper) (c : COp) (d : DS) (ob : Ob) : Option (DS × Ob) :=
  match cls o.op with
  | .read => (match readI c d.s.tm ob (d.hs.drop x) with
    | some p => (match pinIf pin p.1 p.2 with
      | (v', ob') => some (⟨⟨put d.s.tm o.dst v', d.s.df, d.s.h⟩, d.hs⟩, ob'))
    | none => none)
  | .eff => (match iafter1 false inv ro o.dst d.s ob (c.run d.s.tm d.s.h) with
    | some p => some (⟨p.1, d.hs ++ [p.1.h]⟩, p.2)
    | none => none)
  | .alloc => (match c.run d.s.tm ⟨d.s.h.tr, base + x⟩ with
    | .val v h => some (⟨⟨put d.s.tm o.dst v, d.s.df, ⟨h.tr, d.s.h.next⟩⟩, d.hs⟩, ob)
    | _ => none)
  | .pure => (match c.run d.s.tm d.s.h with
    | .val v _ => (match pinIf pin v ob with
      | (v', ob') => some (⟨⟨put d.s.tm o.dst v', d.s.df, d.s.h⟩, d.hs⟩, ob'))
    | _ => none)

noncomputable def idrawOne (E : Env) (inv : IInv) (ro : Bool) (ops : List Oper) (base i x : Nat) : ID :=
  match ops[i]? with
  | none => ⟨fun _ _ => none⟩
  | some o => (match o.guard with
    | none => ⟨idrawn1 (isPin o.op) inv ro base x o (cop E o.op)⟩
    | some g => ⟨fun d ob => match wanted ops d.s.tm (some g) with
      | true => idrawn1 (isPin o.op) inv ro base x o (cop E o.op) d ob
      | false => (match isEff o with
        | true => some (⟨⟨put d.s.tm o.dst undef, d.s.df, d.s.h⟩, d.hs ++ [d.s.h]⟩, ob)
        | false => some (⟨⟨put d.s.tm o.dst undef, d.s.df, d.s.h⟩, d.hs⟩, ob))⟩)

noncomputable def idraws (E : Env) (inv : IInv) (ro : Bool) (ops : List Oper) (base : Nat) (l : List (Nat × Nat)) : ID :=
  List.rec ⟨fun d ob => some (d, ob)⟩ (fun x _ ih => ⟨fun d ob => match (idrawOne E inv ro ops base x.1 x.2).run d ob with
    | some p => ih.run p.1 p.2
    | none => none⟩) l

noncomputable def idraw (E : Env) (inv : IInv) (ro : Bool) (ops : List Oper) : IC :=
  match plan ops with
  | some p => ⟨fun s ob => match (idraws E inv ro ops s.h.next p.steps).run ⟨⟨s.tm, s.df, ⟨s.h.tr, s.h.next + p.allocs⟩⟩, [⟨s.h.tr, s.h.next + p.allocs⟩]⟩ ob with
    | some d => some (d.1.s, d.2)
    | none => none⟩
  | none => ⟨fun _ _ => none⟩

noncomputable def RO.of : Option (St × Ob) → RO
  | some p => .ok .normal p.1 p.2
  | none => .no
noncomputable def RO.andThen (r : RO) (k : St → Ob → RO) : RO :=
  match r with
  | .ok x s ob => (match x with
    | .normal => k s ob
    | x => .ok x s ob)
  | .no => .no
noncomputable def RO.inBlock (id : Nat) (r : RO) : RO :=
  match r with
  | .ok x s ob => (match x with
    | .exit j => cond (Nat.beq j id) (.ok .normal s ob) (.ok (.exit j) s ob)
    | x => .ok x s ob)
  | .no => .no
noncomputable def RO.inScope (r : RO) : RO :=
  match r with
  | .ok x s ob => (match x with
    | .goto _ => .no
    | x => .ok x s ob)
  | .no => .no
noncomputable def RO.if' (c : Value) (k : Bool → RO) : RO :=
  match c with
  | .bool t => k t
  | _ => .no
noncomputable def RO.ofR (ob : Ob) (r : R) : RO :=
  match r with
  | .ok x s => .ok x s ob
  | .no => .no

noncomputable def irangeF (inv : IInv) (f : Value) (ob : Ob) : Option (Nat × St) → RO
  | none => .no
  | some (l, s) => (match callV f [.func (.yield l) #[] #[]] with
    | .inv t a => (match inv t a s.h ob with
      | some p => RO.ofR p.2.2 (endLoop l s p.2.1)
      | none => .no)
    | _ => .no)

noncomputable def iloopN (body : St → Ob → RO) (n : Nat) : St → Ob → RO :=
  Nat.rec (fun _ _ => .no) (fun _ ih s ob => (body s ob).andThen ih) n

noncomputable def icode (E : Env) (inv : IInv) (fn : Nat) (ro : Option Nat) (n : Nat) (c : Code) : IR :=
  Code.rec (motive := fun _ => IR)
    ⟨fun s ob => .ok .normal s ob⟩
    (fun _ ops draw => match draw with
      | true => ⟨fun s ob => RO.of ((idraw E inv ro.isSome ops.toList).run s ob)⟩
      | false => ⟨fun s ob => RO.of ((iops E inv ro.isSome ops.toList ops.toList).run s ob)⟩)
    (fun _ _ a b => ⟨fun s ob => (a.run s ob).andThen b.run⟩)
    (fun x _ _ a b => ⟨fun s ob => RO.if' ((cval x).run s.tm) fun t => match t with | true => a.run s ob | false => b.run s ob⟩)
    (fun id _ b => ⟨fun s ob => (b.run s ob).inBlock id⟩)
    (fun _ b => ⟨iloopN b.run n⟩)
    (fun f ps asg body _ _ => ⟨fun s ob => irangeF inv (eval s.tm f) ob (enterLoop fn ps asg body ro s)⟩)
    (fun id => ⟨fun s ob => .ok (.exit id) s ob⟩)
    (fun _ b => ⟨fun s ob => (b.run s ob).inScope⟩)
    (fun _ => ⟨fun s ob => .ok .normal s ob⟩)
    (fun _ => ⟨fun _ _ => .no⟩)
    ⟨fun s ob => .ok .ret s ob⟩
    (fun _ => ⟨fun _ _ => .no⟩) c

noncomputable def irunDefers (E : Env) (inv : IInv) : List Deferred → AH → Ob → Option (AH × Ob)
  | [], h, ob => some (h, ob)
  | d :: ds, h, ob => match d.target with
    | .collected b => (match h.get b with
      | some (.defd true) => irunDefers E inv ds (h.put b (.defd false)) ob
      | _ => none)
    | .fn (.func f) cap => (match E.con f with
      | some _ => none
      | none => (match inv (.fn (.func f) cap) d.args.toList h ob with
        | some p => irunDefers E inv ds p.2.1 p.2.2
        | none => none))
    | _ => none

noncomputable def ifinish (E : Env) (inv : IInv) (fn : Func) (s : St) (ob : Ob) : Option (Value × AH × Ob) :=
  match irunDefers E inv s.df s.h ob with
  | none => none
  | some p => (match E.results s.tm p.1 fn.results.toList with
    | some l => some (pack l, p.1, p.2)
    | none => none)

noncomputable def ileave (E : Env) (inv : IInv) (fn : Func) (r : RO) : Option (Value × AH × Ob) :=
  match r with
  | .ok x s ob => (match x with
    | .normal => ifinish E inv fn s ob
    | .ret => ifinish E inv fn s ob
    | _ => none)
  | .no => none

structure IF where
  run : List Value → AH → Ob → Option (Value × AH × Ob)

noncomputable def ifun (E : Env) (inv : IInv) (n : Nat) (f : Nat) : IF :=
  match E.fn f with
  | none => ⟨fun _ _ _ => none⟩
  | some fn => (match fn.body with
    | none => ⟨fun _ _ _ => none⟩
    | some c => ⟨fun args h ob => ileave E inv fn ((icode E inv f none n c).run ⟨args ++ List.replicate (fn.ntmps - args.length) undef, [], h⟩ ob)⟩)

noncomputable def iendRound (l : Nat) (r : RO) : Option (Value × AH × Ob) :=
  match r with
  | .ok x s ob => (match s.df with
    | [] => (match s.h.get l with
      | some (.loop r) => some (.bool x.code.isNone, s.h.put l (.loop { r with state := cond x.code.isNone .ready .done, pending := x.code }), ob)
      | _ => none)
    | _ => none)
  | .no => none

noncomputable def imidRound (ev : Code → St → Ob → RO) (l : Nat) (body : Code) (r : RO) : Option (Value × AH × Ob) :=
  match r with
  | .ok x s ob => (match x with
    | .normal => (match s.df with
      | [] => (match s.h.get l with
        | some (.loop r) => (match r.state with
          | .ready => iendRound l (ev body ⟨s.tm, [], s.h.put l (.loop { r with state := .busy })⟩ ob)
          | _ => none)
        | _ => none)
      | _ => none)
    | _ => none)
  | .no => none

noncomputable def iround (E : Env) (inv : IInv) (n : Nat) (l : Nat) (args : List Value) (h : AH) (ob : Ob) : Option (Value × AH × Ob) :=
  match h.get l with
  | some (.loop r) => cond (Nat.beq args.length r.params.size)
    (imidRound (fun c => (icode E inv r.fn (some l) n c).run) l r.body ((icode E inv r.fn (some l) n r.assign).run ⟨putAll r.tmps.toList r.params.toList args, [], h⟩ ob)) none
  | _ => none

noncomputable def iCon (g : Con) (args : List Value) (h : AH) (ob : Ob) : Option (Value × AH × Ob) :=
  match g.run args h with
  | some p => (match pinV p.1 ⟨ob.ob, ob.pn, g.ok args h :: ob.cn, ob.cnt, ob.pins⟩ with
    | (v, ob') => some (v, p.2, ob'))
  | none => none

noncomputable def iinvF (E : Env) (n : Nat) (ih : IInv) : IInv := fun t args h ob =>
  match t with
  | .fn fn cap => (match fn with
    | .func f => (match E.con f with
      | some g => iCon g (args ++ cap.toList) h ob
      | none => (ifun E ih n f).run (args ++ cap.toList) h ob)
    | .yield l => iround E ih n l args h ob
    | .method name => (match args with
      | .iface t v :: rest => (match E.methodOf t v name h with
        | some (f, x) => (match E.con f with
          | some g => iCon g (x :: rest) h ob
          | none => (ifun E ih n f).run (x :: rest) h ob)
        | none => none)
      | _ => none)
    | _ => none)
  | _ => none

noncomputable def iinv (E : Env) (n : Nat) : IInv :=
  Nat.rec (fun _ _ _ _ => none) (fun n ih => iinvF E n ih) n

end Go.Ev
