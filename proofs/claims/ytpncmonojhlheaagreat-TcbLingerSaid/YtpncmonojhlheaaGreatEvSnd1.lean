/- A part of a big-step evaluator of the model's language, with the proof that what it comes to, the model comes to for every tape. No conditions. -/
import Derived.Test.YtpncmonojhlheaaGreatEvRun
import Derived.Test.YtpncmonojhlheaaGreatEvOps15
import Derived.RangeFuncIn
import Derived.RangeFuncNested
namespace Go.Ev

variable {P : Program} {E : Env} {m : Mp} {h : AH} {w : World}

-- the compiled operations are the operations

theorem cval_eq (x : Operand) (tm : List Value) : (cval x).run tm = eval tm x := by cases x <;> rfl
theorem cargs_eq (l : List Operand) (tm : List Value) : cargs l tm = l.map (eval tm) := by
  induction l with
  | nil => rfl
  | cons x r ih => simp only [cargs, ih, cval_eq, List.map_cons]

theorem atAddr_none {α : Type} (v : Value) : atAddr v (fun _ _ => (none : Option α)) = none := by
  unfold atAddr
  split
  · split
    · split <;> rfl
    · rfl
  · rfl

theorem cLoad_eq (t : Nat) (a : Operand) (tm : List Value) (h : AH) : (cLoad E t (cval a)).run tm h = opLoad E t (eval tm a) h := by
  unfold cLoad opLoad Env.loadV
  cases E.ty t with
  | none => simp only [atAddr_none]; rfl
  | some i =>
    simp only [loadT]
    cases i.agg
    · simp only [cval_eq]
    · simp only [cval_eq]; rfl

theorem cStore_eq (t : Nat) (a x : Operand) (tm : List Value) (h : AH) : (cStore E t (cval a) (cval x)).run tm h = opStore E t (eval tm a) (eval tm x) h := by
  unfold cStore opStore Env.storeV
  cases E.ty t with
  | none => simp only [atAddr_none]; rfl
  | some i => simp only [cval_eq]

theorem cFieldAddr_eq (t : Nat) (x : Operand) (f : Nat) (tm : List Value) (h : AH) : (cFieldAddr E t (cval x) f).run tm h = ofV h (E.fieldAddr t (eval tm x) f) := by
  unfold cFieldAddr Env.fieldAddr
  cases hu : E.und t with
  | none => rfl
  | some u =>
    cases u <;> try rfl
    rename_i fs
    simp only
    cases hp : E.fieldPlace fs f with
    | none => rfl
    | some p =>
      obtain ⟨off, size⟩ := p
      simp only
      cases hs : Nat.beq size 0
      · simp only [cond_false, cval_eq]
      · rfl

theorem cIndexAddr_eq (t : Nat) (x i : Operand) (tm : List Value) (h : AH) : (cIndexAddr E t (cval x) (cval i)).run tm h = ofV h (E.indexAddr t (eval tm x) (eval tm i)) := by
  unfold cIndexAddr
  split
  · rename_i e hu
    cases hr : E.ty e with
    | some r =>
      simp only [cval_eq, Env.indexAddr, hu, hr]
      generalize eval tm x = u
      cases u with
      | slice a l c => cases a <;> rfl
      | _ => rfl
    | none =>
      simp only [Env.indexAddr, hu, hr]
      generalize eval tm x = u
      cases u with
      | slice a l c => cases a <;> rfl
      | _ => rfl
  · simp only [cval_eq]

theorem cLen_eq (ts : List Nat) (x : Operand) (tm : List Value) (h : AH) : (cLen E ts (cval x)).run tm h = ofV h (E.len ts (eval tm x) h) := by
  unfold cLen
  split
  · split
    · rename_i hu
      simp only [cval_eq, Env.len, hu]
      cases eval tm x <;> rfl
    · simp only [cval_eq]
  · rfl

theorem cBuiltin_eq (b : Builtin) (ts : List Nat) (l : List Operand) (tm : List Value) (h : AH) : (cBuiltin E b ts l).run tm h = E.builtin b ts (l.map (eval tm)) h := by
  unfold cBuiltin
  split
  · match l with
    | [] => rfl
    | [x] => exact cLen_eq ts x tm h
    | _ :: _ :: _ => rfl
  · match l with
    | [] => rfl
    | [x] => rfl
    | [x, y] => simp only [cval_eq]; rfl
    | _ :: _ :: _ :: _ => rfl
  · simp only [cargs_eq]

theorem cCall_eq (c : Call) (tm : List Value) (h : AH) : (cCall E c).run tm h = opCall E (eval tm) c h := by
  unfold cCall opCall
  cases c.callee with
  | value f =>
    simp only
    split
    · rename_i g; simp only [cargs_eq, eval, callV]; rfl
    · simp only [cval_eq, cargs_eq]
  | builtin b => simp only [cBuiltin_eq]
  | invoke recv name => simp only [cval_eq, cargs_eq]

theorem cBin_eq (op : BinOp) (t : Nat) (x y : Operand) (tm : List Value) (h : AH) : (cBin E op t x y).run tm h = ofV h (E.bin op t x y (eval tm x) (eval tm y) h) := by
  unfold cBin
  split
  · simp only [cval_eq]
    generalize eval tm x = u
    generalize eval tm y = v
    cases u with
    | int k a => cases v <;> rfl
    | _ => rfl
  · simp only [cval_eq]
    generalize eval tm x = u
    generalize eval tm y = v
    cases u with
    | int k a => cases v <;> rfl
    | _ => rfl
  · simp only [cval_eq]

theorem cop_eq (o : Op) (tm : List Value) (h : AH) : (cop E o).run tm h = E.op (eval tm) o h := by
  unfold cop
  split <;> first
    | exact cLoad_eq ..
    | exact cStore_eq ..
    | exact cBin_eq ..
    | exact cFieldAddr_eq ..
    | exact cIndexAddr_eq ..
    | exact cCall_eq ..
    | (simp only [cval_eq]; rfl)
    | rfl

-- frames

def DRs (m : Mp) : List Deferred → List Deferred → Prop
  | [], [] => True
  | d :: ds, d' :: ds' => DR m d d' ∧ DRs m ds ds'
  | _, _ => False

theorem DRs.mono {m m' : Mp} (e : Ext m m') : ∀ {l l' : List Deferred}, DRs m l l' → DRs m' l l' := by
  intro l
  induction l with
  | nil => intro l' hh; cases l' with
    | nil => trivial
    | cons a b => cases hh
  | cons d ds ih => intro l' hh; cases l' with
    | nil => cases hh
    | cons a b => exact ⟨hh.1.mono e, ih hh.2⟩

/-- the state of a frame, and a state of the model -/
structure SR (m : Mp) (s : St) (a : Act) (w : World) : Prop where
  tm : VRs m s.tm a.tmps.toList
  df : DRs m s.df a.defers
  rep : Rep m s.h w

def RoR (m : Mp) (ro ro' : Option Nat) : Prop := match ro, ro' with
  | none, none => True
  | some l, some l' => m l = some (l', 0)
  | _, _ => False

theorem RoR.mono {m m' : Mp} (e : Ext m m') {a b : Option Nat} (h : RoR m a b) : RoR m' a b := by
  cases a <;> cases b <;> first | trivial | (exact e.at_ _ _ h) | exact h

theorem eval_RR {a : Act} {tm : List Value} (hv : VRs m tm a.tmps.toList) : RR m (eval tm) a.eval := by
  intro x hx
  cases x with
  | tmp t =>
    simp only [eval, tmpAt, Act.eval, nth_eq]
    cases ht : tm[t]? with
    | none =>
      have := hv.get_none ht
      rw [Array.getElem?_toList] at this
      simp [Array.getD_eq_getD_getElem?, this]
      exact VR.undef m
    | some v =>
      obtain ⟨v', h1, h2⟩ := hv.get ht
      rw [Array.getElem?_toList] at h1
      simp [Array.getD_eq_getD_getElem?, h1]
      exact h2
  | const v => exact flatV_VR 10 v hx
  | global g => cases hx
  | func f => exact .func (.func f) rfl (fun i v w a => by simp at a) rfl (fun i v w a => by simp at a)

theorem put_VRs {a : Act} {tm : List Value} {dst : Option Nat} {v v' : Value} (hv : VRs m tm a.tmps.toList) (hx : VR m v v') : VRs m (put tm dst v) (a.put dst v').tmps.toList := by
  cases dst with
  | none => exact hv
  | some d => simp only [put, Act.put, setN_eq, Array.toList_setIfInBounds]; exact hv.set hx

theorem put_defers {a : Act} {dst : Option Nat} {v : Value} : (a.put dst v).defers = a.defers := by cases dst <;> rfl

theorem bool_VR {v v' : Value} (hv : VR m v v') (b : Bool) : v = .bool b ↔ v' = .bool b := by
  constructor
  · rintro rfl; exact hv.bool_inv
  · rintro rfl; cases hv; rfl

theorem yes_eq {ops : Array Oper} {tm : List Value} {a : Act} (hv : VRs m tm a.tmps.toList) (j : Nat) : yes ops.toList tm j = yielded ops a.tmps j := by
  unfold yes yielded
  rw [Array.getElem?_toList]
  cases ops[j]? with
  | none => rfl
  | some o =>
    simp only [Option.bind_some]
    cases o.dst with
    | none => rfl
    | some d =>
      simp only [Option.bind_some, nth_eq]
      cases ht : tm[d]? with
      | none =>
        have := hv.get_none ht
        rw [Array.getElem?_toList] at this
        rw [this]
      | some v =>
        obtain ⟨v', h1, h2⟩ := hv.get ht
        rw [Array.getElem?_toList] at h1
        rw [h1]
        cases h2 <;> rfl

theorem wanted_eq {ops : Array Oper} {tm : List Value} {a : Act} (hv : VRs m tm a.tmps.toList) (o : Oper) : wanted ops.toList tm o.guard = Region.wanted o (yielded ops a.tmps) := by
  unfold wanted Region.wanted
  cases o.guard with
  | none => rfl
  | some g =>
    obtain ⟨j, want⟩ := g
    simp only [yes_eq hv]
    cases yielded ops a.tmps j with
    | none => rfl
    | some b => cases b <;> cases want <;> rfl

/-- what the machine comes to when code has been left -/
def Arr (P : Program) (M : Machine) (b : Frame) (k : List Item) (cs : List Frame) : AX → Act → World → Prop
  | .normal, a, w => Steps P M (lone (b.atR a k) cs w)
  | .exit id, a, w => ∃ k0, exitTo id k0 = exitTo id k ∧ Steps P M (lone (b.atR a (.code (.exit id) :: k0)) cs w)
  | .ret, a, w => ∃ k0, Steps P M (lone (b.atR a (.code .ret :: k0)) cs w)
  | .goto _, _, _ => False

theorem Arr.of_steps {M M' : Machine} {b : Frame} {k : List Item} {cs : List Frame} {x : AX} {a : Act} {w : World} (hs : Steps P M M') (ha : Arr P M' b k cs x a w) : Arr P M b k cs x a w := by
  cases x with
  | normal => exact hs.trans ha
  | exit id => obtain ⟨k0, h1, h2⟩ := ha; exact ⟨k0, h1, hs.trans h2⟩
  | ret => obtain ⟨k0, h2⟩ := ha; exact ⟨k0, hs.trans h2⟩
  | goto l => exact ha

/-- an item that no exit ends at is passed by -/
theorem Arr.pass {M : Machine} {b : Frame} {y : Item} {k : List Item} {cs : List Frame} {x : AX} {a : Act} {w : World} (hy : ∀ id, exitTo id (y :: k) = exitTo id k) (hx : x ≠ .normal) (ha : Arr P M b (y :: k) cs x a w) : Arr P M b k cs x a w := by
  cases x with
  | normal => exact absurd rfl hx
  | exit id => obtain ⟨k0, h1, h2⟩ := ha; exact ⟨k0, by rw [h1, hy], h2⟩
  | ret => exact ha
  | goto l => exact ha

/-- a frame that is entered -/
inductive Entry (P : Program) : Next → (CallKind → Frame) → Prop where
  | enter (f : FuncId) (args : Array Value) : Entry P (.enter f args) (Frame.enter P f args)
  | round (l : Nat) (f : FuncId) (tmps : Array Value) (asg body : Code) : Entry P (.round l f tmps asg body) (Frame.round l f tmps asg body)

def backTo (kind : CallKind) (c : Frame) (v : Value) : Frame := match kind with
  | .normal => c.finish v
  | _ => c

/-- what is called returns: a call of the model's, from a frame -/
def InvAt (q : Bool) (P : Program) (m : Mp) (h : AH) (w : World) (t' : Target) (a' : Array Value) (v : Value) (h' : AH) : Prop :=
  ∃ nx entry, (invoke t' a').run P w = .ok nx w ∧ Entry P nx entry ∧
    ∀ kind c cs, (kind = .normal ∨ (q = true ∧ kind = .deferred ∧ c.mode = .returning)) →
      ∃ m' w' v', Goes m h w m' h' w' ∧ VR m' v v' ∧ Steps P (lone (entry kind) (c :: cs) w) (lone (backTo kind c v') cs w')

/-- a call of it may be a deferred one -/
def free (E : Env) (t : Target) : Bool := match t with
  | .fn fn _ => (match fn with | .func f => (E.con f).isNone | _ => false)
  | _ => false

def InvOK (P : Program) (E : Env) (inv : Inv) : Prop := ∀ t args h v h', inv t args h = some (v, h') → ∀ m w t' a', TR m t t' → VRs m args a'.toList → Rep m h w → InvAt (free E t) P m h w t' a' v h'

/-- code, compiled, and the model's -/
def CodeOK (P : Program) (fn : Nat) (ro : Option Nat) (c : Code) (x : CR) : Prop := ∀ s ax s', x.run s = .ok ax s' → ∀ m w a (b : Frame), b.fn = fn → RoR m ro b.roundOf → SR m s a w →
  ∀ k cs, ∃ m' w' a', Goes m s.h w m' s'.h w' ∧ SR m' s' a' w' ∧ Arr P (lone (b.atR a (.code c :: k)) cs w) b k cs ax a' w'

/-- some operations, from a place in a region on -/
def OpsOK (P : Program) (fn : Nat) (ro : Option Nat) (ops : Array Oper) (l : List Nat) (x : CSt) : Prop := ∀ s s', x.run s = some s' → ∀ m w a (b : Frame), b.fn = fn → RoR m ro b.roundOf → SR m s a w →
  ∀ k cs, ∃ m' w' a', Goes m s.h w m' s'.h w' ∧ SR m' s' a' w' ∧ Steps P (lone (b.atR a (.inRegion ops l :: k)) cs w) (lone (b.atR a' k) cs w')

end Go.Ev
