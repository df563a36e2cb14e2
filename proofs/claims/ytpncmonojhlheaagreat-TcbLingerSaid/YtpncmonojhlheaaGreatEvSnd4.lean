/- A part of a big-step evaluator of the model's language, with the proof that what it comes to, the model comes to for every tape. No conditions. -/
import Derived.Test.YtpncmonojhlheaaGreatEvSnd3
namespace Go.Ev

variable {P : Program} {E : Env} {m : Mp} {h : AH} {w : World} {inv : Inv}

-- deferred calls

theorem step_collected {fr : Frame} {cs : List Frame} {b : Nat} {args : Array Value} {ds calls : List Deferred} {w' : World} (hm : fr.mode = .returning) (hd : fr.defers = { target := .collected b, args } :: ds) (hr : (Instr.takeDeferred b).run P w = .ok calls w') :
    step P (lone fr cs w) = .next (lone { fr with defers := calls ++ ds } cs w') :=
  step_lone_go (by simp [stepG, unwind, hm, hd, Sem.runT_eq, hr, GStep.bare_after])

theorem step_deferred {fr : Frame} {cs : List Frame} {d : Deferred} {ds : List Deferred} {fv : Fn} {cap : Array Value} {nx : Next} {entry : CallKind → Frame} (hm : fr.mode = .returning) (hd : fr.defers = d :: ds) (ht : d.target = .fn fv cap)
    (hi : (invoke d.target d.args).run P w = .ok nx w) (hx : Entry P nx entry) : step P (lone fr cs w) = .next (lone (entry .deferred) ({ fr with defers := ds } :: cs) w) := by
  obtain ⟨t, a⟩ := d
  simp only at ht hi
  subst ht
  refine step_lone_go ?_
  cases hx <;> simp [stepG, unwind, callDeferred, hm, hd, hi]

theorem defers_sound (hi : InvOK P E inv) : ∀ (ds : List Deferred) (h h' : AH), runDefers E inv ds h = some h' → ∀ (m : Mp) (w : World) (fr : Frame) (cs : List Frame), fr.mode = .returning → DRs m ds fr.defers → Rep m h w →
    ∃ m' w', Goes m h w m' h' w' ∧ Steps P (lone fr cs w) (lone { fr with defers := [] } cs w') := by
  intro ds
  induction ds with
  | nil =>
    intro h h' e m w fr cs hm hd hr
    cases e
    refine ⟨m, w, .refl hr, ?_⟩
    have : fr.defers = [] := by
      cases hh : fr.defers with
      | nil => rfl
      | cons a b => rw [hh] at hd; cases hd
    have : ({ fr with defers := [] } : Frame) = fr := by rw [← this]
    rw [this]
    exact .refl P _
  | cons d ds ih =>
    intro h h' e m w fr cs hm hd hr
    cases hh : fr.defers with
    | nil => rw [hh] at hd; cases hd
    | cons d' ds' =>
      rw [hh] at hd
      obtain ⟨hd1, hd2⟩ := hd
      obtain ⟨t', a'⟩ := d'
      obtain ⟨t, a⟩ := d
      obtain ⟨ht, ha⟩ := hd1
      simp only at ht ha
      cases ht with
      | collected hm' =>
        simp only [runDefers] at e
        split at e
        · rename_i hg
          obtain ⟨x, hx, ho⟩ := get_obj hr hg hm'
          cases ho with
          | defd hz =>
            have g := putObj_goes (o := .defd false) (x := .deferred none) hr hg hm' (.defd0 rfl) (fun _ _ _ hh => by cases hh)
            obtain ⟨m2, w2, g2, st⟩ := ih _ h' e m _ { fr with defers := [] ++ ds' } cs hm hd2 g.rep
            exact ⟨m2, w2, g.trans g2, .head (step_collected hm hh (run_takeDeferred hx)) st⟩
        · cases e
      | fn hf hc =>
        simp only [runDefers] at e
        split at e
        · rename_i hh; cases hh
        · rename_i f cap0 heq
          cases heq
          cases hf with
          | func f =>
            split at e
            · cases e
            · rename_i hcon
              split at e
              · rename_i v h1 hiv
                obtain ⟨nx, entry, z1, z2, z3⟩ := hi _ _ h v h1 hiv m w _ _ (.fn (.func f) hc) ha hr
                obtain ⟨m1, w1, v', g1, hv, st1⟩ := z3 .deferred { fr with defers := ds' } cs (.inr ⟨by simp only [free, hcon, Option.isNone_none], rfl, hm⟩)
                obtain ⟨m2, w2, g2, st2⟩ := ih h1 h' e m1 w1 { fr with defers := ds' } cs hm (hd2.mono g1.ext) g1.rep
                exact ⟨m2, w2, g1.trans g2, .head (step_deferred hm hh rfl z1 z2) (Steps.trans st1 st2)⟩
              · cases e
        · cases e

-- results

def getR (P : Program) (w : World) (tmps : Array Value) (r : ResultVar) : Value := match r with
  | .tmp t => tmps.getD t undef
  | .cell a t => match ((do loadVar t (← asAddr (tmps.getD a undef))) : Sem Value).run P w with
    | .ok v _ => v
    | _ => undef

theorem tmpAt_VR {a : Act} {tm : List Value} (hv : VRs m tm a.tmps.toList) (t : Nat) : VR m (tmpAt tm t) (a.tmps.getD t undef) := eval_RR hv (.tmp t) rfl

theorem results_list (hE : E.Types P) (hr : Rep m h w) {tm : List Value} {a : Act} (hv : VRs m tm a.tmps.toList) : ∀ (l : List ResultVar) (out : List Value), E.results tm h l = some out →
    VRs m out (l.map (getR P w a.tmps)) ∧ ∀ x ∈ l, ((match x with
      | .tmp t => pure (a.tmps.getD t undef)
      | .cell q t => do loadVar t (← asAddr (a.tmps.getD q undef))) : Sem Value).run P w = .ok (getR P w a.tmps x) w := by
  intro l
  induction l with
  | nil => intro out e; cases e; exact ⟨.nil, fun x hx => by cases hx⟩
  | cons x l ih =>
    intro out e
    cases x with
    | tmp t =>
      simp only [Env.results] at e
      split at e
      · rename_i out' he
        cases e
        obtain ⟨h1, h2⟩ := ih out' he
        refine ⟨.cons (tmpAt_VR hv t) h1, fun x hx => ?_⟩
        cases hx with
        | head => rfl
        | tail _ hx => exact h2 x hx
      · cases e
    | cell q t =>
      simp only [Env.results] at e
      split at e
      · rename_i v hld
        split at e
        · rename_i out' he
          cases e
          obtain ⟨h1, h2⟩ := ih out' he
          obtain ⟨b, o, hq, hload⟩ := atAddr_some hld
          have hvq := tmpAt_VR hv q
          rw [hq] at hvq
          obtain ⟨b', d, hm', hx'⟩ := vr_ptr hvq
          obtain ⟨v', r1, r2⟩ := loadV_sound hE hr hload hm'
          have hrun : ((do loadVar t (← asAddr (a.tmps.getD q undef))) : Sem Value).run P w = .ok v' w := by
            rw [hx']; simpa [asAddr] using r1
          have hget : getR P w a.tmps (.cell q t) = v' := by simp only [getR, hrun]
          refine ⟨.cons (by rw [hget]; exact r2) h1, fun x hx => ?_⟩
          cases hx with
          | head => rw [hget]; exact hrun
          | tail _ hx => exact h2 x hx
        · cases e
      · cases e

theorem packed {out : List Value} {vs : Array Value} (hvs : VRs m out vs.toList) : VR m (pack out) (if h : vs.size = 1 then vs[0] else .tuple vs) := by
  match out, hvs with
  | [], hvs =>
    have := hvs.nil_inv
    have : vs = #[] := by apply Array.ext'; simpa using this
    subst this
    exact .tuple' .nil
  | [v], hvs =>
    obtain ⟨x, r, hx, hv, hr⟩ := hvs.cons_inv
    have := hr.nil_inv; subst this
    have : vs = #[x] := by apply Array.ext'; simpa using hx
    subst this
    exact hv
  | v :: u :: l, hvs =>
    have hl := hvs.1
    have : ¬ vs.size = 1 := by simp at hl; omega
    rw [dif_neg this]
    exact .tuple (by simpa using hvs.1) (by simpa using hvs.2)

theorem results_sound (hE : E.Types P) (hr : Rep m h w) {fn : Func} {tm : List Value} {a : Act} (hv : VRs m tm a.tmps.toList) {out : List Value} (e : E.results tm h fn.results.toList = some out) :
    ∃ v', (results fn a.tmps).run P w = .ok v' w ∧ VR m (pack out) v' := by
  obtain ⟨h1, h2⟩ := results_list (P := P) hE hr hv _ _ e
  have hm := run_mapM_array (P := P) (w := w) fn.results _ (getR P w a.tmps) h2
  refine ⟨_, (show (results fn a.tmps).run P w = .ok (if h : (fn.results.map (getR P w a.tmps)).size = 1 then (fn.results.map (getR P w a.tmps))[0] else .tuple (fn.results.map (getR P w a.tmps))) w by
    unfold results; rw [Sem.run_bind]
    exact congrArg (fun r : Result (Array Value) => r.andThen fun vs w' => (pure (if h : vs.size = 1 then vs[0] else .tuple vs) : Sem Value).run P w') hm), ?_⟩
  exact packed (by simpa using h1)

-- functions

/-- a function of the model's, called with arguments: it returns -/
def FunAt (P : Program) (m : Mp) (h : AH) (w : World) (f : Nat) (a' : Array Value) (v : Value) (h' : AH) : Prop :=
  ∀ kind cs, ∃ fr m' w' v', Steps P (lone (Frame.enter P f a' kind) cs w) (lone fr cs w') ∧ fr.fn = f ∧ fr.mode = .returning ∧ fr.defers = [] ∧ fr.kind = kind ∧
    (∃ fn, P.funcs[f]? = some fn ∧ (results fn fr.tmps).run P w' = .ok v' w') ∧ Goes m h w m' h' w' ∧ VR m' v v'

/-- .. called plainly, not deferred -/
def FunAtN (P : Program) (m : Mp) (h : AH) (w : World) (f : Nat) (a' : Array Value) (v : Value) (h' : AH) : Prop :=
  ∀ cs, ∃ fr m' w' v', Steps P (lone (Frame.enter P f a' .normal) cs w) (lone fr cs w') ∧ fr.fn = f ∧ fr.mode = .returning ∧ fr.defers = [] ∧ fr.kind = .normal ∧
    (∃ fn, P.funcs[f]? = some fn ∧ (results fn fr.tmps).run P w' = .ok v' w') ∧ Goes m h w m' h' w' ∧ VR m' v v'

theorem FunAt.n {f : Nat} {a' : Array Value} {v : Value} {h' : AH} (hf : FunAt P m h w f a' v h') : FunAtN P m h w f a' v h' := fun cs => hf .normal cs

def Callable (P : Program) (f : Nat) : Prop := ∃ fn, P.funcs[f]? = some fn ∧ (fn.name == "runtime.NumGoroutine") = false ∧ fn.body.isSome = true

theorem callFunc_run {f : Nat} (hc : Callable P f) (args : Array Value) : (callFunc f args).run P w = .ok (.enter f args) w := by
  obtain ⟨fn, h1, h2, h3⟩ := hc
  have h4 : fn.body.isNone = false := by
    cases hb : fn.body with
    | none => rw [hb] at h3; cases h3
    | some b => rfl
  simp only [callFunc, Sem.run_bind, run_program, Result.andThen_ok, h1, h2, h4, Bool.false_eq_true, if_false, Sem.run_pure]

theorem FunAt.back {f : Nat} {a' : Array Value} {v : Value} {h' : AH} (hf : FunAt P m h w f a' v h') (kind : CallKind) (c : Frame) (cs : List Frame) (hk : kind = .normal ∨ (kind = .deferred ∧ c.mode = .returning)) :
    ∃ m' w' v', Goes m h w m' h' w' ∧ VR m' v v' ∧ Steps P (lone (Frame.enter P f a' kind) (c :: cs) w) (lone (backTo kind c v') cs w') := by
  obtain ⟨fr, m', w', v', st, h1, h2, h3, h4, ⟨fn, h5, h6⟩, g, hv⟩ := hf kind (c :: cs)
  refine ⟨m', w', v', g, hv, Steps.trans st (.one ?_)⟩
  rcases hk with rfl | ⟨rfl, hc⟩
  · exact step_leave_returned ⟨h2, h3, h4, fn, h1 ▸ h5, h6⟩
  · refine step_lone_go ?_
    subst h1
    simp only [stepG, unwind, doReturn, h2, h3, h4, h5, Sem.runT_eq, h6, GStep.bare_after, GStep.bare_go, hc, backTo]

theorem FunAtN.back {f : Nat} {a' : Array Value} {v : Value} {h' : AH} (hf : FunAtN P m h w f a' v h') (c : Frame) (cs : List Frame) :
    ∃ m' w' v', Goes m h w m' h' w' ∧ VR m' v v' ∧ Steps P (lone (Frame.enter P f a' .normal) (c :: cs) w) (lone (backTo .normal c v') cs w') := by
  obtain ⟨fr, m', w', v', st, h1, h2, h3, h4, ⟨fn, h5, h6⟩, g, hv⟩ := hf (c :: cs)
  exact ⟨m', w', v', g, hv, Steps.trans st (.one (step_leave_returned ⟨h2, h3, h4, fn, h1 ▸ h5, h6⟩))⟩

theorem leave_sound (hE : E.Types P) (hi : InvOK P E inv) {f : Nat} {fn : Func} (hf : P.funcs[f]? = some fn) {b : Frame} (hb : b.fn = f) (hro : b.roundOf = none) {r : R} {s0 : St} {v : Value} {h' : AH} (e : leave E inv fn r = some (v, h'))
    {M : Machine} {cs : List Frame} (hr : ∀ ax s', r = .ok ax s' → ∃ m' w' a', Goes m s0.h w m' s'.h w' ∧ SR m' s' a' w' ∧ Arr P M b [] cs ax a' w') :
    ∃ fr m' w' v', Steps P M (lone fr cs w') ∧ fr.fn = f ∧ fr.mode = .returning ∧ fr.defers = [] ∧ fr.kind = b.kind ∧
      (∃ fn, P.funcs[f]? = some fn ∧ (results fn fr.tmps).run P w' = .ok v' w') ∧ Goes m s0.h w m' h' w' ∧ VR m' v v' := by
  have fin : ∀ s' m1 w1 (a1 : Act) todo, finish E inv fn s' = some (v, h') → Goes m s0.h w m1 s'.h w1 → SR m1 s' a1 w1 → Steps P M (lone { b.atR a1 todo with mode := .returning } cs w1) →
      ∃ fr m' w' v', Steps P M (lone fr cs w') ∧ fr.fn = f ∧ fr.mode = .returning ∧ fr.defers = [] ∧ fr.kind = b.kind ∧
      (∃ fn, P.funcs[f]? = some fn ∧ (results fn fr.tmps).run P w' = .ok v' w') ∧ Goes m s0.h w m' h' w' ∧ VR m' v v' := by
    intro s' m1 w1 a1 todo e g1 sr1 st1
    unfold finish at e
    split at e
    · cases e
    · rename_i h2 hd
      split at e
      · rename_i out hout
        cases e
        obtain ⟨m2, w2, g2, st2⟩ := defers_sound hi s'.df s'.h _ hd m1 w1 { b.atR a1 todo with mode := .returning } cs rfl sr1.df sr1.rep
        obtain ⟨v', r1, r2⟩ := results_sound (P := P) hE g2.rep (sr1.tm.mono g2.ext) hout
        exact ⟨_, m2, w2, v', Steps.trans st1 st2, hb, rfl, rfl, rfl, ⟨fn, hf, r1⟩, g1.trans g2, r2⟩
      · cases e
  cases r with
  | no => cases e
  | ok ax s' =>
    obtain ⟨m1, w1, a1, g1, sr1, st1⟩ := hr ax s' rfl
    cases ax with
    | normal => exact fin s' m1 w1 a1 [] e g1 sr1 (Steps.trans st1 (.one (stepR_end hro)))
    | ret =>
      obtain ⟨k0, st1⟩ := st1
      exact fin s' m1 w1 a1 _ e g1 sr1 (Steps.trans st1 (.one (stepR_ret hro)))
    | exit id => cases e
    | goto l => cases e

theorem cfun_sound (hE : E.Types P) (hi : InvOK P E inv) (hd : DrawOK P E inv) {n f : Nat} {args : List Value} {v : Value} {h' : AH} (e : (cfun E inv n f).run args h = some (v, h')) {a' : Array Value} (hargs : VRs m args a'.toList) (hr : Rep m h w) :
    Callable P f ∧ FunAt P m h w f a' v h' := by
  unfold cfun at e
  split at e
  · cases e
  · rename_i fn hfn
    have hf := hE.fn f fn hfn
    have hok := hE.code f fn hfn
    unfold okFn at hok
    rw [Bool.and_eq_true] at hok
    split at e
    · cases e
    · rename_i c hbody
      rw [hbody] at hok
      refine ⟨⟨fn, hf, by simpa using hok.1, by rw [hbody]; rfl⟩, ?_⟩
      intro kind cs
      simp only at e
      let b : Frame := { (default : Frame) with fn := f, kind := kind }
      have hro : b.roundOf = none := rfl
      let a0 : Act := { tmps := a' ++ Array.replicate (fn.ntmps - a'.size) undef, defers := [] }
      have henter : Frame.enter P f a' kind = b.atR a0 [.code c] := by
        simp [Frame.enter, Frame.atR, hf, hbody, b, a0]
        rfl
      have hsr : SR m ⟨args ++ List.replicate (fn.ntmps - args.length) undef, [], h⟩ a0 w := by
        refine ⟨?_, trivial, hr⟩
        have hl : a'.size = args.length := by have := hargs.1; simpa using this.symm
        have : a0.tmps.toList = a'.toList ++ List.replicate (fn.ntmps - args.length) undef := by simp [a0, hl]
        rw [this]
        exact hargs.append (.replicate (VR.undef m) _)
      have := leave_sound (m := m) (w := w) (b := b) (s0 := ⟨args ++ List.replicate (fn.ntmps - args.length) undef, [], h⟩) (M := lone (Frame.enter P f a' kind) cs w) (cs := cs) hE hi hf rfl hro e (fun ax s' hax => by
        have := ccode_sound hE hi hd f none n c hok.2 _ ax s' hax m w a0 b rfl trivial hsr [] cs
        rw [henter]
        exact this)
      exact this

end Go.Ev
