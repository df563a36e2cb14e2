/- A part of a big-step evaluator of the model's language, with the proof that what it comes to, the model comes to for every tape. No conditions. -/
import Derived.Test.YtpncmonojhlheaaGreatEvSnd2
namespace Go.Ev

variable {P : Program} {E : Env} {m : Mp} {h : AH} {w : World} {inv : Inv}

-- code

/-- a region that draws -/
def DrawOK (P : Program) (E : Env) (inv : Inv) : Prop := ∀ (fn : Nat) (ro : Option Nat) (id : Nat) (ops : Array Oper), (∀ o ∈ ops.toList, okOp o.op = true) →
  CodeOK P fn ro (.region id ops true) ⟨fun s => R.of ((cdraw E inv ro.isSome ops.toList).run s)⟩

theorem SR.inRo {s : St} {a : Act} (hs : SR m s a w) : SR m s a w := hs

theorem step_rangeFunc {b : Frame} {a : Act} {k : List Item} {cs : List Frame} {g : Operand} {ps : Array Tmp} {assign body : Code} {l : Nat} {mark : List Deferred} {w₁ w₁' w₂ : World} {d : Deferred} {nx : Next} {entry : CallKind → Frame}
    (he : (Instr.enterLoop b.fn a.tmps ps assign body b.roundOf).run P w = .ok (l, mark) w₁)
    (hres : (resolve a.eval (rangeCall g l) 0).run P w₁ = .ok d w₁') (hinv : (invoke d.target d.args).run P w₁' = .ok nx w₂) (hx : Entry P nx entry) :
    step P (lone (b.atR a (.code (.rangeFunc g ps assign body) :: k)) cs w) =
      .next (lone (entry .normal) (b.atR { a with defers := mark ++ a.defers } (.inRangeFunc l :: k) :: cs) w₂) :=
  step_lone_go (by
    have hev := Frame.eval_atR b { a with defers := mark ++ a.defers } (.inRangeFunc l :: k)
    simp only [Frame.atR] at hev
    have hres' : Sem.run P (resolve ({ tmps := a.tmps, defers := mark ++ a.defers } : Act).eval { callee := .value g, args := #[.const (.func (.yield l) #[] #[])], argTypes := #[] } 0) w₁ = .ok d w₁' := hres
    cases hx <;> simp [stepG, stepG.exec, Frame.atR, Sem.runT_eq, he, GStep.bare_after, stepG.apply, hev, Sem.run_bind, hres', hinv, Result.andThen])

theorem get_obj (hr : Rep m h w) {n b d : Nat} {o : AObj} (hg : h.get n = some o) (hm : m n = some (b, d)) : ∃ x, w.heap[b]? = some x ∧ OR m d o x := by
  obtain ⟨b', d', x, h1, h2, h3⟩ := hr.obj n o hg
  rw [hm] at h1; cases h1
  exact ⟨x, h2, h3⟩

/-- what a loop's end leaves to be done -/
theorem afterJump_sound {b : Frame} {c : Option Code} {s : St} {ax : AX} {s' : St} (e : afterJump c s = .ok ax s') {a : Act} {k : List Item} {cs : List Frame} :
    s' = s ∧ Arr P (lone (b.atR a ((c.map Item.code).toList ++ k)) cs w) b k cs ax a w := by
  unfold afterJump at e
  split at e
  · cases e; exact ⟨rfl, Steps.refl P _⟩
  · cases e; exact ⟨rfl, k, rfl, Steps.refl P _⟩
  · cases e; exact ⟨rfl, k, Steps.refl P _⟩
  · cases e

theorem endLoop_sound {b : Frame} {l lb : Nat} {s : St} {h1 : AH} {ax : AX} {s' : St} {a : Act} {k : List Item} {cs : List Frame} (hr : Rep m h1 w) (hm : m l = some (lb, 0)) (e : endLoop l s h1 = .ok ax s') (htm : VRs m s.tm a.tmps.toList) (hdf : DRs m s.df a.defers) :
    ∃ w', Goes m h1 w m s'.h w' ∧ SR m s' a w' ∧ Arr P (lone (b.atR a (.endRangeFunc lb :: k)) cs w) b k cs ax a w' := by
  unfold endLoop at e
  split at e
  · rename_i r hg
    split at e
    · cases e
    · rename_i hst
      obtain ⟨x, hx, ho⟩ := get_obj hr hg hm
      cases ho with
      | loop hd hs hp hf ht hps ha hb hdfs hok =>
        rename_i l'
        have hnb : l'.state ≠ .busy := by rw [← hs]; exact hst
        have hrun := run_endLoop (P := P) hx hnb
        have g : Goes m h1 w m (h1.put l (.loop { r with state := .exhausted })) { w with heap := w.heap.setIfInBounds lb (.loop { l' with state := .exhausted }) } :=
          putObj_goes hr hg hm (.loop rfl rfl hp hf ht hps ha hb hdfs hok) (fun _ _ _ hh => by cases hh)
        obtain ⟨rfl, arr⟩ := afterJump_sound (P := P) (w := w.putObj lb (.loop { l' with state := .exhausted })) (b := b) (a := a) (k := k) (cs := cs) e
        refine ⟨_, g, ⟨htm, hdf, g.rep⟩, .of_steps (.one (stepR_endRangeFunc hrun)) ?_⟩
        rw [hp] at arr; exact arr
  · cases e

theorem loopObj {fn : Nat} {tm : List Value} {a : Act} {ps : Array Nat} {asg body : Code} {d d' : Nat} (htm : VRs m tm a.tmps.toList) (hd : m d = some (d', 0)) (hok : okCode asg = true ∧ okCode body = true) :
    OR m 0 (.loop (mkLoop fn tm ps asg body d)) (.loop { state := .ready, pending := none, fn, tmps := a.tmps, params := ps, assign := asg, body, defers := d' }) :=
  .loop rfl rfl rfl rfl (by simpa [mkLoop] using htm) rfl rfl rfl hd hok

/-- entering a range over a function -/
theorem enter_sound {asg body : Code} (hok : okCode asg = true ∧ okCode body = true) {fn : Nat} {ro : Option Nat} {b : Frame} {ps : Array Nat} {s s1 : St} {l : Nat} {a : Act} (hb : b.fn = fn) (hro : RoR m ro b.roundOf) (hs : SR m s a w) (e : enterLoop fn ps asg body ro s = some (l, s1)) :
    ∃ m1 w1 lb mark, (Instr.enterLoop b.fn a.tmps ps asg body b.roundOf).run P w = .ok (lb, mark) w1 ∧ Goes m s.h w m1 s1.h w1 ∧ m1 l = some (lb, 0) ∧ SR m1 s1 { a with defers := mark ++ a.defers } w1 := by
  subst hb
  cases ro with
  | none =>
    have hbn : b.roundOf = none := by
      cases hh : b.roundOf with
      | none => rfl
      | some l => rw [hh] at hro; cases hro
    simp only [enterLoop, Option.some.injEq, Prod.mk.injEq] at e
    obtain ⟨rfl, rfl⟩ := e
    have g1 : Goes m s.h w _ (s.h.new (.defd true)) (w.alloc (.deferred (some []))) := .new hs.rep (.defd rfl)
    have hself := more1_self m s.h w (.deferred (some []))
    have htm := hs.tm.mono g1.ext
    have ho := (loopObj (fn := b.fn) (ps := ps) (asg := asg) (body := body) htm hself hok)
    have g2 := Goes.new g1.rep (ho.mono (ext_more g1.rep _))
    have hnext : (s.h.new (.defd true)).next = s.h.next + 1 := rfl
    have hsz : (w.alloc (.deferred (some []))).heap.size = w.heap.size + 1 := World.size_alloc ..
    have hself2 := more1_self (more1 m s.h w (.deferred (some []))) (s.h.new (.defd true)) (w.alloc (.deferred (some []))) (.loop { state := .ready, pending := none, fn := b.fn, tmps := a.tmps, params := ps, assign := asg, body, defers := w.heap.size })
    rw [hnext, hsz] at hself2
    refine ⟨_, _, _, [{ target := .collected w.heap.size, args := #[] }], by rw [hbn]; exact run_enterLoop_outer b.fn a.tmps ps asg body, g1.trans g2, hself2, ⟨htm.mono g2.ext, ?_, g2.rep⟩⟩
    exact And.intro ⟨.collected (g2.ext.at_ _ _ hself), .nil⟩ ((hs.df.mono g1.ext).mono g2.ext)
  | some l0 =>
    cases hbr : b.roundOf with
    | none => rw [hbr] at hro; cases hro
    | some lb0 =>
      rw [hbr] at hro
      simp only [enterLoop] at e
      split at e
      · rename_i r hg
        cases e
        obtain ⟨x, hx, ho⟩ := get_obj hs.rep hg hro
        cases ho with
        | loop hd hst hp hf ht hps ha hbd hdfs _ =>
          rename_i l'
          have ho := (loopObj (fn := b.fn) (ps := ps) (asg := asg) (body := body) hs.tm hdfs hok)
          have g2 := Goes.new hs.rep (ho.mono (ext_more hs.rep _))
          refine ⟨_, _, _, _, run_enterLoop_inner hx b.fn a.tmps ps asg body, g2, more1_self .., ⟨hs.tm.mono g2.ext, hs.df.mono g2.ext, g2.rep⟩⟩
      · cases e

theorem rangeF_sound (hi : InvOK P E inv) {fn : Nat} {ro : Option Nat} {f : Operand} {ps : Array Nat} {asg body : Code} (hf : okX f = true) (hok : okCode asg = true ∧ okCode body = true) :
    CodeOK P fn ro (.rangeFunc f ps asg body) ⟨fun s => rangeF inv (eval s.tm f) (enterLoop fn ps asg body ro s)⟩ := by
  intro s ax s' e m w a b hb hro hs k cs
  simp only at e
  cases he : enterLoop fn ps asg body ro s with
  | none => rw [he] at e; cases e
  | some p =>
    obtain ⟨l, s1⟩ := p
    rw [he] at e
    simp only [rangeF] at e
    obtain ⟨m1, w1, lb, mark, hrun, g1, hl, sr1⟩ := enter_sound (P := P) hok hb hro hs he
    split at e
    · rename_i t args hcv
      split at e
      · rename_i v h2 hiv
        have hfv : VR m1 (eval s.tm f) (a.eval f) := (eval_RR hs.tm f hf).mono g1.ext
        have hyl : VRs m1 [.func (.yield l) #[] #[]] [.func (.yield lb) #[] #[]] := .cons (.func (.yield hl) rfl (fun i v w a => by simp at a) rfl (fun i v w a => by simp at a)) .nil
        obtain ⟨t', a', q1, q2, q3⟩ := callV_sound hcv hfv hyl
        obtain ⟨nx, entry, z1, z2, z3⟩ := hi t args s1.h v h2 hiv m1 w1 t' a' q2 q3 sr1.rep
        have hres : (resolve a.eval (rangeCall f lb) 0).run P w1 = .ok { target := t', args := a' } w1 := by
          simp only [resolve]
          rw [q1 _ (by simp [Act.eval])]
          rfl
        obtain ⟨m2, w2, v', g2, hv, st⟩ := z3 .normal (b.atR { a with defers := mark ++ a.defers } (.inRangeFunc lb :: k)) cs (.inl rfl)
        obtain ⟨w3, g3, sr3, arr⟩ := endLoop_sound (P := P) (b := b) (a := { a with defers := mark ++ a.defers }) (k := k) (cs := cs) g2.rep (g2.ext.at_ _ _ hl) e (sr1.tm.mono g2.ext) (sr1.df.mono g2.ext)
        refine ⟨m2, w3, _, (g1.trans g2).trans g3, sr3, .of_steps (.head (step_rangeFunc hrun hres z1 z2) ?_) arr⟩
        simp only [backTo, finish_atR_inRangeFunc] at st
        exact st
      · cases e
    · cases e

theorem ccode_sound (hE : E.Types P) (hi : InvOK P E inv) (hd : DrawOK P E inv) (fn : Nat) (ro : Option Nat) (n : Nat) (c : Code) (hok : okCode c = true) : CodeOK P fn ro c (ccode E inv fn ro n c) := by
  induction c with
  | skip =>
    intro s ax s' e m w a b hb hro hs k cs
    cases e
    exact ⟨m, w, a, .refl hs.rep, hs, .one stepR_skip⟩
  | region id ops draw =>
    have hok' : ∀ o ∈ ops.toList, okOp o.op = true := fun o ho => (List.all_eq_true.1 hok) o ho
    cases draw with
    | true => exact hd fn ro id ops hok'
    | false => exact region_sound hE hi hok' id
  | seq x y ihx ihy =>
    simp only [okCode, Bool.and_eq_true] at hok
    have ihx := ihx hok.1
    have ihy := ihy hok.2
    intro s ax s' e m w a b hb hro hs k cs
    have e : ((ccode E inv fn ro n x).run s).andThen (ccode E inv fn ro n y).run = .ok ax s' := e
    cases hx : (ccode E inv fn ro n x).run s with
    | no => rw [hx] at e; cases e
    | ok ax1 s1 =>
      rw [hx] at e
      obtain ⟨m1, w1, a1, g1, sr1, st1⟩ := ihx s ax1 s1 hx m w a b hb hro hs (.code y :: k) cs
      have st1 := Arr.of_steps (.one stepR_seq) st1
      cases ax1 with
      | normal =>
        obtain ⟨m2, w2, a2, g2, sr2, st2⟩ := ihy s1 ax s' e m1 w1 a1 b hb (hro.mono g1.ext) sr1 k cs
        exact ⟨m2, w2, a2, g1.trans g2, sr2, .of_steps st1 st2⟩
      | exit id => cases e; exact ⟨m1, w1, a1, g1, sr1, .pass (fun _ => rfl) (by simp) st1⟩
      | ret => cases e; exact ⟨m1, w1, a1, g1, sr1, .pass (fun _ => rfl) (by simp) st1⟩
      | goto l => exact st1.elim
  | cond x c1 c2 ih1 ih2 =>
    simp only [okCode, Bool.and_eq_true] at hok
    have ih1 := ih1 hok.1.2
    have ih2 := ih2 hok.2
    intro s ax s' e m w a b hb hro hs k cs
    have e : R.if' ((cval x).run s.tm) (fun t => match t with | true => (ccode E inv fn ro n c1).run s | false => (ccode E inv fn ro n c2).run s) = .ok ax s' := e
    rw [cval_eq] at e
    unfold R.if' at e
    split at e
    · rename_i t ht
      have hx := eval_RR hs.tm x hok.1.1
      rw [ht] at hx
      have hst := stepR_cond (P := P) (b := b) (a := a) (k := k) (cs := cs) (w := w) (x := c1) (y := c2) hx.bool_inv
      cases t with
      | true =>
        obtain ⟨m1, w1, a1, g1, sr1, st1⟩ := ih1 s ax s' e m w a b hb hro hs k cs
        exact ⟨m1, w1, a1, g1, sr1, .of_steps (.one hst) st1⟩
      | false =>
        obtain ⟨m1, w1, a1, g1, sr1, st1⟩ := ih2 s ax s' e m w a b hb hro hs k cs
        exact ⟨m1, w1, a1, g1, sr1, .of_steps (.one hst) st1⟩
    · cases e
  | block id c ih =>
    have ih := ih hok
    intro s ax s' e m w a b hb hro hs k cs
    replace e : ((ccode E inv fn ro n c).run s).inBlock id = .ok ax s' := e
    cases hx : (ccode E inv fn ro n c).run s with
    | no => rw [hx] at e; cases e
    | ok ax1 s1 =>
      rw [hx] at e
      obtain ⟨m1, w1, a1, g1, sr1, st1⟩ := ih s ax1 s1 hx m w a b hb hro hs (.inBlock id :: k) cs
      have st1 := Arr.of_steps (.one stepR_block) st1
      cases ax1 with
      | normal => cases e; exact ⟨m1, w1, a1, g1, sr1, Steps.trans st1 (.one stepR_inBlock)⟩
      | exit j =>
        obtain ⟨k0, q1, q2⟩ := st1
        simp only [R.inBlock] at e
        cases hj : Nat.beq j id with
        | true =>
          rw [hj] at e
          have := Nat.eq_of_beq_eq_true hj; subst this
          cases e
          refine ⟨m1, w1, a1, g1, sr1, Steps.trans q2 (.one (stepR_exit ?_))⟩
          rw [q1]; simp [exitTo]
        | false =>
          rw [hj] at e
          cases e
          have hne := beq_false.1 hj
          refine ⟨m1, w1, a1, g1, sr1, k0, ?_, q2⟩
          rw [q1]
          have : (id == j) = false := by simp; exact fun hh => hne hh.symm
          simp [exitTo, this]
      | ret => cases e; exact ⟨m1, w1, a1, g1, sr1, st1⟩
      | goto l => exact st1.elim
  | loop c ih =>
    have ih := ih hok
    intro s ax s' e m w a b hb hro hs k cs
    obtain ⟨m1, w1, a1, g1, sr1, st1⟩ := loopN_sound ih n s ax s' e m w a b hb hro hs k cs
    exact ⟨m1, w1, a1, g1, sr1, .of_steps (.one stepR_loop) st1⟩
  | rangeFunc f ps asg body ih1 ih2 =>
    simp only [okCode, Bool.and_eq_true] at hok
    exact rangeF_sound hi hok.1.1 ⟨hok.1.2, hok.2⟩
  | exit id =>
    intro s ax s' e m w a b hb hro hs k cs
    cases e
    exact ⟨m, w, a, .refl hs.rep, hs, k, rfl, .refl P _⟩
  | scope c ih =>
    have ih := ih hok
    intro s ax s' e m w a b hb hro hs k cs
    have e : ((ccode E inv fn ro n c).run s).inScope = .ok ax s' := e
    cases hx : (ccode E inv fn ro n c).run s with
    | no => rw [hx] at e; cases e
    | ok ax1 s1 =>
      rw [hx] at e
      obtain ⟨m1, w1, a1, g1, sr1, st1⟩ := ih s ax1 s1 hx m w a b hb hro hs (.inScope c :: k) cs
      have st1 := Arr.of_steps (.one stepR_scope) st1
      cases ax1 with
      | normal => cases e; exact ⟨m1, w1, a1, g1, sr1, Steps.trans st1 (.one stepR_inScope)⟩
      | exit id => cases e; exact ⟨m1, w1, a1, g1, sr1, .pass (fun _ => rfl) (by simp) st1⟩
      | ret => cases e; exact ⟨m1, w1, a1, g1, sr1, .pass (fun _ => rfl) (by simp) st1⟩
      | goto l => exact st1.elim
  | label l =>
    intro s ax s' e m w a b hb hro hs k cs
    cases e
    exact ⟨m, w, a, .refl hs.rep, hs, .one stepR_label⟩
  | goto l =>
    intro s ax s' e
    cases e
  | ret =>
    intro s ax s' e m w a b hb hro hs k cs
    cases e
    exact ⟨m, w, a, .refl hs.rep, hs, k, .refl P _⟩
  | refuse why =>
    intro s ax s' e
    cases e

end Go.Ev
