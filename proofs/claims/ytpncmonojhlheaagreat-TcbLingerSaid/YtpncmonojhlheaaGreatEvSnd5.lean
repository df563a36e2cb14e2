/- A part of a big-step evaluator of the model's language, with the proof that what it comes to, the model comes to for every tape. No conditions. -/
import Derived.Test.YtpncmonojhlheaaGreatEvSnd4
namespace Go.Ev

variable {P : Program} {E : Env} {m : Mp} {h : AH} {w : World} {inv : Inv}

-- rounds

theorem putAll_VRs : ∀ (ps : List Nat) (tm : List Value) (tm' : Array Value) (args args' : List Value), VRs m tm tm'.toList → VRs m args args' →
    VRs m (putAll tm ps args) ((ps.zip args').foldl (fun (t : Array Value) (x : Nat × Value) => t.setIfInBounds x.1 x.2) tm').toList := by
  intro ps
  induction ps with
  | nil => intro tm tm' args args' h1 h2; simpa [putAll] using h1
  | cons p ps ih =>
    intro tm tm' args args' h1 h2
    cases args with
    | nil =>
      rw [h2.nil_inv]
      simpa [putAll] using h1
    | cons v vs =>
      obtain ⟨x, r, rfl, hv, hr⟩ := h2.cons_inv
      simp only [putAll, List.zip_cons_cons, List.foldl_cons]
      refine ih _ _ _ _ ?_ hr
      rw [setN_eq, Array.toList_setIfInBounds]
      exact h1.set hv

section
variable {b : Frame} {a : Act} {k : List Item} {c : Frame} {cs : List Frame} {kind : CallKind}

theorem step_round_end {l : Nat} {v : Value} {w' : World} (hb : b.roundOf = some l) (hk : b.kind = kind) (hc : kind = .normal ∨ (kind = .deferred ∧ c.mode = .returning)) (hr : (Instr.endRound l none).run P w = .ok v w') :
    step P (lone (b.atR a []) (c :: cs) w) = .next (lone (backTo kind c v) cs w') := by
  subst hk
  rcases hc with hk | ⟨hk, hm⟩
  · exact step_lone_go (by simp [stepG, stepG.exec, Frame.atR, hb, hk, Sem.runT_eq, hr, doReturn, backTo])
  · exact step_lone_go (by simp [stepG, stepG.exec, Frame.atR, hb, hk, Sem.runT_eq, hr, doReturn, backTo, hm])

theorem step_round_ret {l : Nat} {v : Value} {w' : World} (hb : b.roundOf = some l) (hk : b.kind = kind) (hc : kind = .normal ∨ (kind = .deferred ∧ c.mode = .returning)) (hr : (Instr.endRound l (some .ret)).run P w = .ok v w') :
    step P (lone (b.atR a (.code .ret :: k)) (c :: cs) w) = .next (lone (backTo kind c v) cs w') := by
  subst hk
  rcases hc with hk | ⟨hk, hm⟩
  · exact step_lone_go (by simp [stepG, stepG.exec, Frame.atR, hb, hk, Sem.runT_eq, hr, doReturn, backTo])
  · exact step_lone_go (by simp [stepG, stepG.exec, Frame.atR, hb, hk, Sem.runT_eq, hr, doReturn, backTo, hm])

theorem step_round_exit {l id : Nat} {v : Value} {w' : World} (hb : b.roundOf = some l) (hk : b.kind = kind) (hc : kind = .normal ∨ (kind = .deferred ∧ c.mode = .returning)) (hx : exitTo id k = none) (hr : (Instr.endRound l (some (.exit id))).run P w = .ok v w') :
    step P (lone (b.atR a (.code (.exit id) :: k)) (c :: cs) w) = .next (lone (backTo kind c v) cs w') := by
  subst hk
  rcases hc with hk | ⟨hk, hm⟩
  · exact step_lone_go (by simp [stepG, stepG.exec, Frame.atR, hb, hk, hx, Sem.runT_eq, hr, doReturn, backTo])
  · exact step_lone_go (by simp [stepG, stepG.exec, Frame.atR, hb, hk, hx, Sem.runT_eq, hr, doReturn, backTo, hm])
end

theorem cround_sound (hE : E.Types P) (hi : InvOK P E inv) (hd : DrawOK P E inv) {n l lb : Nat} {args : List Value} {v : Value} {h' : AH} (e : cround E inv n l args h = some (v, h')) (hm : m l = some (lb, 0))
    {a' : Array Value} (hargs : VRs m args a'.toList) (hr : Rep m h w) : ∀ q cap, InvAt q P m h w (.fn (.yield lb) cap) a' v h' := by
  intro q cap
  unfold cround at e
  split at e
  · rename_i r hg
    obtain ⟨x, hx, ho⟩ := get_obj hr hg hm
    cases ho with
    | loop hz hs hp hf ht hps ha hb hdfs hok =>
      rename_i l'
      cases hn : Nat.beq args.length r.params.size with
      | false => rw [hn] at e; cases e
      | true =>
        rw [hn] at e
        have hn := Nat.eq_of_beq_eq_true hn
        simp only [cond_true] at e
        have hsz : a'.size = l'.params.size := by
          have := hargs.1
          rw [← hps]
          simp at this ⊢; omega
        have hy := run_yield (P := P) hx hsz
        refine ⟨_, _, hy, .round lb l'.fn _ l'.assign l'.body, ?_⟩
        intro kind c cs hkind
        replace hkind : kind = .normal ∨ (kind = .deferred ∧ c.mode = .returning) := hkind.imp id And.right
        generalize hT : ((l'.params.zip a').foldl (fun (tmps : Array Value) (x : Nat × Value) => match x with | (t, a) => tmps.setIfInBounds t a) l'.tmps) = T
        have htm : VRs m (putAll r.tmps.toList r.params.toList args) T.toList := by
          have := putAll_VRs r.params.toList r.tmps.toList l'.tmps args a'.toList ht hargs
          rw [← hT, ← Array.foldl_toList, Array.toList_zip, ← hps]
          exact this
        let b : Frame := { (default : Frame) with fn := l'.fn, kind := kind, roundOf := some lb }
        have hentry : Frame.round lb l'.fn T l'.assign l'.body kind = b.atR { tmps := T, defers := [] } [.code l'.assign, .beginRound, .code l'.body] := rfl
        rw [hentry]
        -- the assignment
        generalize hra : (ccode E inv r.fn (some l) n r.assign).run ⟨putAll r.tmps.toList r.params.toList args, [], h⟩ = ra at e
        unfold midRound at e
        split at e
        · rename_i ax s1
          split at e
          · split at e
            · rename_i hdf
              split at e
              · rename_i r1 hg1
                split at e
                · rename_i hready
                  obtain ⟨m1, w1, a1, g1, sr1, st1⟩ := ccode_sound hE hi hd r.fn (some l) n r.assign hok.1 _ _ _ hra m w { tmps := T, defers := [] } b hf.symm hm ⟨htm, trivial, hr⟩ [.beginRound, .code l'.body] (c :: cs)
                  rw [ha] at st1
                  have hm1 := g1.ext.at_ _ _ hm
                  obtain ⟨x1, hx1, ho1⟩ := get_obj sr1.rep hg1 hm1
                  cases ho1 with
                  | loop hz1 hs1 hp1 hf1 ht1 hps1 ha1 hb1 hdfs1 hok1 =>
                    rename_i l1
                    have hbr := run_beginRound (P := P) hx1 (by rw [← hs1]; exact hready)
                    have g2 := putObj_goes (o := .loop { r1 with state := .busy }) (x := .loop { l1 with state := .busy }) sr1.rep hg1 hm1 (.loop rfl rfl hp1 hf1 ht1 hps1 ha1 hb1 hdfs1 hok1) (fun _ _ _ hh => by cases hh)
                    have sr2 : SR m1 ⟨s1.tm, [], s1.h.put l (.loop { r1 with state := .busy })⟩ a1 (w1.putObj lb (.loop { l1 with state := .busy })) := ⟨sr1.tm, hdf ▸ sr1.df, g2.rep⟩
                    dsimp only at e
                    generalize hrb : (ccode E inv r.fn (some l) n r.body).run ⟨s1.tm, [], s1.h.put l (.loop { r1 with state := .busy })⟩ = rb at e
                    cases rb with
                    | no => cases e
                    | ok ax2 s2 =>
                      simp only [endRound] at e
                      split at e
                      · rename_i hdf2
                        split at e
                        · rename_i r2 hg2
                          cases e
                          obtain ⟨m3, w3, a3, g3, sr3, st3⟩ := ccode_sound hE hi hd r.fn (some l) n r.body hok.2 _ _ _ hrb m1 _ a1 b hf.symm hm1 sr2 [] (c :: cs)
                          rw [hb] at st3
                          have hm3 := g3.ext.at_ _ _ hm1
                          obtain ⟨x3, hx3, ho3⟩ := get_obj sr3.rep hg2 hm3
                          cases ho3 with
                          | loop hz3 hs3 hp3 hf3 ht3 hps3 ha3 hb3 hdfs3 hok3 =>
                            rename_i l3
                            have her := fun jump => run_endRound (P := P) jump hx3
                            have hst : (if ax2.code.isNone = true then LoopState.ready else LoopState.done) = cond ax2.code.isNone .ready .done := by cases ax2.code.isNone <;> rfl
                            have g4 := putObj_goes (o := .loop { r2 with state := cond ax2.code.isNone .ready .done, pending := ax2.code }) (x := .loop { l3 with state := if ax2.code.isNone then .ready else .done, pending := ax2.code }) sr3.rep hg2 hm3
                              (.loop rfl hst.symm rfl hf3 ht3 hps3 ha3 hb3 hdfs3 hok3) (fun _ _ _ hh => by cases hh)
                            refine ⟨m3, _, .bool ax2.code.isNone, ((g1.trans g2).trans g3).trans g4, .bool _, ?_⟩
                            have st1 : Steps P _ _ := st1
                            refine st1.trans (.head (stepR_beginRound rfl hbr) ?_)
                            cases ax2 with
                            | normal => exact Steps.trans st3 (.one (step_round_end rfl rfl hkind (her none)))
                            | ret =>
                              obtain ⟨k0, st3⟩ := st3
                              exact Steps.trans st3 (.one (step_round_ret rfl rfl hkind (her (some .ret))))
                            | exit id =>
                              obtain ⟨k0, hk0, st3⟩ := st3
                              exact Steps.trans st3 (.one (step_round_exit rfl rfl hkind (by rw [hk0]; rfl) (her (some (.exit id)))))
                            | goto t => exact st3.elim
                        · cases e
                      · cases e
                · cases e
              · cases e
            · cases e
          · cases e
        · cases e
  · cases e

-- methods

theorem methodOf_sound (hE : E.Types P) (hr : Rep m h w) {t f : Nat} {v v' x : Value} {name : String} (e : E.methodOf t v name h = some (f, x)) (hv : VR m v v') :
    ∃ x', (method (P.types.size + Made.depth) t v' name).run P w = .ok (f, x') w ∧ VR m x x' := by
  have hdep : ∃ k, P.types.size + Made.depth = k + 1 := by
    have : 0 < Made.depth := by decide
    exact ⟨P.types.size + Made.depth - 1, by omega⟩
  obtain ⟨k, hk⟩ := hdep
  rw [hk]
  unfold Env.methodOf at e
  split at e
  · rename_i i hi
    split at e
    · rename_i mm hmm
      obtain ⟨inf, q1, _, _, _, _, q6⟩ := run_info hE hi w
      have hfind : inf.methods.find? (fun x => x.name == name) = some mm := by
        rw [← Array.find?_toList, q6]; exact hmm
      cases hp : mm.path.isEmpty with
      | false => rw [hp] at e; cases e
      | true =>
        rw [hp] at e
        simp only [cond_true] at e
        have hpath : mm.path.toList = [] := by
          have : mm.path = #[] := by simpa using hp
          rw [this]
        have run : ∀ (fp : Nat × Bool) y, mm.func = some fp → (receiverAt t (.val v') fp.2 (some ((name.splitOn ".").getLastD name))).run P w = .ok y w → (method (k + 1) t v' name).run P w = .ok (fp.1, y) w := by
          intro fp y hfp hy
          obtain ⟨f0, p0⟩ := fp
          simp only [method, Sem.run_bind, q1, Result.andThen_ok, hfind, hpath, follow, Sem.run_pure, hfp, hp, if_true]
          rw [hy]
          rfl
        split at e
        · rename_i f0 hf0 hu
          cases e
          refine ⟨v', run _ _ hf0 ?_, hv⟩
          simp only [receiverAt, Sem.run_bind, run_und_ty hE hi, Result.andThen_ok, hu, Place.get, Sem.run_pure]
        · rename_i f0 el hf0 hu
          split at e
          · rename_i y hld
            cases e
            obtain ⟨b, o, hq, hload⟩ := atAddr_some hld
            subst hq
            obtain ⟨b', d, hm', rfl⟩ := vr_ptr hv
            obtain ⟨y', r1, r2⟩ := loadV_sound hE hr hload hm'
            refine ⟨y', run _ _ hf0 ?_, r2⟩
            have hchk : ∀ (ts : Array TypeId) (q : Addr) (s1 s2 : String), (Builtin.ssaWrapNilChk_ ts t #[.pointer (some q), strVal s1, strVal s2]).run P w = .ok (.pointer (some q)) w := fun _ _ _ _ => rfl
            simp only [receiverAt, Sem.run_bind, run_und_ty hE hi, Result.andThen_ok, hu, Place.get, Sem.run_pure, hchk, asAddr, r1]
          · cases e
        · rename_i f0 hf0 hn
          cases e
          refine ⟨v', run _ _ hf0 ?_, hv⟩
          simp only [receiverAt, Sem.run_bind, run_und_ty hE hi, Result.andThen_ok]
          generalize i.und = u at hn
          cases u <;> first | (simp [Place.get]; done) | exact absurd rfl (hn _)
        · cases e
    · cases e
  · cases e

-- the whole

structure Env.Cons (P : Program) (E : Env) : Prop where
  con : ∀ f g, E.con f = some g → Callable P f ∧ ∀ args h v h', g.ok args h → g.run args h = some (v, h') → ∀ m w a', VRs m args a'.toList → Rep m h w → FunAtN P m h w f a' v h'

theorem InvAt.ofFun {f : Nat} {t' : Target} {a' l' : Array Value} {v : Value} {h' : AH} (_ : Callable P f) (hf : FunAt P m h w f l' v h') (hrun : (invoke t' a').run P w = .ok (.enter f l') w) (q : Bool) : InvAt q P m h w t' a' v h' :=
  ⟨_, _, hrun, .enter f l', fun kind c cs hk => hf.back kind c cs (hk.imp id And.right)⟩

theorem InvAt.ofFunN {f : Nat} {t' : Target} {a' l' : Array Value} {v : Value} {h' : AH} (_ : Callable P f) (hf : FunAtN P m h w f l' v h') (hrun : (invoke t' a').run P w = .ok (.enter f l') w) {q : Bool} (hq : q = false) : InvAt q P m h w t' a' v h' := by
  subst hq
  refine ⟨_, _, hrun, .enter f l', fun kind c cs hk => ?_⟩
  rcases hk with rfl | ⟨hk, _⟩
  · exact hf.back c cs
  · cases hk

theorem callCon_some {g : Con} {args : List Value} {p : Value × AH} (e : callCon g args h = some p) : g.ok args h ∧ g.run args h = some p := by
  unfold callCon at e
  split at e
  · rename_i hok; exact ⟨hok, e⟩
  · cases e

theorem cinvF_sound (hE : E.Types P) (hC : E.Cons P) (hi : InvOK P E inv) (hd : DrawOK P E inv) (n : Nat) : InvOK P E (cinvF E n inv) := by
  intro t args h v h' e m w t' a' ht ha hr
  unfold cinvF at e
  split at e
  · rename_i fn cap
    cases ht with
    | fn hf hcap =>
      rename_i g cap'
      have hall : VRs m (args ++ cap.toList) (a' ++ cap').toList := by simpa using ha.append hcap
      split at e
      · rename_i f
        cases hf with
        | func f =>
          split at e
          · rename_i g hg
            obtain ⟨hc, hcon⟩ := hC.con f g hg
            exact .ofFunN hc (hcon _ _ _ _ (callCon_some e).1 (callCon_some e).2 m w _ hall hr) (by simp only [invoke]; exact callFunc_run hc _) (by simp only [free, hg, Option.isNone_some])
          · rename_i hg
            obtain ⟨hc, hfa⟩ := cfun_sound hE hi hd e hall hr
            exact .ofFun hc hfa (by simp only [invoke]; exact callFunc_run hc _) _
      · rename_i l
        cases hf with
        | yield hm => exact cround_sound hE hi hd e hm ha hr _ cap'
      · rename_i name
        cases hf with
        | method s =>
          split at e
          · rename_i t0 v0 rest
            obtain ⟨recv, l0, hl0, hrv, hrest⟩ := ha.cons_inv
            have haa : a' = #[recv] ++ l0.toArray := by apply Array.ext'; simpa using hl0
            subst haa
            cases hrv with
            | iface hv0 =>
              rename_i w0
              split at e
              · rename_i f x hmo
                obtain ⟨x', r1, r2⟩ := methodOf_sound hE hr hmo hv0
                have hargs : VRs m (x :: rest) (#[x'] ++ l0.toArray).toList := by simpa using VRs.cons r2 hrest
                have fin : Callable P f → FunAtN P m h w f (#[x'] ++ l0.toArray) v h' → InvAt false P m h w (.fn (.method name) cap') (#[.iface t0 w0] ++ l0.toArray) v h' := by
                  intro hc hfa
                  refine .ofFunN hc hfa ?_ rfl
                  have h0 : (#[Value.iface t0 w0] ++ l0.toArray)[0]? = some (.iface t0 w0) := by simp
                  have hex : (#[Value.iface t0 w0] ++ l0.toArray).extract 1 (#[Value.iface t0 w0] ++ l0.toArray).size = l0.toArray := by
                    apply Array.ext'; simp []
                  simp only [invoke, h0, hex, callMethod, Sem.run_bind, run_program, Result.andThen_ok, r1]
                  exact callFunc_run hc _
                split at e
                · rename_i g hg
                  obtain ⟨hc, hcon⟩ := hC.con f g hg
                  exact fin hc (hcon _ _ _ _ (callCon_some e).1 (callCon_some e).2 m w _ hargs hr)
                · rename_i hg
                  obtain ⟨hc, hfa⟩ := cfun_sound hE hi hd e hargs hr
                  exact fin hc hfa.n
              · cases e
          · cases e
      · cases e
  · cases e

theorem cinv_sound (hE : E.Types P) (hC : E.Cons P) (hdraw : ∀ inv, InvOK P E inv → DrawOK P E inv) (_ : Nat) : ∀ n, InvOK P E (cinv E n) := by
  intro n
  induction n with
  | zero => intro t args h v h' e; cases e
  | succ n ih => exact cinvF_sound hE hC ih (hdraw _ ih) n

end Go.Ev
