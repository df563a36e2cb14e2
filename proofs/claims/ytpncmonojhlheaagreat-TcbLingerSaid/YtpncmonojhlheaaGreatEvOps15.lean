/- A part of a big-step evaluator of the model's language, with the proof that what it comes to, the model comes to for every tape. No conditions. -/
import Derived.Test.YtpncmonojhlheaaGreatEvOps14
namespace Go.Ev

variable {P : Program} {E : Env} {m : Mp} {h : AH} {w : World}

/-- an operation comes to a value -/
def Vals (P : Program) (m : Mp) (h : AH) (w : World) (s : Sem Next) (v : Value) (h' : AH) : Prop :=
  ∃ nx w' m' v', s.run P w = .ok nx w' ∧ (nx = .value v' ∨ (nx = .skip ∧ v' = undef)) ∧ Goes m h w m' h' w' ∧ VR m' v v'

theorem Does.vals {s : Sem Value} {v : Value} {h' : AH} (d : Does P m h w s v h') : Vals P m h w (do pure (.value (← s))) v h' := by
  obtain ⟨v', w', m', h1, h2, h3⟩ := d
  exact ⟨.value v', w', m', v', by simp [h1], .inl rfl, h2, h3⟩
theorem DoesU.vals {s : Sem Unit} {h' : AH} (d : DoesU P m h w s h') : Vals P m h w (do s; pure .skip) undef h' := by
  obtain ⟨w', m', h1, h2⟩ := d
  exact ⟨.skip, w', m', undef, by simp [h1], .inr ⟨rfl, rfl⟩, h2, VR.undef _⟩
theorem vals_here (hr : Rep m h w) {v v' : Value} (hv : VR m v v') : Vals P m h w (pure (.value v')) v h :=
  ⟨.value v', w, m, v', rfl, .inl rfl, .refl hr, hv⟩

theorem ofV_some {h h' : AH} {x : Option Value} {v : Value} (e : ofV h x = .val v h') : x = some v ∧ h' = h := by
  cases x <;> cases e; exact ⟨rfl, rfl⟩
theorem ofVH_some {h' : AH} {x : Option (Value × AH)} {v : Value} (e : ofVH x = .val v h') : x = some (v, h') := by
  cases x with
  | none => cases e
  | some p => obtain ⟨a, b⟩ := p; cases e; rfl
theorem ofH_some {h' : AH} {x : Option AH} {v : Value} (e : ofH x = .val v h') : x = some h' ∧ v = undef := by
  cases x <;> cases e; exact ⟨rfl, rfl⟩
theorem ofUH_some {h' : AH} {x : Option AH} {v : Value} (e : ofUH x = .val v h') : x = some h' ∧ v = .tuple #[] := by
  cases x <;> cases e; exact ⟨rfl, rfl⟩

theorem map_one {c : Array Operand} {r : Operand → Value} {x : Value} (e : c.toList.map r = [x]) : ∃ a, c = #[a] ∧ r a = x := by
  match hc : c.toList, e with
  | [a], e => exact ⟨a, Array.ext' (by simpa using hc), by simpa using e⟩
theorem map_two {c : Array Operand} {r : Operand → Value} {x y : Value} (e : c.toList.map r = [x, y]) : ∃ a b, c = #[a, b] ∧ r a = x ∧ r b = y := by
  match hc : c.toList, e with
  | [a, b], e => exact ⟨a, b, Array.ext' (by simpa using hc), by simpa using e⟩

theorem builtin_vals (hE : E.Types P) (hr : Rep m h w) {r r' : Operand → Value} {b : Builtin} {ts : Array Nat} {t : Nat} {consts : Array Bool} {c : Array Operand} {v : Value} {h' : AH}
    (e : E.builtin b ts.toList (c.toList.map r) h = .val v h') (hok : c.toList.all okX = true) (hrr : RR m r r') : Vals P m h w (builtin b ts t consts (c.map r')) v h' := by
  have hall : ∀ a, a ∈ c.toList → okX a = true := fun a ha => (List.all_eq_true.1 hok) a ha
  unfold Env.builtin at e
  split at e
  · split at e
    · rename_i x hx
      obtain ⟨a, rfl, rfl⟩ := map_one hx
      obtain ⟨e1, he1⟩ := ofV_some e; clear e; subst he1; have e := e1
      have := len_sound hE hr e (hrr a (hall a (by simp))) t
      simpa [builtin] using this.vals
    · cases e
  · split at e
    · rename_i x y hx
      obtain ⟨a, b, rfl, rfl, rfl⟩ := map_two hx
      have := append_sound (t := t) hE hr (ofVH_some e) (hrr a (hall a (by simp))) (hrr b (hall b (by simp)))
      simpa [builtin] using this.vals
    · cases e
  · split at e
    · rename_i x y hx
      obtain ⟨a, b, rfl, rfl, rfl⟩ := map_two hx
      have := copy_sound (t := t) hE hr (ofVH_some e) (hrr a (hall a (by simp))) (hrr b (hall b (by simp)))
      simpa [builtin] using this.vals
    · cases e
  · split at e
    · rename_i x hx
      obtain ⟨a, rfl, rfl⟩ := map_one hx
      obtain ⟨e1, he1⟩ := ofUH_some e; clear e; subst he1; have e := e1
      have := clear_sound (t := t) hE hr e (hrr a (hall a (by simp)))
      simpa [builtin] using this.vals
    · cases e
  · split at e
    · rename_i x hx
      obtain ⟨a, rfl, rfl⟩ := map_one hx
      obtain ⟨e1, he1⟩ := ofV_some e; clear e; subst he1; have e := e1
      have := cap_sound (t := t) hE hr e (hrr a (hall a (by simp)))
      simpa [builtin] using this.vals
    · cases e
  · split at e
    · rename_i x y t0 rest hx hts
      obtain ⟨a, b, rfl, rfl, rfl⟩ := map_two hx
      obtain ⟨e1, he1⟩ := ofUH_some e; clear e; subst he1; have e := e1
      have := delete_sound (t0 := t) hE hr hts e (hrr a (hall a (by simp))) (hrr b (hall b (by simp)))
      simpa [builtin] using this.vals
    · cases e
  · obtain ⟨e1, he1⟩ := ofV_some e; clear e; subst he1; have e := e1
    have := min_sound (P := P) (ts := ts) (t := t) (l' := c.map r') hr e (by simpa using hrr.list c.toList hok)
    simpa [builtin] using this.vals
  · obtain ⟨e1, he1⟩ := ofV_some e; clear e; subst he1; have e := e1
    have := max_sound (P := P) (ts := ts) (t := t) (l' := c.map r') hr e (by simpa using hrr.list c.toList hok)
    simpa [builtin] using this.vals
  · cases e

theorem callV_no {f : Value} {l : List Value} {v : Value} {h' : AH} (e : callV f l = .val v h') : False := by
  cases f <;> cases e

/-- an operation, by itself -/
theorem op_val (hE : E.Types P) (hr : Rep m h w) {r r' : Operand → Value} {o : Oper} {v : Value} {h' : AH} (e : E.op r o.op h = .val v h') (hok : okOp o.op = true) (hrr : RR m r r') :
    Vals P m h w (execOp r' o) v h' := by
  cases hcl : cls o.op with
  | alloc =>
    obtain ⟨s, hs, hn⟩ := alloc_op (w := w) hE hcl e hok hrr
    rw [hs]
    exact (hn.does hr).vals
  | _ =>
    obtain ⟨dst, op, type, pos, after, guard⟩ := o
    simp only at hcl e hok ⊢
    cases op with
    | move x => cases e; exact vals_here hr (hrr x hok)
    | assign x => cases e; exact vals_here hr (hrr x hok)
    | pick c a b =>
      simp only [okOp, Bool.and_eq_true] at hok
      simp only [Env.op, opPick] at e
      split at e
      · rename_i t hc
        cases e
        have h1 := hrr c hok.1.1
        rw [hc] at h1
        have h1 := h1.bool_inv
        refine ⟨.value (if t = true then r' a else r' b), w, m, _, ?_, .inl rfl, .refl hr, ?_⟩
        · simp [execOp, h1, asBool]
        · cases t with
          | true => exact hrr a hok.1.2
          | false => exact hrr b hok.2
      · cases e
    | build t ps =>
      obtain ⟨e1, he1⟩ := ofV_some e; clear e; subst he1; have e := e1
      simp only [okOp, List.all_eq_true] at hok
      exact (build_sound hE hr (fun p hp => hrr p.2 (hok p hp)) e).vals
    | load t a =>
      obtain ⟨e1, he1⟩ := ofV_some e; clear e; subst he1; have e := e1
      exact (load_sound hE hr e (hrr a hok)).vals
    | store t a x =>
      simp only [okOp, Bool.and_eq_true] at hok
      obtain ⟨e1, he1⟩ := ofH_some e; clear e; subst he1; have e := e1
      exact (store_sound hE hr e (hrr a hok.1) (hrr x hok.2)).vals
    | nilCheck x =>
      have hx := hrr x hok
      simp only [Env.op, opNil] at e
      split at e
      · rename_i a ha
        cases e
        rw [ha] at hx
        simp only [execOp]
        generalize r' x = y at hx ⊢
        cases hx with
        | ptr hm => exact vals_here hr (.ptr hm)
      · rename_i fn first cap ha
        rw [ha] at hx
        split at e
        · cases e
          simp only [execOp]
          generalize r' x = y at hx ⊢
          cases hx with
          | func hf h1 h2 h3 h4 =>
            cases hf with
            | func f => exact vals_here hr (.func (.func _) h1 h2 h3 h4)
        · cases e
          simp only [execOp]
          generalize r' x = y at hx ⊢
          cases hx with
          | func hf h1 h2 h3 h4 =>
            cases hf with
            | yield hl => exact vals_here hr (.func (.yield hl) h1 h2 h3 h4)
        · cases e
      · cases e
    | binOp op t x y yt =>
      simp only [okOp, Bool.and_eq_true] at hok
      obtain ⟨e1, he1⟩ := ofV_some e; clear e; subst he1; have e := e1
      exact (bin_sound hE hr e (hrr x hok.1) (hrr y hok.2)).vals
    | unOp op t x =>
      obtain ⟨e1, he1⟩ := ofV_some e; clear e; subst he1; have e := e1
      obtain ⟨h1, h2⟩ := un_run (P := P) (w := w) e (hrr x hok)
      exact (Does.here hr h1 (flatV_VR 10 v h2)).vals
    | convert s d x =>
      obtain ⟨e1, he1⟩ := ofV_some e; clear e; subst he1; have e := e1
      exact (conv_sound hE hr e (hrr x hok)).vals
    | makeInterface t x =>
      have hh : h' = h := by
        simp only [Env.op, opIface] at e
        split at e
        · cases e
        · cases e; rfl
        · cases e
      subst hh
      exact (iface_sound hE hr e (hrr x hok)).vals
    | makeFunc fn a b =>
      cases e
      simp only [okOp, Bool.and_eq_true] at hok
      have hf : FR m fn fn := by
        cases fn with
        | func f => exact .func f
        | method f => exact .method f
        | methodOf t f => exact .methodOf t f
        | via t p f q => exact .via t p f q
        | yield l => cases hok.1
      have h1 := hrr.list a.toList hok.2.1
      have h2 := hrr.list b.toList hok.2.2
      refine (Does.here (v' := .func fn (a.map r') (b.map r')) hr rfl ?_).vals
      exact .func hf (by simp) (by simpa using h1.2) (by simp) (by simpa using h2.2)
    | slice t x lo hi mx =>
      simp only [okOp, Bool.and_eq_true] at hok
      obtain ⟨e1, he1⟩ := ofV_some e; clear e; subst he1; have e := e1
      exact (slice_sound hE hr e (hrr x hok.1) (hrr.opt lo hok.2.1) (hrr.opt hi hok.2.2.1) (hrr.opt mx hok.2.2.2)).vals
    | fieldAddr t x f =>
      obtain ⟨e1, he1⟩ := ofV_some e; clear e; subst he1; have e := e1
      exact (fieldAddr_sound hE hr e (hrr x hok)).vals
    | field t x f =>
      obtain ⟨e1, he1⟩ := ofV_some e; clear e; subst he1; have e := e1
      exact (field_sound hE hr e (hrr x hok)).vals
    | indexAddr t x i =>
      simp only [okOp, Bool.and_eq_true] at hok
      obtain ⟨e1, he1⟩ := ofV_some e; clear e; subst he1; have e := e1
      exact (indexAddr_sound hE hr e (hrr x hok.1) (hrr i hok.2)).vals
    | index t x i =>
      simp only [okOp, Bool.and_eq_true] at hok
      obtain ⟨e1, he1⟩ := ofV_some e; clear e; subst he1; have e := e1
      exact (index_sound hE hr e (hrr x hok.1) (hrr i hok.2)).vals
    | lookup t x k ok =>
      simp only [okOp, Bool.and_eq_true] at hok
      obtain ⟨e1, he1⟩ := ofV_some e; clear e; subst he1; have e := e1
      exact (lookup_sound hE hr e (hrr x hok.1) (hrr k hok.2)).vals
    | mapUpdate t x k y =>
      simp only [okOp, Bool.and_eq_true] at hok
      obtain ⟨e1, he1⟩ := ofH_some e; clear e; subst he1; have e := e1
      exact (mapUpdate_sound hE hr e (hrr x hok.1.1) (hrr k hok.1.2) (hrr y hok.2)).vals
    | insert t x k y =>
      simp only [okOp, Bool.and_eq_true] at hok
      obtain ⟨e1, he1⟩ := ofH_some e; clear e; subst he1; have e := e1
      exact (mapUpdate_sound hE hr e (hrr x hok.1.1) (hrr k hok.1.2) (hrr y hok.2)).vals
    | mapEntry t x k =>
      simp only [okOp, Bool.and_eq_true] at hok
      exact (mapEntry_sound hE hr (ofVH_some e) (hrr x hok.1) (hrr k hok.2)).vals
    | entryStore t x s y =>
      simp only [okOp, Bool.and_eq_true] at hok
      obtain ⟨e1, he1⟩ := ofH_some e; clear e; subst he1; have e := e1
      exact (entryStore_sound hr e (hrr x hok.1.1) (hrr s hok.1.2) (hrr y hok.2)).vals
    | range t x => exact (range_sound hE hr (ofVH_some e) (hrr x hok)).vals
    | next i s => exact (next_sound hr (ofVH_some e) (hrr i hok)).vals
    | entry i =>
      obtain ⟨e1, he1⟩ := ofV_some e; clear e; subst he1; have e := e1
      exact (entry_sound hr e (hrr i hok)).vals
    | typeAssert x xt ta ok =>
      obtain ⟨e1, he1⟩ := ofV_some e; clear e; subst he1; have e := e1
      exact (typeAssert_sound hE hr e (hrr x hok)).vals
    | extract t i =>
      have hh : h' = h := by
        simp only [Env.op, opExtract] at e
        split at e
        · exact (ofV_some e).2
        · cases e
      subst hh
      exact (extract_sound hr e (hrr t hok)).vals
    | call c =>
      simp only [Env.op, opCall] at e
      simp only [okOp, okC, Bool.and_eq_true] at hok
      split at e
      · exact (callV_no e).elim
      · rename_i b hb
        have := builtin_vals (t := type) (consts := c.args.map fun | .const _ => true | _ => false) hE hr e hok.2 hrr
        simp only [execOp, resolve, hb]
        exact this
      · cases e
    | defer c =>
      simp only [Env.op, opDefer] at e
      split at e
      · split at e <;> cases e
      · cases e
    | alloc t => cases hcl
    | box t x => cases hcl
    | buildSlice t l ps => cases hcl
    | makeMap t x => cases hcl
    | makeSlice t l c => cases hcl
    | _ => cases e

-- calls

inductive TR (m : Mp) : Target → Target → Prop where
  | fn {f g : Fn} {cap cap' : Array Value} (hf : FR m f g) (hc : VRs m cap.toList cap'.toList) : TR m (.fn f cap) (.fn g cap')
  | collected {b b' : Nat} (h : m b = some (b', 0)) : TR m (.collected b) (.collected b')

structure DR (m : Mp) (d d' : Deferred) : Prop where
  target : TR m d.target d'.target
  args : VRs m d.args.toList d'.args.toList

theorem TR.mono {m m' : Mp} (e : Ext m m') {t t' : Target} (h : TR m t t') : TR m' t t' := by
  cases h with
  | fn hf hc => exact .fn (hf.mono e) (hc.mono e)
  | collected h => exact .collected (e.at_ _ _ h)
theorem DR.mono {m m' : Mp} (e : Ext m m') {d d' : Deferred} (h : DR m d d') : DR m' d d' := ⟨h.target.mono e, h.args.mono e⟩

theorem callV_sound {f f' : Value} {l l' : List Value} {t : Target} {a : List Value} (e : callV f l = .inv t a) (hf : VR m f f') (hl : VRs m l l') :
    ∃ t' a', (∀ ps, ps.toList = l' → Deferred.ofValue f' ps = pure { target := t', args := a' }) ∧ TR m t t' ∧ VRs m a a'.toList := by
  cases f with
  | func fn first cap =>
    cases e
    cases hf with
    | func hf h1 h2 h3 h4 =>
      rename_i g bs ds
      refine ⟨.fn g ds, bs ++ l'.toArray, ?_, .fn hf ⟨h3, h4⟩, ?_⟩
      · intro ps hps
        have : ps = l'.toArray := by apply Array.ext'; simpa using hps
        subst this
        rfl
      · have : VRs m first.toList bs.toList := ⟨h1, h2⟩
        simpa using this.append hl
  | _ => cases e

/-- a call -/
theorem op_inv {r r' : Operand → Value} {o : Oper} {t : Target} {a : List Value} (e : E.op r o.op h = .inv t a) (hok : okOp o.op = true) (hrr : RR m r r') :
    ∃ t' a', (∀ w, (execOp r' o).run P w = (invoke t' a').run P w) ∧ TR m t t' ∧ VRs m a a'.toList := by
  obtain ⟨dst, op, type, pos, after, guard⟩ := o
  simp only at e hok ⊢
  have hV : ∀ x, ofV h x ≠ .inv t a := by intro x hx; cases x <;> cases hx
  have hVH : ∀ x, ofVH x ≠ .inv t a := by
    intro x hx; cases x with
    | none => cases hx
    | some p => cases hx
  have hH : ∀ x, ofH x ≠ .inv t a := by intro x hx; cases x <;> cases hx
  have hUH : ∀ x, ofUH x ≠ .inv t a := by intro x hx; cases x <;> cases hx
  cases op with
  | call c =>
    simp only [Env.op, opCall] at e
    simp only [okOp, okC, Bool.and_eq_true] at hok
    have hargs : VRs m (c.args.toList.map r) (c.args.map r').toList := by simpa using hrr.list c.args.toList hok.2
    split at e
    · rename_i f hf
      have hfx : okX f = true := by have := hok.1; rw [hf] at this; exact this
      obtain ⟨t', a', h1, h2, h3⟩ := callV_sound e (hrr f hfx) hargs
      refine ⟨t', a', fun w => ?_, h2, h3⟩
      simp only [execOp, resolve, hf, Sem.run_bind, h1 _ rfl, Sem.run_pure, Result.andThen_ok]
    · rename_i b hb
      exfalso
      unfold Env.builtin at e
      repeat' split at e
      all_goals first | exact hV _ e | exact hVH _ e | exact hH _ e | exact hUH _ e | cases e
    · rename_i recv name hc
      cases e
      have hfx : okX recv = true := by have := hok.1; rw [hc] at this; exact this
      refine ⟨.fn (.method name) #[], #[r' recv] ++ c.args.map r', fun w => ?_, .fn (.method name) .nil, ?_⟩
      · simp only [execOp, resolve, hc, Sem.run_bind, Sem.run_pure, Result.andThen_ok]
      · simpa using VRs.cons (hrr recv hfx) hargs
  | _ =>
    exfalso
    simp only [Env.op, opPick, opNew, opAlloc, opLoad, opStore, opNil, opIface, opMap, opMake, opExtract, opDefer] at e
    repeat' split at e
    all_goals first | exact hV _ e | exact hVH _ e | exact hH _ e | exact hUH _ e | cases e

/-- a deferred call -/
theorem op_dfr {r r' : Operand → Value} {o : Oper} {d : Deferred} (e : E.op r o.op h = .dfr d) (hok : okOp o.op = true) (hrr : RR m r r') :
    ∃ c d', o.op = .defer c ∧ (∀ w, (execOp r' o).run P w = .ok (.defer d') w) ∧ DR m d d' := by
  obtain ⟨dst, op, type, pos, after, guard⟩ := o
  simp only at e hok ⊢
  have hV : ∀ x, ofV h x ≠ .dfr d := by intro x hx; cases x <;> cases hx
  have hVH : ∀ x, ofVH x ≠ .dfr d := by
    intro x hx; cases x with
    | none => cases hx
    | some p => cases hx
  have hH : ∀ x, ofH x ≠ .dfr d := by intro x hx; cases x <;> cases hx
  have hUH : ∀ x, ofUH x ≠ .dfr d := by intro x hx; cases x <;> cases hx
  cases op with
  | defer c =>
    refine ⟨c, ?_⟩
    simp only [Env.op, opDefer] at e
    simp only [okOp, okC, Bool.and_eq_true] at hok
    have hargs : VRs m (c.args.toList.map r) (c.args.map r').toList := by simpa using hrr.list c.args.toList hok.2
    split at e
    · rename_i f hf
      have hfx : okX f = true := by have := hok.1; rw [hf] at this; exact this
      split at e
      · rename_i t a hcv
        cases e
        obtain ⟨t', a', h1, h2, h3⟩ := callV_sound hcv (hrr f hfx) hargs
        refine ⟨{ target := t', args := a' }, rfl, fun w => ?_, h2, by simpa using h3⟩
        simp only [execOp, resolve, hf, Sem.run_bind, h1 _ rfl, Sem.run_pure, Result.andThen_ok]
      · cases e
    · cases e
  | call c =>
    exfalso
    simp only [Env.op, opCall] at e
    split at e
    · unfold callV at e; split at e <;> cases e
    · unfold Env.builtin at e
      repeat' split at e
      all_goals first | exact hV _ e | exact hVH _ e | exact hH _ e | exact hUH _ e | cases e
    · cases e
  | _ =>
    exfalso
    simp only [Env.op, opPick, opNew, opAlloc, opLoad, opStore, opNil, opIface, opMap, opMake, opExtract] at e
    repeat' split at e
    all_goals first | exact hV _ e | exact hVH _ e | exact hH _ e | exact hUH _ e | cases e

end Go.Ev
