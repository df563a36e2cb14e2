/- A part of a big-step evaluator of the model's language, with the proof that what it comes to, the model comes to for every tape. No conditions. -/
import Derived.Test.YtpncmonojhlheaaGreatEvDrw7
import Derived.Test.YtpncmonojhlheaaGreatEvObs
import Derived.WalkKit
import Derived.ProofKit
import Derived.Carry
import Derived.Below
namespace Go.Ev
open Go.ChangeShapes Go.WideShapes Go.ChangeAt Go.RowKit

variable {P : Program} {E : Env} {m : Mp} {h : AH} {w : World} {inv : Inv}

/-- no live object -/
def Bare (h : AH) : Prop := ∀ n, h.get n = none

theorem bare_nil (k : Nat) : Bare ⟨.nil, k⟩ := fun _ => Tr.get_nil _ _

theorem bare_held (hb : Bare h) (b : Nat) : ¬ Held m h b := by
  rintro ⟨n, o, d, e, _⟩
  rw [hb n] at e; cases e

/-- nothing in it may be written -/
def Still (h : AH) : Prop := ∀ n o, h.get n = some o → ∃ c, o = .cells c true
theorem Bare.still (hb : Bare h) : Still h := fun n o e => by rw [hb n] at e; cases e

theorem below_of {w w' : World} {m' : Mp} {h' : AH} (g : Goes m h w m' h' w') (hb : Still h) : Below w.heap.size w w' := by
  refine ⟨g.os, g.tape, g.out, g.size, fun i hi => ?_⟩
  by_cases hh : Held m h i
  · obtain ⟨n, o, d, e1, e2⟩ := hh
    obtain ⟨c, rfl⟩ := hb n o e1
    exact (g.rok n c i d e1 e2).2
  · exact g.kept i hi hh

/-- what was done beside: the abstract heap stays as it was -/
theorem Goes.beside {mE mE' : Mp} {hE hE' : AH} {w w' : World} (g : Goes mE hE w mE' hE' w') (hb : Bare hE) (hr : Rep m h w) : Goes m h w m h w' := by
  have hk : ∀ b, b < w.heap.size → w'.heap[b]? = w.heap[b]? := fun b hlt => g.kept b hlt (bare_held hb b)
  refine ⟨.refl m, ⟨hr.fresh, fun n b d e => Nat.lt_of_lt_of_le (hr.inside n b d e) g.size, ?_, hr.apart, ?_⟩, fun b hh => .inr hh, g.size, fun b hlt _ => hk b hlt, Nat.le_refl _, fun _ _ => rfl, g.fro, g.tape, g.os, g.out, fun n c b d e1 e2 => ⟨e1, hk b (hr.inside n b d e2)⟩⟩
  · intro n o e
    obtain ⟨b, d, x, h1, h2, h3⟩ := hr.obj n o e
    exact ⟨b, d, x, h1, by rw [hk b (hr.inside n b d h1)]; exact h2, h3⟩
  · intro n o b d c e fz hg hm hx
    rw [hk b (hr.inside n b d hm)] at hx
    exact hr.sized n o b d c e fz hg hm hx

def noMap : Mp := ⟨fun _ => none, fun _ => 0⟩
theorem rep_none (w : World) (k : Nat) : Rep noMap ⟨.nil, k⟩ w :=
  ⟨fun n _ => ⟨rfl, bare_nil k n⟩, fun n b d e => (by cases e), fun n o e => (by rw [bare_nil k n] at e; cases e), fun n n' o o' b d d' e => (by rw [bare_nil k n] at e; cases e), fun n o b d c e fz g => (by rw [bare_nil k n] at g; cases g)⟩

theorem flat_move {m' m : Mp} : ∀ (n : Nat) (v v' : Value), flatV n v = true → VR m' v v' → VR m v v' := by
  intro n v v' hf hv
  induction hv generalizing n with
  | bool b => exact .bool b
  | int k i => exact .int k i
  | string s => exact .string s
  | ptrNil => exact .ptrNil
  | ptr h => cases n <;> cases hf
  | sliceNil => exact .sliceNil
  | sliceExact h ha hl => cases n <;> cases hf
  | sliceOpen h hc ha hl hs => cases n <;> cases hf
  | mapNil => exact .mapNil
  | map h => cases n <;> cases hf
  | nilFunc => exact .nilFunc
  | nilIface => exact .nilIface
  | iface _ ih => cases n with
    | zero => cases hf
    | succ n => exact .iface (ih n hf)
  | agg hl _ ih => cases n with
    | zero => cases hf
    | succ n =>
      have hf := List.all_eq_true.1 (show (_ : List Value).all (flatV n) = true from hf)
      exact .agg hl fun i a b ha hb => ih i a b ha hb n (hf a (List.mem_of_getElem? ha))
  | tuple hl _ ih => cases n with
    | zero => cases hf
    | succ n =>
      have hf := List.all_eq_true.1 (show (_ : List Value).all (flatV n) = true from hf)
      exact .tuple hl fun i a b ha hb => ih i a b ha hb n (hf a (List.mem_of_getElem? ha))
  | func hf' hl h hl' h' => cases n <;> cases hf

/-- a function without arguments, reckoned once, is a contract -/
theorem const_fun (hE : E.Types P) (hC : E.Cons P) (hmix : P.follows .mixedOrders = true) {n f : Nat} {v : Value} {hx : AH} (e : (cfun E (cinv E n) n f).run [] ⟨.nil, 0⟩ = some (v, hx)) (hf : flatV 5 v = true) :
    Callable P f ∧ ∀ (m : Mp) (h : AH) (w : World) (a' : Array Value), a'.toList = [] → Rep m h w → FunAt P m h w f a' v h := by
  have base : ∀ (w : World) (a' : Array Value), a'.toList = [] → Callable P f ∧ FunAt P noMap ⟨.nil, 0⟩ w f a' v hx := fun w a' ha =>
    cfun_sound hE (cinv_ok hE hC hmix n) (draw_ok hE hmix _ (cinv_ok hE hC hmix n)) e (by rw [ha]; exact .nil) (rep_none w 0)
  refine ⟨(base default #[] rfl).1, fun m h w a' ha hr => ?_⟩
  intro kind cs
  obtain ⟨fr, m', w', v', st, h1, h2, h3, h4, h5, g, hv⟩ := (base w a' ha).2 kind cs
  refine ⟨fr, m, w', v', st, h1, h2, h3, h4, h5, g.beside (bare_nil 0) hr, ?_⟩
  exact flat_move 5 v v' hf hv

/-- the arguments read as they read before -/
theorem args_same {H : Type} {enc : TypeId × Value → H} (hl : laidOutB P = true) {W W' : World} (hsame : ∀ i, i < W.heap.size → W'.heap[i]? = W.heap[i]?) {sp : Nat → Bool} :
    ∀ (ts : List TypeId) (vs : List Value) (ds : List (DataW H)) (ps : List MemPlace), (∀ t ∈ ts, P.readableRec t = true ∧ t < P.types.size) → DataW.TrodAll enc P W 0 (fun _ => true) true ts vs ds ps → (∀ x ∈ ps, x.block < W.heap.size) → (∀ x ∈ ps, sp x.block = true) →
    DataW.TrodAll enc P W' 0 sp true ts vs ds ps := by
  intro ts
  induction ts with
  | nil => intro vs ds ps _ hh _ _; cases vs <;> cases ds <;> first | exact hh | cases hh
  | cons t ts ih =>
    intro vs ds ps ht hh hlt hsp
    cases vs with
    | nil => cases ds <;> cases hh
    | cons v vs =>
      cases ds with
      | nil => cases hh
      | cons d ds =>
        obtain ⟨p, q, h1, h2, rfl⟩ := hh
        refine ⟨p, q, ?_, ih vs ds q (fun t ht' => ht t (.tail _ ht')) h2 (fun x hx => hlt x (List.mem_append_right _ hx)) (fun x hx => hsp x (List.mem_append_right _ hx)), rfl⟩
        refine Go.WideElems.Trod_stays hl (ht t (.head _)).1 (ht t (.head _)).2 h1 (fun x hx => ?_) (fun x hx => hsp x (List.mem_append_left _ hx))
        have hb := hsame x.block (hlt x (List.mem_append_left _ hx))
        cases x with
        | cell b o => exact World.cell?_of_block (w := W) hb
        | map b => exact hb

/-- a law whose function has returned true and has turned nothing that was there -/
theorem post_true {H : Type} {enc : TypeId × Value → H} {f : Func} {s : ChangeSpec} {W W' : World} {args : Array Value} {ds gs : List (DataW H)} {before : List MemPlace} (hl : laidOutB P = true) (hp : (f.params.toList.all fun t => P.readableRec t && decide (t < P.types.size)) = true)
    {tb : TypeId} (hrt : f.resultTypes = #[tb]) (htb : P.underlying tb = some .bool) (hvars : s.vars = []) (hres : s.fn H ds = { results := [.lit (.bool true)], args := ds }) (hW : DataW.Whole enc P f.params.toList s.vars false W args.toList ds gs before)
    {m m' : Mp} {h h' : AH} (g : Goes m h W m' h' W') (hb : Still h) : s.post enc P f false true false false W args (.bool true) W' := by
  have hbl := below_of g hb
  have hW' := hW
  obtain ⟨p, q, hA, hV, rfl, hfz, hnd⟩ := hW
  rw [hvars] at hV
  obtain ⟨rfl, rfl⟩ := trodVars_none hV
  simp only [List.append_nil] at hW'
  have hlt := hW'.lt
  rw [List.all_eq_true] at hp
  refine ⟨ds, [], p, [], p, [], hW', ?_, ?_, ?_, hbl.frame _, fun h => by cases h⟩
  · rw [List.append_nil, hres, hrt]
    exact trodAll_mk1 (shut_bool htb true)
  · rw [List.append_nil, hres]
    refine args_same hl hbl.block _ _ _ _ (fun t ht => ?_) hA hlt (fun x hx => by simpa using hlt x hx)
    have := hp t ht
    simpa using this
  · rw [List.append_nil, hres, hvars]; exact rfl

/-- a program's tables -/
noncomputable def envOf (P : Program) (N : Nat) (con : Nat → Option Con) : Env := { fn := fun f => P.funcs[f]?, ty := fun t => cond (Nat.blt t N) (tyOf P t) none, con := con }

def zok (P : Program) (t : Nat) : Bool := match tyOf P t with
  | some i => (match i.zero with | some z => flatV 10 z && Nat.beq (vcells z).length i.size | none => true)
  | none => true

theorem env_types {N : Nat} (hz : ((List.range N).all (zok P)) = true) (hc : (P.funcs.toList.all okFn) = true) (con : Nat → Option Con) : (envOf P N con).Types P := by
  have key : ∀ t i, (envOf P N con).ty t = some i → t < N ∧ tyOf P t = some i := by
    intro t i h
    have h : cond (Nat.blt t N) (tyOf P t) none = some i := h
    cases hb : Nat.blt t N with
    | false => rw [hb] at h; cases h
    | true => rw [hb] at h; exact ⟨Nat.le_of_ble_eq_true hb, h⟩
  refine ⟨fun f x h => h, fun t i h => (key t i h).2, fun t i z h hzz => ?_, fun f x h => ?_⟩
  · obtain ⟨h0, h2⟩ := key t i h
    have h1 := List.all_eq_true.1 hz t (List.mem_range.2 h0)
    unfold zok at h1
    rw [h2] at h1
    simp only [hzz, Bool.and_eq_true] at h1
    exact ⟨h1.1, Nat.eq_of_beq_eq_true h1.2⟩
  · have h2 : P.funcs[f]? = some x := h
    exact List.all_eq_true.1 hc x (List.mem_of_getElem? (by rw [Array.getElem?_toList]; exact h2))

def noCon : Nat → Option Con := fun _ => none
theorem no_cons {N : Nat} : (envOf P N noCon).Cons P := ⟨fun f g h => by cases h⟩

def yesV (r : Option (Value × AH)) : Bool := match r with
  | some (v, _) => (match v with | .bool b => b | _ => false)
  | none => false
theorem yes_some {r : Option (Value × AH)} (h : yesV r = true) : ∃ hx, r = some (.bool true, hx) := by
  unfold yesV at h
  split at h
  · split at h
    · subst h; exact ⟨_, rfl⟩
    · cases h
  · cases h

/-- a run, as the kernel reckons it: how many pin places are passed by, then the pins -/
noncomputable def irunP (P : Program) (N : Nat) (con : Nat → Option Con) (n f : Nat) (args : List Value) (h : AH) (c : Nat) (pins : List (Nat × Value)) : Option (Value × AH × Ob) :=
  (ifun (envOf P N con) (iinv (envOf P N con) n) n f).run args h ⟨[], [], [], c, pins⟩
noncomputable def irun (P : Program) (N : Nat) (con : Nat → Option Con) (n f : Nat) (args : List Value) (h : AH) : Option (Value × AH × Ob) :=
  irunP P N con n f args h 0 []
noncomputable def isT (r : Option (Value × AH × Ob)) : Bool := match r with
  | some p => (match p.1 with | .bool b => b | _ => false)
  | none => false
noncomputable def obs (r : Option (Value × AH × Ob)) : List (Value × Value) := match r with
  | some p => p.2.2.ob
  | none => []
noncomputable def pns (r : Option (Value × AH × Ob)) : List (Value × Value) := match r with
  | some p => p.2.2.pn
  | none => []
noncomputable def cns (r : Option (Value × AH × Ob)) : List Prop := match r with
  | some p => p.2.2.cn
  | none => []
noncomputable def fin (r : Option (Value × AH × Ob)) : Bool × List (Value × Value) × List Prop × List (Value × Value) := (isT r, pns r, cns r, obs r)
noncomputable def wantP (r : Option (Value × AH × Ob)) (l : List (Value × Value)) (ps : List Prop) : Bool × List (Value × Value) × List Prop × List (Value × Value) := (true, l, ps, ((obs r).map Prod.fst).map fun v => (v, v))
noncomputable def trues (r : Option (Value × AH × Ob)) : List Prop := (cns r).map fun _ => True
noncomputable def want (r : Option (Value × AH × Ob)) : Bool × List (Value × Value) × List Prop × List (Value × Value) := wantP r [] (trues r)

theorem fin_runQ {N : Nat} {con : Nat → Option Con} {n f : Nat} {args : List Value} {h : AH} {c : Nat} {pins : List (Nat × Value)} {l : List (Value × Value)} {ps : List Prop}
    (e : fin (irunP P N con n f args h c pins) = wantP (irunP P N con n f args h c pins) l ps) (hl : ∀ p ∈ l, p.1 = p.2) (hp : ∀ p ∈ ps, p) :
    ∃ hx, (cfun (envOf P N con) (cinv (envOf P N con) n) n f).run args h = some (.bool true, hx) := by
  cases hr : irunP P N con n f args h c pins with
  | none => rw [hr] at e; cases e
  | some p =>
    rw [hr] at e
    simp only [fin, wantP, Prod.mk.injEq] at e
    obtain ⟨e1, e3, e4, e2⟩ := e
    obtain ⟨v, hx, ob⟩ := p
    have e3 : ob.pn = l := e3
    have e4 : ob.cn = ps := e4
    have := ifun_run (E := envOf P N con) hr ⟨eqs_diag e2, by rw [e3]; exact hl, by rw [e4]; exact hp⟩
    cases v with
    | bool b =>
      have e1 : b = true := e1
      rw [e1] at this
      exact ⟨hx, this⟩
    | _ => cases e1

theorem trues_all (r : Option (Value × AH × Ob)) : ∀ p ∈ trues r, p := by
  intro p hp
  obtain ⟨_, _, rfl⟩ := List.mem_map.1 hp
  trivial

theorem fin_runP {N : Nat} {con : Nat → Option Con} {n f : Nat} {args : List Value} {h : AH} {c : Nat} {pins : List (Nat × Value)} {l : List (Value × Value)}
    (e : fin (irunP P N con n f args h c pins) = wantP (irunP P N con n f args h c pins) l (trues (irunP P N con n f args h c pins))) (hl : ∀ p ∈ l, p.1 = p.2) :
    ∃ hx, (cfun (envOf P N con) (cinv (envOf P N con) n) n f).run args h = some (.bool true, hx) := fin_runQ e hl (trues_all _)

theorem fin_run {N : Nat} {con : Nat → Option Con} {n f : Nat} {args : List Value} {h : AH} (e : fin (irun P N con n f args h) = want (irun P N con n f args h)) :
    ∃ hx, (cfun (envOf P N con) (cinv (envOf P N con) n) n f).run args h = some (.bool true, hx) :=
  fin_runP e (by simp)

/-- what a contract must keep -/
def Con.Holds (P : Program) (f : Nat) (g : Con) : Prop :=
  Callable P f ∧ ∀ args h v h', g.ok args h → g.run args h = some (v, h') → ∀ m w a', VRs m args a'.toList → Rep m h w → FunAtN P m h w f a' v h'

/-- one more contract -/
noncomputable def conAdd (con : Nat → Option Con) (f0 : Nat) (g : Con) : Nat → Option Con := fun f => cond (Nat.beq f f0) (some g) (con f)

theorem cons_add {N : Nat} {con : Nat → Option Con} {f0 : Nat} {g : Con} (hC : (envOf P N con).Cons P) (hg : g.Holds P f0) : (envOf P N (conAdd con f0 g)).Cons P := by
  refine ⟨fun f g' h0 => ?_⟩
  have h1 : cond (Nat.beq f f0) (some g) (con f) = some g' := h0
  by_cases hf : f = f0
  · subst hf
    rw [Nat.beq_refl] at h1
    cases h1
    exact hg
  · rw [beq_false.2 hf] at h1
    exact hC.con f g' h1

/-- a function without arguments that comes to true -/
noncomputable def conYes : Con := ⟨fun _ _ => True, fun args h => match args with
  | [] => some (.bool true, h)
  | _ => none⟩

theorem yes_holds {N : Nat} (hz : ((List.range N).all (zok P)) = true) (hc : (P.funcs.toList.all okFn) = true) (hmix : P.follows .mixedOrders = true) {con : Nat → Option Con} (hC : (envOf P N con).Cons P) {n f0 : Nat} (e : fin (irun P N con n f0 [] ⟨.nil, 0⟩) = want (irun P N con n f0 [] ⟨.nil, 0⟩)) : conYes.Holds P f0 := by
  obtain ⟨hx, he⟩ := fin_run e
  obtain ⟨h1, h2⟩ := const_fun (env_types hz hc con) hC hmix he rfl
  refine ⟨h1, fun args h v h' _ e m w a' ha hr => ?_⟩
  simp only [conYes] at e
  split at e
  · cases e
    exact (h2 m h w a' ha.nil_inv hr).n
  · cases e

/-- from a call of the model's -/
theorem FunAtN.of_calls {f : Nat} {a' : Array Value} {v : Value} {h' : AH} (hc : Calls P f a' w fun en w' => ∃ m' v', en = .returned v' ∧ VR m' v v' ∧ Goes m h w m' h' w') : FunAtN P m h w f a' v h' := by
  intro cs
  obtain ⟨e, w', fr, ⟨m', v', rfl, hv, hg⟩, st, h1, h2⟩ := hc cs
  obtain ⟨h3, h4, h5, fn, h6, h7⟩ := h2
  exact ⟨fr, m', w', v', st, h1, h3, h4, h5, ⟨fn, h1 ▸ h6, h7⟩, hg, hv⟩

/-- a call that comes to true, in the model -/
theorem calls_run {N : Nat} (hz : ((List.range N).all (zok P)) = true) (hc : (P.funcs.toList.all okFn) = true) (hmix : P.follows .mixedOrders = true) {con : Nat → Option Con} (hC : (envOf P N con).Cons P) {n f : Nat} {args : List Value}
    (e : ∃ hx, (cfun (envOf P N con) (cinv (envOf P N con) n) n f).run args h = some (.bool true, hx)) {a' : Array Value} (ha : VRs m args a'.toList) (hr : Rep m h w) : Calls P f a' w fun en w' => ∃ m' h', en = .returned (.bool true) ∧ Goes m h w m' h' w' := by
  obtain ⟨hx, he⟩ := e
  refine (calls_of_eval (env_types hz hc con) hC hmix he ha hr).mono fun en w' ⟨m', v', h1, h2, h3⟩ => ⟨m', hx, ?_, h3⟩
  rw [h1, h2.bool_inv]

theorem calls_true {N : Nat} (hz : ((List.range N).all (zok P)) = true) (hc : (P.funcs.toList.all okFn) = true) (hmix : P.follows .mixedOrders = true) {con : Nat → Option Con} (hC : (envOf P N con).Cons P) {n f : Nat} {args : List Value}
    (e : fin (irun P N con n f args h) = want (irun P N con n f args h)) {a' : Array Value} (ha : VRs m args a'.toList) (hr : Rep m h w) : Calls P f a' w fun en w' => ∃ m' h', en = .returned (.bool true) ∧ Goes m h w m' h' w' :=
  calls_run hz hc hmix hC (fin_run e) ha hr

end Go.Ev
