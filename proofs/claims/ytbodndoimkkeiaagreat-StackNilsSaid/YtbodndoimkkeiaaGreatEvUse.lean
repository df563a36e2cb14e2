/- A part of a big-step evaluator of the model's language, with the proof that what it comes to, the model comes to for every tape. No conditions. -/
import Derived.Test.YtbodndoimkkeiaaGreatEvDrw7
import Derived.Test.YtbodndoimkkeiaaGreatEvObs
import Derived.WalkKit
import Derived.ProofKit
import Derived.Carry
namespace Go.Ev
open Go.ChangeShapes Go.WideShapes Go.ChangeAt Go.RowKit

variable {P : Program} {E : Env} {m : Mp} {h : AH} {w : World} {inv : Inv}

/-- no live object -/
def Bare (h : AH) : Prop := ∀ n, h.get n = none

theorem bare_nil (k : Nat) : Bare ⟨.nil, k⟩ := fun n => Tr.get_nil _ _

theorem bare_held (hb : Bare h) (b : Nat) : ¬ Held m h b := by
  rintro ⟨n, o, d, e, _⟩
  rw [hb n] at e; cases e

theorem frozen_old {w w' : World} {m' : Mp} {h' : AH} (g : Goes m h w m' h' w') (hb : Bare h) (a : Addr) : w'.frozen? a = w.frozen? a := by
  rcases Nat.lt_or_ge a.block w.heap.size with hlt | hge
  · unfold World.frozen?
    rw [g.kept a.block hlt (bare_held hb _)]
  · have hn : w.heap[a.block]? = none := Array.getElem?_eq_none hge
    unfold World.frozen?
    rw [hn]
    cases hx : w'.heap[a.block]? with
    | none => rfl
    | some x =>
      cases x with
      | cells c e f =>
        rcases g.fro a.block c e f hx with hf | ⟨c0, e0, h0⟩
        · subst hf; simp
        · rw [hn] at h0; cases h0
      | _ => rfl

theorem grown_of {w w' : World} {m' : Mp} {h' : AH} (g : Goes m h w m' h' w') (hb : Bare h) : (∀ i, i < w.heap.size → w'.heap[i]? = w.heap[i]?) ∧ w.heap.size ≤ w'.heap.size ∧ (∀ a, w'.frozen? a = w.frozen? a) ∧ w'.os = w.os ∧ w'.output = w.output :=
  ⟨fun i hi => g.kept i hi (bare_held hb i), g.size, frozen_old g hb, g.os, g.out⟩

/-- what was done beside: the abstract heap stays as it was -/
theorem Goes.beside {mE mE' : Mp} {hE hE' : AH} {w w' : World} (g : Goes mE hE w mE' hE' w') (hb : Bare hE) (hr : Rep m h w) : Goes m h w m h w' := by
  have hk : ∀ b, b < w.heap.size → w'.heap[b]? = w.heap[b]? := fun b hlt => g.kept b hlt (bare_held hb b)
  refine ⟨.refl m, ⟨hr.fresh, fun n b d e => Nat.lt_of_lt_of_le (hr.inside n b d e) g.size, ?_, hr.apart, ?_⟩, fun b hh => .inr hh, g.size, fun b hlt _ => hk b hlt, Nat.le_refl _, fun _ _ => rfl, g.fro, g.tape, g.os, g.out⟩
  · intro n o e
    obtain ⟨b, d, x, h1, h2, h3⟩ := hr.obj n o e
    exact ⟨b, d, x, h1, by rw [hk b (hr.inside n b d h1)]; exact h2, h3⟩
  · intro n o b d c e fz hg hm hx
    rw [hk b (hr.inside n b d hm)] at hx
    exact hr.sized n o b d c e fz hg hm hx

def noMap : Mp := ⟨fun _ => none, fun _ => 0⟩
theorem rep_none (w : World) (k : Nat) : Rep noMap ⟨.nil, k⟩ w :=
  ⟨fun n _ => ⟨rfl, bare_nil k n⟩, fun n b d e => (by cases e), fun n o e => (by rw [bare_nil k n] at e; cases e), fun n n' o o' b d d' e => (by rw [bare_nil k n] at e; cases e), fun n o b d c e fz g => (by rw [bare_nil k n] at g; cases g)⟩

theorem flat_move {m' m : Mp} : ∀ (n : Nat) (v v' : Value), flatV n v = true → VR m' v v' → VR m v v' := by
  intro n v v' hf hv
  induction hv generalizing n with
  | bool b => exact .bool b
  | int k i => exact .int k i
  | string s => exact .string s
  | ptrNil => exact .ptrNil
  | ptr h => cases n <;> cases hf
  | sliceNil => exact .sliceNil
  | sliceExact h ha hl => cases n <;> cases hf
  | sliceOpen h hc ha hl hs => cases n <;> cases hf
  | mapNil => exact .mapNil
  | map h => cases n <;> cases hf
  | nilFunc => exact .nilFunc
  | nilIface => exact .nilIface
  | iface _ ih => cases n with
    | zero => cases hf
    | succ n => exact .iface (ih n hf)
  | agg hl _ ih => cases n with
    | zero => cases hf
    | succ n =>
      have hf := List.all_eq_true.1 (show (_ : List Value).all (flatV n) = true from hf)
      exact .agg hl fun i a b ha hb => ih i a b ha hb n (hf a (List.mem_of_getElem? ha))
  | tuple hl _ ih => cases n with
    | zero => cases hf
    | succ n =>
      have hf := List.all_eq_true.1 (show (_ : List Value).all (flatV n) = true from hf)
      exact .tuple hl fun i a b ha hb => ih i a b ha hb n (hf a (List.mem_of_getElem? ha))
  | func hf' hl h hl' h' => cases n <;> cases hf

/-- a function without arguments, reckoned once, is a contract -/
theorem const_fun (hE : E.Types P) (hC : E.Cons P) (hmix : P.follows .mixedOrders = true) {n f : Nat} {v : Value} {hx : AH} (e : (cfun E (cinv E n) n f).run [] ⟨.nil, 0⟩ = some (v, hx)) (hf : flatV 5 v = true) :
    Callable P f ∧ ∀ (m : Mp) (h : AH) (w : World) (a' : Array Value), a'.toList = [] → Rep m h w → FunAt P m h w f a' v h := by
  have base : ∀ (w : World) (a' : Array Value), a'.toList = [] → Callable P f ∧ FunAt P noMap ⟨.nil, 0⟩ w f a' v hx := fun w a' ha =>
    cfun_sound hE (cinv_ok hE hC hmix n) (draw_ok hE hmix _ (cinv_ok hE hC hmix n)) e (by rw [ha]; exact .nil) (rep_none w 0)
  refine ⟨(base default #[] rfl).1, fun m h w a' ha hr => ?_⟩
  intro kind cs
  obtain ⟨fr, m', w', v', st, h1, h2, h3, h4, h5, g, hv⟩ := (base w a' ha).2 kind cs
  refine ⟨fr, m, w', v', st, h1, h2, h3, h4, h5, g.beside (bare_nil 0) hr, ?_⟩
  exact flat_move 5 v v' hf hv

/-- the arguments read as they read before -/
theorem args_same {H : Type} {enc : TypeId × Value → H} (hl : laidOutB P = true) {W W' : World} (hsame : ∀ i, i < W.heap.size → W'.heap[i]? = W.heap[i]?) {sp : Nat → Bool} :
    ∀ (ts : List TypeId) (vs : List Value) (ds : List (DataW H)) (ps : List MemPlace), (∀ t ∈ ts, P.readableRec t = true ∧ t < P.types.size) → DataW.TrodAll enc P W 0 (fun _ => true) true ts vs ds ps → (∀ x ∈ ps, x.block < W.heap.size) → (∀ x ∈ ps, sp x.block = true) →
    DataW.TrodAll enc P W' 0 sp true ts vs ds ps := by
  intro ts
  induction ts with
  | nil => intro vs ds ps _ hh _ _; cases vs <;> cases ds <;> first | exact hh | cases hh
  | cons t ts ih =>
    intro vs ds ps ht hh hlt hsp
    cases vs with
    | nil => cases ds <;> cases hh
    | cons v vs =>
      cases ds with
      | nil => cases hh
      | cons d ds =>
        obtain ⟨p, q, h1, h2, rfl⟩ := hh
        refine ⟨p, q, ?_, ih vs ds q (fun t ht' => ht t (.tail _ ht')) h2 (fun x hx => hlt x (List.mem_append_right _ hx)) (fun x hx => hsp x (List.mem_append_right _ hx)), rfl⟩
        refine Go.WideElems.Trod_stays hl (ht t (.head _)).1 (ht t (.head _)).2 h1 (fun x hx => ?_) (fun x hx => hsp x (List.mem_append_left _ hx))
        have hb := hsame x.block (hlt x (List.mem_append_left _ hx))
        cases x with
        | cell b o => exact World.cell?_of_block (w := W) hb
        | map b => exact hb

/-- a law whose function has returned true and has turned nothing that was there -/
theorem post_true {H : Type} {enc : TypeId × Value → H} {f : Func} {s : ChangeSpec} {W W' : World} {args : Array Value} {ds gs : List (DataW H)} {before : List MemPlace} (hl : laidOutB P = true) (hp : (f.params.toList.all fun t => P.readableRec t && decide (t < P.types.size)) = true)
    {tb : TypeId} (hrt : f.resultTypes = #[tb]) (htb : P.underlying tb = some .bool) (hvars : s.vars = []) (hres : s.fn H ds = { results := [.lit (.bool true)], args := ds }) (hW : DataW.Whole enc P f.params.toList s.vars false W args.toList ds gs before)
    {m m' : Mp} {h h' : AH} (g : Goes m h W m' h' W') (hb : Bare h) : s.post enc P f false true false false W args (.bool true) W' := by
  obtain ⟨hsame, hsz, hfr, hos, hout⟩ := grown_of g hb
  have hW' := hW
  obtain ⟨p, q, hA, hV, rfl, hfz, hnd⟩ := hW
  rw [hvars] at hV
  obtain ⟨rfl, rfl⟩ := trodVars_none hV
  simp only [List.append_nil] at hW'
  have hlt := hW'.lt
  rw [List.all_eq_true] at hp
  refine post_of_same (pa := p) (pv := []) hW' (fun b sp hd => ?_) (fun sp hsp => ?_) (fun sp _ => ?_) (by simp) ?_ hfr (ok_one hrt rfl (okWide_bool_mk htb _))
  · rw [List.append_nil, hres, hrt]
    exact trodAll_mk1 (shut_bool htb true)
  · rw [List.append_nil, hres]
    refine args_same hl hsame _ _ _ _ (fun t ht => ?_) hA hlt hsp
    have := hp t ht
    simpa using this
  · rw [List.append_nil, hres, hvars]; exact rfl
  · refine ⟨hos, hout, fun i hi => ?_⟩
    rw [hsame i hi]
    cases W.heap[i]? with
    | none => simp
    | some x => cases x <;> simp


/-- a program's tables -/
noncomputable def envOf (P : Program) (N : Nat) (con : Nat → Option (List Value → AH → Option (Value × AH))) : Env := { fn := fun f => P.funcs[f]?, ty := fun t => cond (Nat.blt t N) (tyOf P t) none, con := con }

def zok (P : Program) (t : Nat) : Bool := match tyOf P t with
  | some i => (match i.zero with | some z => flatV 10 z && Nat.beq (vcells z).length i.size | none => true)
  | none => true

theorem env_types {N : Nat} (hz : ((List.range N).all (zok P)) = true) (hc : (P.funcs.toList.all okFn) = true) (con : Nat → Option (List Value → AH → Option (Value × AH))) : (envOf P N con).Types P := by
  have key : ∀ t i, (envOf P N con).ty t = some i → t < N ∧ tyOf P t = some i := by
    intro t i h
    have h : cond (Nat.blt t N) (tyOf P t) none = some i := h
    cases hb : Nat.blt t N with
    | false => rw [hb] at h; cases h
    | true => rw [hb] at h; exact ⟨Nat.le_of_ble_eq_true hb, h⟩
  refine ⟨fun f x h => h, fun t i h => (key t i h).2, fun t i z h hzz => ?_, fun f x h => ?_⟩
  · obtain ⟨h0, h2⟩ := key t i h
    have h1 := List.all_eq_true.1 hz t (List.mem_range.2 h0)
    unfold zok at h1
    rw [h2] at h1
    simp only [hzz, Bool.and_eq_true] at h1
    exact ⟨h1.1, Nat.eq_of_beq_eq_true h1.2⟩
  · have h2 : P.funcs[f]? = some x := h
    exact List.all_eq_true.1 hc x (List.mem_of_getElem? (by rw [Array.getElem?_toList]; exact h2))

def noCon : Nat → Option (List Value → AH → Option (Value × AH)) := fun _ => none
theorem no_cons {N : Nat} : (envOf P N noCon).Cons P := ⟨fun f g h => by cases h⟩

def yesV (r : Option (Value × AH)) : Bool := match r with
  | some (v, _) => (match v with | .bool b => b | _ => false)
  | none => false
theorem yes_some {r : Option (Value × AH)} (h : yesV r = true) : ∃ hx, r = some (.bool true, hx) := by
  unfold yesV at h
  split at h
  · split at h
    · subst h; exact ⟨_, rfl⟩
    · cases h
  · cases h

/-- a run, as the kernel reckons it -/
noncomputable def irun (P : Program) (N : Nat) (con : Nat → Option (List Value → AH → Option (Value × AH))) (n f : Nat) (args : List Value) (h : AH) : Option (Value × AH × Ob) :=
  (ifun (envOf P N con) (iinv (envOf P N con) n) n f).run args h []
noncomputable def isT (r : Option (Value × AH × Ob)) : Bool := match r with
  | some p => (match p.1 with | .bool b => b | _ => false)
  | none => false
noncomputable def obs (r : Option (Value × AH × Ob)) : Ob := match r with
  | some p => p.2.2
  | none => []
noncomputable def fin (r : Option (Value × AH × Ob)) : Bool × Ob := (isT r, obs r)
noncomputable def want (r : Option (Value × AH × Ob)) : Bool × Ob := (true, ((obs r).map Prod.fst).map fun v => (v, v))

theorem fin_run {N : Nat} {con : Nat → Option (List Value → AH → Option (Value × AH))} {n f : Nat} {args : List Value} {h : AH} (e : fin (irun P N con n f args h) = want (irun P N con n f args h)) :
    ∃ hx, (cfun (envOf P N con) (cinv (envOf P N con) n) n f).run args h = some (.bool true, hx) := by
  cases hr : irun P N con n f args h with
  | none => rw [hr] at e; cases e
  | some p =>
    rw [hr] at e
    simp only [fin, want, Prod.mk.injEq] at e
    obtain ⟨e1, e2⟩ := e
    have := ifun_run (E := envOf P N con) hr e2
    obtain ⟨v, hx, ob⟩ := p
    cases v with
    | bool b =>
      have e1 : b = true := e1
      rw [e1] at this
      exact ⟨hx, this⟩
    | _ => cases e1

/-- one function without arguments, a contract -/
noncomputable def conOne (f0 : Nat) : Nat → Option (List Value → AH → Option (Value × AH)) := fun f => cond (Nat.beq f f0) (some fun args h => match args with
  | [] => some (.bool true, h)
  | _ => none) none

theorem con_one {N : Nat} (hz : ((List.range N).all (zok P)) = true) (hc : (P.funcs.toList.all okFn) = true) (hmix : P.follows .mixedOrders = true) {n f0 : Nat} (e : fin (irun P N noCon n f0 [] ⟨.nil, 0⟩) = want (irun P N noCon n f0 [] ⟨.nil, 0⟩)) : (envOf P N (conOne f0)).Cons P := by
  refine ⟨fun f g h0 => ?_⟩
  have h1 : conOne f0 f = some g := h0
  clear h0
  by_cases hf : f = f0
  · subst hf
    unfold conOne at h1
    rw [Nat.beq_refl] at h1
    simp only [cond_true, Option.some.injEq] at h1
    subst h1
    obtain ⟨hx, he⟩ := fin_run e
    obtain ⟨h1, h2⟩ := const_fun (env_types hz hc noCon) no_cons hmix he rfl
    refine ⟨h1, fun args h v h' e m w a' ha hr => ?_⟩
    simp only at e
    split at e
    · cases e
      exact h2 m h w a' ha.nil_inv hr
    · cases e
  · unfold conOne at h1
    rw [beq_false.2 hf] at h1
    cases h1

/-- a call that comes to true, in the model -/
theorem calls_true {N : Nat} (hz : ((List.range N).all (zok P)) = true) (hc : (P.funcs.toList.all okFn) = true) (hmix : P.follows .mixedOrders = true) {con : Nat → Option (List Value → AH → Option (Value × AH))} (hC : (envOf P N con).Cons P) {n f : Nat} {args : List Value}
    (e : fin (irun P N con n f args h) = want (irun P N con n f args h)) {a' : Array Value} (ha : VRs m args a'.toList) (hr : Rep m h w) : Calls P f a' w fun en w' => ∃ m' h', en = .returned (.bool true) ∧ Goes m h w m' h' w' := by
  obtain ⟨hx, he⟩ := fin_run e
  refine (calls_of_eval (env_types hz hc con) hC hmix he ha hr).mono fun en w' ⟨m', v', h1, h2, h3⟩ => ⟨m', hx, ?_, h3⟩
  rw [h1, h2.bool_inv]

end Go.Ev
