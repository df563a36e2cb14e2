/- A part of a big-step evaluator of the model's language, with the proof that what it comes to, the model comes to for every tape. No conditions. -/
import Derived.Test.YtpncmonojhlheaaGreatEvGrow
namespace Go.Ev
open Go.RowKit

variable {P : Program} {E : Env} {m : Mp} {h : AH} {w : World}

/-- arguments without addresses mean the same whatever lies where -/
theorem flat_args {m' : Mp} : ∀ (l l' : List Value), l.all (flatV 5) = true → VRs m l l' → VRs m' l l' := by
  intro l l' hl hv
  refine ⟨hv.1, fun i v v' h1 h2 => ?_⟩
  exact flat_move 5 v v' (List.all_eq_true.1 hl v (List.mem_of_getElem? h1)) (hv.2 i v v' h1 h2)

/-- a function that reads what may not be written alone, reckoned once -/
theorem ro_fun (hE : E.Types P) (hC : E.Cons P) (hmix : P.follows .mixedOrders = true) {n f : Nat} {args0 : List Value} {h0 : AH} {v : Value} {hx : AH} (e : (cfun E (cinv E n) n f).run args0 h0 = some (v, hx)) (hs : Still h0) (hf : flatV 5 v = true)
    {m0 : Mp} {a' : Array Value} (ha : VRs m0 args0 a'.toList) (h0r : Rep m0 h0 w) (hr : Rep m h w) : FunAtN P m h w f a' v h := by
  obtain ⟨_, hfun⟩ := cfun_sound hE (cinv_ok hE hC hmix n) (draw_ok hE hmix _ (cinv_ok hE hC hmix n)) e ha h0r
  intro cs
  obtain ⟨fr, m', w', v', st, h1, h2, h3, h4, h5, g, hv⟩ := hfun .normal cs
  exact ⟨fr, m, w', v', st, h1, h2, h3, h4, h5, .grown hr (below_of g hs), flat_move 5 v v' hf hv⟩

theorem pure_fun (hE : E.Types P) (hC : E.Cons P) (hmix : P.follows .mixedOrders = true) {n f : Nat} {args : List Value} {v : Value} {hx : AH} (e : (cfun E (cinv E n) n f).run args ⟨.nil, 0⟩ = some (v, hx)) (hfa : args.all (flatV 5) = true) (hf : flatV 5 v = true)
    {a' : Array Value} (ha : VRs m args a'.toList) (hr : Rep m h w) : FunAtN P m h w f a' v h :=
  ro_fun hE hC hmix e (bare_nil 0).still hf (flat_args _ _ hfa ha) (rep_none w 0) hr

/-- some cells of a block, to be read alone -/
noncomputable def oneBlock (l : List Value) : AH := AH.new ⟨.nil, 0⟩ (.cells l true)
theorem oneBlock_still (l : List Value) : Still (oneBlock l) := by
  intro n o e
  unfold oneBlock at e
  rw [AH.get_new] at e
  split at e
  · cases e; exact ⟨l, rfl⟩
  · rw [bare_nil 0 n] at e; cases e
def onePlace (m : Mp) (b d : Nat) : Mp := ⟨fun k => if k = 0 then some (b, d) else none, m.sz⟩
theorem oneBlock_rep (hr : Rep m h w) {n b d o : Nat} {c : List Value} {ro : Bool} (hg : h.get n = some (.cells c ro)) (hm : m n = some (b, d)) {l : List Value} (hl : ∀ (i : Nat) (v : Value), l[i]? = some v → c[o + i]? = some v ∧ flatV 5 v = true) (hlen : o + l.length ≤ c.length) :
    Rep (onePlace m b (d + o)) (oneBlock l) w := by
  obtain ⟨c', e', fz, h1, h2, h3, h4⟩ := rep_cells hr hg hm
  have hget : ∀ k, (oneBlock l).get k = if k = 0 then some (.cells l true) else none := by
    intro k; unfold oneBlock; rw [AH.get_new]
    by_cases hk : k = 0
    · rw [if_pos hk, if_pos hk]
    · rw [if_neg hk, if_neg hk]; exact bare_nil 0 k
  refine ⟨fun k hk => ?_, fun k b' d' e => ?_, fun k p e => ?_, fun k k' p p' b' d1 d2 e1 e2 _ _ => ?_, fun k p b' d' cc e fz' hgk hmk hbk => ?_⟩
  · have hk : 1 ≤ k := hk
    refine ⟨if_neg (by omega), ?_⟩
    rw [hget, if_neg (by omega)]
  · have e : (if k = 0 then some (b, d + o) else none) = some (b', d') := e
    split at e
    · cases e; exact hr.inside n _ _ hm
    · cases e
  · rw [hget] at e
    split at e
    · rename_i hk
      cases e
      refine ⟨b, d + o, _, if_pos hk, h1, .cells (fun hh => by cases hh) (by omega) (fun i v hi => ?_)⟩
      obtain ⟨q1, q2⟩ := hl i v hi
      obtain ⟨y, y1, y2⟩ := h4 _ _ q1
      exact ⟨y, by rw [Nat.add_assoc]; exact y1, flat_move 5 v y q2 y2⟩
    · cases e
  · rw [hget] at e1 e2
    split at e1
    · split at e2
      · omega
      · cases e2
    · cases e1
  · have e : (if k = 0 then some (b, d + o) else none) = some (b', d') := hmk
    split at e
    · cases e; exact hr.sized n _ _ _ _ _ _ hg hm hbk
    · cases e

-- a run that comes to a value

noncomputable def valOf (r : Option (Value × AH × Ob)) : Option Value := match r with
  | some p => some p.1
  | none => none
noncomputable def finV (r : Option (Value × AH × Ob)) : Option Value × List (Value × Value) × List Prop × List (Value × Value) := (valOf r, pns r, cns r, obs r)
noncomputable def wantV (r : Option (Value × AH × Ob)) (v : Value) (l : List (Value × Value)) (ps : List Prop) : Option Value × List (Value × Value) × List Prop × List (Value × Value) := (some v, l, ps, ((obs r).map Prod.fst).map fun v => (v, v))

theorem fin_runV {N : Nat} {con : Nat → Option Con} {n f : Nat} {args : List Value} {h : AH} {c : Nat} {pins : List (Nat × Value)} {v : Value} {l : List (Value × Value)} {ps : List Prop}
    (e : finV (irunP P N con n f args h c pins) = wantV (irunP P N con n f args h c pins) v l ps) (hl : Same l) (hp : ∀ p ∈ ps, p) :
    ∃ hx, (cfun (envOf P N con) (cinv (envOf P N con) n) n f).run args h = some (v, hx) := by
  cases hr : irunP P N con n f args h c pins with
  | none => rw [hr] at e; cases e
  | some p =>
    rw [hr] at e
    simp only [finV, wantV, Prod.mk.injEq] at e
    obtain ⟨e1, e3, e4, e2⟩ := e
    obtain ⟨v', hx, ob⟩ := p
    have e3 : ob.pn = l := e3
    have e4 : ob.cn = ps := e4
    have := ifun_run (E := envOf P N con) hr ⟨eqs_diag e2, by rw [e3]; exact same_all hl, by rw [e4]; exact hp⟩
    have e1 : some v' = some v := e1
    cases e1
    exact ⟨hx, this⟩

/-- all of them hold -/
def AllP : List Prop → Prop
  | [] => True
  | p :: r => p ∧ AllP r
theorem AllP.nil : AllP [] := trivial
theorem AllP.cons {p : Prop} {r : List Prop} (h : p) (t : AllP r) : AllP (p :: r) := ⟨h, t⟩
theorem allP : ∀ {l : List Prop}, AllP l → ∀ p ∈ l, p
  | [], _, p, h => by cases h
  | q :: r, h, p, hp => by
    cases hp with
    | head => exact h.1
    | tail _ hp => exact allP h.2 p hp

end Go.Ev
