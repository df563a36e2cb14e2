/- A part of a big-step evaluator of the model's language, with the proof that what it comes to, the model comes to for every tape. No conditions. -/
import Derived.Test.YtpncmonojhlheaaGreatEvObl
namespace Go.Ev

variable {E : Env} {iv : IInv} {inv : Inv} {ro : Bool}

def Eqs (ob : Ob) : Prop := (∀ p ∈ ob.ob, p.1 = p.2) ∧ (∀ p ∈ ob.pn, p.1 = p.2) ∧ ∀ p ∈ ob.cn, p
def Suf (ob ob' : Ob) : Prop := (∃ more, ob'.ob = more ++ ob.ob) ∧ (∃ more, ob'.pn = more ++ ob.pn) ∧ ∃ more, ob'.cn = more ++ ob.cn

theorem Suf.refl (ob : Ob) : Suf ob ob := ⟨⟨[], rfl⟩, ⟨[], rfl⟩, [], rfl⟩
theorem Suf.trans {a b c : Ob} (h : Suf a b) (h' : Suf b c) : Suf a c := by
  obtain ⟨⟨x, hx⟩, ⟨z, hz⟩, p, hp⟩ := h
  obtain ⟨⟨y, hy⟩, ⟨u, hu⟩, q, hq⟩ := h'
  exact ⟨⟨y ++ x, by rw [hy, hx]; simp⟩, ⟨u ++ z, by rw [hu, hz]; simp⟩, q ++ p, by rw [hq, hp]; simp⟩
theorem Eqs.suf {a b : Ob} (h : Eqs b) (hs : Suf a b) : Eqs a := by
  obtain ⟨⟨x, hx⟩, ⟨y, hy⟩, z, hz⟩ := hs
  exact ⟨fun p hp => h.1 p (by rw [hx]; exact List.mem_append_right _ hp), fun p hp => h.2.1 p (by rw [hy]; exact List.mem_append_right _ hp), fun p hp => h.2.2 p (by rw [hz]; exact List.mem_append_right _ hp)⟩

theorem eqs_diag {l : List (Value × Value)} (h : l = (l.map Prod.fst).map fun v => (v, v)) : ∀ p ∈ l, p.1 = p.2 := by
  intro p hp
  rw [h] at hp
  obtain ⟨v, _, rfl⟩ := List.mem_map.1 hp
  rfl

theorem pinIf_ok {pin : Bool} {v v' : Value} {ob ob' : Ob} (e : pinIf pin v ob = (v', ob')) : Suf ob ob' ∧ (Eqs ob' → v' = v) := by
  unfold pinIf at e
  split at e
  · unfold pinV at e
    split at e
    · split at e
      · cases e; exact ⟨.refl _, fun _ => rfl⟩
      · rename_i x r _
        cases e
        exact ⟨⟨⟨[], rfl⟩, ⟨[(v, x.2)], rfl⟩, [], rfl⟩, fun hh => (hh.2.1 (v, x.2) (.head _)).symm⟩
    · cases e; exact ⟨⟨⟨[], rfl⟩, ⟨[], rfl⟩, [], rfl⟩, fun _ => rfl⟩
  · cases e; exact ⟨.refl _, fun _ => rfl⟩

def IOK (iv : IInv) (inv : Inv) : Prop := ∀ t a h ob p, iv t a h ob = some p → Suf ob p.2.2 ∧ (Eqs p.2.2 → inv t a h = some (p.1, p.2.1))
def CI (ic : IC) (c : CSt) : Prop := ∀ s ob p, ic.run s ob = some p → Suf ob p.2 ∧ (Eqs p.2 → c.run s = some p.1)

theorem iafter1_ok (hi : IOK iv inv) {pin : Bool} {dst : Option Nat} {s : St} {ob : Ob} {r : AN} {p : St × Ob} (e : iafter1 pin iv ro dst s ob r = some p) : Suf ob p.2 ∧ (Eqs p.2 → after1 inv ro dst s r = some p.1) := by
  cases r with
  | val v h =>
    have e : some ((⟨put s.tm dst (pinIf pin v ob).1, s.df, h⟩ : St), (pinIf pin v ob).2) = some p := e
    cases e
    have hp : Suf ob (pinIf pin v ob).2 ∧ (Eqs (pinIf pin v ob).2 → (pinIf pin v ob).1 = v) := pinIf_ok rfl
    exact ⟨hp.1, fun hh => by show some _ = some _; rw [hp.2 hh]⟩
  | inv t a =>
    simp only [iafter1] at e
    split at e
    · rename_i q hq
      cases e
      obtain ⟨h1, h2⟩ := hi _ _ _ _ _ hq
      exact ⟨h1, fun hh => by simp only [after1, h2 hh]⟩
    · cases e
  | dfr d =>
    cases ro with
    | true => cases e
    | false => cases e; exact ⟨.refl _, fun _ => rfl⟩
  | no => cases e

theorem istep_ok (hi : IOK iv inv) (ops : List Oper) (o : Oper) : CI (istep E iv ro ops o) (cstep E inv ro ops o) := by
  intro s ob p e
  unfold istep at e
  unfold cstep
  split at e
  · rename_i hg
    simp only [hg]
    exact iafter1_ok hi e
  · rename_i g hg
    simp only [hg]
    simp only at e
    split at e
    · rename_i hw
      simp only [hw]
      exact iafter1_ok hi e
    · rename_i hw
      simp only [hw]
      cases e
      exact ⟨.refl _, fun _ => rfl⟩

theorem iops_ok (hi : IOK iv inv) (ops : List Oper) : ∀ l : List Oper, CI (iops E iv ro ops l) (cops E inv ro ops l) := by
  intro l
  induction l with
  | nil => intro s ob p e; cases e; exact ⟨.refl _, fun _ => rfl⟩
  | cons o l ih =>
    intro s ob p e
    have e : (match (istep E iv ro ops o).run s ob with
      | some p => (iops E iv ro ops l).run p.1 p.2
      | none => none) = some p := e
    split at e
    · rename_i q hq
      obtain ⟨h1, h2⟩ := istep_ok hi ops o s ob q hq
      obtain ⟨h3, h4⟩ := ih q.1 q.2 p e
      refine ⟨h1.trans h3, fun hh => ?_⟩
      show (match (cstep E inv ro ops o).run s with
        | some s' => (cops E inv ro ops l).run s'
        | none => none) = some p.1
      rw [h2 (hh.suf h3)]
      exact h4 hh
    · cases e

theorem readI_ok {c : COp} {tm : List Value} {ob : Ob} {hs : List AH} {p : Value × Ob} (e : readI c tm ob hs = some p) : Suf ob p.2 ∧ (Eqs p.2 → readAll c tm hs = some p.1) := by
  cases hs with
  | nil => cases e
  | cons h hs =>
    simp only [readI] at e
    split at e
    · rename_i v h1 hv
      split at e
      · rename_i ob' hr
        cases e
        have key : ∀ (l : List AH) (ob ob' : Ob), readRest c tm v l ob = some ob' → Suf ob ob' ∧ (Eqs ob' → (List.rec (some v) (fun h' _ ih => match c.run tm h' with
          | .val w _ => cond (eqv w v) ih none
          | _ => none) l : Option Value) = some v) := by
          intro l
          induction l with
          | nil => intro ob ob' e; cases e; exact ⟨.refl _, fun _ => rfl⟩
          | cons x l ih =>
            intro ob ob' e
            have e : (match c.run tm x with
              | .val w _ => readRest c tm v l ⟨(w, v) :: ob.ob, ob.pn, ob.cn, ob.cnt, ob.pins⟩
              | _ => none) = some ob' := e
            split at e
            · rename_i w h2 hw
              obtain ⟨h3, h4⟩ := ih _ _ e
              have hs : Suf ob ob' := Suf.trans (b := ⟨(w, v) :: ob.ob, ob.pn, ob.cn, ob.cnt, ob.pins⟩) ⟨⟨[(w, v)], rfl⟩, ⟨[], rfl⟩, [], rfl⟩ h3
              refine ⟨hs, fun hh => ?_⟩
              have hwv : w = v := (hh.suf h3).1 (w, v) (.head _)
              subst hwv
              simp only [hw]
              have : eqv w w = true := by unfold eqv; exact @decide_eq_true _ (Classical.propDecidable _) rfl
              rw [this]
              exact h4 hh
            · cases e
        obtain ⟨h3, h4⟩ := key hs ob _ hr
        refine ⟨h3, fun hh => ?_⟩
        simp only [readAll, hv]
        exact h4 hh
      · cases e
    · cases e

def DI (ic : ID) (c : CD) : Prop := ∀ d ob p, ic.run d ob = some p → Suf ob p.2 ∧ (Eqs p.2 → c.run d = some p.1)

theorem idrawn1_ok (hi : IOK iv inv) {base x : Nat} {o : Oper} {c : COp} {d : DS} {ob : Ob} {pin : Bool} {p : DS × Ob} (e : idrawn1 pin iv ro base x o c d ob = some p) : Suf ob p.2 ∧ (Eqs p.2 → drawn1 inv ro base x o c d = some p.1) := by
  unfold idrawn1 at e
  unfold drawn1
  split at e
  · rename_i hc
    split at e
    · rename_i q hq
      obtain ⟨h1, h2⟩ := readI_ok hq
      split at e
      rename_i v' ob' hp
      cases e
      obtain ⟨h3, h4⟩ := pinIf_ok hp
      exact ⟨h1.trans h3, fun hh => by simp only [hc, h2 (hh.suf h3), h4 hh]⟩
    · cases e
  · rename_i hc
    split at e
    · rename_i q hq
      cases e
      obtain ⟨h1, h2⟩ := iafter1_ok hi hq
      exact ⟨h1, fun hh => by simp only [hc, h2 hh]⟩
    · cases e
  · rename_i hc
    split at e
    · rename_i v h1 hv; cases e; exact ⟨.refl _, fun _ => by simp only [hc, hv]⟩
    · cases e
  · rename_i hc
    split at e
    · rename_i v h1 hv
      split at e
      rename_i v' ob' hp
      cases e
      obtain ⟨h3, h4⟩ := pinIf_ok hp
      exact ⟨h3, fun hh => by simp only [hc, hv, h4 hh]⟩
    · cases e

theorem idrawOne_ok (hi : IOK iv inv) (ops : List Oper) (base i x : Nat) : DI (idrawOne E iv ro ops base i x) (cdrawOne E inv ro ops base i x) := by
  intro d ob p e
  unfold idrawOne at e
  unfold cdrawOne
  split at e
  · cases e
  · rename_i o ho
    simp only [ho]
    split at e
    · rename_i hg
      simp only [hg]
      exact idrawn1_ok hi e
    · rename_i g hg
      simp only [hg]
      simp only at e
      split at e
      · rename_i hw; simp only [hw]; exact idrawn1_ok hi e
      · rename_i hw
        simp only [hw]
        split at e
        · rename_i he; cases e; simp only [he]; exact ⟨.refl _, fun _ => trivial⟩
        · rename_i he; cases e; simp only [he]; exact ⟨.refl _, fun _ => trivial⟩

theorem idraws_ok (hi : IOK iv inv) (ops : List Oper) (base : Nat) : ∀ l : List (Nat × Nat), DI (idraws E iv ro ops base l) (cdraws E inv ro ops base l) := by
  intro l
  induction l with
  | nil => intro d ob p e; cases e; exact ⟨.refl _, fun _ => rfl⟩
  | cons x l ih =>
    intro d ob p e
    have e : (match (idrawOne E iv ro ops base x.1 x.2).run d ob with
      | some p => (idraws E iv ro ops base l).run p.1 p.2
      | none => none) = some p := e
    split at e
    · rename_i q hq
      obtain ⟨h1, h2⟩ := idrawOne_ok hi ops base x.1 x.2 d ob q hq
      obtain ⟨h3, h4⟩ := ih q.1 q.2 p e
      refine ⟨h1.trans h3, fun hh => ?_⟩
      show (match (cdrawOne E inv ro ops base x.1 x.2).run d with
        | some d' => (cdraws E inv ro ops base l).run d'
        | none => none) = some p.1
      rw [h2 (hh.suf h3)]
      exact h4 hh
    · cases e

theorem idraw_ok (hi : IOK iv inv) (ops : List Oper) : CI (idraw E iv ro ops) (cdraw E inv ro ops) := by
  intro s ob p e
  unfold idraw at e
  unfold cdraw
  split at e
  · rename_i q hq
    simp only [hq]
    simp only at e
    split at e
    · rename_i d hd
      cases e
      obtain ⟨h1, h2⟩ := idraws_ok hi ops _ _ _ _ _ hd
      exact ⟨h1, fun hh => by rw [h2 hh]⟩
    · cases e
  · cases e

-- code

def RI (r : RO) (ob : Ob) (r' : R) : Prop := ∀ x s ob', r = .ok x s ob' → Suf ob ob' ∧ (Eqs ob' → r' = .ok x s)

theorem RI.of {x : Option (St × Ob)} {y : Option St} {ob : Ob} (h : ∀ p, x = some p → Suf ob p.2 ∧ (Eqs p.2 → y = some p.1)) : RI (RO.of x) ob (R.of y) := by
  intro ax s ob' e
  cases x with
  | none => cases e
  | some p =>
    cases e
    obtain ⟨h1, h2⟩ := h p rfl
    exact ⟨h1, fun hh => by rw [h2 hh]; rfl⟩

theorem RI.andThen {r : RO} {ob : Ob} {r' : R} (h : RI r ob r') {k : St → Ob → RO} {k' : St → R} (hk : ∀ s ob, RI (k s ob) ob (k' s)) : RI (r.andThen k) ob (r'.andThen k') := by
  intro ax s ob' e
  cases r with
  | no => cases e
  | ok x s1 ob1 =>
    obtain ⟨h1, h2⟩ := h x s1 ob1 rfl
    cases x with
    | normal =>
      obtain ⟨h3, h4⟩ := hk s1 ob1 ax s ob' e
      exact ⟨h1.trans h3, fun hh => by rw [h2 (hh.suf h3)]; exact h4 hh⟩
    | exit id => cases e; exact ⟨h1, fun hh => by rw [h2 hh]; rfl⟩
    | ret => cases e; exact ⟨h1, fun hh => by rw [h2 hh]; rfl⟩
    | goto l => cases e; exact ⟨h1, fun hh => by rw [h2 hh]; rfl⟩

theorem RI.inBlock {r : RO} {ob : Ob} {r' : R} (h : RI r ob r') (id : Nat) : RI (r.inBlock id) ob (r'.inBlock id) := by
  intro ax s ob' e
  cases r with
  | no => cases e
  | ok x s1 ob1 =>
    obtain ⟨h1, h2⟩ := h x s1 ob1 rfl
    cases x with
    | exit j =>
      simp only [RO.inBlock] at e
      cases hj : Nat.beq j id with
      | true => rw [hj] at e; cases e; exact ⟨h1, fun hh => by rw [h2 hh]; simp only [R.inBlock, hj, cond_true]⟩
      | false => rw [hj] at e; cases e; exact ⟨h1, fun hh => by rw [h2 hh]; simp only [R.inBlock, hj, cond_false]⟩
    | normal => cases e; exact ⟨h1, fun hh => by rw [h2 hh]; rfl⟩
    | ret => cases e; exact ⟨h1, fun hh => by rw [h2 hh]; rfl⟩
    | goto l => cases e; exact ⟨h1, fun hh => by rw [h2 hh]; rfl⟩

theorem RI.inScope {r : RO} {ob : Ob} {r' : R} (h : RI r ob r') : RI r.inScope ob r'.inScope := by
  intro ax s ob' e
  cases r with
  | no => cases e
  | ok x s1 ob1 =>
    obtain ⟨h1, h2⟩ := h x s1 ob1 rfl
    cases x with
    | goto l => cases e
    | exit j => cases e; exact ⟨h1, fun hh => by rw [h2 hh]; rfl⟩
    | normal => cases e; exact ⟨h1, fun hh => by rw [h2 hh]; rfl⟩
    | ret => cases e; exact ⟨h1, fun hh => by rw [h2 hh]; rfl⟩

theorem iloopN_ok {b : St → Ob → RO} {b' : St → R} (h : ∀ s ob, RI (b s ob) ob (b' s)) : ∀ n s ob, RI (iloopN b n s ob) ob (loopN b' n s) := by
  intro n
  induction n with
  | zero => intro s ob ax s' ob' e; cases e
  | succ n ih => intro s ob; exact (h s ob).andThen (k := iloopN b n) (k' := loopN b' n) ih

theorem irangeF_ok (hi : IOK iv inv) (f : Value) (ob : Ob) (x : Option (Nat × St)) : RI (irangeF iv f ob x) ob (rangeF inv f x) := by
  intro ax s ob' e
  cases x with
  | none => cases e
  | some q =>
    obtain ⟨l, s1⟩ := q
    simp only [irangeF] at e
    simp only [rangeF]
    split at e
    · rename_i t a hcv
      split at e
      · rename_i p hp
        obtain ⟨h1, h2⟩ := hi _ _ _ _ _ hp
        unfold RO.ofR at e
        split at e
        · rename_i x' s' hx
          cases e
          refine ⟨h1, fun hh => ?_⟩
          rw [hcv]
          simp only [h2 hh, hx]
        · cases e
      · cases e
    · cases e

theorem icode_ok (hi : IOK iv inv) (fn : Nat) (ro : Option Nat) (n : Nat) (c : Code) : ∀ s ob, RI ((icode E iv fn ro n c).run s ob) ob ((ccode E inv fn ro n c).run s) := by
  induction c with
  | skip => intro s ob ax s' ob' e; cases e; exact ⟨.refl _, fun _ => rfl⟩
  | region id ops draw =>
    intro s ob
    cases draw with
    | true => exact RI.of (idraw_ok hi ops.toList s ob)
    | false => exact RI.of (iops_ok hi ops.toList ops.toList s ob)
  | seq x y ihx ihy => intro s ob; exact (ihx s ob).andThen ihy
  | cond x a b iha ihb =>
    intro s ob
    show RI (RO.if' ((cval x).run s.tm) fun t => match t with | true => (icode E iv fn ro n a).run s ob | false => (icode E iv fn ro n b).run s ob) ob
      (R.if' ((cval x).run s.tm) fun t => match t with | true => (ccode E inv fn ro n a).run s | false => (ccode E inv fn ro n b).run s)
    generalize (cval x).run s.tm = q
    cases q with
    | bool t =>
      cases t with
      | true => exact iha s ob
      | false => exact ihb s ob
    | _ => intro ax s' ob' e; cases e
  | block id c ih => intro s ob; exact (ih s ob).inBlock id
  | loop c ih => intro s ob; exact iloopN_ok ih n s ob
  | rangeFunc f ps asg body ih1 ih2 => intro s ob; exact irangeF_ok hi _ ob _
  | exit id => intro s ob ax s' ob' e; cases e; exact ⟨.refl _, fun _ => rfl⟩
  | scope c ih => intro s ob; exact (ih s ob).inScope
  | label l => intro s ob ax s' ob' e; cases e; exact ⟨.refl _, fun _ => rfl⟩
  | goto l => intro s ob ax s' ob' e; cases e
  | ret => intro s ob ax s' ob' e; cases e; exact ⟨.refl _, fun _ => rfl⟩
  | refuse why => intro s ob ax s' ob' e; cases e

theorem irunDefers_ok (hi : IOK iv inv) : ∀ (ds : List Deferred) (h : AH) (ob : Ob) (p : AH × Ob), irunDefers E iv ds h ob = some p → Suf ob p.2 ∧ (Eqs p.2 → runDefers E inv ds h = some p.1) := by
  intro ds
  induction ds with
  | nil => intro h ob p e; cases e; exact ⟨.refl _, fun _ => rfl⟩
  | cons d ds ih =>
    intro h ob p e
    obtain ⟨t, args⟩ := d
    cases t with
    | collected b =>
      simp only [irunDefers] at e
      split at e
      · rename_i hg
        obtain ⟨h1, h2⟩ := ih _ _ _ e
        exact ⟨h1, fun hh => by simp only [runDefers, hg]; exact h2 hh⟩
      · cases e
    | fn fv cap =>
      cases fv with
      | func f =>
        simp only [irunDefers] at e
        split at e
        · cases e
        · rename_i hcon
          split at e
          · rename_i q hq
            obtain ⟨h1, h2⟩ := hi _ _ _ _ _ hq
            obtain ⟨h3, h4⟩ := ih _ _ _ e
            refine ⟨h1.trans h3, fun hh => ?_⟩
            simp only [runDefers, hcon, h2 (hh.suf h3)]
            exact h4 hh
          · cases e
      | _ => cases e
    | _ => cases e

def FI (x : Option (Value × AH × Ob)) (ob : Ob) (y : Option (Value × AH)) : Prop := ∀ p, x = some p → Suf ob p.2.2 ∧ (Eqs p.2.2 → y = some (p.1, p.2.1))

theorem ifinish_ok (hi : IOK iv inv) (fn : Func) (s : St) (ob : Ob) : FI (ifinish E iv fn s ob) ob (finish E inv fn s) := by
  intro p e
  unfold ifinish at e
  unfold finish
  split at e
  · cases e
  · rename_i q hq
    obtain ⟨h1, h2⟩ := irunDefers_ok hi _ _ _ _ hq
    split at e
    · rename_i l hl
      cases e
      exact ⟨h1, fun hh => by rw [h2 hh]; simp only [hl]⟩
    · cases e

theorem ileave_ok (hi : IOK iv inv) (fn : Func) {r : RO} {ob : Ob} {r' : R} (h : RI r ob r') : FI (ileave E iv fn r) ob (leave E inv fn r') := by
  intro p e
  cases r with
  | no => cases e
  | ok x s ob1 =>
    obtain ⟨h1, h2⟩ := h x s ob1 rfl
    have fin : ifinish E iv fn s ob1 = some p → Suf ob p.2.2 ∧ (Eqs p.2.2 → r' = .ok x s ∧ finish E inv fn s = some (p.1, p.2.1)) := by
      intro e
      obtain ⟨h3, h4⟩ := ifinish_ok hi fn s ob1 p e
      exact ⟨h1.trans h3, fun hh => ⟨h2 (hh.suf h3), h4 hh⟩⟩
    cases x with
    | normal =>
      obtain ⟨h3, h4⟩ := fin e
      exact ⟨h3, fun hh => by rw [(h4 hh).1]; exact (h4 hh).2⟩
    | ret =>
      obtain ⟨h3, h4⟩ := fin e
      exact ⟨h3, fun hh => by rw [(h4 hh).1]; exact (h4 hh).2⟩
    | exit id => cases e
    | goto l => cases e

theorem ifun_ok (hi : IOK iv inv) (n f : Nat) (args : List Value) (h : AH) (ob : Ob) : FI ((ifun E iv n f).run args h ob) ob ((cfun E inv n f).run args h) := by
  intro p e
  unfold ifun at e
  unfold cfun
  split at e
  · cases e
  · rename_i fn hfn
    simp only [hfn]
    split at e
    · cases e
    · rename_i c hc
      simp only [hc]
      exact ileave_ok hi fn (icode_ok hi f none n c _ ob) p e

theorem iendRound_ok {l : Nat} {r : RO} {ob : Ob} {r' : R} (h : RI r ob r') : FI (iendRound l r) ob (endRound l r') := by
  intro p e
  cases r with
  | no => cases e
  | ok x s ob1 =>
    obtain ⟨h1, h2⟩ := h x s ob1 rfl
    simp only [iendRound] at e
    split at e
    · rename_i hd
      split at e
      · rename_i q hq
        cases e
        exact ⟨h1, fun hh => by rw [h2 hh]; simp only [endRound, hd, hq]⟩
      · cases e
    · cases e

theorem imidRound_ok {ev : Code → St → Ob → RO} {ev' : Code → St → R} (hev : ∀ c s ob, RI (ev c s ob) ob (ev' c s)) {l : Nat} {body : Code} {r : RO} {ob : Ob} {r' : R} (h : RI r ob r') : FI (imidRound ev l body r) ob (midRound ev' l body r') := by
  intro p e
  cases r with
  | no => cases e
  | ok x s ob1 =>
    obtain ⟨h1, h2⟩ := h x s ob1 rfl
    cases x with
    | normal =>
      simp only [imidRound] at e
      split at e
      · rename_i hd
        split at e
        · rename_i q hq
          split at e
          · rename_i hst
            obtain ⟨h3, h4⟩ := iendRound_ok (hev body _ ob1) p e
            refine ⟨h1.trans h3, fun hh => ?_⟩
            rw [h2 (hh.suf h3)]
            simp only [midRound, hd, hq, hst]
            exact h4 hh
          · cases e
        · cases e
      · cases e
    | exit id => cases e
    | ret => cases e
    | goto l => cases e

theorem iround_ok (hi : IOK iv inv) (n l : Nat) (args : List Value) (h : AH) (ob : Ob) : FI (iround E iv n l args h ob) ob (cround E inv n l args h) := by
  intro p e
  unfold iround at e
  unfold cround
  split at e
  · rename_i r hr
    simp only [hr]
    cases hn : Nat.beq args.length r.params.size with
    | false => rw [hn] at e; cases e
    | true =>
      rw [hn] at e
      simp only [cond_true] at e ⊢
      exact imidRound_ok (fun c s ob => icode_ok hi r.fn (some l) n c s ob) (icode_ok hi r.fn (some l) n r.assign _ ob) p e
  · cases e

theorem pinV_ok {v v' : Value} {ob ob' : Ob} (e : pinV v ob = (v', ob')) : Suf ob ob' ∧ (Eqs ob' → v' = v) := pinIf_ok (pin := true) e

theorem iCon_ok (g : Con) (args : List Value) (h : AH) (ob : Ob) : FI (iCon g args h ob) ob (callCon g args h) := by
  intro p e
  unfold iCon at e
  split at e
  · rename_i q hq
    split at e
    rename_i v ob' hp
    cases e
    obtain ⟨h1, h2⟩ := pinV_ok hp
    have hs : Suf ob ob' := Suf.trans (b := ⟨ob.ob, ob.pn, g.ok args h :: ob.cn, ob.cnt, ob.pins⟩) ⟨⟨[], rfl⟩, ⟨[], rfl⟩, [g.ok args h], rfl⟩ h1
    refine ⟨hs, fun hh => ?_⟩
    have hok : g.ok args h := (hh.suf h1).2.2 _ (.head _)
    rw [h2 hh]
    unfold callCon
    rw [if_pos hok, hq]
  · cases e

theorem iinvF_ok (hi : IOK iv inv) (n : Nat) : IOK (iinvF E n iv) (cinvF E n inv) := by
  intro t args h ob p e
  unfold iinvF at e
  unfold cinvF
  split at e
  · simp only
    split at e
    · simp only
      split at e
      · rename_i g hg
        simp only [hg]
        exact iCon_ok g _ h ob p e
      · rename_i hg
        simp only [hg]
        exact ifun_ok hi n _ _ h ob p e
    · exact iround_ok hi n _ args h ob p e
    · simp only
      split at e
      · simp only
        split at e
        · rename_i f x hm
          simp only [hm]
          split at e
          · rename_i g hg
            simp only [hg]
            exact iCon_ok g _ h ob p e
          · rename_i hg
            simp only [hg]
            exact ifun_ok hi n _ _ h ob p e
        · cases e
      · cases e
    · cases e
  · cases e

theorem iinv_ok (E : Env) : ∀ n, IOK (iinv E n) (cinv E n) := by
  intro n
  induction n with
  | zero => intro t a h ob p e; cases e
  | succ n ih => exact iinvF_ok ih n

/-- an instrumented run whose pairs are the same is a run -/
theorem ifun_run {n f : Nat} {args : List Value} {h : AH} {ob : Ob} {p : Value × AH × Ob} (e : (ifun E (iinv E n) n f).run args h ob = some p) (hob : Eqs p.2.2) :
    (cfun E (cinv E n) n f).run args h = some (p.1, p.2.1) :=
  (ifun_ok (iinv_ok E n) n f args h ob p e).2 hob

end Go.Ev
