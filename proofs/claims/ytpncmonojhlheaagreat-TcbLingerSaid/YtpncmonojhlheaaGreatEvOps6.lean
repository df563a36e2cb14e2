/- A part of a big-step evaluator of the model's language, with the proof that what it comes to, the model comes to for every tape. No conditions. -/
import Derived.Test.YtpncmonojhlheaaGreatEvOps5
namespace Go.Ev

variable {P : Program} {E : Env} {m : Mp} {h : AH} {w : World}

theorem sameAddr_run (hr : Rep m h w) {a b : Nat} {ca cb : List Value} (ha : h.wcells a = some ca) (hb : h.wcells b = some cb) {a' da b' db oa ob : Nat} (hma : m a = some (a', da)) (hmb : m b = some (b', db)) :
    (sameAddr ⟨a', da + oa, none⟩ ⟨b', db + ob, none⟩).run P w = .ok (Nat.beq a b && Nat.beq oa ob) w := by
  have ga := wcells_get ha
  have gb := wcells_get hb
  obtain ⟨x, ex, fx, h1, h2, _⟩ := rep_cells hr ga hma
  obtain ⟨y, ey, fy, k1, k2, _⟩ := rep_cells hr gb hmb
  have := h2 rfl; subst this
  have := k2 rfl; subst this
  have fa : ∀ o, w.frozen? ⟨a', o, none⟩ = false := nofreeze h1
  have fb : ∀ o, w.frozen? ⟨b', o, none⟩ = false := nofreeze k1
  have sa : w.shape? a' = some (ex, x.size) := by simp [World.shape?, h1]
  have sb : w.shape? b' = some (ey, y.size) := by simp [World.shape?, k1]
  by_cases hab : a = b
  · subst hab
    rw [hma] at hmb; cases hmb
    simp only [sameAddr, beq_self_eq_true, if_true, Sem.run_pure, Nat.beq_refl, Bool.true_and]
    congr 1
    rw [Bool.eq_iff_iff, beq_iff_eq, beq_true]
    constructor
    · intro h; injection h with h1 h2; omega
    · intro h; subst h; rfl
  · have hne : a' ≠ b' := by
      rintro rfl
      exact hab (hr.apart a b _ _ _ _ _ ga gb hma hmb)
    rw [beq_false.2 hab]
    have hbeq : (a' == b') = false := by rw [beq_eq_false_iff_ne]; exact hne
    simp only [sameAddr, hbeq, Bool.false_eq_true, if_false, Sem.run_bind, run_frozen, fa, fb, Result.andThen_ok, Bool.false_and, Bool.and_self, noView, viewAt, run_shape, sa, sb, Option.isSome_some, if_true, Sem.run_pure, Option.isSome_none, mayBeOne, stringish]
    simp []

theorem eqPtr_sound (hE : E.Types P) (hr : Rep m h w) {e t D : Nat} {a b : Option Addr} {x' y' : Value} {r : Bool} (hu : E.und t = some (.pointer e)) (he : eqPtr E h e a b = some r)
    (hx : VR m (.pointer a) x') (hy : VR m (.pointer b) y') : (Op.equalIn (D + 1) t x' y').run P w = .ok r w := by
  unfold eqPtr at he
  cases a with
  | none =>
    cases he
    cases hx
    cases hy with
    | ptrNil => simp [Op.equalIn, run_und hE hu]
    | ptr hm => simp [Op.equalIn, run_und hE hu]
  | some a =>
    cases b with
    | none =>
      cases he
      cases hy
      cases hx with
      | ptr hm => simp [Op.equalIn, run_und hE hu]
    | some b =>
      simp only at he
      split at he
      · split at he
        · split at he
          · rename_i i hty
            cases hb : (Nat.blt 0 i.size && live2 h a.block b.block) with
            | false => rw [hb] at he; cases he
            | true =>
              rw [hb] at he
              simp only [cond_true, Option.some.injEq] at he
              subst he
              rw [Bool.and_eq_true] at hb
              have hs : i.size ≠ 0 := by have := Nat.le_of_ble_eq_true hb.1; omega
              have hl := hb.2
              unfold live2 at hl
              rw [Bool.and_eq_true] at hl
              obtain ⟨ca, hca⟩ := Option.isSome_iff_exists.1 hl.1
              obtain ⟨cb, hcb⟩ := Option.isSome_iff_exists.1 hl.2
              cases hx with
              | @ptr _ oa _ _ hm =>
                cases hy with
                | @ptr _ ob _ _ hm' =>
                  have := sameAddr_run (P := P) (oa := oa) (ob := ob) hr hca hcb hm hm'
                  simp only [Op.equalIn, Sem.run_bind, run_und hE hu, Result.andThen_ok, run_size hE hty]
                  rw [if_pos hs]
                  exact this
          · cases he
        · cases he
      · cases he

theorem eqFields_sound (hE : E.Types P) {eqf : Nat → Value → Value → Option Bool} {D : Nat} (ih : ∀ t x y r x' y', eqf t x y = some r → VR m x x' → VR m y y' → (Op.equalIn D t x' y').run P w = .ok r w)
    {xs ys : Array Value} {xs' ys' : Array Value} (hx : VRs m xs.toList xs'.toList) (hy : VRs m ys.toList ys'.toList) :
    ∀ (fs : List Field) (r : Bool), Env.eqFields eqf E xs.toList ys.toList fs = some r → (Op.eqFields D xs' ys' fs).run P w = .ok r w := by
  intro fs
  induction fs with
  | nil => intro r e; cases e; rfl
  | cons f fs ihf =>
    intro r e
    simp only [Env.eqFields] at e
    simp only [Op.eqFields]
    cases hn : (f.name == "_") with
    | true =>
      rw [hn] at e
      rw [beq_iff_eq] at hn
      rw [if_neg (by rw [hn]; simp)]
      exact ihf r e
    | false =>
      rw [hn] at e
      simp only [cond_false] at e
      rw [beq_eq_false_iff_ne] at hn
      rw [if_pos hn]
      split at e
      · rename_i x hpx
        split at e
        · rename_i y hpy
          obtain ⟨x', p1, p2⟩ := part_sound hE hpx hx w
          obtain ⟨y', q1, q2⟩ := part_sound hE hpy hy w
          simp only [Sem.run_bind, p1, q1, Result.andThen_ok]
          split at e
          · rename_i b heq
            split at e
            · rename_i c hc
              cases e
              rw [ih _ _ _ _ _ _ heq p2 q2]
              cases b with
              | true =>
                simp only [Result.andThen_ok, Bool.not_true, Bool.false_eq_true, if_false, Bool.true_and]
                exact ihf c hc
              | false => simp only [Result.andThen_ok, Bool.not_false, if_true, Sem.run_pure, Bool.false_and]
            · cases e
          · cases e
        · cases e
      · cases e

theorem eq_sound (hE : E.Types P) (hr : Rep m h w) : ∀ (d : Nat) (t : Nat) (x y : Value) (r : Bool) (x' y' : Value), E.eq h d t x y = some r → VR m x x' → VR m y y' →
    ∀ D, d ≤ D → (Op.equalIn D t x' y').run P w = .ok r w := by
  intro d
  induction d with
  | zero => intro t x y r x' y' e; cases e
  | succ d ih =>
    intro t x y r x' y' e hx hy D hD
    obtain ⟨D, rfl⟩ : ∃ k, D = k + 1 := ⟨D - 1, by omega⟩
    simp only [Env.eq] at e
    split at e
    · cases e
    · rename_i u hu
      split at e
      · cases e
        rw [hx.bool_inv, hy.bool_inv]
        simp [Op.equalIn, run_und hE hu]
      · rename_i k0 k a j b
        rw [hx.int_inv, hy.int_inv]
        cases hk : kindEq k j with
        | false => rw [hk] at e; cases e
        | true =>
          rw [hk] at e
          have := (kindEq_eq k j).1 hk; subst this
          simp only [cond_true, Option.some.injEq] at e
          subst e
          simp [Op.equalIn, run_und hE hu, ieq_eq]
      · cases e
        rw [hx.string_inv, hy.string_inv]
        simp [Op.equalIn, run_und hE hu]
      · exact eqPtr_sound hE hr hu e hx hy
      · cases e; cases hx; cases hy
        simp [Op.equalIn, run_und hE hu]
      · cases e; cases hx; cases hy
        simp [Op.equalIn, run_und hE hu]
      · cases e; cases hx; cases hy
        simp [Op.equalIn, run_und hE hu]
      · rename_i ms tx vx ty vy
        cases hx with
        | iface hvx =>
          cases hy with
          | iface hvy =>
            cases htt : Nat.beq tx ty with
            | false =>
              rw [htt] at e
              cases e
              have := beq_false.1 htt
              simp [Op.equalIn, run_und hE hu, this]
            | true =>
              rw [htt] at e
              have := Nat.eq_of_beq_eq_true htt; subst this
              simp only [cond_true] at e
              split at e
              · rename_i i hty
                cases hc : i.comparable with
                | false => rw [hc] at e; cases e
                | true =>
                  rw [hc] at e
                  simp only [cond_true] at e
                  obtain ⟨inf, hi1, hi2, hi3, hi4, hi5, hi6⟩ := run_info hE hty w
                  have := ih _ _ _ _ _ _ e hvx hvy D (by omega)
                  simp [Op.equalIn, run_und hE hu, hi1, hi5, hc, this]
              · cases e
      · rename_i fs xs ys
        cases hh : heldAt E t with
        | true => rw [hh] at e; cases e
        | false =>
          rw [hh] at e
          simp only [cond_false] at e
          obtain ⟨xs', rfl, hxs⟩ := hx.agg_inv
          obtain ⟨ys', rfl, hys⟩ := hy.agg_inv
          have hfs : P.fieldsOf t = fs := by simp [Program.fieldsOf, und_eq hE hu]
          have hst : P.stoodInHeld t = false := by
            unfold heldAt at hh
            split at hh
            · rename_i i hty
              obtain ⟨_, _, _, _, _, _, _, _, _, h9⟩ := ty_info hE hty
              rw [← h9]; exact hh
            · cases hh
          rw [run_equalIn_struct w D t xs' ys' (by rw [hfs]; exact und_eq hE hu) hst, hfs]
          exact eqFields_sound hE (fun t x y r x' y' h1 h2 h3 => ih t x y r x' y' h1 h2 h3 D (by omega)) hxs hys fs.toList r e
      · cases e
        cases hx
        cases hy <;> simp [Op.equalIn, run_und hE hu]
      · cases e
        cases hy
        cases hx <;> simp [Op.equalIn, run_und hE hu]
      · cases e
        cases hx
        cases hy <;> simp [Op.equalIn, run_und hE hu]
      · cases e
        cases hy
        cases hx; simp [Op.equalIn, run_und hE hu]
      · cases e; cases hx; cases hy; simp [Op.equalIn, run_und hE hu]
      · cases e; cases hx; cases hy; simp [Op.equalIn, run_und hE hu]
      · cases e; cases hx; cases hy; simp [Op.equalIn, run_und hE hu]
      · cases e

end Go.Ev
