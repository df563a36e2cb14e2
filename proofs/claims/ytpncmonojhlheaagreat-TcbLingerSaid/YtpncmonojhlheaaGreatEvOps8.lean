/- A part of a big-step evaluator of the model's language, with the proof that what it comes to, the model comes to for every tape. No conditions. -/
import Derived.Test.YtpncmonojhlheaaGreatEvOps7
namespace Go.Ev

variable {P : Program} {E : Env} {m : Mp} {h : AH} {w : World}

theorem growBy_le (n : Nat) : ∀ r c, c ≤ 2 * n + 1000 → Builtin.growBy n r c ≤ 2 * n + 1000 := by
  intro r
  induction r with
  | zero => intro c h; exact h
  | succ r ih =>
    intro c h
    unfold Builtin.growBy
    split
    · exact h
    · exact ih _ (by omega)

theorem nextcap_le (n c : Nat) (h : c < n) : Builtin.nextslicecap n c ≤ 2 * n + 1000 := by
  unfold Builtin.nextslicecap
  split
  · omega
  · split
    · omega
    · exact growBy_le n 4 c (by omega)

theorem zeroCells_eq (z : Array Value) (n : Nat) (hp : 0 < z.size) : (Builtin.zeroCells z n).toList = rep n z.toList := zeros_rep z n z.size rfl hp

/-- what is appended -/
theorem more_sound (hE : E.Types P) (hr : Rep m h w) {xu : TypeDesc} {el : Nat} {i : TyR} {z x x' : Value} {n : Nat} {l : List Value} (hty : E.ty el = some i) (hz : i.zero = some z)
    (e : more xu i z x h = some (n, l)) (hx : VR m x x') :
    ∃ l' : List Value, VRs m l l' ∧ l.length = n * i.size ∧
      ((isIntD xu = true ∧ ∃ q : IntKind, x' = .int q (n : Int) ∧ (n : Int) * i.bytes ≤ 281474976710656 ∧ n ≤ 4294967296 ∧ l' = rep n (vcells z)) ∨
      (isIntD xu = false ∧ (Builtin.lenOf x').run P w = .ok n w ∧ ∀ w1 : World, w1.heap = w.heap → (Builtin.firstCells i.size n x').run P w1 = .ok l'.toArray w1)) := by
  have hzf := hE.zero _ _ _ hty hz
  unfold more at e
  split at e
  · split at e
    · rename_i q k
      have := hx.int_inv; subst this
      cases hb : (ile 0 k && ile k 4294967296 && ile (k * .ofNat i.bytes) 281474976710656) with
      | false => rw [hb] at e; cases e
      | true =>
        rw [hb] at e
        simp only [cond_true, Option.some.injEq, Prod.mk.injEq] at e
        obtain ⟨rfl, rfl⟩ := e
        simp only [Bool.and_eq_true, ile_eq, decide_eq_true_iff] at hb
        obtain ⟨⟨b1, b2⟩, b3⟩ := hb
        have b3 : k * (i.bytes : Int) ≤ 281474976710656 := b3
        refine ⟨rep k.toNat (vcells z), (flatV_VR 10 z hzf.1).vcells.rep _, by rw [rep_len, hzf.2], .inl ⟨rfl, q, ?_, ?_, by omega, rfl⟩⟩
        · rw [Int.toNat_of_nonneg b1]
        · rw [Int.toNat_of_nonneg b1]; exact b3
    · cases e
  · rename_i hni
    have hf : isIntD xu = false := by
      cases xu <;> first | rfl | (exact absurd rfl (hni _))
    split at e
    · rename_i n0 hn
      split at e
      · rename_i l0 hl
        cases hb : Nat.beq l0.length (n0 * i.size) with
        | false => rw [hb] at e; cases e
        | true =>
          rw [hb] at e
          cases e
          obtain ⟨l', h1, h2⟩ := firstCells_sound (P := P) hr hl hx hn (Nat.le_refl _)
          exact ⟨l', h2, Nat.eq_of_beq_eq_true hb, .inr ⟨hf, lenOf_sound hn hx, h1⟩⟩
      · cases e
    · cases e

def storeBase (base : Option Addr) (o : Nat) (l : List Value) : Sem Unit := match base with | some a => storeCells (a.add o) l | none => pure ()

/-- the model's own appending, once what is appended is known -/
theorem append_run (hE : E.Types P) {ts : Array Nat} {st xt el sLen sCap n : Nat} {t : Nat} {i : TyR} {xu : TypeDesc} {base : Option Addr} {x' : Value} {z : Value} {l' old : List Value}
    (h0 : ts[0]? = some st) (h1 : ts[1]? = some xt) (hu : E.und st = some (.slice el)) (hxu : E.und xt = some xu) (hty : E.ty el = some i) (hz : i.zero = some z) (hp : 1 ≤ i.size) (hbp : 1 ≤ i.bytes)
    (hb : (2 * (sLen + n) + 1000) * i.bytes ≤ 281474976710656 ∨ sLen + n ≤ sCap)
    (hold : ¬ sLen + n ≤ sCap → ∀ w1 : World, w1.heap = w.heap → (Builtin.firstCells i.size sLen (.slice base sLen sCap)).run P w1 = .ok old.toArray w1)
    (hx : (isIntD xu = true ∧ ∃ q : IntKind, x' = .int q (n : Int) ∧ (n : Int) * i.bytes ≤ 281474976710656 ∧ n ≤ 4294967296 ∧ l' = rep n (vcells z)) ∨
      (isIntD xu = false ∧ (Builtin.lenOf x').run P w = .ok n w ∧ ∀ w1 : World, w1.heap = w.heap → (Builtin.firstCells i.size n x').run P w1 = .ok l'.toArray w1)) :
    (Builtin.append_ ts t #[.slice base sLen sCap, x']).run P w =
      if sLen + n ≤ sCap then
        (do storeBase base (sLen * i.size) l'; pure (.slice base (sLen + n) sCap) : Sem Value).run P w
      else
        .ok (.slice (some ⟨w.heap.size, 0, none⟩) (sLen + n) ((Question.appendCap (sLen + n) sCap el).cut (w.tape w.drawn (Question.appendCap (sLen + n) sCap el))))
          (w.drew.alloc (.cells (old.toArray ++ l'.toArray ++ Builtin.zeroCells z.cells ((Question.appendCap (sLen + n) sCap el).cut (w.tape w.drawn (Question.appendCap (sLen + n) sCap el)) - (sLen + n))) el)) := by
  obtain ⟨inf, hpi, _, _, hi3, _, _, _, _, _⟩ := ty_info hE hty
  have hti : ∀ w1, (typeInfo el).run P w1 = .ok inf w1 := fun w1 => by simp [typeInfo, hpi]
  have hzr : ∀ w1, (zeroValue el).run P w1 = .ok z w1 := fun w1 => run_zero hE hty hz w1
  have hzs : z.cells.size = i.size := by
    have := (hE.zero _ _ _ hty hz).2; rw [← vcells_cells] at this; simpa using this
  have hx0 : (#[.slice base sLen sCap, x'] : Array Value)[0]? = some (.slice base sLen sCap) := rfl
  have hx1 : (#[.slice base sLen sCap, x'] : Array Value)[1]? = some x' := rfl
  have hbig : ¬ sLen + n ≤ sCap → ¬ (((sLen + n : Nat) : Int) > IntKind.i64.max) ∧ ¬ (Builtin.nextslicecap (sLen + n) sCap * inf.bytes > 2 ^ 48) := by
    intro hn
    have hb' : (2 * (sLen + n) + 1000) * i.bytes ≤ 281474976710656 := by rcases hb with h | h; exact h; exact absurd h hn
    have h2 := Nat.mul_le_mul (nextcap_le (sLen + n) sCap (by omega)) (Nat.le_refl i.bytes)
    have h3 : 2 * (sLen + n) + 1000 ≤ (2 * (sLen + n) + 1000) * i.bytes := Nat.le_mul_of_pos_right _ hbp
    have h4 : IntKind.i64.max = 9223372036854775807 := by decide
    have h5 : (2 : Nat) ^ 48 = 281474976710656 := by decide
    rw [h4, h5, hi3]
    exact ⟨by omega, by omega⟩
  have hstore : ∀ (l : List Value) (w1 : World), (match base with
      | some a => (do storeCells (a.add (sLen * i.size)) l; pure (.slice base (sLen + n) sCap) : Sem Value)
      | none => pure (.slice base (sLen + n) sCap)).run P w1 = (do storeBase base (sLen * i.size) l; pure (.slice base (sLen + n) sCap) : Sem Value).run P w1 := by
    intro l w1; cases base <;> rfl
  have hforced : ∀ a b c, (Question.appendCap a b c).forced = false := fun _ _ _ => rfl
  rcases hx with ⟨hz1, q, rfl, hq1, hq2, rfl⟩ | ⟨hz1, hl, hf⟩
  · obtain ⟨k, rfl⟩ : ∃ k, xu = .int k := by cases xu <;> first | exact ⟨_, rfl⟩ | cases hz1
    have hw : IntKind.i64.wrap (n : Int) = n := wrap_id _ (by omega) (by omega)
    have hn0 : ¬ ((n : Int) < 0) := by omega
    have hnb : ¬ ((n : Int) * (inf.bytes : Int) > 2 ^ 48) := by
      have h5 : (2 : Int) ^ 48 = 281474976710656 := by decide
      rw [h5, hi3]; omega
    have hmk : ∀ w1, ((if n * i.size = 0 then pure #[] else do pure (Builtin.zeroCells (← zeroValue el).cells n) : Sem (Array Value))).run P w1 = .ok (rep n (vcells z)).toArray w1 := by
      intro w1
      by_cases h0 : n * i.size = 0
      · have : n = 0 := by rcases Nat.mul_eq_zero.1 h0 with h | h; exact h; omega
        subst this
        simp [rep]
      · rw [if_neg h0]
        simp only [Sem.run_bind, hzr, Result.andThen_ok, Sem.run_pure]
        congr 1
        apply Array.ext'
        rw [zeroCells_eq _ _ (by omega), vcells_cells]
    by_cases hle : sLen + n ≤ sCap
    · rw [if_pos hle]
      simp only [Builtin.append_, h0, h1, hx0, hx1, Sem.run_bind, run_und hE hu, Result.andThen_ok, run_size hE hty, run_und hE hxu, Sem.run_pure, if_true, asInt, asIntOf, hw, if_neg hn0, hti, if_neg hnb, Int.toNat_natCast, if_pos hle,
        Bool.not_true, Bool.false_eq_true, if_false]
      erw [hmk]
      simp only [Result.andThen_ok]
      cases base <;> simp [storeBase]
    · rw [if_neg hle]
      obtain ⟨g1, g2⟩ := hbig hle
      simp only [Builtin.append_, h0, h1, hx0, hx1, Sem.run_bind, run_und hE hu, Result.andThen_ok, run_size hE hty, run_und hE hxu, Sem.run_pure, if_true, asInt, asIntOf, hw, if_neg hn0, hti, if_neg hnb, Int.toNat_natCast, if_neg hle,
        Bool.not_true, Bool.false_eq_true, if_false, g1, false_and, if_neg g2, run_choose, hforced, run_askRoom, World.drew_eq]
      have hold := hold hle w.drew rfl
      erw [hold]
      simp only [Result.andThen_ok]
      erw [hmk]
      simp only [Result.andThen_ok, Sem.run_bind, hzr, Sem.run_pure, newRow, run_newObj]
      rfl
  · by_cases hle : sLen + n ≤ sCap
    · rw [if_pos hle]
      have hf0 := hf w rfl
      cases xu <;> first
        | (cases hz1; done)
        | (simp only [Builtin.append_, h0, h1, hx0, hx1, Sem.run_bind, run_und hE hu, Result.andThen_ok, run_size hE hty, run_und hE hxu, Sem.run_pure, Bool.false_eq_true, if_false, if_true, hl, Bool.not_false, if_pos hle, hf0]
           cases base <;> simp [storeBase])
    · rw [if_neg hle]
      obtain ⟨g1, g2⟩ := hbig hle
      cases xu <;> first
        | (cases hz1; done)
        | (simp only [Builtin.append_, h0, h1, hx0, hx1, Sem.run_bind, run_und hE hu, Result.andThen_ok, run_size hE hty, run_und hE hxu, Sem.run_pure, Bool.false_eq_true, if_false, if_true, hl, Bool.not_false, if_neg hle, hti,
            g1, false_and, if_neg g2, run_choose, hforced, run_askRoom, World.drew_eq, hold hle w.drew rfl, hf w.drew rfl, hzr, newRow, run_newObj]
           rfl)

end Go.Ev
