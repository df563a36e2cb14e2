/- A part of a big-step evaluator of the model's language, with the proof that what it comes to, the model comes to for every tape. No conditions. -/
import Derived.Test.YtpncmonojhlheaaGreatEvOps2
namespace Go.Ev

variable {P : Program} {E : Env} {m : Mp} {h : AH} {w : World}

theorem field_sound (hE : E.Types P) (hr : Rep m h w) {t f : Nat} {x x' v : Value} (e : E.field t x f = some v) (hx : VR m x x') : Does P m h w (Instr.field t x' f) v h := by
  unfold Env.field at e
  split at e
  · rename_i fs cs hu
    split at e
    · rename_i fl hf
      obtain ⟨ds, rfl, hvs⟩ := hx.agg_inv
      obtain ⟨v', h1, h2⟩ := part_sound hE e hvs w
      exact .here hr (by simp [Instr.field, run_und hE hu, hf, asAgg, h1]) h2
    · cases e
  · cases e

theorem index_sound (hE : E.Types P) (hr : Rep m h w) {t : Nat} {x x' i i' v : Value} (e : E.index t x i = some v) (hx : VR m x x') (hi : VR m i i') : Does P m h w (Instr.index t x' i') v h := by
  unfold Env.index at e
  split at e
  · rename_i len el hu
    split at e
    · rename_i cs
      split at e
      · rename_i r hty
        obtain ⟨q, k, rfl, hk, e⟩ := within_some e
        have := hi.int_inv; subst this
        obtain ⟨ds, rfl, hvs⟩ := hx.agg_inv
        have e' : E.part el cs.toList (k * r.size) = some v := by simp only [Env.part, hty]; exact e
        obtain ⟨v', h1, h2⟩ := part_sound hE e' hvs w
        refine .here hr ?_ h2
        have h0 : (0 : Int) ≤ Int.ofNat k ∧ (Int.ofNat k) < (len : Int) := ⟨Int.natCast_nonneg k, Int.ofNat_lt.2 hk⟩
        simp only [Instr.index, asIntOf, Sem.run_bind, Sem.run_pure, Result.andThen_ok, run_und hE hu, if_pos h0, run_size hE hty, Int.toNat]
        exact h1
      · cases e
    · cases e
  · rename_i hu
    split at e
    · rename_i s
      obtain ⟨q, k, rfl, hk, e⟩ := within_some e
      have := hi.int_inv; subst this
      have := hx.string_inv; subst this
      split at e
      · rename_i b hb
        cases e
        refine .here hr (v' := .int .u8 b.toNat) ?_ (.int _ _)
        have h0 : (0 : Int) ≤ Int.ofNat k := Int.natCast_nonneg k
        simp only [Instr.index, asIntOf, Sem.run_bind, Sem.run_pure, Result.andThen_ok, run_und hE hu, if_pos h0, Int.toNat, hb]
      · cases e
    · cases e
  · cases e

theorem extract_sound (hr : Rep m h w) {x x' v : Value} {i : Nat} (e : opExtract x i h = .val v h) (hx : VR m x x') : Does P m h w (Instr.extract x' i) v h := by
  unfold opExtract at e
  split at e
  · rename_i vs
    obtain ⟨ds, rfl, hvs⟩ := hx.tuple_inv
    cases hv : vs[i]? with
    | none => rw [hv] at e; cases e
    | some u =>
      rw [hv] at e; cases e
      rw [← Array.getElem?_toList] at hv
      obtain ⟨v', h1, h2⟩ := hvs.get hv
      rw [Array.getElem?_toList] at h1
      exact .here hr (by simp [Instr.extract, h1]) h2
  · cases e

theorem iface_sound (hE : E.Types P) (hr : Rep m h w) {t : Nat} {x x' v : Value} (e : opIface E t x h = .val v h) (hx : VR m x x') : Does P m h w (Instr.makeInterface t x') v h := by
  unfold opIface at e
  split at e
  · cases e
  · rename_i u hu hn
    cases e
    refine .here hr (v' := .iface t x') ?_ (.iface hx)
    simp only [Instr.makeInterface, Sem.run_bind, run_und hE hn, Result.andThen_ok]
    cases u <;> first | rfl | (exact absurd rfl (hu _))
  · cases e

-- whole numbers

theorem ofInt_nat (k : IntKind) (f : Nat → Nat → Nat) (g : BitVec k.bits → BitVec k.bits → BitVec k.bits) (hg : ∀ x y, (g x y).toNat = f x.toNat y.toNat) (a b : Int) :
    wrapK k (.ofNat (f (digits (modulus k) a) (digits (modulus k) b))) = k.wrap ((g (BitVec.ofInt k.bits a) (BitVec.ofInt k.bits b)).toNat : Int) := by
  rw [wrapK_eq, hg, digits_eq, digits_eq]; rfl

theorem binInt_run {op : BinOp} {k : IntKind} {a b : Int} {v : Value} (e : binInt op k a b = some v) (t : TypeId) : (binOp op t (.int k a) (.int k b)).run P w = .ok v w := by
  cases op <;> simp only [binInt, Option.some.injEq] at e <;> try (cases e; done)
  · unfold bAdd at e; cases e; simp only [binOp, ne_eq, not_true_eq_false, if_false, Op.intArith, wrapK_eq]; rfl
  · unfold bSub at e; cases e; simp only [binOp, ne_eq, not_true_eq_false, if_false, Op.intArith, wrapK_eq]; rfl
  · unfold bMul at e; cases e; simp only [binOp, ne_eq, not_true_eq_false, if_false, Op.intArith, wrapK_eq]; rfl
  · unfold bQuo at e
    cases hb : ieq b 0 with
    | true => rw [hb] at e; cases e
    | false =>
      rw [hb] at e; simp only [cond_false, Option.some.injEq] at e; subst e
      rw [ieq_eq, beq_eq_false_iff_ne] at hb
      simp only [binOp, ne_eq, not_true_eq_false, if_false, Op.intDiv, if_neg hb, wrapK_eq]; rfl
  · unfold bRem at e
    cases hb : ieq b 0 with
    | true => rw [hb] at e; cases e
    | false =>
      rw [hb] at e; simp only [cond_false, Option.some.injEq] at e; subst e
      rw [ieq_eq, beq_eq_false_iff_ne] at hb
      simp only [binOp, ne_eq, not_true_eq_false, if_false, Op.intDiv, if_neg hb]; rfl
  · unfold bAnd at e; cases e
    rw [ofInt_nat k Nat.land (· &&& ·) (fun x y => BitVec.toNat_and x y) a b]
    simp only [binOp, ne_eq, not_true_eq_false, if_false, Op.intBits]; rfl
  · unfold bOr at e; cases e
    rw [ofInt_nat k Nat.lor (· ||| ·) (fun x y => BitVec.toNat_or x y) a b]
    simp only [binOp, ne_eq, not_true_eq_false, if_false, Op.intBits]; rfl
  · unfold bXor at e; cases e
    rw [ofInt_nat k Nat.xor (· ^^^ ·) (fun x y => BitVec.toNat_xor x y) a b]
    simp only [binOp, ne_eq, not_true_eq_false, if_false, Op.intBits]; rfl
  · unfold bAndNot at e; cases e
    have := ofInt_nat k (fun x y => Nat.land x (modulus k - 1 - y)) (fun x y => x &&& ~~~y) (fun x y => by rw [BitVec.toNat_and, BitVec.toNat_not, modulus_eq]; rfl) a b
    rw [this]
    simp only [binOp, ne_eq, not_true_eq_false, if_false, Op.intBits]; rfl
  · cases e; simp only [binOp, ne_eq, not_true_eq_false, if_false, Op.intCmp, ieq_eq]; rfl
  · cases e; simp only [binOp, ne_eq, not_true_eq_false, if_false, Op.intCmp, ieq_eq]; rfl
  · cases e; simp only [binOp, ne_eq, not_true_eq_false, if_false, Op.intCmp, ilt_eq]; rfl
  · cases e; simp only [binOp, ne_eq, not_true_eq_false, if_false, Op.intCmp, ile_eq]; rfl
  · cases e; simp only [binOp, ne_eq, not_true_eq_false, if_false, Op.intCmp, ilt_eq]; rfl
  · cases e; simp only [binOp, ne_eq, not_true_eq_false, if_false, Op.intCmp, ile_eq]; rfl

theorem binInts_run {op : BinOp} {k j : IntKind} {a b : Int} {v : Value} (e : binInts op k a j b = some v) (t : TypeId) : (binOp op t (.int k a) (.int j b)).run P w = .ok v w := by
  unfold binInts at e
  split at e
  · rename_i hs
    cases op <;> try (cases hs; done)
    · simp only at e
      unfold bShl at e
      cases b with
      | negSucc n => cases e
      | ofNat n =>
        simp only [Option.some.injEq] at e; subst e
        have hb : ¬ (Int.ofNat n < 0) := by simp
        simp only [binOp, Op.shift, if_neg hb, wrapK_eq]
        have : (Int.ofNat (2 ^ Nat.min n k.bits)) = (2 : Int) ^ (min (Int.ofNat n).toNat k.bits) := by
          show (((2 : Nat) ^ (min n k.bits) : Nat) : Int) = _
          simp
        rw [this]; rfl
    · simp only at e
      unfold bShr at e
      cases b with
      | negSucc n => cases e
      | ofNat n =>
        simp only [Option.some.injEq] at e; subst e
        have hb : ¬ (Int.ofNat n < 0) := by simp
        simp only [binOp, Op.shift, if_neg hb]
        have : (Int.ofNat (2 ^ Nat.min n k.bits)) = (2 : Int) ^ (min (Int.ofNat n).toNat k.bits) := by
          show (((2 : Nat) ^ (min n k.bits) : Nat) : Int) = _
          simp
        rw [this]; rfl
  · cases hk : kindEq k j with
    | false => rw [hk] at e; cases e
    | true =>
      rw [hk] at e
      have := (kindEq_eq k j).1 hk; subst this
      exact binInt_run e t

theorem guard_int (op : BinOp) (t : TypeId) (x y : Operand) (k : IntKind) (n : Int) (v : Value) : eqGuard op t x y (.int k n) v = pure () := by cases op <;> rfl
theorem guard_str (op : BinOp) (t : TypeId) (x y : Operand) (s : ByteArray) (v : Value) : eqGuard op t x y (.string s) v = pure () := by cases op <;> rfl

theorem binStr_run {op : BinOp} {a b : ByteArray} {v : Value} (e : binStr op a b = some v) (t : TypeId) : (binOp op t (.string a) (.string b)).run P w = .ok v w ∧ flatV 10 v = true := by
  unfold binStr at e
  split at e
  · cases hb : ilt 9223372036854775807 (.ofNat (a.size + b.size)) with
    | true => rw [hb] at e; cases e
    | false =>
      rw [hb] at e; simp only [cond_false, Option.some.injEq] at e; subst e
      rw [ilt_eq, decide_eq_false_iff_not] at hb
      refine ⟨?_, rfl⟩
      have h2 : ¬ (((a.size + b.size : Nat) : Int) > IntKind.i64.max) := hb
      show (Op.stringOp .add a b).run P w = _
      simp only [Op.stringOp, if_neg h2]; rfl
  · cases e; exact ⟨rfl, rfl⟩
  · cases e; exact ⟨rfl, rfl⟩
  · cases e; exact ⟨rfl, rfl⟩
  · cases e

theorem un_run {op : UnOp} {x x' v : Value} (e : un op x = some v) (hx : VR m x x') : (Op.unary op x').run P w = .ok v w ∧ flatV 10 v = true := by
  unfold un at e
  split at e
  · rename_i k n
    have := hx.int_inv; subst this
    split at e
    · unfold bSub at e; cases e
      refine ⟨?_, rfl⟩
      simp only [Op.unary, Op.intArith, wrapK_eq]; rfl
    · unfold bXor at e; cases e
      refine ⟨?_, rfl⟩
      rw [ofInt_nat k Nat.xor (· ^^^ ·) (fun x y => BitVec.toNat_xor x y) _ n]
      have : (cond k.signed (-1) k.max) = (if k.signed then -1 else k.max) := by cases k.signed <;> rfl
      rw [this]
      simp only [Op.unary, Op.intBits]; rfl
    · cases e
  · rename_i b
    have := hx.bool_inv; subst this
    split at e
    · cases e; exact ⟨rfl, rfl⟩
    · cases e
  · cases e

end Go.Ev
