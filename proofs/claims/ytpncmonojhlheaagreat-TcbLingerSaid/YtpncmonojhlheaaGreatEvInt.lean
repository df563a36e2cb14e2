/- A part of a big-step evaluator of the model's language, with the proof that what it comes to, the model comes to for every tape. No conditions. -/
import Derived.Test.YtpncmonojhlheaaGreatEvDef
namespace Go.Ev

theorem wrap_signed (b : Nat) (n : Int) (hb : 1 ≤ b) : wrapS (2 ^ (b - 1)) (2 ^ (b - 1) - 1) (2 ^ b) n =
    (if n % (2 ^ b : Int) ≥ (2 ^ (b - 1) : Int) then n % (2 ^ b : Int) - (2 ^ b : Int) else n % (2 ^ b : Int)) := by
  have h2 : (2 : Nat) ^ b = 2 * 2 ^ (b - 1) := by
    rw [← Nat.pow_succ']; congr 1; omega
  have h2' : (2 : Int) ^ b = 2 * 2 ^ (b - 1) := by exact_mod_cast h2
  have hp : 0 < (2 : Nat) ^ (b - 1) := Nat.two_pow_pos _
  generalize hq : (2 : Nat) ^ (b - 1) = q at *
  have hq' : (2 : Int) ^ (b - 1) = (q : Int) := by rw [← hq]; simp
  rw [h2', hq', h2]
  unfold wrapS
  have key : ∀ r : Nat, r < 2 * q → cond (Nat.ble r (q - 1)) (Int.ofNat r) (Int.subNatNat r (2 * q)) = (if ((r : Int) ≥ q) then (r : Int) - 2 * q else (r : Int)) := by
    intro r hr
    cases hle : Nat.ble r (q - 1) with
    | true => have := Nat.le_of_ble_eq_true hle; simp only [cond_true]; rw [if_neg (by omega)]; rfl
    | false =>
      have : ¬ r ≤ q - 1 := fun h => by rw [Nat.ble_eq_true_of_le h] at hle; cases hle
      simp only [cond_false]; rw [if_pos (by omega), Int.subNatNat_eq_coe]; push_cast; rfl
  cases n with
  | ofNat a =>
    have e : (Int.ofNat a % (2 * (q : Int))) = ((a % (2 * q) : Nat) : Int) := by push_cast; rfl
    simp only [e]
    have hlt := Nat.mod_lt a (show 0 < 2 * q by omega)
    rw [← key _ hlt]
    cases hle : Nat.ble a (q - 1) with
    | true =>
      have := Nat.le_of_ble_eq_true hle
      simp only [cond_true]
      rw [Nat.mod_eq_of_lt (by omega), hle]; rfl
    | false => rfl
  | negSucc a =>
    have e : (Int.negSucc a % (2 * (q : Int))) = ((2 * q - 1 - a % (2 * q) : Nat) : Int) := by
      have hlt := Nat.mod_lt a (show 0 < 2 * q by omega)
      rw [Int.negSucc_emod _ (by omega)]
      have : ((a : Int) % (2 * (q : Int))) = ((a % (2 * q) : Nat) : Int) := by push_cast; rfl
      rw [this]; omega
    simp only [e]
    have hlt := Nat.mod_lt a (show 0 < 2 * q by omega)
    rw [← key _ (by omega)]
    cases hle : Nat.blt a q with
    | true =>
      have := Nat.le_of_ble_eq_true hle
      simp only [cond_true]
      rw [Nat.mod_eq_of_lt (show a < 2 * q by omega)]
      have hnle : Nat.ble (2 * q - 1 - a) (q - 1) = false := by
        rw [← Bool.not_eq_true]; intro hh; have := Nat.le_of_ble_eq_true hh; omega
      rw [hnle]
      simp only [cond_false]
      rw [Int.subNatNat_eq_coe, Int.negSucc_eq]; push_cast; omega
    | false => rfl

theorem wrap_unsigned (b : Nat) (n : Int) : wrapU (2 ^ b) n = n % (2 ^ b : Int) := by
  have hp : 0 < (2 : Nat) ^ b := Nat.two_pow_pos _
  have hq' : (2 : Int) ^ b = (((2 : Nat) ^ b : Nat) : Int) := by simp
  rw [hq']
  generalize (2 : Nat) ^ b = q at *
  unfold wrapU
  cases n with
  | ofNat a => rfl
  | negSucc a =>
    have hlt := Nat.mod_lt a hp
    rw [Int.negSucc_emod _ (by omega)]
    have : ((a : Int) % (q : Int)) = ((a % q : Nat) : Int) := by push_cast; rfl
    rw [this]; show ((q - 1 - a % q : Nat) : Int) = _; omega

theorem wrap_eq_s (k : IntKind) (hs : k.signed = true) (n : Int) :
    k.wrap n = (if n % (2 ^ k.bits : Int) ≥ (2 ^ (k.bits - 1) : Int) then n % (2 ^ k.bits : Int) - (2 ^ k.bits : Int) else n % (2 ^ k.bits : Int)) := by
  unfold IntKind.wrap; simp only [hs, Bool.true_and, decide_eq_true_eq]
theorem wrap_eq_u (k : IntKind) (hs : k.signed = false) (n : Int) : k.wrap n = n % (2 ^ k.bits : Int) := by
  unfold IntKind.wrap; simp only [hs, Bool.false_and, Bool.false_eq_true, if_false]

theorem wrapK_eq (k : IntKind) (n : Int) : wrapK k n = k.wrap n := by
  cases k
  · rw [wrap_eq_s .i8 rfl]; exact wrap_signed 8 n (by omega)
  · rw [wrap_eq_s .i16 rfl]; exact wrap_signed 16 n (by omega)
  · rw [wrap_eq_s .i32 rfl]; exact wrap_signed 32 n (by omega)
  · rw [wrap_eq_s .i64 rfl]; exact wrap_signed 64 n (by omega)
  · rw [wrap_eq_u .u8 rfl]; exact wrap_unsigned 8 n
  · rw [wrap_eq_u .u16 rfl]; exact wrap_unsigned 16 n
  · rw [wrap_eq_u .u32 rfl]; exact wrap_unsigned 32 n
  · rw [wrap_eq_u .u64 rfl]; exact wrap_unsigned 64 n

theorem ieq_eq (a b : Int) : ieq a b = (a == b) := by
  rw [Bool.eq_iff_iff, beq_iff_eq]
  cases a <;> cases b <;> simp only [ieq, Int.ofNat.injEq, Int.negSucc.injEq, reduceCtorEq, Bool.false_eq_true, iff_self]
  · exact ⟨Nat.eq_of_beq_eq_true, fun h => by subst h; exact Nat.beq_refl _⟩
  · exact ⟨Nat.eq_of_beq_eq_true, fun h => by subst h; exact Nat.beq_refl _⟩

theorem ile_eq (a b : Int) : ile a b = decide (a ≤ b) := by
  rw [Bool.eq_iff_iff, decide_eq_true_iff]
  cases a <;> cases b <;> simp only [ile, Bool.false_eq_true]
  · rw [Nat.ble_eq]; simp
  · simp; omega
  · simp; omega
  · rw [Nat.ble_eq]; omega

theorem ilt_eq (a b : Int) : ilt a b = decide (a < b) := by
  unfold ilt; rw [ile_eq, Bool.eq_iff_iff]; simp

theorem kindEq_eq (j k : IntKind) : kindEq j k = true ↔ j = k := by
  cases j <;> cases k <;> simp [kindEq, kindNo]

theorem modulus_eq (k : IntKind) : modulus k = 2 ^ k.bits := by cases k <;> rfl

theorem digits_eq (k : IntKind) (n : Int) : digits (modulus k) n = (BitVec.ofInt k.bits n).toNat := by
  rw [modulus_eq, BitVec.toNat_ofInt]
  have hp : 0 < (2 : Nat) ^ k.bits := Nat.two_pow_pos _
  have := wrap_unsigned k.bits n
  have h2 : (((2 : Nat) ^ k.bits : Nat) : Int) = (2 : Int) ^ k.bits := by simp
  rw [h2, ← this]
  cases n <;> rfl

end Go.Ev
