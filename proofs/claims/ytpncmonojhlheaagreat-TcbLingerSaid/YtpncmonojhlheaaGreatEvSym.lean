/- A part of a big-step evaluator of the model's language, with the proof that what it comes to, the model comes to for every tape. No conditions. -/
import Derived.Test.YtpncmonojhlheaaGreatEvUse
namespace Go.Ev

-- what must be proved of a path's pins: whole numbers and tests, plainly

theorem ilt_t {a b : Int} : (ilt a b = true) = (a < b) := by rw [ilt_eq]; simp
theorem ilt_f {a b : Int} : (ilt a b = false) = (b ≤ a) := by rw [ilt_eq]; simp
theorem ile_t {a b : Int} : (ile a b = true) = (a ≤ b) := by rw [ile_eq]; simp
theorem ile_f {a b : Int} : (ile a b = false) = (b < a) := by rw [ile_eq]; simp
theorem ieq_t {a b : Int} : (ieq a b = true) = (a = b) := by rw [ieq_eq]; simp
theorem ieq_f {a b : Int} : (ieq a b = false) = ¬ (a = b) := by rw [ieq_eq]; simp
theorem not_t {x : Bool} : ((!x) = true) = (x = false) := by cases x <;> simp
theorem not_f {x : Bool} : ((!x) = false) = (x = true) := by cases x <;> simp
theorem and_t {x y : Bool} : ((x && y) = true) = (x = true ∧ y = true) := by cases x <;> cases y <;> simp
theorem and_f {x y : Bool} : ((x && y) = false) = (x = false ∨ y = false) := by cases x <;> cases y <;> simp
theorem bq_t {x y : Bool} : ((x == y) = true) = (x = y) := by cases x <;> cases y <;> simp
theorem bq_ft {x : Bool} : ((x == true) = false) = (x = false) := by cases x <;> simp
theorem bq_ff {x : Bool} : ((x == false) = false) = (x = true) := by cases x <;> simp

theorem w_u8 (n : Int) : wrapK .u8 n = n % 256 := by rw [wrapK_eq, wrap_eq_u _ rfl]; rfl
theorem w_u16 (n : Int) : wrapK .u16 n = n % 65536 := by rw [wrapK_eq, wrap_eq_u _ rfl]; rfl
theorem w_u32 (n : Int) : wrapK .u32 n = n % 4294967296 := by rw [wrapK_eq, wrap_eq_u _ rfl]; rfl
theorem w_u64 (n : Int) : wrapK .u64 n = n % 18446744073709551616 := by rw [wrapK_eq, wrap_eq_u _ rfl]; rfl
theorem w_i8 (n : Int) : wrapK .i8 n = (n + 128) % 256 - 128 := by
  rw [wrapK_eq, wrap_eq_s .i8 rfl]
  show (if n % 256 ≥ 128 then n % 256 - 256 else n % 256) = _
  split <;> omega
theorem w_i16 (n : Int) : wrapK .i16 n = (n + 32768) % 65536 - 32768 := by
  rw [wrapK_eq, wrap_eq_s .i16 rfl]
  show (if n % 65536 ≥ 32768 then n % 65536 - 65536 else n % 65536) = _
  split <;> omega
theorem w_i32 (n : Int) : wrapK .i32 n = (n + 2147483648) % 4294967296 - 2147483648 := by
  rw [wrapK_eq, wrap_eq_s .i32 rfl]
  show (if n % 4294967296 ≥ 2147483648 then n % 4294967296 - 4294967296 else n % 4294967296) = _
  split <;> omega
theorem w_i64 (n : Int) : wrapK .i64 n = (n + 9223372036854775808) % 18446744073709551616 - 9223372036854775808 := by
  rw [wrapK_eq, wrap_eq_s .i64 rfl]
  show (if n % 18446744073709551616 ≥ 9223372036854775808 then n % 18446744073709551616 - 18446744073709551616 else n % 18446744073709551616) = _
  split <;> omega

theorem cond_mn (x y : Int) : cond (ilt y x) y x = min x y := by
  rw [ilt_eq]
  by_cases h : y < x
  · simp [h]; omega
  · simp [h]; omega
theorem cond_mx (x y : Int) : cond (ilt x y) y x = max x y := by
  rw [ilt_eq]
  by_cases h : x < y
  · simp [h]; omega
  · simp [h]; omega
theorem fdiv_pos (x : Int) (n : Int) (h : 0 ≤ n) : Int.fdiv x n = x / n := Int.fdiv_eq_ediv_of_nonneg x h

/-- the pairs are the same, one by one -/
def Same : List (Value × Value) → Prop
  | [] => True
  | p :: r => p.1 = p.2 ∧ Same r
theorem Same.nil : Same [] := trivial
theorem Same.cons {p : Value × Value} {r : List (Value × Value)} (h : p.1 = p.2) (t : Same r) : Same (p :: r) := ⟨h, t⟩
theorem same_all : ∀ {l : List (Value × Value)}, Same l → ∀ p ∈ l, p.1 = p.2
  | [], _, p, h => by cases h
  | q :: r, h, p, hp => by
    cases hp with
    | head => exact h.1
    | tail _ hp => exact same_all h.2 p hp

end Go.Ev
