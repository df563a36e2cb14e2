/- Settings of connections, shifts of windows: what their tests and numbers say, plainly. No conditions beyond those that they name. -/
import Derived.Test.YtpncmonojhlheaaGreatEvPure
namespace Go.Ev

def okCfg (m s r l mo f t ms u : Int) : Bool := ile 88 m && (ile m 65455 && (ile 1 s && (ile s 1048576 && (ile 1 r && (ile r 1048576 && (ile 1 l && (ile l f && (ile f mo && (ile mo 1048576 && (ile 1 t && (ile t 30 && (ile 1 ms && (ile ms 1048576 && (ile 1 u && ile u 1048576))))))))))))))
theorem okCfg_t {m s r l mo f t ms u : Int} : (okCfg m s r l mo f t ms u = true) = (88 ≤ m ∧ m ≤ 65455 ∧ 1 ≤ s ∧ s ≤ 1048576 ∧ 1 ≤ r ∧ r ≤ 1048576 ∧ 1 ≤ l ∧ l ≤ f ∧ f ≤ mo ∧ mo ≤ 1048576 ∧ 1 ≤ t ∧ t ≤ 30 ∧ 1 ≤ ms ∧ ms ≤ 1048576 ∧ 1 ≤ u ∧ u ≤ 1048576) := by
  unfold okCfg
  simp only [Bool.and_eq_true, ile_t]
theorem okCfg_f {m s r l mo f t ms u : Int} : (okCfg m s r l mo f t ms u = false) = ¬ (88 ≤ m ∧ m ≤ 65455 ∧ 1 ≤ s ∧ s ≤ 1048576 ∧ 1 ≤ r ∧ r ≤ 1048576 ∧ 1 ≤ l ∧ l ≤ f ∧ f ≤ mo ∧ mo ≤ 1048576 ∧ 1 ≤ t ∧ t ≤ 30 ∧ 1 ≤ ms ∧ ms ≤ 1048576 ∧ 1 ≤ u ∧ u ≤ 1048576) := by
  rw [← okCfg_t, Bool.not_eq_true]

theorem ok_eq {b : Bool} : ieq (cond b 0 1) 0 = b := by cases b <;> rfl

/-- the least shift by which a window goes into 16 bits -/
def sclN (r : Int) : Nat := cond (ile r 65535) 0 (cond (ile r 131071) 1 (cond (ile r 262143) 2 (cond (ile r 524287) 3 (cond (ile r 1048575) 4 5))))
def shrS (r : Int) : Int := Int.fdiv r (Int.ofNat (2 ^ (Nat.min (sclN r) 64)))
def shlS (r : Int) : Int := wrapK .i64 (shrS r * Int.ofNat (2 ^ (Nat.min (sclN r) 64)))

theorem scl_cases {r : Int} (h1 : r ≤ 1048576) : (sclN r = 0 ∧ r ≤ 65535) ∨ (sclN r = 1 ∧ 65536 ≤ r ∧ r ≤ 131071) ∨ (sclN r = 2 ∧ 131072 ≤ r ∧ r ≤ 262143) ∨ (sclN r = 3 ∧ 262144 ≤ r ∧ r ≤ 524287) ∨ (sclN r = 4 ∧ 524288 ≤ r ∧ r ≤ 1048575) ∨ (sclN r = 5 ∧ r = 1048576) := by
  unfold sclN
  rcases Bool.eq_false_or_eq_true (ile r 65535) with h | h
  · rw [h]; rw [ile_t] at h; exact .inl ⟨rfl, h⟩
  rcases Bool.eq_false_or_eq_true (ile r 131071) with k | k
  · rw [h, k]; rw [ile_f] at h; rw [ile_t] at k; exact .inr (.inl ⟨rfl, by omega, k⟩)
  rcases Bool.eq_false_or_eq_true (ile r 262143) with l | l
  · rw [h, k, l]; rw [ile_f] at k; rw [ile_t] at l; exact .inr (.inr (.inl ⟨rfl, by omega, l⟩))
  rcases Bool.eq_false_or_eq_true (ile r 524287) with m | m
  · rw [h, k, l, m]; rw [ile_f] at l; rw [ile_t] at m; exact .inr (.inr (.inr (.inl ⟨rfl, by omega, m⟩)))
  rcases Bool.eq_false_or_eq_true (ile r 1048575) with n | n
  · rw [h, k, l, m, n]; rw [ile_f] at m; rw [ile_t] at n; exact .inr (.inr (.inr (.inr (.inl ⟨rfl, by omega, n⟩))))
  · rw [h, k, l, m, n]; rw [ile_f] at n; exact .inr (.inr (.inr (.inr (.inr ⟨rfl, by omega⟩))))

theorem shr_rng {r : Int} (h0 : 1 ≤ r) (h1 : r ≤ 1048576) : 1 ≤ shrS r ∧ shrS r ≤ 65535 ∧ 1 ≤ shlS r ∧ shlS r ≤ 1048576 := by
  unfold shlS shrS
  rcases scl_cases h1 with ⟨h, a⟩ | ⟨h, a⟩ | ⟨h, a⟩ | ⟨h, a⟩ | ⟨h, a⟩ | ⟨h, a⟩ <;> rw [h]
  · show 1 ≤ Int.fdiv r 1 ∧ Int.fdiv r 1 ≤ 65535 ∧ 1 ≤ wrapK .i64 (Int.fdiv r 1 * 1) ∧ wrapK .i64 (Int.fdiv r 1 * 1) ≤ 1048576
    rw [fdiv_pos _ _ (by decide), w_i64]; omega
  · show 1 ≤ Int.fdiv r 2 ∧ Int.fdiv r 2 ≤ 65535 ∧ 1 ≤ wrapK .i64 (Int.fdiv r 2 * 2) ∧ wrapK .i64 (Int.fdiv r 2 * 2) ≤ 1048576
    rw [fdiv_pos _ _ (by decide), w_i64]; omega
  · show 1 ≤ Int.fdiv r 4 ∧ Int.fdiv r 4 ≤ 65535 ∧ 1 ≤ wrapK .i64 (Int.fdiv r 4 * 4) ∧ wrapK .i64 (Int.fdiv r 4 * 4) ≤ 1048576
    rw [fdiv_pos _ _ (by decide), w_i64]; omega
  · show 1 ≤ Int.fdiv r 8 ∧ Int.fdiv r 8 ≤ 65535 ∧ 1 ≤ wrapK .i64 (Int.fdiv r 8 * 8) ∧ wrapK .i64 (Int.fdiv r 8 * 8) ≤ 1048576
    rw [fdiv_pos _ _ (by decide), w_i64]; omega
  · show 1 ≤ Int.fdiv r 16 ∧ Int.fdiv r 16 ≤ 65535 ∧ 1 ≤ wrapK .i64 (Int.fdiv r 16 * 16) ∧ wrapK .i64 (Int.fdiv r 16 * 16) ≤ 1048576
    rw [fdiv_pos _ _ (by decide), w_i64]; omega
  · show 1 ≤ Int.fdiv r 32 ∧ Int.fdiv r 32 ≤ 65535 ∧ 1 ≤ wrapK .i64 (Int.fdiv r 32 * 32) ∧ wrapK .i64 (Int.fdiv r 32 * 32) ≤ 1048576
    rw [fdiv_pos _ _ (by decide), w_i64]; omega

theorem scl_rng {r : Int} (h1 : r ≤ 1048576) : 0 ≤ Int.ofNat (sclN r) ∧ Int.ofNat (sclN r) ≤ 5 := by
  rcases scl_cases h1 with ⟨h, a⟩ | ⟨h, a⟩ | ⟨h, a⟩ | ⟨h, a⟩ | ⟨h, a⟩ | ⟨h, a⟩ <;> rw [h] <;> decide

-- the contracts

noncomputable def checkRun (args : List Value) (h : AH) : Option (Value × AH) :=
  match args with
  | [.agg cs] => (match cs.toList with
    | [.int .i64 m, .int .i64 s, .int .i64 r, .int .i64 l, .int .i64 mo, .int .i64 f, .int .i64 t, .int .i64 ms, .int .i64 u] => some (.int .i64 (cond (okCfg m s r l mo f t ms u) 0 1), h)
    | _ => none)
  | _ => none
noncomputable def conCheck : Con := ⟨fun _ _ => True, checkRun⟩

noncomputable def scaleArg (args : List Value) (h : AH) : Option Int :=
  match args with
  | [v] => atAddr v fun b o => (match h.load1 b o, h.load1 b (o + 1), h.load1 b (o + 2) with
    | some (.int .i64 _), some (.int .i64 _), some (.int .i64 r) => some r
    | _, _, _ => none)
  | _ => none
noncomputable def scaleRun (args : List Value) (h : AH) : Option (Value × AH) :=
  match scaleArg args h with
  | some r => some (.int .i64 (Int.ofNat (sclN r)), h)
  | none => none
def scaleOk (args : List Value) (h : AH) : Prop :=
  match scaleArg args h with
  | some r => r ≤ 1048576
  | none => False
noncomputable def conScale : Con := ⟨scaleOk, scaleRun⟩

section
variable {P : Program} {E : Env}

theorem check_holds (hE : E.Types P) (hC : E.Cons P) (hmix : P.follows .mixedOrders = true) {f n : Nat} (hf : Callable P f)
    (hr : ∀ m s r l mo fi t ms u : Int, ∃ hx, (cfun E (cinv E n) n f).run [.agg (#[.int .i64 m, .int .i64 s, .int .i64 r, .int .i64 l, .int .i64 mo, .int .i64 fi, .int .i64 t, .int .i64 ms, .int .i64 u] : Array Value)] ⟨.nil, 0⟩ = some (.int .i64 (cond (okCfg m s r l mo fi t ms u) 0 1), hx)) : conCheck.Holds P f := by
  refine ⟨hf, fun args h v h' _ e m w a' ha hrp => ?_⟩
  replace e : checkRun args h = some (v, h') := e
  unfold checkRun at e
  split at e
  · rename_i cs okx
    split at e
    · rename_i m s r l mo fi t ms u hcs
      cases e
      have : cs = (#[.int .i64 m, .int .i64 s, .int .i64 r, .int .i64 l, .int .i64 mo, .int .i64 fi, .int .i64 t, .int .i64 ms, .int .i64 u] : Array Value) := by apply Array.ext'; simpa using hcs
      subst this
      obtain ⟨hx, he⟩ := hr m s r l mo fi t ms u
      exact pure_fun hE hC hmix he rfl rfl ha hrp
    · cases e
  · cases e

theorem scale_holds (hE : E.Types P) (hC : E.Cons P) (hmix : P.follows .mixedOrders = true) {f n : Nat} (hf : Callable P f)
    (hr : ∀ x y r : Int, r ≤ 1048576 → ∃ hx, (cfun E (cinv E n) n f).run [ptr 0 0] (oneBlock [Value.int .i64 x, .int .i64 y, .int .i64 r]) = some (.int .i64 (Int.ofNat (sclN r)), hx)) : conScale.Holds P f := by
  refine ⟨hf, fun args h v h' hok e m w a' ha hrp => ?_⟩
  replace e : scaleRun args h = some (v, h') := e
  replace hok : scaleOk args h := hok
  unfold scaleRun at e
  unfold scaleOk at hok
  split at e
  · rename_i r hs
    rw [hs] at hok
    cases e
    unfold scaleArg at hs
    split at hs
    · rename_i v0
      unfold atAddr at hs
      split at hs
      · rename_i a0
        split at hs
        · rename_i a
          split at hs
          · rename_i hsp
            obtain ⟨b, o, sp⟩ := a
            simp only at hsp hs
            subst hsp
            split at hs
            · rename_i x y r' l0 l1 l2
              cases hs
              obtain ⟨x0, rest, hl0, hx0, hl0'⟩ := ha.cons_inv
              have : rest = [] := List.eq_nil_of_length_eq_zero (by simpa using hl0'.1.symm)
              subst this
              have haa : a' = #[x0] := by apply Array.ext'; simpa using hl0
              subst haa
              cases hx0 with
              | @ptr _ _ bb d hmb =>
                unfold AH.load1 at l0 l1 l2
                split at l0
                · rename_i c hc
                  rw [hc] at l1 l2
                  simp only [nth_eq] at l0 l1 l2
                  obtain ⟨ro, hg⟩ := cells_get hc
                  obtain ⟨hx, he⟩ := hr x y r hok
                  have hlen : o + 3 ≤ c.length := by
                    have := (List.getElem?_eq_some_iff.1 l2).1; omega
                  have hrep := oneBlock_rep (o := o) (l := [.int .i64 x, .int .i64 y, .int .i64 r]) hrp hg hmb (fun i v hi => by
                    match i, hi with
                    | 0, hi => cases hi; exact ⟨l0, rfl⟩
                    | 1, hi => cases hi; exact ⟨l1, rfl⟩
                    | 2, hi => cases hi; exact ⟨l2, rfl⟩
                    | i + 3, hi => simp at hi) hlen
                  refine ro_fun hE hC hmix he (oneBlock_still _) rfl (m0 := onePlace m bb (d + o)) (.cons ?_ .nil) hrep hrp
                  exact .ptr (n := 0) (i := 0) (d := d + o) (show (if (0 : Nat) = 0 then some (bb, d + o) else none) = some (bb, d + o) from if_pos rfl)
                · cases l0
            · cases hs
          · cases hs
        · cases hs
      · cases hs
    · cases hs
  · cases e
end

end Go.Ev
