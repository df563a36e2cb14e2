/- A part of a big-step evaluator of the model's language, with the proof that what it comes to, the model comes to for every tape. No conditions. -/
import Derived.Test.YtpncmonojhlheaaGreatEvUse
namespace Go.Ev

variable {P : Program} {w : World} {r : Reach} {base : Nat}

/-- an argument's cell: a slice's block gets the cell's own number -/
def absV (i : Nat) (v : Value) : Value := match v with
  | .slice (some a) l c => .slice (some ⟨i, a.off, none⟩) l c
  | v => v

def argMp (vs : List Value) : Mp := ⟨fun n => if n < 1000 then (match vs[n]? with
  | some (.slice (some a) _ _) => some (a.block, 0)
  | _ => none) else none, fun _ => 0⟩

/-- what the cells are: whole numbers of a kind, or slices -/
def Kinds (P : Program) : List TypeId → List (Option IntKind) → Bool
  | [], [] => true
  | t :: ts, k :: ks => (match P.underlying t with
    | some (.int j) => decide (k = some j)
    | some (.slice _) => decide (k = none)
    | _ => false) && Kinds P ts ks
  | _, _ => false

def Shape : List (Option IntKind) → List Value → Prop
  | [], [] => True
  | some k :: ks, x :: xs => (∃ n, x = .int k n ∧ k.has n) ∧ Shape ks xs
  | none :: ks, _ :: xs => Shape ks xs
  | _, _ => False

theorem has_block {n : Nat} {a : Addr} {e : TypeId} (h : w.has P r base a e n) : a.spot = none ∧ a.block < w.heap.size := by
  obtain ⟨_, h2, row, cells, h3, _⟩ := h
  refine ⟨h2, ?_⟩
  rcases Nat.lt_or_ge a.block w.heap.size with hh | hh
  · exact hh
  · unfold World.shape? at h3
    rw [Array.getElem?_eq_none hh] at h3
    cases h3

theorem kinds_cell : ∀ (ts : List TypeId) (ks : List (Option IntKind)), Kinds P ts ks = true → ∀ (vs : List Value), vs.length = ts.length → (∀ (i : Nat) (v : Value), vs[i]? = some v → ∃ u, ts[i]? = some u ∧ Cell.okWide P w r base u v) →
    (∀ j, Shape ks (vs.mapIdx fun i v => absV (j + i) v)) ∧ ∀ (i : Nat) (v : Value), vs[i]? = some v → (∃ k n, v = .int k n) ∨ v = .slice none 0 0 ∨ ∃ a l c, v = .slice (some a) l c ∧ l ≤ c ∧ a.spot = none ∧ a.block < w.heap.size := by
  intro ts
  induction ts with
  | nil =>
    intro ks hk vs hl hok
    have : vs = [] := List.eq_nil_of_length_eq_zero hl
    subst this
    cases ks with
    | nil => exact ⟨fun j => trivial, fun i v hv => by simp at hv⟩
    | cons k ks => cases hk
  | cons t ts ih =>
    intro ks hk vs hl hok
    cases ks with
    | nil => cases hk
    | cons k ks =>
      cases vs with
      | nil => simp at hl
      | cons v vs =>
        simp only [Kinds, Bool.and_eq_true] at hk
        obtain ⟨hk1, hk2⟩ := hk
        obtain ⟨s1, s2⟩ := ih ks hk2 vs (by simpa using hl) (fun i x hx => hok (i + 1) x (by simpa using hx))
        obtain ⟨u, hu, hcell⟩ := hok 0 v rfl
        have hu : t = u := by simpa using hu
        subst hu
        have htail : ∀ j, Shape ks (vs.mapIdx fun i v => absV (j + (i + 1)) v) := by
          intro j
          have := s1 (j + 1)
          have h2 : (fun (i : Nat) (v : Value) => absV (j + 1 + i) v) = fun i v => absV (j + (i + 1)) v := by funext i v; congr 1; omega
          rw [h2] at this; exact this
        have hv : (∃ j n, v = .int j n ∧ k = some j ∧ j.has n) ∨ ((v = .slice none 0 0 ∨ ∃ a l c, v = .slice (some a) l c ∧ l ≤ c ∧ a.spot = none ∧ a.block < w.heap.size) ∧ k = none) := by
          unfold Cell.okWide at hcell
          cases hun : P.underlying t with
          | none => rw [hun] at hk1; cases hk1
          | some d =>
            rw [hun] at hk1 hcell
            cases d with
            | int j =>
              have hk1 : k = some j := by simpa using hk1
              left
              unfold Cell.ok at hcell
              rw [hun] at hcell
              cases v with
              | int j' n => obtain ⟨rfl, hh⟩ := hcell; exact ⟨_, n, rfl, hk1, hh⟩
              | _ => cases hcell
            | slice e =>
              have hk1 : k = none := by simpa using hk1
              right
              refine ⟨?_, hk1⟩
              unfold Cell.ok at hcell
              rw [hun] at hcell
              cases v with
              | slice a l c =>
                cases a with
                | none =>
                  left
                  cases l with
                  | zero => cases c with
                    | zero => rfl
                    | succ c => cases hcell
                  | succ l => cases hcell
                | some a =>
                  obtain ⟨q1, q2, q3⟩ := hcell
                  obtain ⟨q4, q5⟩ := has_block q3
                  exact .inr ⟨a, l, c, rfl, q1, q4, q5⟩
              | _ => cases hcell
            | _ => cases hk1
        constructor
        · intro j
          rw [List.mapIdx_cons]
          rcases hv with ⟨k', n, rfl, rfl, hh⟩ | ⟨_, rfl⟩
          · exact ⟨⟨n, rfl, hh⟩, htail j⟩
          · exact htail j
        · intro i x hx
          cases i with
          | zero =>
            have : v = x := by simpa using hx
            subst this
            rcases hv with ⟨k', n, h1, _⟩ | ⟨h1 | h1, _⟩
            · exact .inl ⟨k', n, h1⟩
            · exact .inr (.inl h1)
            · exact .inr (.inr h1)
          | succ i => exact s2 i x (by simpa using hx)

/-- an argument of whole numbers and slices, seen by the evaluator -/
theorem arg_abs {ts : List TypeId} {ks : List (Option IntKind)} (hk : Kinds P ts ks = true) {vs : List Value} (hl : vs.length = ts.length) (hlt : ts.length < 1000) (hok : ∀ (i : Nat) (v : Value), vs[i]? = some v → ∃ u, ts[i]? = some u ∧ Cell.okWide P w r base u v) :
    ∃ xs, Shape ks xs ∧ xs.length = vs.length ∧ VRs (argMp vs) xs vs ∧ Rep (argMp vs) ⟨.nil, 1000⟩ w := by
  obtain ⟨s1, s2⟩ := kinds_cell ts ks hk vs hl hok
  refine ⟨vs.mapIdx fun i v => absV i v, by simpa using s1 0, by simp, ⟨by simp, fun i x y hx hy => ?_⟩, ?_⟩
  · rw [List.getElem?_mapIdx, hy] at hx
    cases hx
    rcases s2 i y hy with ⟨k, n, rfl⟩ | rfl | ⟨a, l, c, rfl, h1, h2, h3⟩
    · exact .int k n
    · exact .sliceNil
    · have hi : i < 1000 := by
        rcases Nat.lt_or_ge i vs.length with hh | hh
        · omega
        · rw [List.getElem?_eq_none hh] at hy; cases hy
      refine .sliceExact (b := a.block) (d := 0) ?_ (fun _ => ?_) h1
      · show (if i < 1000 then (match vs[i]? with
          | some (.slice (some a) _ _) => some (a.block, 0)
          | _ => none) else none) = some (a.block, 0)
        rw [if_pos hi, hy]
      · obtain ⟨b, o, s⟩ := a
        simp at h2 ⊢; exact h2
  · refine ⟨fun n hn => ⟨if_neg (by have : 1000 ≤ n := hn; omega), bare_nil 1000 n⟩, fun n b d e => ?_, fun n o e => (by rw [bare_nil 1000 n] at e; cases e), fun n n' o o' b d d' e => (by rw [bare_nil 1000 n] at e; cases e), fun n o b d c e fz g => (by rw [bare_nil 1000 n] at g; cases g)⟩
    have e : (if n < 1000 then (match vs[n]? with
          | some (.slice (some a) _ _) => some (a.block, 0)
          | _ => none) else none) = some (b, d) := e
    split at e
    · split at e
      · rename_i a l c hv
        cases e
        rcases s2 n _ hv with ⟨k, n, h⟩ | h | ⟨a', l', c', h, _, _, h3⟩
        · cases h
        · cases h
        · cases h; exact h3
      · cases e
    · cases e

/-- a whole number that came in lies in its kind's range -/
theorem int_has {t : TypeId} {k : IntKind} {v : Value} (ht : P.underlying t = some (.int k)) (h : Value.okWide P w r base t v) : ∃ n, v = .int k n ∧ k.has n := by
  unfold Value.okWide at h
  rw [ht] at h
  have h : Cell.okWide P w r base t v := h
  unfold Cell.okWide at h
  rw [ht] at h
  cases v with
  | int j n =>
    have h : Cell.ok P w r base t (.int j n) := h
    unfold Cell.ok at h
    rw [ht] at h
    obtain ⟨rfl, hh⟩ := h
    exact ⟨n, rfl, hh⟩
  | _ =>
    have h : Cell.ok P w r base t _ := h
    unfold Cell.ok at h
    rw [ht] at h
    cases h

end Go.Ev
