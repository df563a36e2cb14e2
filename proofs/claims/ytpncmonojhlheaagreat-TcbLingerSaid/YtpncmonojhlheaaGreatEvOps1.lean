/- A part of a big-step evaluator of the model's language, with the proof that what it comes to, the model comes to for every tape. No conditions. -/
import Derived.Test.YtpncmonojhlheaaGreatEvEnv
namespace Go.Ev

/-- an operation of the model comes to the abstract one's value -/
def Does (P : Program) (m : Mp) (h : AH) (w : World) (s : Sem Value) (v : Value) (h' : AH) : Prop :=
  ∃ v' w' m', s.run P w = .ok v' w' ∧ Goes m h w m' h' w' ∧ VR m' v v'
def DoesU (P : Program) (m : Mp) (h : AH) (w : World) (s : Sem Unit) (h' : AH) : Prop :=
  ∃ w' m', s.run P w = .ok () w' ∧ Goes m h w m' h' w'

theorem Does.here {P : Program} {m : Mp} {h : AH} {w : World} {s : Sem Value} {v v' : Value} (hr : Rep m h w) (hs : s.run P w = .ok v' w) (hv : VR m v v') : Does P m h w s v h :=
  ⟨v', w, m, hs, .refl hr, hv⟩

variable {P : Program} {E : Env} {m : Mp} {h : AH} {w : World}

theorem VR.int_inv {k : IntKind} {n : Int} {v : Value} (hv : VR m (.int k n) v) : v = .int k n := by cases hv; rfl
theorem VR.bool_inv {b : Bool} {v : Value} (hv : VR m (.bool b) v) : v = .bool b := by cases hv; rfl
theorem VR.string_inv {s : ByteArray} {v : Value} (hv : VR m (.string s) v) : v = .string s := by cases hv; rfl

theorem atAddr_some {α : Type} {v : Value} {k : Nat → Nat → Option α} {r : α} (e : atAddr v k = some r) : ∃ b o, v = ptr b o ∧ k b o = some r := by
  unfold atAddr at e
  split at e
  · split at e
    · rename_i a
      split at e
      · rename_i hs
        exact ⟨a.block, a.off, by cases a; simp only at hs; subst hs; rfl, e⟩
      · cases e
    · cases e
  · cases e

theorem vr_ptr {n o : Nat} {v : Value} (hv : VR m (ptr n o) v) : ∃ b d, m n = some (b, d) ∧ v = .pointer (some ⟨b, d + o, none⟩) := by
  unfold ptr at hv
  cases hv with
  | ptr hm => exact ⟨_, _, hm, rfl⟩

/-- cells that are new -/
theorem new_cells (hr : Rep m h w) {cs : List Value} {cs' : Array Value} (hv : VRs m cs cs'.toList) (t : TypeId) :
    Goes m h w (more1 m h w (.cells cs' t)) (h.new (.cells cs false)) (w.alloc (.cells cs' t)) ∧ VR (more1 m h w (.cells cs' t)) (ptr h.next 0) (.pointer (some ⟨w.heap.size, 0, none⟩)) := by
  have he := ext_more hr (.cells cs' t)
  refine ⟨.new hr (.cells (fun _ => rfl) ?_ ?_), ?_⟩
  · have := hv.1; simp at this ⊢; omega
  · intro i v hi
    obtain ⟨x, h1, h2⟩ := hv.get hi
    rw [Array.getElem?_toList] at h1
    exact ⟨x, by simpa using h1, h2.mono he⟩
  · have : VR (more1 m h w (.cells cs' t)) (.pointer (some ⟨h.next, 0, none⟩)) (.pointer (some ⟨w.heap.size, 0 + 0, none⟩)) := .ptr (more1_self ..)
    exact this

theorem box_sound (hr : Rep m h w) {v v' : Value} (hv : VR m v v') (t : TypeId) :
    Does P m h w (Instr.box t v') (ptr h.next 0) (h.new (.cells (vcells v) false)) := by
  obtain ⟨g, p⟩ := new_cells hr (cs := vcells v) (cs' := v'.cells) (by rw [vcells_cells]; exact hv.vcells) t
  exact ⟨_, _, _, by simp [Instr.box, newVar, newRow], g, p⟩

theorem alloc_sound (hE : E.Types P) (hr : Rep m h w) {t : TypeId} {z : Value} (hz : zeroOf E t = some z) :
    Does P m h w (Instr.alloc t true (.tuple #[])) (ptr h.next 0) (h.new (.cells (vcells z) false)) := by
  obtain ⟨h1, h2⟩ := zeroOf_run hE hz w
  obtain ⟨g, p⟩ := new_cells hr (cs := vcells z) (cs' := z.cells) (by rw [vcells_cells]; exact (flatV_VR 10 z h2).vcells) t
  exact ⟨_, _, _, by simp [Instr.alloc, newVar, newRow, h1], g, p⟩

theorem load_sound (hE : E.Types P) (hr : Rep m h w) {t : TypeId} {a a' v : Value} (e : (atAddr a fun b o => E.loadV t b o h) = some v) (ha : VR m a a') :
    Does P m h w (Instr.loadAt t a') v h := by
  obtain ⟨b, o, rfl, e⟩ := atAddr_some e
  obtain ⟨b', d, hm, rfl⟩ := vr_ptr ha
  obtain ⟨v', h1, h2⟩ := loadV_sound hE hr e hm
  exact .here hr (by simp [Instr.loadAt, Instr.sureAddr, h1]) h2

theorem store_sound (hE : E.Types P) (hr : Rep m h w) {h' : AH} {t : TypeId} {a a' v v' : Value} (e : (atAddr a fun b o => E.storeV t b o v h) = some h') (ha : VR m a a') (hv : VR m v v') :
    DoesU P m h w (Instr.storeAt t a' v') h' := by
  obtain ⟨b, o, rfl, e⟩ := atAddr_some e
  obtain ⟨b', d, hm, rfl⟩ := vr_ptr ha
  obtain ⟨w', h1, h2⟩ := storeV_sound hE hr e hm hv
  exact ⟨w', m, by simp [Instr.storeAt, Instr.sureAddr, h1], h2⟩

theorem fieldPlace_ty {fs : Array Field} {f off size : Nat} (e : E.fieldPlace fs f = some (off, size)) : ∃ fl j, fs[f]? = some fl ∧ E.ty fl.type = some j ∧ fl.offset = off ∧ j.size = size := by
  unfold Env.fieldPlace at e
  split at e
  · rename_i fl hf
    split at e
    · rename_i j hj; cases e; exact ⟨fl, j, hf, hj, rfl, rfl⟩
    · cases e
  · cases e

theorem fieldAddr_sound (hE : E.Types P) (hr : Rep m h w) {t f : Nat} {x x' v : Value} (e : E.fieldAddr t x f = some v) (hx : VR m x x') :
    Does P m h w (Instr.fieldAt t x' f) v h := by
  unfold Env.fieldAddr at e
  split at e
  · rename_i fs hu
    split at e
    · rename_i off size hp
      obtain ⟨fl, j, h1, h2, h3, h4⟩ := fieldPlace_ty hp
      cases hz : Nat.beq size 0 with
      | true => rw [hz] at e; cases e
      | false =>
        rw [hz] at e
        have hz : size ≠ 0 := beq_false.1 hz
        simp only [cond_false] at e
        obtain ⟨b, o, rfl, e⟩ := atAddr_some e
        cases e
        obtain ⟨b', d, hm, rfl⟩ := vr_ptr hx
        refine .here hr (v' := .pointer (some ⟨b', d + (o + off), none⟩)) ?_ (.ptr hm)
        simp only [Instr.fieldAt, Sem.run_bind, run_und hE hu, Result.andThen_ok, h1, Instr.sureAddr, Sem.run_pure, fieldPlace, run_size hE h2, h4, if_neg hz, add_none, h3, Nat.add_assoc]
    · cases e
  · cases e

theorem within_some {α : Type} {i : Value} {len : Nat} {k : Nat → Option α} {r : α} (e : within i len k = some r) : ∃ q a, i = .int q (.ofNat a) ∧ a < len ∧ k a = some r := by
  unfold within at e
  cases i with
  | int q n =>
    cases n with
    | ofNat a =>
      cases hb : Nat.blt a len with
      | false => simp only [hb] at e; cases e
      | true =>
        simp only [hb] at e
        have := Nat.le_of_ble_eq_true hb
        exact ⟨q, a, rfl, by omega, e⟩
    | negSucc a => cases e
  | _ => cases e

theorem indexAddr_sound (hE : E.Types P) (hr : Rep m h w) {t : Nat} {x x' i i' v : Value} (e : E.indexAddr t x i = some v) (hx : VR m x x') (hi : VR m i i') :
    Does P m h w (Instr.indexAt t x' i') v h := by
  unfold Env.indexAddr at e
  split at e
  · rename_i el hu
    split at e
    · rename_i a len c
      split at e
      · rename_i r hty
        obtain ⟨q, k, rfl, hk, e⟩ := within_some e
        cases e
        have := hi.int_inv; subst this
        have key : ∀ (a' : Addr) (c' b d : Nat), x' = .slice (some a') len c' → m a.block = some (b, d) → a' = ⟨b, d + a.off, none⟩ →
            Does P m h w (Instr.indexAt t x' (.int q (.ofNat k))) (ptr a.block (a.off + k * r.size)) h := by
          rintro a' c' b d rfl hm rfl
          refine .here hr (v' := .pointer (some ⟨b, d + (a.off + k * r.size), none⟩)) ?_ (.ptr hm)
          simp only [Instr.indexAt, asIntOf, Sem.run_bind, Sem.run_pure, Result.andThen_ok, run_und hE hu]
          have h0 : (0 : Int) ≤ Int.ofNat k ∧ (Int.ofNat k) < (len : Int) := ⟨Int.natCast_nonneg k, Int.ofNat_lt.2 hk⟩
          simp only [run_size hE hty, if_pos h0, Sem.run_bind, Sem.run_pure, Result.andThen_ok, add_none, Nat.add_assoc, Int.toNat]
        cases hx with
        | sliceExact hm ha hl =>
          exact key _ _ _ _ rfl hm (ha (by omega))
        | sliceOpen hm hc ha hl hs =>
          exact key _ _ _ _ rfl hm (ha (by omega))
      · cases e
    · cases e
  · rename_i len el hu
    split at e
    · rename_i r hty
      obtain ⟨b, o, rfl, e⟩ := atAddr_some e
      obtain ⟨q, k, rfl, hk, e⟩ := within_some e
      cases e
      have := hi.int_inv; subst this
      obtain ⟨b', d, hm, rfl⟩ := vr_ptr hx
      refine .here hr (v' := .pointer (some ⟨b', d + (o + k * r.size), none⟩)) ?_ (.ptr hm)
      have h0 : (0 : Int) ≤ Int.ofNat k ∧ (Int.ofNat k) < (len : Int) := ⟨Int.natCast_nonneg k, Int.ofNat_lt.2 hk⟩
      simp only [Instr.indexAt, asIntOf, Sem.run_bind, Sem.run_pure, Result.andThen_ok, run_und hE hu, Instr.sureAddr]
      by_cases hl : len ≤ 1 <;> simp [run_size hE hty, add_none, Nat.add_assoc, hk]
    · cases e
  · cases e

end Go.Ev
