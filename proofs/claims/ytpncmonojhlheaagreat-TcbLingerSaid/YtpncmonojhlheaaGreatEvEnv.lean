/- A part of a big-step evaluator of the model's language, with the proof that what it comes to, the model comes to for every tape. No conditions. -/
import Derived.Test.YtpncmonojhlheaaGreatEvMem
import Derived.Test.YtpncmonojhlheaaGreatEvInt
namespace Go.Ev

theorem flat_list {m : Mp} {n : Nat} (ih : ∀ v, flatV n v = true → VR m v v) (l : List Value) (h : l.all (flatV n) = true) : VRs m l l := by
  refine ⟨rfl, fun i v w a b => ?_⟩
  rw [a] at b; cases b
  rw [List.all_eq_true] at h
  exact ih v (h v (List.mem_of_getElem? a))

theorem flatV_VR {m : Mp} : ∀ (n : Nat) (v : Value), flatV n v = true → VR m v v := by
  intro n
  induction n with
  | zero =>
    intro v h
    cases v with
    | bool b => exact .bool b
    | int k n => exact .int k n
    | string s => exact .string s
    | pointer a => cases a with
      | none => exact .ptrNil
      | some a => simp [flatV] at h
    | slice a l c => cases a with
      | none =>
        have hl : l = 0 := by cases l with
          | zero => rfl
          | succ k => cases c <;> cases h
        have hc : c = 0 := by cases c with
          | zero => rfl
          | succ k => subst hl; cases h
        subst hl; subst hc; exact .sliceNil
      | some a => simp [flatV] at h
    | map r => cases r with
      | none => exact .mapNil
      | some a => simp [flatV] at h
    | nilFunc => exact .nilFunc
    | nilIface => exact .nilIface
    | _ => simp [flatV] at h
  | succ n ih =>
    intro v h
    cases v with
    | bool b => exact .bool b
    | int k n => exact .int k n
    | string s => exact .string s
    | pointer a => cases a with
      | none => exact .ptrNil
      | some a => simp [flatV] at h
    | slice a l c => cases a with
      | none =>
        have hl : l = 0 := by cases l with
          | zero => rfl
          | succ k => cases c <;> cases h
        have hc : c = 0 := by cases c with
          | zero => rfl
          | succ k => subst hl; cases h
        subst hl; subst hc; exact .sliceNil
      | some a => simp [flatV] at h
    | map r => cases r with
      | none => exact .mapNil
      | some a => simp [flatV] at h
    | nilFunc => exact .nilFunc
    | nilIface => exact .nilIface
    | iface t v => exact .iface (ih v h)
    | agg cs =>
      have := flat_list ih cs.toList h
      exact .agg this.1 this.2
    | tuple cs =>
      have := flat_list ih cs.toList h
      exact .tuple this.1 this.2
    | _ => simp [flatV] at h

structure Env.Types (P : Program) (E : Env) : Prop where
  fn : ∀ f x, E.fn f = some x → P.funcs[f]? = some x
  ty : ∀ t i, E.ty t = some i → tyOf P t = some i
  zero : ∀ t i z, E.ty t = some i → i.zero = some z → flatV 10 z = true ∧ (vcells z).length = i.size
  code : ∀ f x, E.fn f = some x → okFn x = true

variable {P : Program} {E : Env}


theorem ty_info (hE : E.Types P) {t : Nat} {i : TyR} (h : E.ty t = some i) : ∃ x, P.info? t = some x ∧ P.underlying t = some i.und ∧ x.size = i.size ∧ x.bytes = i.bytes ∧ x.zero = i.zero ∧
    x.comparable = i.comparable ∧ x.methods.toList = i.methods ∧ i.agg = isAggD i.und ∧ i.held = P.stoodInHeld t := by
  have := hE.ty t i h
  unfold tyOf at this
  split at this
  · rename_i x u h1 h2
    cases this
    exact ⟨x, h1, h2, rfl, rfl, rfl, rfl, rfl, rfl, rfl⟩
  · cases this

theorem und_eq (hE : E.Types P) {t : Nat} {u : TypeDesc} (h : E.und t = some u) : P.underlying t = some u := by
  unfold Env.und at h
  split at h
  · rename_i i hi
    cases h
    obtain ⟨x, _, h2, _⟩ := ty_info hE hi
    exact h2
  · cases h

theorem run_und (hE : E.Types P) {t : Nat} {u : TypeDesc} (h : E.und t = some u) (w : World) : (underlying t).run P w = .ok u w := by
  simp [underlying, und_eq hE h]

theorem run_und_ty (hE : E.Types P) {t : Nat} {i : TyR} (h : E.ty t = some i) (w : World) : (underlying t).run P w = .ok i.und w := by
  obtain ⟨x, _, h2, _⟩ := ty_info hE h
  simp [underlying, h2]

theorem run_size (hE : E.Types P) {t : Nat} {i : TyR} (h : E.ty t = some i) (w : World) : (sizeOf t).run P w = .ok i.size w := by
  obtain ⟨x, h1, _, h3, _⟩ := ty_info hE h
  simp [sizeOf, typeInfo, h1, h3]

theorem run_zero (hE : E.Types P) {t : Nat} {i : TyR} {z : Value} (h : E.ty t = some i) (hz : i.zero = some z) (w : World) : (zeroValue t).run P w = .ok z w := by
  obtain ⟨x, h1, _, _, _, h5, _⟩ := ty_info hE h
  simp [zeroValue, typeInfo, h1, h5, hz]

theorem run_info (hE : E.Types P) {t : Nat} {i : TyR} (h : E.ty t = some i) (w : World) : ∃ x, (typeInfo t).run P w = .ok x w ∧ x.size = i.size ∧ x.bytes = i.bytes ∧ x.zero = i.zero ∧ x.comparable = i.comparable ∧ x.methods.toList = i.methods := by
  obtain ⟨x, h1, _, h3, h4, h5, h6, h7, _⟩ := ty_info hE h
  exact ⟨x, by simp [typeInfo, h1], h3, h4, h5, h6, h7⟩

theorem run_isAgg (hE : E.Types P) {t : Nat} {i : TyR} (h : E.ty t = some i) (w : World) : (isAgg t).run P w = .ok i.agg w := by
  obtain ⟨x, h1, h2, _, _, _, _, _, h8, _⟩ := ty_info hE h
  simp only [isAgg, Sem.run_bind, run_und_ty hE h, Result.andThen_ok]
  rw [h8]
  cases i.und <;> rfl

theorem zeroOf_run (hE : E.Types P) {t : Nat} {z : Value} (h : zeroOf E t = some z) (w : World) : (zeroValue t).run P w = .ok z w ∧ flatV 10 z = true := by
  unfold zeroOf at h
  split at h
  · rename_i i hi
    exact ⟨run_zero hE hi h w, (hE.zero _ _ _ hi h).1⟩
  · cases h

theorem loadV_sound (hE : E.Types P) {m : Mp} {h : AH} {w : World} (hr : Rep m h w) {t n b d o : Nat} {v : Value} (e : E.loadV t n o h = some v) (hm : m n = some (b, d)) :
    ∃ v', (loadVar t ⟨b, d + o, none⟩).run P w = .ok v' w ∧ VR m v v' := by
  unfold Env.loadV at e
  split at e
  · rename_i i hi
    unfold loadT at e
    simp only [loadVar, Sem.run_bind, run_isAgg hE hi, Result.andThen_ok]
    split at e
    · rename_i hag
      rw [hag]
      split at e
      · rename_i l hl
        cases e
        obtain ⟨l', h1, h2, _⟩ := loadN_sound (P := P) hr hl hm
        refine ⟨.agg l'.toArray, ?_, .agg' h2⟩
        simp only [if_true, Sem.run_bind, run_size hE hi, Result.andThen_ok, h1, Sem.run_pure]
      · cases e
    · rename_i hag
      rw [hag]
      obtain ⟨v', h1, h2⟩ := load1_sound (P := P) hr e hm
      exact ⟨v', by simpa using h1, h2⟩
  · cases e

theorem storeV_sound (hE : E.Types P) {m : Mp} {h h' : AH} {w : World} (hr : Rep m h w) {t n b d o : Nat} {v v' : Value} (e : E.storeV t n o v h = some h') (hm : m n = some (b, d)) (hv : VR m v v') :
    ∃ w', (storeVar t ⟨b, d + o, none⟩ v').run P w = .ok () w' ∧ Goes m h w m h' w' := by
  unfold Env.storeV at e
  split at e
  · rename_i i hi
    unfold storeT at e
    split at e
    · rename_i cs
      obtain ⟨ds, rfl, hvs⟩ := hv.agg_inv
      cases hb : Nat.beq cs.toList.length i.size with
      | false => rw [hb] at e; cases e
      | true =>
        rw [hb] at e
        have hb := Nat.eq_of_beq_eq_true hb
        obtain ⟨w', h1, h2⟩ := storeN_sound (P := P) hr e hm hvs
        refine ⟨w', ?_, h2⟩
        have : (Value.agg ds).cells = ds := rfl
        simp only [storeVar, Sem.run_bind, run_size hE hi, Result.andThen_ok, this]
        rw [if_neg (by have := hvs.1; simp at this hb ⊢; omega)]
        exact h1
    · rename_i hna
      cases hb : Nat.beq 1 i.size with
      | false => rw [hb] at e; cases e
      | true =>
        rw [hb] at e
        have hb := Nat.eq_of_beq_eq_true hb
        obtain ⟨w', h1, h2⟩ := store1_sound (P := P) hr e hm hv
        refine ⟨w', ?_, h2⟩
        have : v'.cells = #[v'] := by
          cases hv with
          | agg hl h => exact absurd rfl (hna _)
          | _ => rfl
        simp only [storeVar, Sem.run_bind, run_size hE hi, Result.andThen_ok, this]
        rw [if_neg (by simp; omega)]
        exact h1
  · cases e

theorem part_sound (hE : E.Types P) {m : Mp} {t o : Nat} {cs : List Value} {cs' : Array Value} {v : Value} (e : E.part t cs o = some v) (hv : VRs m cs cs'.toList) (w : World) :
    ∃ v', (part t cs' o).run P w = .ok v' w ∧ VR m v v' := by
  unfold Env.part at e
  split at e
  · rename_i i hi
    unfold partT at e
    simp only [part, Sem.run_bind, run_isAgg hE hi, Result.andThen_ok]
    split at e
    · rename_i hag
      rw [hag]
      cases e
      refine ⟨.agg (cs'.extract o (o + i.size)), by simp [run_size hE hi], ?_⟩
      have : (cs'.extract o (o + i.size)) = ((cs'.toList.drop o).take i.size).toArray := by
        apply Array.ext'
        simp [Array.toList_extract]
      rw [this]
      exact .agg' ((hv.drop o).take _)
    · rename_i hag
      rw [hag]
      rw [nth_eq] at e
      obtain ⟨v', h1, h2⟩ := hv.get e
      refine ⟨v', ?_, h2⟩
      rw [Array.getElem?_toList] at h1
      simp [h1]
  · cases e

end Go.Ev
