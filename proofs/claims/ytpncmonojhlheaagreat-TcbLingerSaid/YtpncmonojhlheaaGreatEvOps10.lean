/- A part of a big-step evaluator of the model's language, with the proof that what it comes to, the model comes to for every tape. No conditions. -/
import Derived.Test.YtpncmonojhlheaaGreatEvOps9
namespace Go.Ev

variable {P : Program} {E : Env} {m : Mp} {h : AH} {w : World}

theorem firstCells_len {size n : Nat} {x : Value} {l : List Value} {len : Nat} (e : firstCells size n x h = some l) (hn : lenOf x = some len) : (∃ c, x = .slice none len c) ∨ (∃ s, x = .string s) ∨ l.length = n * size := by
  cases x with
  | slice a ln c =>
    simp only [lenOf, Option.some.injEq] at hn; subst hn
    cases a with
    | none => exact .inl ⟨c, rfl⟩
    | some a =>
      refine .inr (.inr ?_)
      have e : h.loadN a.block a.off (n * size) = some l := e
      unfold AH.loadN at e
      split at e
      · rename_i c0 hc0
        cases hb : Nat.ble (a.off + n * size) c0.length with
        | false => rw [hb] at e; cases e
        | true =>
          rw [hb] at e
          have := Nat.le_of_ble_eq_true hb
          simp only [cond_true, Option.some.injEq] at e
          rw [← e]; simp; omega
      · cases e
  | string s => exact .inr (.inl ⟨s, rfl⟩)
  | _ => cases hn

theorem copy_sound (hE : E.Types P) (hr : Rep m h w) {ts : Array Nat} {t : Nat} {d s d' s' v : Value} {h' : AH} (e : E.copy ts.toList d s h = some (v, h')) (hd : VR m d d') (hs : VR m s s') :
    Does P m h w (Builtin.copy_ ts t #[d', s']) v h' := by
  unfold Env.copy at e
  split at e
  · rename_i dt rest hts
    have h0 : ts[0]? = some dt := by rw [← Array.getElem?_toList, hts]; rfl
    have hx0 : (#[d', s'] : Array Value)[0]? = some d' := rfl
    have hx1 : (#[d', s'] : Array Value)[1]? = some s' := rfl
    split at e
    · rename_i el base dl dc sl hu hsl
      split at e
      · rename_i i hty
        split at e
        · rename_i l hl
          obtain ⟨l', l1, l2⟩ := firstCells_sound (P := P) hr hl hs hsl (Nat.min_le_left _ _)
          have hlen := lenOf_sound (P := P) (w := w) hsl hs
          have run : ∀ (base' : Option Addr) (c' : Nat), d' = .slice base' dl c' → (Builtin.copy_ ts t #[d', s']).run P w =
              (do (match base' with | some a => storeCells a l' | none => pure ()); pure (goInt (Nat.min sl dl)) : Sem Value).run P w := by
            rintro base' c' rfl
            simp only [Builtin.copy_, h0, hx0, hx1, Sem.run_bind, run_und hE hu, Result.andThen_ok, run_size hE hty, hlen, l1 w rfl]
            cases base' <;> simp
          split at e
          · cases e
            cases hd
            refine .here hr (v' := goInt (Nat.min sl 0)) ?_ (.int _ _)
            rw [run none 0 rfl]; rfl
          · rename_i a
            split at e
            · rename_i h1 hst
              cases e
              have key : ∀ (b dd : Nat) (a' : Addr) (c' : Nat), m a.block = some (b, dd) → d' = .slice (some a') dl c' → (dl ≠ 0 → a' = ⟨b, dd + a.off, none⟩) →
                  Does P m h w (Builtin.copy_ ts t #[d', s']) (.int .i64 (.ofNat (Nat.min sl dl))) h' := by
                intro b dd a' c' hm hd' ha
                obtain ⟨w', r1, r2⟩ := storeN_sound (P := P) hr hst hm l2
                refine ⟨goInt (Nat.min sl dl), w', m, ?_, r2, .int _ _⟩
                rw [run (some a') c' hd']
                have hrun : (storeCells a' l').run P w = .ok () w' := by
                  by_cases h0 : dl = 0
                  · subst h0
                    have hl0 : l' = [] := by
                      rcases firstCells_len hl hsl with ⟨c, rfl⟩ | ⟨s0, rfl⟩ | hh
                      · cases hl; exact l2.nil_inv
                      · simp only [firstCells, Option.some.injEq] at hl
                        have : l = [] := by rw [← hl]; simp
                        subst this; exact l2.nil_inv
                      · have : l = [] := by cases l with
                          | nil => rfl
                          | cons x r => simp at hh
                        subst this; exact l2.nil_inv
                    subst hl0
                    exact r1
                  · rw [ha h0]; exact r1
                simp only [Sem.run_bind, hrun, Result.andThen_ok, Sem.run_pure]
              cases hd with
              | sliceExact hm ha hlc => exact key _ _ _ _ hm rfl (fun hh => ha (by omega))
              | sliceOpen hm hc ha hlc hsz => exact key _ _ _ _ hm rfl (fun hh => ha (by omega))
            · cases e
        · cases e
      · cases e
    · cases e
  · cases e

theorem rep_mapobj (hr : Rep m h w) {r b d : Nat} {es : List MapEntry} {clock : Nat} (e : h.map r = some (es, clock)) (hm : m r = some (b, d)) :
    ∃ es' : Array MapEntry, h.get r = some (.map es clock) ∧ w.heap[b]? = some (.map es' clock) ∧ d = 0 ∧ es.length = es'.toList.length ∧ ∀ (i : Nat) (e f : MapEntry), es[i]? = some e → es'.toList[i]? = some f → ER m e f := by
  unfold AH.map at e
  split at e
  · rename_i es0 cl0 hg
    cases e
    obtain ⟨b', d', x, h1, h2, h3⟩ := hr.obj _ _ hg
    rw [hm] at h1; cases h1
    cases h3 with
    | map hd hl hh => exact ⟨_, hg, h2, hd, hl, hh⟩
  · cases e

theorem putObj_goes (hr : Rep m h w) {r b d : Nat} {o0 o : AObj} {x : Obj} (hg : h.get r = some o0) (hm : m r = some (b, d)) (ho : OR m d o x) (hx : ∀ c e fz, x ≠ .cells c e fz) (hro : o.ro = false := by rfl) (hro0 : o0.ro = false := by rfl) :
    Goes m h w m (h.put r o) { w with heap := w.heap.setIfInBounds b x } := by
  have hb := hr.inside _ _ _ hm
  refine Goes.put hr hg hm ho (fun c e fz hh => absurd hh (hx c e fz)) (by simp) ?_ ?_ rfl rfl rfl hro hro0
  · simp [hb]
  · intro c hc; simp [Ne.symm hc]

theorem clear_sound (hE : E.Types P) (hr : Rep m h w) {ts : Array Nat} {t : Nat} {x x' : Value} {h' : AH} (e : E.clear ts.toList x h = some h') (hx : VR m x x') :
    Does P m h w (Builtin.clear_ ts t #[x']) (.tuple #[]) h' := by
  unfold Env.clear at e
  split at e
  · rename_i t0 rest hts
    have h0 : ts[0]? = some t0 := by rw [← Array.getElem?_toList, hts]; rfl
    have hx0 : (#[x'] : Array Value)[0]? = some x' := rfl
    split at e
    · rename_i u hu
      split at e
      · cases e; cases hx
        refine .here hr (v' := .tuple #[]) ?_ (VR.undef m)
        simp only [Builtin.clear_, h0, hx0, Sem.run_bind, run_und hE hu, Result.andThen_ok]
        cases u <;> rfl
      · cases e; cases hx
        refine .here hr (v' := .tuple #[]) ?_ (VR.undef m)
        simp only [Builtin.clear_, h0, hx0, Sem.run_bind, run_und hE hu, Result.andThen_ok]
        cases u <;> rfl
      · cases e
        have run : ∀ a' c', x' = .slice (some a') 0 c' → (Builtin.clear_ ts t #[x']).run P w = .ok (.tuple #[]) w := by
          rintro a' c' rfl
          simp only [Builtin.clear_, h0, hx0, Sem.run_bind, run_und hE hu, Result.andThen_ok]
          cases u <;> rfl
        cases hx with
        | sliceExact hm ha hl => exact .here hr (run _ _ rfl) (VR.undef m)
        | sliceOpen hm hc ha hl hs => exact .here hr (run _ _ rfl) (VR.undef m)
      · rename_i a n c
        split at e
        · rename_i el
          split at e
          · rename_i z hz
            obtain ⟨hzr, hzf⟩ := zeroOf_run hE hz w
            cases hb : Nat.ble 1 (vcells z).length with
            | false => rw [hb] at e; cases e
            | true =>
            rw [hb] at e
            simp only [cond_true] at e
            have hzl : 0 < z.cells.size := by
              have := Nat.le_of_ble_eq_true hb
              rw [← vcells_cells] at this; simp at this; omega
            have key : ∀ (b d : Nat) (a' : Addr) (c' : Nat), m a.block = some (b, d) → x' = .slice (some a') (n + 1) c' → a' = ⟨b, d + a.off, none⟩ →
                Does P m h w (Builtin.clear_ ts t #[x']) (.tuple #[]) h' := by
              rintro b d a' c' hm rfl rfl
              obtain ⟨w', r1, r2⟩ := storeN_sound (P := P) hr e hm ((flatV_VR 10 z hzf).vcells.rep (n + 1))
              refine ⟨.tuple #[], w', m, ?_, r2, VR.undef m⟩
              simp only [Builtin.clear_, h0, hx0, Sem.run_bind, run_und hE hu, Result.andThen_ok, hzr]
              rw [zeroCells_eq _ _ hzl, vcells_cells]
              simp only [r1, Result.andThen_ok, Sem.run_pure]
            cases hx with
            | sliceExact hm ha hl => exact key _ _ _ _ hm rfl (ha (by omega))
            | sliceOpen hm hc ha hl hs => exact key _ _ _ _ hm rfl (ha (by omega))
          · cases e
        · cases e
      · rename_i r
        split at e
        · rename_i es cl hmp
          cases e
          cases hx with
          | map hm =>
            obtain ⟨es', g1, g2, g3, g4, g5⟩ := rep_mapobj hr hmp hm
            refine ⟨.tuple #[], _, m, ?_, putObj_goes hr g1 hm (.map (es' := #[]) rfl rfl (fun i e f a => by simp at a)) (fun _ _ _ hh => by cases hh), VR.undef m⟩
            simp only [Builtin.clear_, h0, hx0, Sem.run_bind, run_und hE hu, Result.andThen_ok]
            cases u <;> simp [getObj, setObj, Sem.run, g2]
        · cases e
      · cases e
    · cases e
  · cases e

theorem cap_sound (hE : E.Types P) (hr : Rep m h w) {ts : Array Nat} {t : Nat} {x x' v : Value} (e : E.capOf ts.toList x = some v) (hx : VR m x x') : Does P m h w (Builtin.cap_ ts t #[x']) v h := by
  unfold Env.capOf at e
  split at e
  · rename_i t0 rest hts
    have h0 : ts[0]? = some t0 := by rw [← Array.getElem?_toList, hts]; rfl
    split at e
    · rename_i el l c hu
      cases e; cases hx
      exact .here hr (v' := .int .i64 0) (by simp [Builtin.cap_, h0, run_und hE hu, goInt]) (.int _ _)
    · rename_i el a l c hu
      split at e
      · rename_i hsp
        cases e
        cases hx with
        | sliceExact hm ha hl => exact .here hr (v' := .int .i64 c) (by simp [Builtin.cap_, h0, run_und hE hu, goInt]) (.int _ _)
        | sliceOpen hm hc ha hl hs => cases hsp
      · cases e
    · cases e
  · cases e

theorem minFrom_sound (k : IntKind) : ∀ (r : List Value) (r' : List Value) (x : Int) (v : Value), minFrom k x r = some v → VRs m r r' → ((r'.foldlM Builtin.min2 (.int k x) : Sem Value).run P w = .ok v w) ∧ flatV 10 v = true := by
  intro r
  induction r with
  | nil => intro r' x v e hv; cases e; rw [hv.nil_inv]; exact ⟨rfl, rfl⟩
  | cons y r ih =>
    intro r' x v e hv
    obtain ⟨y', r2, rfl, h1, h2⟩ := hv.cons_inv
    cases y with
    | int q n =>
      simp only [minFrom] at e
      have := h1.int_inv; subst this
      have := ih r2 _ v e h2
      refine ⟨?_, this.2⟩
      simp only [List.foldlM_cons, Sem.run_bind, Builtin.min2, Sem.run_pure, Result.andThen_ok]
      have he : (cond (ilt n x) n x) = (if n < x then n else x) := by rw [ilt_eq]; by_cases h : n < x <;> simp [h]
      rw [← he]; exact this.1
    | _ => cases e

theorem maxFrom_sound (k : IntKind) : ∀ (r : List Value) (r' : List Value) (x : Int) (v : Value), maxFrom k x r = some v → VRs m r r' → ((r'.foldlM Builtin.max2 (.int k x) : Sem Value).run P w = .ok v w) ∧ flatV 10 v = true := by
  intro r
  induction r with
  | nil => intro r' x v e hv; cases e; rw [hv.nil_inv]; exact ⟨rfl, rfl⟩
  | cons y r ih =>
    intro r' x v e hv
    obtain ⟨y', r2, rfl, h1, h2⟩ := hv.cons_inv
    cases y with
    | int q n =>
      simp only [maxFrom] at e
      have := h1.int_inv; subst this
      have := ih r2 _ v e h2
      refine ⟨?_, this.2⟩
      simp only [List.foldlM_cons, Sem.run_bind, Builtin.max2, Sem.run_pure, Result.andThen_ok]
      have he : (cond (ilt x n) n x) = (if n > x then n else x) := by rw [ilt_eq]; by_cases h : x < n <;> simp [h]
      rw [← he]; exact this.1
    | _ => cases e

theorem min_sound (hr : Rep m h w) {ts : Array Nat} {t : Nat} {l : List Value} {l' : Array Value} {v : Value} (e : minInt l = some v) (hv : VRs m l l'.toList) : Does P m h w (Builtin.min_ ts t l') v h := by
  cases l with
  | nil => cases e
  | cons x r =>
    cases x with
    | int k n =>
      obtain ⟨y', r2, he, h1, h2⟩ := hv.cons_inv
      have := h1.int_inv; subst this
      obtain ⟨g1, g2⟩ := minFrom_sound (P := P) (w := w) k r r2 n v e h2
      refine .here hr ?_ (flatV_VR 10 v g2)
      simp only [Builtin.min_, he]; exact g1
    | _ => cases e
theorem max_sound (hr : Rep m h w) {ts : Array Nat} {t : Nat} {l : List Value} {l' : Array Value} {v : Value} (e : maxInt l = some v) (hv : VRs m l l'.toList) : Does P m h w (Builtin.max_ ts t l') v h := by
  cases l with
  | nil => cases e
  | cons x r =>
    cases x with
    | int k n =>
      obtain ⟨y', r2, he, h1, h2⟩ := hv.cons_inv
      have := h1.int_inv; subst this
      obtain ⟨g1, g2⟩ := maxFrom_sound (P := P) (w := w) k r r2 n v e h2
      refine .here hr ?_ (flatV_VR 10 v g2)
      simp only [Builtin.max_, he]; exact g1
    | _ => cases e

end Go.Ev
