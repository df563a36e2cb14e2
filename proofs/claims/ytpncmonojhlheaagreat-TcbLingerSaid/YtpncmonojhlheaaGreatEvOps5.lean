/- A part of a big-step evaluator of the model's language, with the proof that what it comes to, the model comes to for every tape. No conditions. -/
import Derived.Test.YtpncmonojhlheaaGreatEvOps4
namespace Go.Ev

variable {P : Program} {E : Env} {m : Mp} {h : AH} {w : World}

/-- a slice over cells that are new -/
theorem new_slice (hr : Rep m h w) {cs : List Value} {cs' : Array Value} (hv : VRs m cs cs'.toList) (t : TypeId) (len cap : Nat) (hl : len ≤ cap) :
    Goes m h w (more1 m h w (.cells cs' t)) (h.new (.cells cs false)) (w.alloc (.cells cs' t)) ∧
      VR (more1 m h w (.cells cs' t)) (.slice (some ⟨h.next, 0, none⟩) len cap) (.slice (some ⟨w.heap.size, 0, none⟩) len cap) := by
  obtain ⟨g, _⟩ := new_cells hr hv t
  exact ⟨g, .sliceExact (d := 0) (b := w.heap.size) (more1_self ..) (fun _ => rfl) hl⟩

theorem buildSlice_sound (hE : E.Types P) (hr : Rep m h w) {t len : Nat} {ps : Array (Nat × Operand)} {r r' : Operand → Value} {v : Value} {h' : AH} (hps : ∀ p ∈ ps.toList, VR m (r p.2) (r' p.2))
    (e : E.buildSlice t len (partsOf r ps) h = some (v, h')) : Does P m h w (Instr.buildSlice t len (ps.map fun (i, x) => (i, r' x))) v h' := by
  unfold Env.buildSlice at e
  split at e
  · rename_i el hu
    split at e
    · rename_i i hty
      split at e
      · rename_i z hz
        cases hb : (Nat.ble (len * i.size) 16777216 && Nat.beq (vcells z).length i.size && Nat.ble 1 i.size) with
        | false => rw [hb] at e; cases e
        | true =>
          rw [hb] at e
          simp only [cond_true] at e
          rw [Bool.and_eq_true, Bool.and_eq_true] at hb
          obtain ⟨⟨b1, b2⟩, b3⟩ := hb
          have b1 := Nat.le_of_ble_eq_true b1
          have b2 := Nat.eq_of_beq_eq_true b2
          have b3 := Nat.le_of_ble_eq_true b3
          have hzf := (hE.zero _ _ _ hty hz)
          have hzr := run_zero hE hty hz w
          unfold newSlice at e
          split at e
          · rename_i cs hcs
            cases e
            have hzs : z.cells.size = i.size := by rw [← b2, ← vcells_cells]; simp
            have hrep : VRs m (rep len (vcells z)) (((Array.range (len * i.size)).map fun k => z.cells[k % z.cells.size]!) : Array Value).toList := by
              have := zeros_rep z.cells len i.size hzs b3
              rw [this, vcells_cells]
              exact (flatV_VR 10 z hzf.1).vcells.rep len
            obtain ⟨out', h1, h2⟩ := fill_sound (m := m) (place' := fun k => some (k * i.size, i.size)) (fun k p hp => hp) (fun p : Nat × Operand => p.1) (fun p => r p.2) (fun p => r' p.2) ps.toList _ _ cs hps hcs hrep
            obtain ⟨g, p⟩ := new_slice hr h2 el len len (Nat.le_refl _)
            refine ⟨_, _, _, ?_, g, p⟩
            simp only [Instr.buildSlice, Sem.run_bind, run_und hE hu, Result.andThen_ok, run_size hE hty]
            rw [if_neg (by omega)]
            by_cases h0 : len * i.size = 0
            · have hl0 : len = 0 := by
                rcases Nat.mul_eq_zero.1 h0 with h | h
                · exact h
                · omega
              subst hl0
              simp only [Nat.zero_mul, Array.range_zero', Array.map_empty] at h1 ⊢
              simp [h1, newRow]
            · rw [if_neg h0]
              simp only [Sem.run_bind, hzr, Result.andThen_ok, Sem.run_pure, Array.toList_map, h1, newRow, run_newObj, World.alloc_eq]
          · cases e
      · cases e
    · cases e
  · cases e

theorem wrap_id (n : Int) (h0 : 0 ≤ n) (h1 : n ≤ 9223372036854775807) : IntKind.i64.wrap n = n := by
  rw [← wrapK_eq]
  obtain ⟨k, rfl⟩ := Int.eq_ofNat_of_zero_le h0
  show wrapS 9223372036854775808 9223372036854775807 18446744073709551616 (Int.ofNat k) = _
  unfold wrapS
  have : Nat.ble k 9223372036854775807 = true := Nat.ble_eq_true_of_le (by omega)
  simp only [this, cond_true]; rfl

theorem makeSlice_sound (hE : E.Types P) (hr : Rep m h w) {t : Nat} {kl kc : IntKind} {len cap : Int} {v : Value} {h' : AH} (e : E.makeSlice t len cap h = some (v, h')) :
    Does P m h w (Instr.makeSlice t (.int kl len) (.int kc cap)) v h' := by
  unfold Env.makeSlice at e
  split at e
  · rename_i el hu
    split at e
    · rename_i i hty
      split at e
      · rename_i z hz
        cases hb : (ile 0 len && ile len cap && ile cap 9223372036854775807 && ile (.ofNat i.bytes * cap) 281474976710656 && Nat.beq (vcells z).length i.size && Nat.ble 1 i.size) with
        | false => rw [hb] at e; cases e
        | true =>
          rw [hb] at e
          simp only [cond_true, Option.some.injEq, Prod.mk.injEq] at e
          obtain ⟨rfl, rfl⟩ := e
          simp only [Bool.and_eq_true, ile_eq, decide_eq_true_iff] at hb
          obtain ⟨⟨⟨⟨⟨b1, b2⟩, b3⟩, b4⟩, b5⟩, b6⟩ := hb
          have b5 := Nat.eq_of_beq_eq_true b5
          have b6 := Nat.le_of_ble_eq_true b6
          have b4 : (i.bytes : Int) * cap ≤ 281474976710656 := b4
          have hzf := (hE.zero _ _ _ hty hz)
          have hzr := run_zero hE hty hz w
          obtain ⟨inf, hi1, hi2, hi3, hi4, hi5, hi6⟩ := run_info hE hty w
          have hzs : z.cells.size = i.size := by rw [← b5, ← vcells_cells]; simp
          have hrep : VRs m (rep cap.toNat (vcells z)) (((Array.range (cap.toNat * i.size)).map fun k => z.cells[k % z.cells.size]!) : Array Value).toList := by
            have := zeros_rep z.cells cap.toNat i.size hzs b6
            rw [this, vcells_cells]
            exact (flatV_VR 10 z hzf.1).vcells.rep _
          obtain ⟨g, p⟩ := new_slice hr hrep el len.toNat cap.toNat (by omega)
          refine ⟨_, _, _, ?_, g, p⟩
          have hmul : (i.bytes : Int) * len ≤ 281474976710656 := Int.le_trans (Int.mul_le_mul_of_nonneg_left b2 (Int.natCast_nonneg _)) b4
          simp only [Instr.makeSlice, Sem.run_bind, run_und hE hu, Result.andThen_ok, asInt, asIntOf, Sem.run_pure, hi1, hi3]
          rw [wrap_id len b1 (by omega), wrap_id cap (by omega) b3]
          have hc : ((decide (cap < 0) || decide ((i.bytes : Int) * cap > 2 ^ 48)) || decide (len < 0) || decide (len > cap)) = false := by
            simp only [Bool.or_eq_false_iff, decide_eq_false_iff_not]
            refine ⟨⟨⟨by omega, ?_⟩, by omega⟩, by omega⟩
            have : (2 : Int) ^ 48 = 281474976710656 := by decide
            rw [this]; omega
          rw [hc]
          simp only [Bool.false_eq_true, if_false, Sem.run_bind, run_askRoom, Result.andThen_ok, run_size hE hty]
          by_cases h0 : cap.toNat * i.size = 0
          · have hl0 : cap.toNat = 0 := by
              rcases Nat.mul_eq_zero.1 h0 with h | h
              · exact h
              · omega
            rw [if_pos h0]
            simp [hl0, newRow, Array.range_zero']
          · rw [if_neg h0]
            simp only [Sem.run_bind, hzr, Result.andThen_ok, Sem.run_pure, newRow, run_newObj, World.alloc_eq]
      · cases e
    · cases e
  · cases e

-- conversions

theorem byteList_ints : ∀ (l : List Value) (bs : List UInt8), byteList l = some bs → ∃ ns : List Int, l = ns.map (Value.int .u8) ∧ bs = ns.map fun n => UInt8.ofNat n.toNat := by
  intro l
  induction l with
  | nil => intro bs e; cases e; exact ⟨[], rfl, rfl⟩
  | cons v r ih =>
    intro bs e
    unfold byteList at e
    split at e
    · rename_i heq; cases heq
    · rename_i n r' heq
      cases heq
      split at e
      · rename_i l' hl
        cases e
        obtain ⟨ns, h1, h2⟩ := ih _ hl
        exact ⟨n :: ns, by rw [h1]; rfl, by rw [h2]; rfl⟩
      · cases e
    · cases e

theorem foldl_push (ns : List Int) : ∀ s : ByteArray, ns.foldl (fun r n => r.push (UInt8.ofNat n.toNat)) s = ⟨s.data ++ (ns.map fun n => UInt8.ofNat n.toNat).toArray⟩ := by
  induction ns with
  | nil => intro s; simp
  | cons n ns ih =>
    intro s
    rw [List.foldl_cons, ih]
    congr 1
    apply Array.ext'
    simp [ByteArray.push]

theorem VRs.ints {k : IntKind} {ns : List Int} {l' : List Value} (hv : VRs m (ns.map (Value.int k)) l') : l' = ns.map (Value.int k) := by
  induction ns generalizing l' with
  | nil => exact hv.nil_inv
  | cons n ns ih =>
    obtain ⟨x, r, rfl, h1, h2⟩ := hv.cons_inv
    rw [ih h2, h1.int_inv]; rfl

theorem conv_sound (hE : E.Types P) (hr : Rep m h w) {s d : Nat} {x x' v : Value} (e : E.conv s d x h = some v) (hx : VR m x x') : Does P m h w (convert s d x') v h := by
  unfold Env.conv at e
  split at e
  · rename_i k hd
    split at e
    · rename_i u q n hs
      cases e
      have := hx.int_inv; subst this
      refine .here hr (v' := .int k (wrapK k n)) ?_ (.int _ _)
      simp only [convert, Sem.run_bind, run_und hE hs, run_und hE hd, Result.andThen_ok, Conv.intToInt, wrapK_eq, Sem.run_pure]
    · cases e
  · rename_i hd
    split at e
    · rename_i u b hs
      cases e
      have := hx.string_inv; subst this
      refine .here hr (v' := .string b) ?_ (.string _)
      simp only [convert, Sem.run_bind, run_und hE hs, run_und hE hd, Result.andThen_ok, Sem.run_pure]
    · rename_i el a len c hs
      split at e
      · rename_i hel
        have hrun : ∀ a' c', (convert s d (.slice a' len c')).run P w = (Conv.bytesToString (.slice a' len c')).run P w := fun a' c' =>
          run_convert_bytes_string w s d el a' len c' (und_eq hE hs) (und_eq hE hel) (und_eq hE hd)
        unfold bytesStr at e
        split at e
        · cases e
          cases hx with
          | sliceNil => exact .here hr (v' := .string .empty) (by rw [hrun]; rfl) (.string _)
        · rename_i a
          split at e
          · rename_i l hl
            split at e
            · rename_i bs hbs
              cases e
              obtain ⟨ns, rfl, rfl⟩ := byteList_ints l bs hbs
              have key : ∀ (b' d' : Nat) (a' : Addr) (c' : Nat), m a.block = some (b', d') → x' = .slice (some a') len c' → (len ≠ 0 → a' = ⟨b', d' + a.off, none⟩) →
                  Does P m h w (convert s d x') (.string ⟨(ns.map fun n => UInt8.ofNat n.toNat).toArray⟩) h := by
                rintro b' d' a' c' hm rfl ha
                obtain ⟨l', h1, h2, h3⟩ := loadN_sound (P := P) hr hl hm
                have := h2.ints; subst this
                refine .here hr ?_ (.string _)
                rw [hrun]
                have hld : (loadCells a' len).run P w = .ok (ns.map (Value.int .u8)).toArray w := by
                  by_cases h0 : len = 0
                  · subst h0
                    have : ns = [] := by cases ns with
                      | nil => rfl
                      | cons n ns => simp at h3
                    subst this
                    simp [loadCells, loadCellsFrom]
                  · rw [ha h0]; exact h1
                rw [run_bytesToString w a' len c' ns hld, foldl_push]
                simp [ByteArray.empty, ByteArray.emptyWithCapacity]
                rfl
              cases hx with
              | sliceExact hm ha hl => exact key _ _ _ _ hm rfl (fun h0 => ha (by omega))
              | sliceOpen hm hc ha hl hs => exact key _ _ _ _ hm rfl (fun h0 => ha (by omega))
            · cases e
          · cases e
      · cases e
    · cases e
  · cases e

end Go.Ev
