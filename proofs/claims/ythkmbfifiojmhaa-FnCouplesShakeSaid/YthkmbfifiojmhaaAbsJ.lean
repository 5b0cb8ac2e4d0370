/- All operations that make or write memory: the theorem. -/
import Derived.Test.YthkmbfifiojmhaaAbsI
set_option linter.unusedSimpArgs false
set_option linter.unusedVariables false
namespace Go.Abs
open Go.RowKit
section
variable {P : Program} {w0 : World} {σ : Sig} {H : Heap} {w : World} {K : AV → Heap → Prop}

theorem wrap64_in {n : Int} (h0 : 0 ≤ n) (h1 : n ≤ 281474976710656) : IntKind.i64.wrap n = n := by
  simp only [IntKind.wrap, IntKind.signed, IntKind.bits]
  have : n % (2 ^ 64 : Int) = n := Int.emod_eq_of_lt h0 (by omega)
  simp only [this]
  rw [if_neg]
  simp
  omega

theorem makeA_run (hS : Sim w0 σ H w) {t : TypeId} {l c : AV} (h : makeA P t l c H K) {l' c' : Value} (hl : VR σ l l') (hc : VR σ c c') :
    Eff P w0 σ K ((Instr.makeSlice t l' c').run P w) := by
  unfold makeA at h
  split at h
  · rename_i e s k n k' m ht
    obtain ⟨ht', i, hi, his⟩ := tk_slice ht
    split at h
    · rename_i bytes z hbz
      obtain ⟨h1, h2, h3, h4, h5, hk⟩ := h
      obtain ⟨i', hi', hib, hiz⟩ := bz_parts hbz
      rw [hi] at hi'; cases hi'
      rw [VR_int] at hl hc
      subst hl hc
      have w1 := wrap64_in h1 (by omega)
      have w2 := wrap64_in (n := m) (by omega) (by omega)
      have hzs : z.cells.size = s := by have := (absV_cells (σ := σ) z).length; simp at this; omega
      have c2 : ¬ n < 0 := by omega
      have c3 : ¬ n > m := by omega
      have hrow : (Instr.makeSlice t (.int k n) (.int k' m)).run P w = .ok (.slice (some ⟨w.heap.size, 0, none⟩) n.toNat m.toNat) (w.alloc (.cells ((Array.range (m.toNat * s)).map fun j => z.cells[j % z.cells.size]!) e)) := by
        by_cases h0 : m.toNat * s = 0
        · simp [Instr.makeSlice, run_underlying ht', asInt, asIntOf, typeInfo, hi, sizeOf, w1, w2, his, h0, newRow, Array.range_zero']
          have a1 : ¬ m < 0 := by omega
          have a2 : ¬ (281474976710656 < (i.bytes : Int) * m) := by rw [hib]; omega
          have a3 : ¬ m < n := by omega
          simp [a1, a2, a3, c2]
        · simp [Instr.makeSlice, run_underlying ht', asInt, asIntOf, typeInfo, hi, sizeOf, w1, w2, his, h0, newRow, zeroValue, hiz]
          have a1 : ¬ m < 0 := by omega
          have a2 : ¬ (281474976710656 < (i.bytes : Int) * m) := by rw [hib]; omega
          have a3 : ¬ m < n := by omega
          simp [a1, a2, a3, c2]
      rw [hrow]
      have hr := zerosA_run (absV_cells (σ := σ) z) (m.toNat * s) (fun hp h0 => by
        have : s = 0 := by omega
        subst this; simp at hp)
      have hlen := hr.length
      rcases hk with hk | hk
      · exact hS.newSlice (P := P) _ e (zerosA (absV z).cells (m.toNat * s)) (by simp at hlen ⊢; omega) (by rw [hlen, List.take_length]; exact hr) (by omega) (by simp) (fun c' h => by cases h; rfl) hk
      · have hle : n.toNat * s ≤ m.toNat * s := Nat.mul_le_mul_right _ (by omega)
        have ez : zerosA (absV z).cells (n.toNat * s) = (zerosA (absV z).cells (m.toNat * s)).take (n.toNat * s) := by
          simp only [zerosA, ← List.map_take, List.take_range, Nat.min_eq_left hle]
        have lz : (zerosA (absV z).cells (n.toNat * s)).length = n.toNat * s := by simp [zerosA]
        exact hS.newList (P := P) _ e (zerosA (absV z).cells (n.toNat * s)) lz (by rw [lz, ez]; exact hr.take _) (by omega) (by simp) (.inr hk)
    · exact h.elim
  · exact h.elim

theorem buildSliceA_run (hS : Sim w0 σ H w) {t : TypeId} {len : Nat} {parts : List (Nat × AV)} {parts' : Array (Nat × Value)} (h : buildSliceA P t len parts H K) (h1 : parts.map (·.1) = parts'.toList.map (·.1)) (h2 : VRs σ (parts.map (·.2)) (parts'.toList.map (·.2))) :
    Eff P w0 σ K ((Instr.buildSlice t len parts').run P w) := by
  unfold buildSliceA at h
  split at h
  · rename_i e s ht
    obtain ⟨ht', i, hi, his⟩ := tk_slice ht
    split at h
    · rename_i bytes z hbz
      obtain ⟨hle, hz, h⟩ := h
      obtain ⟨i', hi', hib, hiz⟩ := bz_parts hbz
      rw [hi] at hi'; cases hi'
      split at h
      · rename_i cs hf
        have hzr := zerosA_run (absV_cells (σ := σ) z) (len * s) (fun hp h0 => by
          have : s = 0 := by omega
          subst this; simp at hp)
        have hzs : z.cells.size = s := by have := (absV_cells (σ := σ) z).length; simp at this; omega
        obtain ⟨D, hD, hr⟩ := fillA_run (parts' := parts'.toList) hf hzr h1 h2
        have hle' : ¬ (16777216 < len * s) := by omega
        have hrun : (Instr.buildSlice t len parts').run P w = .ok (.slice (some ⟨w.heap.size, 0, none⟩) len len) (w.alloc (.cells D e)) := by
          by_cases h0 : len * s = 0
          · have hD' : Instr.fill (fun i => some (i * s, s)) #[] parts'.toList = some D := by
              have e1 : (Array.map (fun i => z.cells[i % z.cells.size]!) (Array.range (len * s))) = #[] := by rw [h0, Array.range_zero', Array.map_empty]
              rw [← e1]; exact hD
            simp [Instr.buildSlice, run_underlying ht', run_sizeOf hi, his, h0, newRow, Array.range_zero', hD']
          · simp [Instr.buildSlice, run_underlying ht', run_sizeOf hi, his, h0, hle', zeroValue, typeInfo, hi, hiz, hD, newRow]
        rw [hrun]
        have hlen := hr.length
        have hDs : cs.length = len * s := by
          have key : ∀ (ps : List (Nat × AV)) (cells r : List AV), fillA (fun i => some (i * s, s)) cells ps = some r → r.length = cells.length := by
            intro ps
            induction ps with
            | nil => intro cells r h; simp [fillA] at h; rw [h]
            | cons p ps ih =>
              intro cells r h
              obtain ⟨j, v⟩ := p
              simp only [fillA] at h
              split at h
              · rename_i hc
                rw [ih _ _ h, splice_length (by omega)]
              · cases h
          rw [key _ _ _ hf]; simp [zerosA]
        rcases h with h | h
        · exact hS.newSlice (P := P) D e cs (by simp at hlen; omega) (by rw [hlen, List.take_length]; exact hr) (Nat.le_refl _) (by simp at hlen; omega) (fun c' h => by cases h; rfl) h
        · exact hS.newList (P := P) D e cs hDs (by rw [hlen, List.take_length]; exact hr) (Nat.le_refl _) (by simp at hlen; omega) h
      · exact h.elim
    · exact h.elim
  · exact h.elim

theorem copyA_run (hS : Sim w0 σ H w) {t ty : TypeId} {tys : List TypeId} {d s : AV} (h : copyA P t d s H K) {d' s' : Value} (hd : VR σ d d') (hs : VR σ s s') :
    Eff P w0 σ K ((Builtin.copy_ (t :: tys).toArray ty #[d', s']).run P w) := by
  unfold copyA at h
  split at h
  · rename_i e sz b off len sz1 cap ht
    obtain ⟨ht', i, hi, his⟩ := tk_slice ht
    split at h
    · exact h.elim
    rename_i n sz2 hl
    split at h
    · rename_i new hnew
      obtain ⟨hone, hsn, h⟩ := h
      have hnewl := cellsA_len hnew
      obtain ⟨a, c, rfl, _⟩ := VR_slice_form hd
      obtain ⟨a2, c2, vs, rfl, _, hvl, hvr, hvc⟩ := cellsA_run hS hs hnew (lenOf_some hl) (by
        rcases hsn with h | h
        · subst h; exact Nat.mul_le_mul_right _ (Nat.min_le_left _ _)
        · subst h; simp)
      have hf : (Builtin.firstCells i.size (min n len) (.slice a2 n c2)).run P w = .ok vs.toArray w := by
        cases a2 with
        | none =>
          have : vs = [] := by
            rcases Nat.eq_zero_or_pos (min n len * sz) with h | h
            · exact List.eq_nil_of_length_eq_zero (by omega)
            · obtain ⟨ad, h1, _⟩ := hvc h; cases h1
          subst this
          simp [Builtin.firstCells]
        | some ad =>
          refine run_firstCells_some w i.size (min n len) ad n c2 vs (by rw [his]; exact hvl) fun j v hv => ?_
          rcases Nat.eq_zero_or_pos (min n len * sz) with h | h
          · have : vs = [] := List.eq_nil_of_length_eq_zero (by omega)
            subst this; simp at hv
          · obtain ⟨ad', h1, h2⟩ := hvc h
            cases h1
            exact h2 j v hv
      have hmin : n.min len = min n len := rfl
      split at h
      · rename_i h0
        have : vs = [] := List.eq_nil_of_length_eq_zero (by omega)
        subst this
        refine ⟨.int .i64 (min n len : Nat), w, σ, _, H, ?_, Sig.le_refl _, hS, ?_, h⟩
        · cases a <;> simp [Builtin.copy_, run_underlying ht', Builtin.lenOf, run_sizeOf hi, hmin, hf, goInt, storeCells]
        · simp only [VR]; congr 1; omega
      · rename_i h0
        cases b with
        | none => exact h.elim
        | some b =>
          simp only at h
          split at h
          · rename_i cs hb
            obtain ⟨hle, hk⟩ := h
            simp only [VR] at hd
            obtain ⟨g, k, e', o, c', hσ, hv, h1, h2, h3⟩ := hd
            cases hv
            have hc0 : 0 < c := by
              rcases Nat.eq_zero_or_pos c with h | h
              · have : len = 0 := by omega
                subst this; simp at h0
              · exact h
            obtain ⟨rfl, _⟩ := h2 hc0
            obtain ⟨w', q1, q2⟩ := hS.write (P := P) (as := new) (off := off) hb hσ hvr hone (by omega)
            refine ⟨.int .i64 (min n len : Nat), w', σ, _, _, ?_, Sig.le_refl _, q2, ?_, hk⟩
            · simp [Builtin.copy_, run_underlying ht', Builtin.lenOf, run_sizeOf hi, hmin, hf, goInt, q1]
            · simp only [VR]; congr 1; omega
          · exact h.elim
    · exact h.elim
  · exact h.elim

theorem clearA_run (hS : Sim w0 σ H w) {t ty : TypeId} {d : AV} (h : clearA P t d H K) {d' : Value} (hd : VR σ d d') :
    Eff P w0 σ K ((Builtin.clear_ #[t] ty #[d']).run P w) := by
  unfold clearA at h
  split at h
  · rename_i e sz b off len sz1 cap ht
    obtain ⟨ht', i, hi, his⟩ := tk_slice ht
    obtain ⟨a, c, rfl, _⟩ := VR_slice_form hd
    split at h
    · rename_i h0
      subst h0
      refine ⟨.tuple #[], w, σ, _, H, ?_, Sig.le_refl _, hS, ?_, h⟩
      · cases a <;> simp [Builtin.clear_, run_underlying ht']
      · simp [VR, VRs]
    · rename_i h0
      split at h
      · rename_i b bytes z hbz
        obtain ⟨i', hi', hib, hiz⟩ := bz_parts hbz
        rw [hi] at hi'; cases hi'
        split at h
        · rename_i cs hb
          obtain ⟨hz, hone, hle, hk⟩ := h
          simp only [VR] at hd
          obtain ⟨g, k, e', o, c', hσ, hv, h1, h2, h3⟩ := hd
          cases hv
          obtain ⟨rfl, _⟩ := h2 (by omega)
          have hzs : z.cells.size = sz := by have := (absV_cells (σ := σ) z).length; simp at this; omega
          have hr := zerosA_run (absV_cells (σ := σ) z) (len * sz) (fun hp h0 => by
            have : sz = 0 := by omega
            subst this; simp at hp)
          have hall : (zerosA (absV z).cells (len * sz)).all AV.one = true := by
            rw [List.all_eq_true]
            intro x hx
            simp only [zerosA, List.mem_map, List.mem_range] at hx
            obtain ⟨j, hj, rfl⟩ := hx
            have hpos : 0 < (absV z).cells.length := by
              rcases Nat.eq_zero_or_pos sz with h | h
              · subst h; simp at hj
              · omega
            have hlt : j % (absV z).cells.length < (absV z).cells.length := Nat.mod_lt _ hpos
            rw [List.all_eq_true] at hone
            have : (absV z).cells.getD (j % (absV z).cells.length) .undef = (absV z).cells[j % (absV z).cells.length] := by simp [List.getD, List.getElem?_eq_getElem hlt]
            rw [this]
            exact hone _ (List.getElem_mem _)
          have hlen : (zerosA (absV z).cells (len * sz)).length = len * sz := by simp [zerosA]
          obtain ⟨w', q1, q2⟩ := hS.write (P := P) (as := zerosA (absV z).cells (len * sz)) (off := off) hb hσ hr hall (by omega)
          refine ⟨.tuple #[], w', σ, _, _, ?_, Sig.le_refl _, q2, by simp [VR, VRs], hk⟩
          obtain ⟨len, rfl⟩ : ∃ m, len = m + 1 := ⟨len - 1, by omega⟩
          simp only [Array.toList_map, Array.toList_range, hzs] at q1
          simp [Builtin.clear_, run_underlying ht', zeroValue, typeInfo, hi, hiz, Builtin.zeroCells, hzs, q1]
        · exact h.elim
      · exact h.elim
  · exact h.elim
end
end Go.Abs
