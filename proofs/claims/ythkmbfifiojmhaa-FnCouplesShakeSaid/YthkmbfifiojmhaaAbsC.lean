/- Comparisons and sums: the machine does the same. -/
import Derived.Test.YthkmbfifiojmhaaAbsB
import Derived.Laws.Cover3
set_option linter.unusedSimpArgs false
namespace Go.Abs
open Go.RowKit
section
variable {P : Program} {σ : Sig}

theorem plainFk_parts {f : Field} {i : Nat} (h : plainFk P f i = true) : f.name ≠ "_" ∧ f.offset = i ∧ ∃ k, P.underlying f.type = some (.int k) := by
  unfold plainFk at h
  simp only [Bool.and_eq_true, bne_iff_ne, ne_eq, beq_iff_eq] at h
  obtain ⟨⟨h1, h2⟩, h3⟩ := h
  refine ⟨h1, h2, ?_⟩
  split at h3
  · rename_i k hk; exact ⟨k, hk⟩
  · cases h3
theorem run_part_int {t : TypeId} {k : IntKind} (h : P.underlying t = some (.int k)) {cs : Array Value} {i : Nat} {v : Value} (hv : cs.toList[i]? = some v) (w : World) : (part t cs i).run P w = .ok v w := by
  have : cs[i]? = some v := by simpa using hv
  simp [part, isAgg, run_underlying h, this]
theorem eqFields_run {d : Nat} {xs ys : Array Value} (w : World) : ∀ {as bs : List AV} {r : Bool} {fs : List Field} {i : Nat}, eqCells as bs = some r → plainFks P fs i = true → fs.length = as.length →
    VRs σ as (xs.toList.drop i) → VRs σ bs (ys.toList.drop i) → (Op.eqFields (d + 1) xs ys fs).run P w = .ok r w
  | [], [], r, fs, i, h, _, hl, _, _ => by
    simp [eqCells] at h; subst h
    cases fs with
    | nil => rfl
    | cons _ _ => simp at hl
  | a :: as, b :: bs, r, [], i, _, _, hl, _, _ => by simp at hl
  | a :: as, b :: bs, r, f :: fs, i, h, hp, hl, hx, hy => by
    simp only [plainFks, Bool.and_eq_true] at hp
    obtain ⟨h1, h2, k, hk⟩ := plainFk_parts hp.1
    simp only [eqCells] at h
    split at h
    · rename_i x y hx' hy'
      cases h
      obtain ⟨u, hu, hru⟩ := hx.get (i := 0) rfl
      obtain ⟨v, hv, hrv⟩ := hy.get (i := 0) rfl
      have hu' : xs.toList[i]? = some u := by simpa using hu
      have hv' : ys.toList[i]? = some v := by simpa using hv
      have hx2 : VRs σ as (xs.toList.drop (i + 1)) := by have := hx.drop 1; simpa [List.drop_drop] using this
      have hy2 : VRs σ bs (ys.toList.drop (i + 1)) := by have := hy.drop 1; simpa [List.drop_drop] using this
      have ih := eqFields_run (d := d) w hy' hp.2 (by simpa using hl) hx2 hy2
      simp only [Op.eqFields, if_pos h1, Sem.run_bind, h2, run_part_int hk hu', run_part_int hk hv', Result.andThen_ok]
      cases a <;> cases b <;> simp only [AV.plain] at hx' <;> first | (cases hx'; done) | skip
      rename_i k1 n1 k2 n2
      split at hx'
      · rename_i hkk
        subst hkk
        cases hx'
        rw [VR_int] at hru hrv
        subst hru hrv
        rw [run_equalIn_int w d f.type k1 k n1 n2 hk]
        simp only [Result.andThen_ok]
        by_cases e : n1 = n2
        · simp [e, ih]
        · simp [e]
      · cases hx'
    · cases h
  | [], _ :: _, _, _, _, h, _, _, _, _ => by simp [eqCells] at h
  | _ :: _, [], _, _, _, h, _, _, _, _ => by simp [eqCells] at h

theorem eqPlain_parts {t : TypeId} {n : Nat} (h : P.eqPlain t = some n) : ∃ fs, P.underlying t = some (.struct fs) ∧ plainFks P fs.toList 0 = true ∧ P.stoodInHeld t = false ∧ P.eqGuardType P.depth t = false ∧ fs.size = n := by
  unfold Program.eqPlain at h
  split at h
  · rename_i fs hu
    split at h
    · rename_i hc
      cases h
      simp only [Bool.and_eq_true, Bool.not_eq_true'] at hc
      exact ⟨fs, hu, hc.1.1, hc.1.2, hc.2, rfl⟩
    · cases h
  · cases h

theorem eqAgg_run {t : TypeId} {as bs : List AV} {r : Bool} (hp : P.eqPlain t = some as.length) (h : eqCells as bs = some r) {xs ys : Array Value} (hx : VRs σ as xs.toList) (hy : VRs σ bs ys.toList) (w : World) :
    (Op.equal t (.agg xs) (.agg ys)).run P w = .ok r w := by
  obtain ⟨fs, hu, h1, h2, h3, h4⟩ := eqPlain_parts hp
  have hf : P.fieldsOf t = fs := by simp [Program.fieldsOf, hu]
  show (Op.equalIn (9999 + 1) t (.agg xs) (.agg ys)).run P w = _
  rw [run_equalIn_struct w 9999 t xs ys (by rw [hf]; exact hu) h2, hf]
  exact eqFields_run (d := 9998) w h h1 (by simpa using h4) (by simpa using hx) (by simpa using hy)

theorem eqGuard_agg {op : BinOp} {t : TypeId} {n : Nat} (hp : P.eqPlain t = some n) (x y : Operand) (a b : Array Value) (w : World) : (eqGuard op t x y (.agg a) (.agg b)).run P w = .ok () w := by
  obtain ⟨fs, hu, h1, h2, h3, h4⟩ := eqPlain_parts hp
  cases op <;> simp [eqGuard, h3]

theorem str_eq (a b : List UInt8) : ((⟨a.toArray⟩ : ByteArray).toList == (⟨b.toArray⟩ : ByteArray).toList) = decide (a = b) := by
  rw [ByteArray.toList_mk, ByteArray.toList_mk]; by_cases e : a = b <;> simp [e]

theorem binA_run {op : BinOp} {t : TypeId} {x y r : AV} (h : binA P op t x y = some r) {u v : Value} (hu : VR σ x u) (hv : VR σ y v) (o p : Operand) (w : World) :
    ∃ z, ((do eqGuard op t o p u v; binOp op t u v) : Sem Value).run P w = .ok z w ∧ VR σ r z := by
  unfold binA at h
  split at h
  · rw [VR_int] at hu hv; subst hu hv
    unfold shiftA at h; split at h
    · cases h
    · rename_i k a k' b hb
      cases h
      refine ⟨_, by simp [eqGuard_shl, binOp, Op.shift, hb]; rfl, by simp [VR]⟩
  · rw [VR_int] at hu hv; subst hu hv
    unfold shiftA at h; split at h
    · cases h
    · rename_i k a k' b hb
      cases h
      refine ⟨_, by simp [eqGuard_shr, binOp, Op.shift, hb]; rfl, by simp [VR]⟩
  · rename_i op' k a k' b hs1 hs2
    rw [VR_int] at hu hv; subst hu hv
    split at h
    · rename_i hk; subst hk
      obtain ⟨z, hz, hr⟩ := intBin_run t h (fun e => hs1 e) (fun e => hs2 e) w σ
      exact ⟨z, by simp only [eqGuard_at_int]; simpa using hz, hr⟩
    · cases h
  · rename_i a b
    rw [VR_str] at hu hv; subst hu hv
    split at h
    · rename_i hl
      cases h
      have hl' : ¬ (9223372036854775807 < ((a.length : Int) + (b.length : Int))) := by omega
      refine ⟨.string (⟨a.toArray⟩ ++ ⟨b.toArray⟩), ?_, ?_⟩
      · have hs : ¬ (((⟨a.toArray⟩ : ByteArray).size + (⟨b.toArray⟩ : ByteArray).size : Nat) : Int) > 9223372036854775807 := by
          show ¬ ((a.toArray.size + b.toArray.size : Nat) : Int) > _
          simp; omega
        simp only [eqGuard_at_string, binOp, Op.stringOp, IntKind.max_i64, if_neg hs]
        rfl
      · rw [VR_str]
        congr 1
    · cases h
  · rw [VR_str] at hu hv; subst hu hv; cases h
    refine ⟨_, by simp only [eqGuard_at_string, binOp, Op.stringOp, str_eq]; rfl, by simp [VR]⟩
  · rw [VR_str] at hu hv; subst hu hv; cases h
    refine ⟨_, by simp only [eqGuard_at_string, binOp, Op.stringOp, str_eq]; rfl, by simp [VR]⟩
  · rw [VR_bool] at hu hv; subst hu hv
    split at h
    · rename_i ht; cases h
      refine ⟨_, by simp [eqGuard_at_bool, binOp, run_equal_bool w t _ _ (tk_bool ht)]; rfl, by simp [VR, BEq.beq]⟩
    · cases h
  · rw [VR_bool] at hu hv; subst hu hv
    split at h
    · rename_i ht; cases h
      refine ⟨_, by simp [eqGuard_at_bool, binOp, run_equal_bool w t _ _ (tk_bool ht)]; rfl, by simp [VR, BEq.beq]⟩
    · cases h
  · simp only [VR] at hu hv
    obtain ⟨xs, rfl, hx⟩ := hu
    obtain ⟨ys, rfl, hy⟩ := hv
    split at h
    · rename_i hp
      obtain ⟨q, hq, rfl⟩ := Option.map_eq_some_iff.1 h
      refine ⟨.bool q, by simp [eqGuard_agg hp, binOp, eqAgg_run hp hq hx hy], by simp [VR]⟩
    · cases h
  · simp only [VR] at hu hv
    obtain ⟨xs, rfl, hx⟩ := hu
    obtain ⟨ys, rfl, hy⟩ := hv
    split at h
    · rename_i hp
      obtain ⟨q, hq, rfl⟩ := Option.map_eq_some_iff.1 h
      refine ⟨.bool (!q), by simp [eqGuard_agg hp, binOp, eqAgg_run hp hq hx hy], by simp [VR]⟩
    · cases h
  · rename_i b _ _ _ _ _ _ _ _
    simp only [VR] at hv
    obtain ⟨_, _, rfl⟩ := hv
    split at h
    · rename_i e s ht; cases h
      obtain ⟨ht, _⟩ := tk_slice ht
      cases b with
      | none => simp only [VR] at hu; obtain ⟨_, _, rfl⟩ := hu; refine ⟨_, by simp [eqGuard_at_slice, binOp, run_equal_slice_nil w t e _ _ _ ht]; rfl, by simp [VR]⟩
      | some b => simp only [VR] at hu; obtain ⟨_, _, _, _, _, _, rfl, _⟩ := hu; refine ⟨_, by simp [eqGuard_at_slice, binOp, run_equal_slice_nil w t e _ _ _ ht]; rfl, by simp [VR]⟩
    · cases h
  · rename_i b _ _ _ _ _ _ _ _
    simp only [VR] at hv
    obtain ⟨_, _, rfl⟩ := hv
    split at h
    · rename_i e s ht; cases h
      obtain ⟨ht, _⟩ := tk_slice ht
      cases b with
      | none => simp only [VR] at hu; obtain ⟨_, _, rfl⟩ := hu; refine ⟨_, by simp [eqGuard_at_slice, binOp, run_equal_slice_nil w t e _ _ _ ht]; rfl, by simp [VR]⟩
      | some b => simp only [VR] at hu; obtain ⟨_, _, _, _, _, _, rfl, _⟩ := hu; refine ⟨_, by simp [eqGuard_at_slice, binOp, run_equal_slice_nil w t e _ _ _ ht]; rfl, by simp [VR]⟩
    · cases h
  · simp only [VR] at hu hv
    obtain ⟨_, _, rfl⟩ := hv
    obtain ⟨a, c, vs, rfl, _, _, h3, h4, _⟩ := hu
    split at h
    · rename_i e s ht; cases h
      obtain ⟨ht, _⟩ := tk_slice ht
      obtain ⟨v0, hv0, _⟩ := h3.get (i := 0) rfl
      obtain ⟨g, o, ci, rfl, _⟩ := h4 0 v0 hv0
      refine ⟨_, by simp [eqGuard_at_slice, binOp, run_equal_slice_nil w t e _ _ _ ht]; rfl, by simp [VR]⟩
    · cases h
  · simp only [VR] at hu hv
    obtain ⟨_, _, rfl⟩ := hv
    obtain ⟨a, c, vs, rfl, _, _, h3, h4, _⟩ := hu
    split at h
    · rename_i e s ht; cases h
      obtain ⟨ht, _⟩ := tk_slice ht
      obtain ⟨v0, hv0, _⟩ := h3.get (i := 0) rfl
      obtain ⟨g, o, ci, rfl, _⟩ := h4 0 v0 hv0
      refine ⟨_, by simp [eqGuard_at_slice, binOp, run_equal_slice_nil w t e _ _ _ ht]; rfl, by simp [VR]⟩
    · cases h
  · cases h
end
end Go.Abs
