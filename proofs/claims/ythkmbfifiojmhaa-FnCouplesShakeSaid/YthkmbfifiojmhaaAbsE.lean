/- All operations that touch no memory: the machine does the same. -/
import Derived.Test.YthkmbfifiojmhaaAbsD
set_option linter.unusedSimpArgs false
set_option linter.unusedVariables false
namespace Go.Abs
open Go.RowKit
section
variable {P : Program} {σ : Sig}

theorem VR_slice_form {b : Option Nat} {off len sz : Nat} {cap : Option Nat} {v : Value} (h : VR σ (.slice b off len sz cap) v) : ∃ a c, v = .slice a len c ∧ len ≤ c ∧ (∀ c', cap = some c' → c = c') := by
  cases b with
  | none => simp only [VR] at h; obtain ⟨rfl, rfl, rfl⟩ := h; exact ⟨none, 0, rfl, Nat.le_refl _, fun c' e => by cases e; rfl⟩
  | some b => simp only [VR] at h; obtain ⟨g, k, e, o, c, _, rfl, h1, _, h2⟩ := h; exact ⟨_, c, rfl, h1, h2⟩

def OV (σ : Sig) : Option AV → Option Value → Prop
  | none, none => True
  | some a, some u => VR σ a u
  | _, _ => False

theorem boundA_run {x : Option AV} {d m : Nat} (h : boundA x d = some m) {v : Option Value} (hv : OV σ x v) :
    (v = none ∧ m = d) ∨ ∃ k n, v = some (.int k n) ∧ 0 ≤ n ∧ n.toNat = m := by
  cases x with
  | none => cases v with
    | none => simp [boundA] at h; exact .inl ⟨rfl, h.symm⟩
    | some _ => exact hv.elim
  | some a => cases v with
    | none => exact hv.elim
    | some u =>
      cases a <;> simp only [boundA] at h <;> first | (cases h; done) | skip
      split at h
      · cases h
        have hv : VR σ _ u := hv
        simp only [VR] at hv
        exact .inr ⟨_, _, by rw [hv], by assumption, rfl⟩
      · cases h

theorem FrAt.drop {a : Option Addr} {vs : List Value} (h : FrAt σ a vs) (k : Nat) (n : Nat) : FrAt σ (a.map (·.add k)) ((vs.drop k).take n) := by
  intro j u hj
  rw [List.getElem?_take] at hj
  split at hj
  · rw [List.getElem?_drop] at hj
    obtain ⟨g, o, ci, rfl, h1, h2⟩ := h _ u hj
    exact ⟨g, o + k, ci, by simp [Addr.add_lit], h1, by rw [Nat.add_assoc]; exact h2⟩
  · cases hj
theorem sliceA_run {t : TypeId} {x r : AV} {lo hi mx : Option AV} (h : sliceA P t x lo hi mx = some r) {v : Value} {lo' hi' mx' : Option Value} (hv : VR σ x v) (hlo : OV σ lo lo') (hhi : OV σ hi hi') (hmx : OV σ mx mx') (w : World) :
    ∃ z, (Instr.sliceAt t v lo' hi' mx').run P w = .ok z w ∧ VR σ r z := by
  unfold sliceA at h
  split at h
  · rename_i e s b off len sz cap ht
    obtain ⟨hu, i, hi1, hi2⟩ := tk_slice ht
    obtain ⟨a, c, rfl, hlc, hcap⟩ := VR_slice_form hv
    split at h
    · rename_i l hh hl0 hh0
      split at h
      · rename_i hc
        obtain ⟨hs, h1, h2⟩ := hc
        cases h
        have hm : mx' = none := by cases mx' with | none => rfl | some _ => exact hmx.elim
        subst hm
        have hcc : hh ≤ c := by
          cases cap with
          | none => simp at h2; omega
          | some c' => have := hcap c' rfl; simp at h2; omega
        refine ⟨.slice (if c = l then a else a.map (·.add (l * s))) (hh - l) (c - l), ?_, ?_⟩
        · rcases boundA_run hl0 hlo with ⟨rfl, rfl⟩ | ⟨k1, n1, rfl, e1, e2⟩ <;> rcases boundA_run hh0 hhi with ⟨rfl, rfl⟩ | ⟨k2, n2, rfl, e3, e4⟩
          · simp [Instr.sliceAt, Instr.slice, Instr.sliceBounds, Instr.sliceBound, run_underlying hu, run_sizeOf hi1, hi2, asIntOf]
          · have q2 : n2 ≤ (c : Int) := by omega
            simp [Instr.sliceAt, Instr.slice, Instr.sliceBounds, Instr.sliceBound, run_underlying hu, run_sizeOf hi1, hi2, asIntOf, e3, q2, e4]
          · have q1 : n1 ≤ (hh : Int) := by omega
            simp [Instr.sliceAt, Instr.slice, Instr.sliceBounds, Instr.sliceBound, run_underlying hu, run_sizeOf hi1, hi2, asIntOf, e1, q1, e2]
          · have q2 : n2 ≤ (c : Int) := by omega
            have q1 : n1 ≤ n2 := by omega
            have q3 : n1 ≤ max n2 0 := by omega
            have q4 : n1 ≤ (hh : Int) := by omega
            simp [Instr.sliceAt, Instr.slice, Instr.sliceBounds, Instr.sliceBound, run_underlying hu, run_sizeOf hi1, hi2, asIntOf, e1, e3, q1, q2, q3, q4, e2, e4]
        · cases b with
          | none =>
            simp only [VR] at hv ⊢
            obtain ⟨rfl, rfl, hv⟩ := hv
            cases hv
            simp only [Option.getD_some] at h2
            have : l = 0 := by omega
            have : hh = 0 := by omega
            subst_vars
            exact ⟨rfl, rfl, rfl⟩
          | some b =>
            simp only [VR] at hv ⊢
            obtain ⟨g, k, e, o, c', hσ, hvv, h3, h4, h5⟩ := hv
            cases hvv
            have hs : s = sz := by rcases hs with h | h; exact h; cases h
            subst hs
            by_cases hcl : c = l
            · subst hcl
              exact ⟨g, k, e, o, 0, hσ, by simp, by omega, by omega, fun c' hc' => by
                cases cap with
                | none => cases hc'
                | some d => have := h5 d rfl; simp at hc'; omega⟩
            · obtain ⟨ho, he⟩ := h4 (by omega)
              refine ⟨g, k, e, o + l * s, c - l, hσ, ?_, by omega, fun _ => ⟨by omega, ?_⟩, fun c' hc' => by
                cases cap with
                | none => cases hc'
                | some d => have := h5 d rfl; simp at hc'; omega⟩
              · rw [if_neg hcl]; simp [Addr.add_lit]
              · have : l * s + (c - l) * s = c * s := by rw [← Nat.add_mul]; congr 1; omega
                omega
      · cases h
    · rename_i l hh m hl0 hh0
      split at h
      · rename_i m' hi0 hm0
        split at h
        · rename_i hc
          obtain ⟨hs, h1, h2, h3⟩ := hc
          cases h
          obtain ⟨hv2, rfl⟩ : ∃ u, hi' = some u := by cases hi' with | none => exact hhi.elim | some u => exact ⟨u, rfl⟩
          obtain ⟨mv2, rfl⟩ : ∃ u, mx' = some u := by cases mx' with | none => exact hmx.elim | some u => exact ⟨u, rfl⟩
          have hcc : m' ≤ c := by
            cases cap with
            | none => simp at h3; omega
            | some c' => have := hcap c' rfl; simp at h3; omega
          refine ⟨.slice (if m' = l then a else a.map (·.add (l * s))) (hh - l) (m' - l), ?_, ?_⟩
          · obtain ⟨k2, n2, e5, e3, e4⟩ : ∃ k n, hv2 = .int k n ∧ 0 ≤ n ∧ n.toNat = hh := by
              rcases boundA_run hh0 hhi with ⟨h, _⟩ | ⟨k2, n2, h, e3, e4⟩
              · cases h
              · cases h; exact ⟨k2, n2, rfl, e3, e4⟩
            obtain ⟨k3, n3, e6, e7, e8⟩ : ∃ k n, mv2 = .int k n ∧ 0 ≤ n ∧ n.toNat = m' := by
              rcases boundA_run hm0 hmx with ⟨h, _⟩ | ⟨k2, n2, h, e3, e4⟩
              · cases h
              · cases h; exact ⟨k2, n2, rfl, e3, e4⟩
            subst e5 e6
            have q3 : n3 ≤ (c : Int) := by omega
            have q2 : n2 ≤ max n3 0 := by omega
            have q2' : n2 ≤ n3 := by omega
            have q5 : n2 ≤ (m' : Int) := by omega
            rcases boundA_run hl0 hlo with ⟨rfl, rfl⟩ | ⟨k1, n1, rfl, e1, e2⟩
            · simp [Instr.sliceAt, Instr.slice, Instr.sliceBounds, Instr.sliceBound, run_underlying hu, run_sizeOf hi1, hi2, asIntOf, e3, e4, e7, e8, q3, q2, q2', q5]
            · have q1 : n1 ≤ n2 := by omega
              have q1' : n1 ≤ max n2 0 := by omega
              have q4 : n1 ≤ (hh : Int) := by omega
              simp [Instr.sliceAt, Instr.slice, Instr.sliceBounds, Instr.sliceBound, run_underlying hu, run_sizeOf hi1, hi2, asIntOf, e1, e2, e3, e4, e7, e8, q1, q1', q3, q2, q2', q4, q5]
          · cases b with
            | none =>
              simp only [VR] at hv ⊢
              obtain ⟨rfl, rfl, hv⟩ := hv
              cases hv
              simp only [Option.getD_some] at h3
              have : l = 0 := by omega
              have : hh = 0 := by omega
              have : m' = 0 := by omega
              subst_vars
              exact ⟨rfl, rfl, by simp⟩
            | some b =>
              simp only [VR] at hv ⊢
              obtain ⟨g, k, e, o, c', hσ, hvv, h4, h5, h6⟩ := hv
              cases hvv
              have hs : s = sz := by rcases hs with h | h; exact h; cases h
              subst hs
              by_cases hcl : m' = l
              · subst hcl
                exact ⟨g, k, e, o, 0, hσ, by simp, by omega, by omega, fun c' hc' => by cases hc'; omega⟩
              · obtain ⟨ho, he⟩ := h5 (by omega)
                refine ⟨g, k, e, o + l * s, m' - l, hσ, ?_, by omega, fun _ => ⟨by omega, ?_⟩, fun c' hc' => by cases hc'; rfl⟩
                · rw [if_neg hcl]; simp [Addr.add_lit]
                · have : l * s + (m' - l) * s = m' * s := by rw [← Nat.add_mul]; congr 1; omega
                  have : m' * s ≤ c * s := Nat.mul_le_mul_right _ hcc
                  omega
        · cases h
      · cases h
    · cases h
  · rename_i e s tk' len sz cs ht
    obtain ⟨hu, i, hi1, hi2⟩ := tk_slice ht
    simp only [VR] at hv
    obtain ⟨a, c, vs, rfl, hlc, hcl, hvs, hfr, _⟩ := hv
    split at h
    · rename_i l hh hl0 hh0
      split at h
      · rename_i hc
        obtain ⟨hs, h1, h2⟩ := hc
        subst hs
        cases h
        have hm : mx' = none := by cases mx' with | none => rfl | some _ => exact hmx.elim
        subst hm
        refine ⟨.slice (if c = l then a else a.map (·.add (l * s))) (hh - l) (c - l), ?_, ?_⟩
        · rcases boundA_run hl0 hlo with ⟨rfl, rfl⟩ | ⟨k1, n1, rfl, e1, e2⟩ <;> rcases boundA_run hh0 hhi with ⟨rfl, rfl⟩ | ⟨k2, n2, rfl, e3, e4⟩
          · simp [Instr.sliceAt, Instr.slice, Instr.sliceBounds, Instr.sliceBound, run_underlying hu, run_sizeOf hi1, hi2, asIntOf]
          · have q2 : n2 ≤ (c : Int) := by omega
            simp [Instr.sliceAt, Instr.slice, Instr.sliceBounds, Instr.sliceBound, run_underlying hu, run_sizeOf hi1, hi2, asIntOf, e3, q2, e4]
          · have q1 : n1 ≤ (hh : Int) := by omega
            simp [Instr.sliceAt, Instr.slice, Instr.sliceBounds, Instr.sliceBound, run_underlying hu, run_sizeOf hi1, hi2, asIntOf, e1, q1, e2]
          · have q2 : n2 ≤ (c : Int) := by omega
            have q1 : n1 ≤ n2 := by omega
            have q3 : n1 ≤ max n2 0 := by omega
            have q4 : n1 ≤ (hh : Int) := by omega
            simp [Instr.sliceAt, Instr.slice, Instr.sliceBounds, Instr.sliceBound, run_underlying hu, run_sizeOf hi1, hi2, asIntOf, e1, e3, q1, q2, q3, q4, e2, e4]
        · have hsub : (hh - l) * s + l * s ≤ len * s := by rw [← Nat.add_mul]; exact Nat.mul_le_mul_right _ (by omega)
          simp only [VR]
          refine ⟨_, c - l, (vs.drop (l * s)).take ((hh - l) * s), rfl, by omega, by simp; omega, (hvs.drop _).take _, ?_, fun b hb => by cases hb⟩
          by_cases hcl : c = l
          · rw [if_pos hcl]
            have : hh - l = 0 := by omega
            rw [this]
            intro j u hj
            simp at hj
          · rw [if_neg hcl]
            exact hfr.drop _ _
      · cases h
    · cases h
  · rename_i s ht
    have hu := tk_str ht
    rw [VR_str] at hv; subst hv
    split at h
    · rename_i l hh hl0 hh0
      split at h
      · rename_i hc
        obtain ⟨h1, h2⟩ := hc
        cases h
        have hm : mx' = none := by cases mx' with | none => rfl | some _ => exact hmx.elim
        subst hm
        have hsz : (⟨s.toArray⟩ : ByteArray).size = s.length := by show s.toArray.size = _; simp
        refine ⟨.string ((⟨s.toArray⟩ : ByteArray).extract l hh), ?_, ?_⟩
        · rcases boundA_run hl0 hlo with ⟨rfl, rfl⟩ | ⟨k1, n1, rfl, e1, e2⟩ <;> rcases boundA_run hh0 hhi with ⟨rfl, rfl⟩ | ⟨k2, n2, rfl, e3, e4⟩
          · have hx : (⟨s.toArray⟩ : ByteArray).extract 0 s.length = ⟨s.toArray⟩ := by
              apply ByteArray.ext
              apply Array.ext'
              have : ((⟨s.toArray⟩ : ByteArray).extract 0 s.length).data = s.toArray.extract 0 s.length := by simp [ByteArray.data_extract]
              rw [this]; simp
            rw [hx]
            simp [Instr.sliceAt, Instr.slice, Instr.sliceBounds, Instr.sliceBound, run_underlying hu, asIntOf, hsz]
          · have q2 : n2 ≤ (s.length : Int) := by omega
            simp [Instr.sliceAt, Instr.slice, Instr.sliceBounds, Instr.sliceBound, run_underlying hu, asIntOf, e3, q2, e4, hsz]
          · have q1 : n1 ≤ (s.length : Int) := by omega
            simp [Instr.sliceAt, Instr.slice, Instr.sliceBounds, Instr.sliceBound, run_underlying hu, asIntOf, e1, q1, e2, hsz]
          · have q2 : n2 ≤ (s.length : Int) := by omega
            have q1 : n1 ≤ n2 := by omega
            have q3 : n1 ≤ max n2 0 := by omega
            have q4 : n1 ≤ (hh : Int) := by omega
            simp [Instr.sliceAt, Instr.slice, Instr.sliceBounds, Instr.sliceBound, run_underlying hu, asIntOf, e1, e3, q1, q2, q3, q4, e2, e4, hsz]
        · rw [VR_str]
          congr 1
          apply ByteArray.ext
          apply Array.ext'
          have : ((⟨s.toArray⟩ : ByteArray).extract l hh).data = s.toArray.extract l hh := by
            simp [ByteArray.data_extract]
          rw [this]
          simp [List.extract_eq_take_drop]
      · cases h
    · cases h
  · cases h
end
end Go.Abs
