/- Statements: their operations in the text's order, or in whatever order Go leaves open. -/
import Derived.Test.YthkmbfifiojmhaaAbsK
set_option linter.unusedSimpArgs false
set_option linter.unusedVariables false
namespace Go.Abs
open Go.RowKit

def Env.setO (E : Env) (d : Option Nat) (v : AV) : Env := match d with | some d => E.set d v | none => E
/-- Is an operation carried out? -/
def guardA (ops : Array Oper) (o : Oper) (E : Env) : Option Bool :=
  match o.guard with
  | none => some true
  | some (j, want) =>
    match (ops[j]?).bind (·.dst) with
    | none => some false
    | some d => match E d with | .bool b => some (b == want) | .tuple [] => some false | _ => none
/-- Does it more than compute and read? -/
def isEA (P : Program) (op : Op) : Bool :=
  match op with
  | .move _ | .assign _ | .pick .. | .binOp .. | .unOp .. | .fieldAddr .. | .field .. | .indexAddr .. | .index .. | .slice .. | .extract .. | .build .. | .nilCheck _ | .makeFunc .. | .load .. => false
  | .convert _ dst _ => match P.tk dst with | .int _ => false | _ => true
  | .call c => match c.callee with | .builtin .len | .builtin .cap | .builtin .max | .builtin .min => false | _ => true
  | _ => true
def valA (P : Program) (E : Env) (H : Heap) (op : Op) : Option AV :=
  match op with
  | .load t x => loadA P H t (ev E x)
  | op => pureA P (ev E) op
def opA (P : Program) (w0 : World) (op : Op) (E : Env) (H : Heap) (K : AV → Heap → Prop) : Prop :=
  if isEA P op = true then effA P w0 (ev E) op H K else match valA P E H op with | some v => K v H | none => False
def wpL (P : Program) (w0 : World) (ops : Array Oper) : List Oper → Env → Heap → (Env → Heap → Prop) → Prop
  | [], E, H, K => K E H
  | o :: rest, E, H, K =>
    match guardA ops o E with
    | some true => opA P w0 o.op E H fun v H' => wpL P w0 ops rest (E.setO o.dst v) H' K
    | some false => wpL P w0 ops rest (E.setO o.dst (.tuple [])) H K
    | none => False

section
variable {P : Program} {w0 : World} {σ σ0 : Sig} {H : Heap} {w : World} {N : Nat} {E : Env} {a : Act} {ops : Array Oper}

theorem storeA_mono {t : TypeId} {x v : AV} {K K' : AV → Heap → Prop} (hk : ∀ v H', K v H' → K' v H') (h : storeA P t x v H K) : storeA P t x v H K' := by
  unfold storeA at *
  split at h
  · split at h
    · exact ⟨h.1, h.2.1, h.2.2.1, hk _ _ h.2.2.2⟩
    · exact False.elim h
  · exact False.elim h
theorem appendR_mono {t u : TypeId} {s x : AV} {K K' : AV → Heap → Prop} (hk : ∀ v H', K v H' → K' v H') (h : appendR P t u s x H K) : appendR P t u s x H K' := by
  unfold appendR at *
  split at h
  · obtain ⟨h0, h⟩ := h
    refine ⟨h0, ?_⟩
    split at h
    · rename_i hn; rw [if_pos hn]; exact hk _ _ h
    · rename_i hn
      rw [if_neg hn]
      split at h
      · obtain ⟨h1, h2, h⟩ := h
        refine ⟨h1, h2, ?_⟩
        split at h
        · split at h
          · rename_i hr
            rw [if_pos hr]
            split at h
            · split at h
              · exact ⟨h.1, hk _ _ h.2⟩
              · exact False.elim h
            · exact False.elim h
          · rename_i hr
            rw [if_neg hr]
            exact ⟨h.1, h.2.1, hk _ _ h.2.2⟩
        · split at h
          · split at h
            · exact ⟨h.1, h.2.1, hk _ _ h.2.2⟩
            · exact False.elim h
          · exact False.elim h
      · exact False.elim h
  · exact False.elim h
theorem appendL_mono {t u : TypeId} {s x : AV} {K K' : AV → Heap → Prop} (hk : ∀ v H', K v H' → K' v H') (h : appendL P t u s x H K) : appendL P t u s x H K' := by
  unfold appendL at *
  split at h
  · split at h
    · rename_i hn; rw [if_pos hn]; exact hk _ _ h
    · rename_i hn
      rw [if_neg hn]
      split at h
      · obtain ⟨h1, h2, h3, h4, h5, h6, h⟩ := h
        refine ⟨h1, h2, h3, h4, h5, h6, ?_⟩
        split at h
        · exact ⟨h.1, h.2.1, hk _ _ h.2.2⟩
        · exact hk _ _ h
      · exact False.elim h
  · exact False.elim h
theorem appendA_mono {t u : TypeId} {s x : AV} {K K' : AV → Heap → Prop} (hk : ∀ v H', K v H' → K' v H') (h : appendA P t u s x H K) : appendA P t u s x H K' := h.imp (appendR_mono hk) (appendL_mono hk)
theorem makeA_mono {t : TypeId} {l c : AV} {K K' : AV → Heap → Prop} (hk : ∀ v H', K v H' → K' v H') (h : makeA P t l c H K) : makeA P t l c H K' := by
  unfold makeA at *
  split at h
  · split at h
    · exact ⟨h.1, h.2.1, h.2.2.1, h.2.2.2.1, h.2.2.2.2.1, h.2.2.2.2.2.imp (hk _ _) (hk _ _)⟩
    · exact False.elim h
  · exact False.elim h
theorem buildSliceA_mono {t : TypeId} {n : Nat} {ps : List (Nat × AV)} {K K' : AV → Heap → Prop} (hk : ∀ v H', K v H' → K' v H') (h : buildSliceA P t n ps H K) : buildSliceA P t n ps H K' := by
  unfold buildSliceA at *
  split at h
  · split at h
    · refine ⟨h.1, h.2.1, ?_⟩
      have h := h.2.2
      split at h
      · exact h.imp (hk _ _) (Or.imp (hk _ _) (hk _ _))
      · exact False.elim h
    · exact False.elim h
  · exact False.elim h
theorem copyA_mono {t : TypeId} {d s : AV} {K K' : AV → Heap → Prop} (hk : ∀ v H', K v H' → K' v H') (h : copyA P t d s H K) : copyA P t d s H K' := by
  unfold copyA at *
  split at h
  · split at h
    · exact h.elim
    split at h
    · refine ⟨h.1, h.2.1, ?_⟩
      have h := h.2.2
      split at h
      · rename_i hn; rw [if_pos hn]; exact hk _ _ h
      · rename_i hn
        rw [if_neg hn]
        split at h
        · split at h
          · exact ⟨h.1, hk _ _ h.2⟩
          · exact False.elim h
        · exact False.elim h
    · exact False.elim h
  · exact False.elim h
theorem clearA_mono {t : TypeId} {d : AV} {K K' : AV → Heap → Prop} (hk : ∀ v H', K v H' → K' v H') (h : clearA P t d H K) : clearA P t d H K' := by
  unfold clearA at *
  split at h
  · split at h
    · rename_i hn; rw [if_pos hn]; exact hk _ _ h
    · rename_i hn
      rw [if_neg hn]
      split at h
      · split at h
        · exact ⟨h.1, h.2.1, h.2.2.1, hk _ _ h.2.2.2⟩
        · exact False.elim h
      · exact False.elim h
  · exact False.elim h
theorem bytesStrA_mono {s d : TypeId} {x : AV} {K K' : AV → Heap → Prop} (hk : ∀ v H', K v H' → K' v H') (h : bytesStrA P s d x H K) : bytesStrA P s d x H K' := by
  unfold bytesStrA at *
  split at h
  · split at h
    · exact h.elim
    split at h
    · exact ⟨h.1, hk _ _ h.2⟩
    · exact False.elim h
  · exact False.elim h
theorem effA_mono {ρ : Operand → AV} {op : Op} {K K' : AV → Heap → Prop} (hk : ∀ v H', K v H' → K' v H') (h : effA P w0 ρ op H K) : effA P w0 ρ op H K' := by
  cases op <;> simp only [effA] at h ⊢ <;> first | exact False.elim h | skip
  case alloc t =>
    split at h
    · exact hk _ _ h
    · exact False.elim h
  case box t x => exact ⟨h.1, h.2.imp (hk _ _) (hk _ _)⟩
  case buildSlice t n ps => exact buildSliceA_mono hk h
  case store t x v => exact storeA_mono hk h
  case convert s d x => exact bytesStrA_mono hk h
  case makeSlice t l c => exact makeA_mono hk h
  case call c =>
    split at h
    · split at h
      · exact ⟨h.1, h.2.mono hk⟩
      · exact False.elim h
    · split at h
      · exact appendA_mono hk h
      · exact False.elim h
    · split at h
      · exact copyA_mono hk h
      · exact False.elim h
    · split at h
      · exact clearA_mono hk h
      · exact False.elim h
    · exact False.elim h

theorem valA_sound {o : Oper} {v : AV} (h : valA P E H o.op = some v) (hr : Rel N σ E a) (hS : Sim w0 σ H w) : ∃ z, (execOp a.eval o).run P w = .ok (.value z) w ∧ VR σ v z := by
  by_cases hl : ∃ t x, o.op = .load t x
  · obtain ⟨t, x, hl⟩ := hl
    rw [hl] at h
    simp only [valA] at h
    obtain ⟨z, hz, hrz⟩ := loadA_run hS h (hr.ev x)
    refine ⟨z, ?_, hrz⟩
    obtain ⟨dst, op, type, pos, after, guard⟩ := o
    simp only at hl
    subst hl
    simp only [execOp]
    rw [Sem.run_bind, hz]; rfl
  · have : pureA P (ev E) o.op = some v := by
      cases ho : o.op <;> rw [ho] at h <;> simp only [valA] at h <;> first | exact h | exact absurd ⟨_, _, ho⟩ hl
    exact pureA_run this hr w

/-- What holds of a world in terms of what is told. -/
def Told (w0 : World) (σ0 : Sig) (N : Nat) (K : Env → Heap → Prop) (a : Act) (w : World) : Prop := ∃ σ E H, Sig.le σ0 σ ∧ Rel N σ E a ∧ Sim w0 σ H w ∧ K E H

theorem Oper.wp_mono' {o : Oper} {K K' : Act → World → Prop} {Q : Exit → Act → World → Prop} (h : ∀ a w, K a w → K' a w) (hh : o.wp P a w K Q) : o.wp P a w K' Q := Oper.wp_mono h hh

def dstOk (N : Nat) (d : Option Nat) : Bool := match d with | some d => d < N | none => true
theorem Rel.setO (h : Rel N σ E a) {d : Option Nat} (hd : dstOk N d = true) {v : AV} {v' : Value} (hv : VR σ v v') : Rel N σ (E.setO d v) (a.put d v') := by
  cases d with
  | none => exact h
  | some d => exact h.put (by simpa [dstOk] using hd) hv

theorem opA_sound {o : Oper} {K : AV → Heap → Prop} (h : opA P w0 o.op E H K) (hr : Rel N σ E a) (hS : Sim w0 σ H w) {Q : Exit → Act → World → Prop} : o.wp P a w (After P w0 σ K o a) Q := by
  unfold opA at h
  split at h
  · exact effA_sound h hr hS
  · split at h
    · rename_i v hv
      obtain ⟨z, hz, hrz⟩ := valA_sound hv hr hS
      unfold Oper.wp
      rw [hz]
      exact ⟨σ, v, z, H, rfl, Sig.le_refl _, hS, hrz, h⟩
    · exact False.elim h

theorem guardA_sound {o : Oper} {b : Bool} (h : guardA ops o E = some b) (hr : Rel N σ E a) : Region.wanted o (yielded ops a.tmps) = b := by
  unfold guardA at h
  unfold Region.wanted
  split at h
  · rename_i hg; rw [hg]; cases h; rfl
  · rename_i j want hg
    rw [hg]
    simp only [yielded]
    split at h
    · rename_i hd; cases h; rw [hd]; rfl
    · rename_i d hd
      rw [hd]
      have ht := hr.tmps d
      split at h
      · rename_i b' hb
        cases h
        rw [hb, VR_bool] at ht
        have hd' : d < a.tmps.size := by
          rcases Nat.lt_or_ge d a.tmps.size with h | h
          · exact h
          · simp [h, undef] at ht
        have : a.tmps[d]? = some (.bool b') := by simp [hd'] at ht; simp [hd', ht]
        simp only [Option.bind_some, this]
        cases b' <;> cases want <;> rfl
      · rename_i hb
        cases h
        rw [hb] at ht
        simp only [VR] at ht
        obtain ⟨cs, hc, _⟩ := ht
        simp only [Option.bind_some]
        cases htd : a.tmps[d]? with
        | none => rfl
        | some v =>
          have : v = .tuple cs := by simpa [Array.getD_eq_getD_getElem?, htd] using hc
          subst this; rfl
      · cases h
end
end Go.Abs
