/- What an operation reads of the frame. -/
import Derived.Test.YthkmbfifiojmhaaAbsL
set_option linter.unusedSimpArgs false
set_option linter.unusedVariables false
namespace Go.Abs
open Go.RowKit
section
variable {P : Program} {w0 : World} {H : Heap} {E : Env} {ops : Array Oper}

theorem map_pairs_congr {ρ ρ' : Operand → AV} {ps : Array (Nat × Operand)} (h : ∀ x ∈ (ps.toList.map (·.2)).toArray, ρ x = ρ' x) : (ps.toList.map fun p => (p.1, ρ p.2)) = ps.toList.map fun p => (p.1, ρ' p.2) :=
  List.map_congr_left fun p hp => by rw [h p.2 (by simp; exact ⟨p.1, by simpa using hp⟩)]
theorem pureA_congr {ρ ρ' : Operand → AV} {op : Op} (h : ∀ x ∈ op.operands, ρ x = ρ' x) : pureA P ρ op = pureA P ρ' op := by
  cases op <;> simp only [Op.operands] at h <;> simp only [pureA]
  case move x => rw [h x (by simp)]
  case assign x => rw [h x (by simp)]
  case pick c a b => rw [h c (by simp), h a (by simp), h b (by simp)]
  case binOp op t x y yt => rw [h x (by simp), h y (by simp)]
  case unOp op t x => rw [h x (by simp)]
  case convert s d x => rw [h x (by simp)]
  case fieldAddr s x f => rw [h x (by simp)]
  case field s x f => rw [h x (by simp)]
  case indexAddr t x i => rw [h x (by simp), h i (by simp)]
  case index t x i => rw [h x (by simp), h i (by simp)]
  case slice t x lo hi mx =>
    have e : ∀ (y : Option Operand), (∀ z ∈ y, z ∈ (#[x] ++ lo.toArray ++ hi.toArray ++ mx.toArray : Array Operand)) → y.map ρ = y.map ρ' := by
      intro y hy
      cases y with
      | none => rfl
      | some z => simp only [Option.map_some]; rw [h z (hy z rfl)]
    rw [h x (by simp), e lo (by intro z hz; simp_all), e hi (by intro z hz; simp_all), e mx (by intro z hz; simp_all)]
  case extract t i => rw [h t (by simp)]
  case build t ps => rw [map_pairs_congr h]
  case nilCheck x => rw [h x (by simp)]
  case makeFunc fn first cap =>
    rw [List.map_congr_left (f := ρ) (g := ρ') (l := first.toList) fun x hx => h x (by simp at hx ⊢; exact .inl hx), List.map_congr_left (f := ρ) (g := ρ') (l := cap.toList) fun x hx => h x (by simp at hx ⊢; exact .inr hx)]
  case call c =>
    obtain ⟨callee, args, tys⟩ := c
    have ha : ∀ x ∈ args.toList, ρ x = ρ' x := fun x hx => h x (by simp only [Call.operands]; cases callee <;> simp at hx ⊢ <;> first | exact hx | exact .inr hx)
    simp only
    cases hargs : args.toList with
    | nil => cases callee <;> simp
    | cons x l =>
      rw [hargs] at ha
      cases callee with
      | value f => simp
      | invoke r m => simp
      | builtin b =>
        have hx := ha x (by simp)
        cases l with
        | nil => rcases tys.toList with _ | ⟨t, _ | ⟨t2, l2⟩⟩ <;> cases b <;> simp [hx]
        | cons y l =>
          have hy := ha y (by simp)
          cases l with
          | nil => rcases tys.toList with _ | ⟨t, _ | ⟨t2, l2⟩⟩ <;> cases b <;> simp [hx, hy]
          | cons z l => rcases tys.toList with _ | ⟨t, _ | ⟨t2, l2⟩⟩ <;> cases b <;> simp

theorem ev_set {E : Env} {d : Option Nat} {v : AV} {x : Operand} (h : ∀ t, d = some t → x ≠ .tmp t) : ev (E.setO d v) x = ev E x := by
  cases d with
  | none => rfl
  | some t =>
    cases x with
    | tmp u =>
      simp only [Env.setO, Env.set, ev]
      rw [if_neg]
      intro e; exact h t rfl (by rw [e])
    | _ => rfl
theorem ev_set_looks {E : Env} {d : Option Nat} {v : AV} {o : Oper} (h : ∀ t, d = some t → t ∉ o.looksAt ops) : ∀ x ∈ o.op.operands, ev (E.setO d v) x = ev E x := fun x hx => ev_set fun t ht e => h t ht (by
  subst e
  exact List.mem_append_left _ (List.mem_filterMap.2 ⟨.tmp t, by simpa using hx, rfl⟩))
theorem valA_congr {E E' : Env} {op : Op} (h : ∀ x ∈ op.operands, ev E x = ev E' x) : valA P E H op = valA P E' H op := by
  by_cases hl : ∃ t x, op = .load t x
  · obtain ⟨t, x, rfl⟩ := hl
    simp only [valA]
    rw [h x (by simp [Op.operands])]
  · have e : ∀ E, valA P E H op = pureA P (ev E) op := by
      intro E
      cases op <;> simp only [valA]
      exact absurd ⟨_, _, rfl⟩ hl
    rw [e, e, pureA_congr h]
theorem effA_congr {ρ ρ' : Operand → AV} {op : Op} {K : AV → Heap → Prop} (h : ∀ x ∈ op.operands, ρ x = ρ' x) : effA P w0 ρ op H K = effA P w0 ρ' op H K := by
  cases op <;> simp only [Op.operands] at h <;> simp only [effA]
  case box t x => rw [h x (by simp)]
  case buildSlice t n ps => rw [map_pairs_congr h]
  case store t x v => rw [h x (by simp), h v (by simp)]
  case convert s d x => rw [h x (by simp)]
  case makeSlice t l c => rw [h l (by simp), h c (by simp)]
  case call c =>
    obtain ⟨callee, args, tys⟩ := c
    have ha : ∀ x ∈ args.toList, ρ x = ρ' x := fun x hx => h x (by simp only [Call.operands]; cases callee <;> simp at hx ⊢ <;> first | exact hx | exact .inr hx)
    have hm : args.toList.map ρ = args.toList.map ρ' := List.map_congr_left ha
    cases callee with
    | value f =>
      have hf : ρ f = ρ' f := h f (by simp [Call.operands])
      simp only [hm, hf]
    | invoke r m => rfl
    | builtin b =>
      simp only
      cases hargs : args.toList with
      | nil => rcases tys.toList with _ | ⟨t, _ | ⟨t2, l2⟩⟩ <;> cases b <;> simp
      | cons x l =>
        rw [hargs] at ha
        have hx := ha x (by simp)
        cases l with
        | nil => rcases tys.toList with _ | ⟨t, _ | ⟨t2, l2⟩⟩ <;> cases b <;> simp [hx]
        | cons y l =>
          have hy := ha y (by simp)
          cases l with
          | nil => rcases tys.toList with _ | ⟨t, _ | ⟨t2, _ | ⟨t3, l3⟩⟩⟩ <;> cases b <;> simp [hx, hy]
          | cons z l => rcases tys.toList with _ | ⟨t, _ | ⟨t2, l2⟩⟩ <;> cases b <;> simp
theorem opA_congr {E E' : Env} {op : Op} {K : AV → Heap → Prop} (h : ∀ x ∈ op.operands, ev E x = ev E' x) : opA P w0 op E H K = opA P w0 op E' H K := by
  unfold opA
  rw [effA_congr h, valA_congr h]
theorem opA_mono {E : Env} {op : Op} {K K' : AV → Heap → Prop} (hk : ∀ v H', K v H' → K' v H') (h : opA P w0 op E H K) : opA P w0 op E H K' := by
  unfold opA at *
  split at h
  · rename_i he; rw [if_pos he]; exact effA_mono hk h
  · rename_i he
    rw [if_neg he]
    split at h
    · exact hk _ _ h
    · exact False.elim h
theorem guardA_set {E : Env} {d : Option Nat} {v : AV} {o : Oper} (h : ∀ t, d = some t → t ∉ o.looksAt ops) : guardA ops o (E.setO d v) = guardA ops o E := by
  unfold guardA
  cases hg : o.guard with
  | none => rfl
  | some jw =>
    obtain ⟨j, want⟩ := jw
    simp only
    cases hd : (ops[j]?).bind (·.dst) with
    | none => rfl
    | some t =>
      simp only
      cases d with
      | none => rfl
      | some u =>
        have hne : t ≠ u := fun e => h u rfl (by
          subst e
          refine List.mem_append_right _ ?_
          simp [hg, hd])
        simp only [Env.setO, Env.set]
        rw [if_neg hne]
theorem setO_comm (E : Env) {d e : Option Nat} (u v : AV) (h : ∀ t, d = some t → e ≠ some t) : (E.setO d u).setO e v = (E.setO e v).setO d u := by
  cases d with
  | none => rfl
  | some t =>
    cases e with
    | none => rfl
    | some s =>
      have hne : s ≠ t := fun x => h t rfl (by rw [x])
      funext q
      simp only [Env.setO, Env.set]
      by_cases a : q = s
      · subst a; simp [hne]
      · simp [a]
end
end Go.Abs
