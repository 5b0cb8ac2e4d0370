/- Statements whose order Go leaves open: one order, checked, serves all. -/
import Derived.Test.YthkmbfifiojmhaaAbsM
set_option linter.unusedSimpArgs false
set_option linter.unusedVariables false
namespace Go.Abs
open Go.RowKit

/-- Does operation i wait for operation r? -/
def waitsF (ops : Array Oper) : Nat → Nat → Nat → Bool
  | 0, _, _ => false
  | n + 1, i, r => match ops[i]? with
    | none => false
    | some o => o.after.any fun e => Region.binds .any e && (e.on == r || waitsF ops n e.on r)
def waits (ops : Array Oper) (i r : Nat) : Bool := waitsF ops ops.size i r
/-- What has been read. -/
structure Rd where
  i : Nat
  t : TypeId
  x : AV
  v : AV
def stepR (P : Program) (w0 : World) (ops : Array Oper) (i : Nat) (rs : List Rd) (K : Env → Heap → Prop) (E : Env) (H : Heap) : Prop :=
  match ops[i]? with
  | none => K E H
  | some o =>
    match guardA ops o E with
    | none => False
    | some false => K (E.setO o.dst (.tuple [])) H
    | some true =>
      if isEA P o.op = true then effA P w0 (ev E) o.op H fun v H' => (∀ r ∈ rs, waits ops i r.i = true ∨ loadA P H' r.t r.x = some r.v) ∧ K (E.setO o.dst v) H'
      else match valA P E H o.op with | some v => K (E.setO o.dst v) H | none => False
def wpAnyR (P : Program) (w0 : World) (ops : Array Oper) (K : Env → Heap → Prop) : Nat → Array Bool → List Rd → Env → Heap → Prop
  | 0, listed, _, E, H => Region.ready .any ops listed = [] ∧ K E H
  | f + 1, listed, rs, E, H => (Region.ready .any ops listed = [] → K E H) ∧
    ∀ i ∈ Region.ready .any ops listed, stepR P w0 ops i rs (wpAnyR P w0 ops K f (listed.setIfInBounds i true) rs) E H
/-- An order, with the reads that must stay as they are at each operation that writes. -/
inductive Plan where
  | nil
  | val (i : Nat) (p : Plan)
  | eff (i : Nat) (chk : List Nat) (p : Plan)
  | two (i : Nat) (chk : List Nat) (p : Plan) (j : Nat) (chk' : List Nat) (q : Plan)
def isLoad (op : Op) : Bool := match op with | .load .. => true | _ => false
def planOk (P : Program) (ops : Array Oper) : Nat → Array Bool → List Nat → Plan → Bool
  | 0, listed, _, .nil => (Region.ready .any ops listed).isEmpty
  | _ + 1, listed, _, .nil => (Region.ready .any ops listed).isEmpty
  | f + 1, listed, rds, .val i p =>
    (Region.ready .any ops listed).contains i && Region.free .any ops listed i &&
    (match ops[i]? with | some o => !isEA P o.op && planOk P ops f (listed.setIfInBounds i true) (if isLoad o.op then i :: rds else rds) p | none => false)
  | f + 1, listed, rds, .eff i chk p =>
    (Region.ready .any ops listed).contains i && (Region.ready .any ops listed).all (· == i) && (rds.all fun r => waits ops i r || chk.contains r) && planOk P ops f (listed.setIfInBounds i true) rds p
  | f + 1, listed, rds, .two i chk p j chk' q =>
    (Region.ready .any ops listed).contains i && (Region.ready .any ops listed).all (fun x => x == i || x == j) && (rds.all fun r => waits ops i r || chk.contains r) && (rds.all fun r => waits ops j r || chk'.contains r) &&
    planOk P ops f (listed.setIfInBounds i true) rds p && planOk P ops f (listed.setIfInBounds j true) rds q
  | 0, _, _, _ => false
def wpT (P : Program) (w0 : World) (ops : Array Oper) (K : Env → Heap → Prop) : Plan → List Rd → Env → Heap → Prop
  | .nil, _, E, H => K E H
  | .val i p, rs, E, H =>
    match ops[i]? with
    | none => False
    | some o =>
      match guardA ops o E with
      | none => False
      | some false => wpT P w0 ops K p rs (E.setO o.dst (.tuple [])) H
      | some true =>
        match valA P E H o.op with
        | none => False
        | some v => wpT P w0 ops K p (match o.op with | .load t x => ⟨i, t, ev E x, v⟩ :: rs | _ => rs) (E.setO o.dst v) H
  | .eff i chk p, rs, E, H =>
    match ops[i]? with
    | none => False
    | some o =>
      match guardA ops o E with
      | none => False
      | some false => wpT P w0 ops K p rs (E.setO o.dst (.tuple [])) H
      | some true => opA P w0 o.op E H fun v H' => (∀ r ∈ rs, r.i ∈ chk → loadA P H' r.t r.x = some r.v) ∧ wpT P w0 ops K p rs (E.setO o.dst v) H'
  | .two i chk p j chk' q, rs, E, H =>
    (match ops[i]? with
    | none => False
    | some o =>
      match guardA ops o E with
      | none => False
      | some false => wpT P w0 ops K p rs (E.setO o.dst (.tuple [])) H
      | some true => opA P w0 o.op E H fun v H' => (∀ r ∈ rs, r.i ∈ chk → loadA P H' r.t r.x = some r.v) ∧ wpT P w0 ops K p rs (E.setO o.dst v) H') ∧
    (match ops[j]? with
    | none => False
    | some o =>
      match guardA ops o E with
      | none => False
      | some false => wpT P w0 ops K q rs (E.setO o.dst (.tuple [])) H
      | some true => opA P w0 o.op E H fun v H' => (∀ r ∈ rs, r.i ∈ chk' → loadA P H' r.t r.x = some r.v) ∧ wpT P w0 ops K q rs (E.setO o.dst v) H')

section
variable {P : Program} {w0 : World} {σ σ0 : Sig} {H : Heap} {w : World} {N : Nat} {E : Env} {a : Act} {ops : Array Oper} {K : Env → Heap → Prop}

def Closed (ops : Array Oper) (listed : Array Bool) : Prop := ∀ x o, listed.getD x false = true → ops[x]? = some o → ∀ e ∈ o.after, Region.binds .any e = true → listed.getD e.on false = true
theorem waitsF_listed {listed : Array Bool} (hc : Closed ops listed) {r : Nat} : ∀ (n i : Nat), (∀ o, ops[i]? = some o → ∀ e ∈ o.after, Region.binds .any e = true → listed.getD e.on false = true) → waitsF ops n i r = true → listed.getD r false = true
  | 0, i, _, h => by simp [waitsF] at h
  | n + 1, i, hi, h => by
    simp only [waitsF] at h
    split at h
    · cases h
    · rename_i o ho
      simp only [Array.any_eq_true', Bool.and_eq_true, Bool.or_eq_true, beq_iff_eq] at h
      obtain ⟨e, he, hb, h⟩ := h
      have hl := hi o ho e he hb
      rcases h with h | h
      · rw [← h]; exact hl
      · exact waitsF_listed hc n e.on (fun o' ho' e' he' hb' => hc e.on o' hl ho' e' he' hb') h
theorem ready_not_waits {listed : Array Bool} (hc : Closed ops listed) {i r : Nat} (hi : i ∈ Region.ready .any ops listed) (hr : listed.getD r false = false) : waits ops i r = false := by
  obtain ⟨_, o, ho, hall⟩ := mem_ready.1 hi
  cases h : waits ops i r with
  | false => rfl
  | true =>
    have := waitsF_listed hc (r := r) ops.size i (fun o' ho' => by rw [ho] at ho'; cases ho'; exact hall) h
    rw [hr] at this; cases this
theorem Closed.set {listed : Array Bool} (hc : Closed ops listed) {i : Nat} (hi : i ∈ Region.ready .any ops listed) : Closed ops (listed.setIfInBounds i true) := by
  obtain ⟨_, o, ho, hall⟩ := mem_ready.1 hi
  intro x o' hx ho' e he hb
  by_cases hxi : i = x
  · subst hxi
    rw [ho] at ho'; cases ho'
    exact getD_set_true (hall e he hb)
  · rw [getD_set_ne false hxi] at hx
    exact getD_set_true (hc x o' hx ho' e he hb)
theorem ready_unlisted {listed : Array Bool} {i : Nat} (hi : i ∈ Region.ready .any ops listed) : listed.getD i false = false := by
  obtain ⟨h, _⟩ := mem_ready.1 hi
  rcases Nat.lt_or_ge i listed.size with hl | hl
  · simpa [hl] using h
  · simp [hl]

theorem stepR_mono {i : Nat} {rs rs' : List Rd} {K K' : Env → Heap → Prop} (hrs : ∀ r ∈ rs, r ∈ rs') (hk : ∀ E H, K E H → K' E H) (h : stepR P w0 ops i rs' K E H) : stepR P w0 ops i rs K' E H := by
  unfold stepR at *
  split at h
  · exact hk _ _ h
  · split at h
    · exact False.elim h
    · exact hk _ _ h
    · split at h
      · rename_i he
        rw [if_pos he]
        exact effA_mono (fun v H' hh => ⟨fun r hr => hh.1 r (hrs r hr), hk _ _ hh.2⟩) h
      · rename_i he
        rw [if_neg he]
        split at h
        · exact hk _ _ h
        · exact False.elim h
theorem anyR_weaken : ∀ (f : Nat) (listed : Array Bool) (rs rs' : List Rd) (E : Env) (H : Heap), (∀ r ∈ rs, r ∈ rs') → wpAnyR P w0 ops K f listed rs' E H → wpAnyR P w0 ops K f listed rs E H
  | 0, _, _, _, _, _, _, h => h
  | f + 1, listed, rs, rs', E, H, hrs, h => ⟨h.1, fun i hi => stepR_mono hrs (fun E H hh => anyR_weaken f _ rs rs' E H hrs hh) (h.2 i hi)⟩

/-- Operation o yields v here. -/
def YA (P : Program) (ops : Array Oper) (o : Oper) (v : AV) (E : Env) (H : Heap) : Prop :=
  (guardA ops o E = some true ∧ isEA P o.op = false ∧ valA P E H o.op = some v) ∨ (guardA ops o E = some false ∧ v = .tuple [])
theorem YA.stepR {i : Nat} {o : Oper} {v : AV} (hi : ops[i]? = some o) (hy : YA P ops o v E H) {rs : List Rd} (h : K (E.setO o.dst v) H) : stepR P w0 ops i rs K E H := by
  unfold Abs.stepR
  simp only [hi]
  rcases hy with ⟨hg, he, hv⟩ | ⟨hg, rfl⟩
  · simp [hg, he, hv, h]
  · simp [hg, h]
theorem YA.keep {o : Oper} {v : AV} (hy : YA P ops o v E H) {d : Option Nat} {u : AV} (hd : ∀ t, d = some t → t ∉ o.looksAt ops) {H' : Heap} (hH : ∀ t x, o.op = .load t x → guardA ops o E = some true → loadA P H' t (ev E x) = some v) : YA P ops o v (E.setO d u) H' := by
  unfold YA at *
  rw [guardA_set hd]
  rcases hy with ⟨hg, he, hv⟩ | h
  · refine .inl ⟨hg, he, ?_⟩
    rw [← valA_congr (E := E) (E' := E.setO d u) (fun x hx => (ev_set_looks hd x hx).symm)]
    by_cases hl : ∃ t x, o.op = .load t x
    · obtain ⟨t, x, hl⟩ := hl
      have := hH t x hl hg
      rw [hl]
      simpa only [valA] using this
    · rw [← hv]
      cases ho : o.op <;> simp only [valA]
      exact absurd ⟨_, _, ho⟩ hl
  · exact .inr h

theorem anyR_first {i : Nat} {oi : Oper} {v : AV} (hi : ops[i]? = some oi) : ∀ (f : Nat) (listed : Array Bool) (rs rs' : List Rd) (E : Env) (H : Heap), Closed ops listed →
    (∀ j oj, ops[j]? = some oj → j ≠ i → listed.getD j true = false → (∀ e ∈ oj.after, Region.binds .any e = true → e.on ≠ i) → oi.apart ops oj = true) →
    i ∈ Region.ready .any ops listed → YA P ops oi v E H → (∀ r ∈ rs, r ∈ rs') → (∀ t x, oi.op = .load t x → guardA ops oi E = some true → (⟨i, t, ev E x, v⟩ : Rd) ∈ rs') →
    wpAnyR P w0 ops K f (listed.setIfInBounds i true) rs' (E.setO oi.dst v) H → wpAnyR P w0 ops K (f + 1) listed rs E H := by
  intro f
  induction f with
  | zero =>
    intro listed rs rs' E H hc hfree hr hy hrs hld hX
    refine ⟨fun h => (by rw [h] at hr; cases hr), fun j hj => ?_⟩
    by_cases hji : j = i
    · subst hji; exact hy.stepR hi hX
    · have := ready_mono hj hji
      rw [hX.1] at this
      cases this
  | succ f ih =>
    intro listed rs rs' E H hc hfree hr hy hrs hld hX
    refine ⟨fun h => (by rw [h] at hr; cases hr), fun j hj => ?_⟩
    by_cases hji : j = i
    · subst hji
      exact hy.stepR hi (anyR_weaken _ _ rs rs' _ _ hrs hX)
    · have h1 := hX.2 j (ready_mono hj hji)
      obtain ⟨hjun, oj, hoj, hall⟩ := mem_ready.1 hj
      have hnot : ∀ e ∈ oj.after, Region.binds .any e = true → e.on ≠ i := fun e he hb heq => by
        have h1 := hall e he hb
        rw [heq, ready_unlisted hr] at h1
        cases h1
      have hap := hfree j oj hoj hji hjun hnot
      obtain ⟨a1, a2, a3⟩ := Oper.apart_spec hap
      have hfree' : ∀ k ok, ops[k]? = some ok → k ≠ i → (listed.setIfInBounds j true).getD k true = false →
          (∀ e ∈ ok.after, Region.binds .any e = true → e.on ≠ i) → oi.apart ops ok = true := fun k ok hk hki hun hno => by
        refine hfree k ok hk hki ?_ hno
        by_cases hjk : j = k
        · subst hjk; exact hjun
        · rw [getD_set_ne true hjk] at hun; exact hun
      have hnw : waits ops j i = false := ready_not_waits hc hj (ready_unlisted hr)
      have next : ∀ (u : AV) (H' : Heap), (∀ t x, oi.op = .load t x → guardA ops oi E = some true → loadA P H' t (ev E x) = some v) →
          wpAnyR P w0 ops K f ((listed.setIfInBounds i true).setIfInBounds j true) rs' ((E.setO oi.dst v).setO oj.dst u) H' →
          wpAnyR P w0 ops K (f + 1) (listed.setIfInBounds j true) rs (E.setO oj.dst u) H' := by
        intro u H' hH hh
        refine ih (listed.setIfInBounds j true) rs rs' (E.setO oj.dst u) H' (hc.set hj) hfree' (ready_mono hr (Ne.symm hji)) (hy.keep a3 hH) hrs ?_ ?_
        · intro t x hl hg
          rw [guardA_set a3] at hg
          rw [ev_set_looks a3 x (by rw [hl]; simp [Op.operands])]
          exact hld t x hl hg
        · rw [Array.setIfInBounds_comm _ _ (Ne.symm hji), ← setO_comm E v u a2] at *
          exact hh
      unfold stepR at h1 ⊢
      simp only [hoj] at h1 ⊢
      rw [guardA_set a1] at h1
      cases hg : guardA ops oj E with
      | none => simp [hg] at h1
      | some b =>
        simp only [hg] at h1 ⊢
        have same : ∀ t x, oi.op = .load t x → guardA ops oi E = some true → loadA P H t (ev E x) = some v := by
          intro t x hl hgi
          rcases hy with ⟨_, _, hv⟩ | ⟨hgf, _⟩
          · rw [hl] at hv; simpa only [valA] using hv
          · rw [hgi] at hgf; cases hgf
        cases b with
        | false => exact next _ H same h1
        | true =>
          simp only at h1 ⊢
          by_cases he : isEA P oj.op = true
          · rw [if_pos he] at h1 ⊢
            rw [effA_congr (ev_set_looks a1)] at h1
            refine effA_mono (fun u H' hh => ⟨fun r hr' => hh.1 r (hrs r hr'), next u H' (fun t x hl hgi => ?_) hh.2⟩) h1
            rcases hh.1 _ (hld t x hl hgi) with h | h
            · simp only at h; rw [hnw] at h; cases h
            · exact h
          · rw [if_neg he] at h1 ⊢
            rw [valA_congr (ev_set_looks a1)] at h1
            cases hvj : valA P E H oj.op with
            | none => simp [hvj] at h1
            | some u =>
              simp only [hvj] at h1 ⊢
              exact next u H same h1
end
end Go.Abs
