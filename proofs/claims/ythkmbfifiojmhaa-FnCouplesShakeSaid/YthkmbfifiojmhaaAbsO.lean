/- Code and calls. -/
import Derived.Test.YthkmbfifiojmhaaAbsN
set_option linter.unusedSimpArgs false
set_option linter.unusedVariables false
namespace Go.Abs
open Go.RowKit
section
variable {P : Program} {w0 : World} {σ σ0 : Sig} {H : Heap} {w : World} {N : Nat} {E : Env} {a : Act} {ops : Array Oper} {K : Env → Heap → Prop}

theorem wpT_sound : ∀ (f : Nat) (listed : Array Bool) (rds : List Nat) (p : Plan) (rs : List Rd) (E : Env) (H : Heap), planOk P ops f listed rds p = true → Closed ops listed → (∀ r ∈ rs, r.i ∈ rds) →
    wpT P w0 ops K p rs E H → wpAnyR P w0 ops K f listed rs E H := by
  intro f
  induction f with
  | zero =>
    intro listed rds p rs E H hp hc hrs h
    cases p with
    | nil => simp only [planOk, List.isEmpty_iff] at hp; exact ⟨hp, h⟩
    | _ => simp [planOk] at hp
  | succ f ih =>
    intro listed rds p rs E H hp hc hrs h
    have effcase : ∀ (i : Nat) (chk : List Nat) (p : Plan), i ∈ Region.ready .any ops listed → (rds.all fun r => waits ops i r || chk.contains r) = true → planOk P ops f (listed.setIfInBounds i true) rds p = true →
        (match ops[i]? with
        | none => False
        | some o =>
          match guardA ops o E with
          | none => False
          | some false => wpT P w0 ops K p rs (E.setO o.dst (.tuple [])) H
          | some true => opA P w0 o.op E H fun v H' => (∀ r ∈ rs, r.i ∈ chk → loadA P H' r.t r.x = some r.v) ∧ wpT P w0 ops K p rs (E.setO o.dst v) H') →
        stepR P w0 ops i rs (wpAnyR P w0 ops K f (listed.setIfInBounds i true) rs) E H := by
      intro i chk p hi hchk hp h
      have hcs := hc.set hi
      unfold stepR
      split at h
      · exact False.elim h
      · rename_i o ho
        simp only [ho]
        split at h
        · exact False.elim h
        · rename_i hg; simp only [hg]; exact ih _ rds p rs _ _ hp hcs hrs h
        · rename_i hg
          simp only [hg]
          unfold opA at h
          split at h
          · rename_i he
            rw [if_pos he]
            refine effA_mono (fun v H' hh => ⟨fun r hr => ?_, ih _ rds p rs _ _ hp hcs hrs hh.2⟩) h
            have := List.all_eq_true.1 hchk r.i (hrs r hr)
            simp only [Bool.or_eq_true, List.contains_iff_mem] at this
            rcases this with h | h
            · exact .inl h
            · exact .inr (hh.1 r hr h)
          · rename_i he
            rw [if_neg he]
            split at h
            · rename_i v hv; simp only [hv]; exact ih _ rds p rs _ _ hp hcs hrs h.2
            · exact False.elim h
    cases p with
    | nil =>
      simp only [planOk, List.isEmpty_iff] at hp
      exact ⟨fun _ => h, fun i hi => by rw [hp] at hi; cases hi⟩
    | val i p =>
      simp only [planOk, Bool.and_eq_true, List.contains_iff_mem] at hp
      obtain ⟨⟨hr, hfr⟩, hp⟩ := hp
      simp only [wpT] at h
      cases ho : ops[i]? with
      | none => simp [ho] at h
      | some o =>
        simp only [ho, Bool.and_eq_true, Bool.not_eq_true'] at hp h
        obtain ⟨hea, hp⟩ := hp
        have hfree := fun j oj => Region.free_spec ho hfr j oj
        cases hg : guardA ops o E with
        | none => simp [hg] at h
        | some b =>
          cases b with
          | false =>
            simp only [hg] at h
            have hrec := ih (listed.setIfInBounds i true) _ p rs _ _ hp (hc.set hr) (fun r hr' => by split <;> simp [hrs r hr']) h
            exact anyR_first ho f listed rs rs E H hc hfree hr (.inr ⟨hg, rfl⟩) (fun _ h => h) (fun t x _ hg' => by rw [hg] at hg'; cases hg') hrec
          | true =>
            simp only [hg] at h
            cases hv : valA P E H o.op with
            | none => simp [hv] at h
            | some v =>
              simp only [hv] at h
              by_cases hl : ∃ t x, o.op = .load t x
              · obtain ⟨t, x, hl⟩ := hl
                have e1 : isLoad o.op = true := by rw [hl]; rfl
                rw [if_pos e1] at hp
                have h' : wpT P w0 ops K p (⟨i, t, ev E x, v⟩ :: rs) (E.setO o.dst v) H := by rw [hl] at h; exact h
                have hrec := ih (listed.setIfInBounds i true) _ p _ _ _ hp (hc.set hr) (fun r hr' => by
                  cases hr' with
                  | head => simp
                  | tail _ hr' => simp [hrs r hr']) h'
                exact anyR_first ho f listed rs _ E H hc hfree hr (.inl ⟨hg, hea, hv⟩) (fun r hr' => List.mem_cons_of_mem _ hr') (fun t' x' hl' _ => by rw [hl] at hl'; cases hl'; simp) hrec
              · have e1 : isLoad o.op = false := by cases ho' : o.op <;> first | rfl | exact absurd ⟨_, _, ho'⟩ hl
                rw [if_neg (by rw [e1]; simp)] at hp
                have h' : wpT P w0 ops K p rs (E.setO o.dst v) H := by
                  cases ho' : o.op <;> rw [ho'] at h <;> first | exact h | exact absurd ⟨_, _, ho'⟩ hl
                have hrec := ih (listed.setIfInBounds i true) _ p _ _ _ hp (hc.set hr) hrs h'
                exact anyR_first ho f listed rs rs E H hc hfree hr (.inl ⟨hg, hea, hv⟩) (fun _ h => h) (fun t x hl' _ => absurd ⟨t, x, hl'⟩ hl) hrec
    | eff i chk p =>
      simp only [planOk, Bool.and_eq_true, List.all_eq_true, beq_iff_eq, List.contains_iff_mem] at hp
      obtain ⟨⟨⟨hin, hr⟩, hchk⟩, hp⟩ := hp
      simp only [wpT] at h
      refine ⟨fun hnil => (by rw [hnil] at hin; cases hin), fun j hj => ?_⟩
      have := hr j hj
      subst this
      exact effcase j chk p hj (List.all_eq_true.2 fun r hr' => by simpa using hchk r hr') hp h
    | two i chk p j chk' q =>
      simp only [planOk, Bool.and_eq_true, List.all_eq_true, Bool.or_eq_true, beq_iff_eq, List.contains_iff_mem] at hp
      obtain ⟨⟨⟨⟨⟨hin, hr⟩, hchk⟩, hchk'⟩, hp⟩, hq⟩ := hp
      simp only [wpT] at h
      refine ⟨fun hnil => (by rw [hnil] at hin; cases hin), fun k hk => ?_⟩
      rcases hr k hk with e | e
      · subst e
        exact effcase k chk p hk (List.all_eq_true.2 fun r hr' => by simpa using hchk r hr') hp h.1
      · subst e
        exact effcase k chk' q hk (List.all_eq_true.2 fun r hr' => by simpa using hchk' r hr') hq h.2

/-! ### Down to the machine -/
def regionOk (N : Nat) (ops : Array Oper) : Bool := ops.all fun o => dstOk N o.dst
theorem regionOk_get (h : regionOk N ops = true) {i : Nat} {o : Oper} (ho : ops[i]? = some o) : dstOk N o.dst = true := by
  unfold regionOk at h
  rw [Array.all_eq_true'] at h
  exact h o (Array.mem_of_getElem? ho)

theorem told_of_after {o : Oper} {K : AV → Heap → Prop} {K' : Env → Heap → Prop} (hle : Sig.le σ0 σ) (hr : Rel N σ E a) (hd : dstOk N o.dst = true) {a' : Act} {w' : World} (h : After P w0 σ K o a a' w') (hk : ∀ v H', K v H' → K' (E.setO o.dst v) H') : Told w0 σ0 N K' a' w' := by
  obtain ⟨σ', v, v', H', rfl, h1, h2, h3, h4⟩ := h
  exact ⟨σ', _, H', Sig.le_trans hle h1, (hr.mono h1).setO hd h3, h2, hk _ _ h4⟩
theorem Told.mono {K K' : Env → Heap → Prop} (hk : ∀ E H, K E H → K' E H) (h : Told w0 σ0 N K a w) : Told w0 σ0 N K' a w := by
  obtain ⟨σ, E, H, h1, h2, h3, h4⟩ := h
  exact ⟨σ, E, H, h1, h2, h3, hk _ _ h4⟩

theorem wpL_sound {Q : Exit → Act → World → Prop} (hok : regionOk N ops = true) (hQ : ∀ a w, Told w0 σ0 N K a w → Q .normal a w) : ∀ (l : List Oper) (k : Nat) (a : Act) (w : World), (∀ j, l[j]? = ops[k + j]?) →
    Told w0 σ0 N (fun E H => wpL P w0 ops l E H K) a w → wpOps P ops Q (List.range' k l.length) a w
  | [], k, a, w, _, h => hQ a w h
  | o :: l, k, a, w, hl, h => by
    have h0 : ops[k]? = some o := by simpa using (hl 0).symm
    have hd := regionOk_get hok h0
    obtain ⟨σ, E, H, h1, h2, h3, h4⟩ := h
    have hl' : ∀ j, l[j]? = ops[k + 1 + j]? := fun j => by have := hl (j + 1); simpa [Nat.add_assoc, Nat.add_comm 1 j] using this
    simp only [List.length_cons, List.range'_succ, wpOps, h0]
    simp only [wpL] at h4
    cases hg : guardA ops o E with
    | none => simp [hg] at h4
    | some b =>
      rw [guardA_sound hg h2]
      cases b with
      | false =>
        simp only [hg] at h4
        simp only [Bool.false_eq_true, if_false]
        exact wpL_sound hok hQ l (k + 1) _ _ hl' ⟨σ, _, H, h1, h2.setO hd (by simp [VR, VRs, undef]), h3, h4⟩
      | true =>
        simp only [hg] at h4
        simp only [if_true]
        refine .inl (Oper.wp_mono (fun a' w' ha => ?_) (opA_sound (N := N) h4 h2 h3))
        exact wpL_sound hok hQ l (k + 1) _ _ hl' (told_of_after h1 h2 hd ha fun v H' hh => hh)

theorem anyR_sound {Q : Exit → Act → World → Prop} (hok : regionOk N ops = true) (hQ : ∀ a w, Told w0 σ0 N K a w → Q .normal a w) : ∀ (f : Nat) (listed : Array Bool) (rs : List Rd) (a : Act) (w : World),
    Told w0 σ0 N (fun E H => wpAnyR P w0 ops K f listed rs E H) a w → wpAny P .any ops Q f listed a w
  | 0, listed, rs, a, w, h => by
    obtain ⟨σ, E, H, h1, h2, h3, h4⟩ := h
    exact ⟨h4.1, hQ _ _ ⟨σ, E, H, h1, h2, h3, h4.2⟩⟩
  | f + 1, listed, rs, a, w, h => by
    obtain ⟨σ, E, H, h1, h2, h3, h4⟩ := h
    refine ⟨fun hn => hQ _ _ ⟨σ, E, H, h1, h2, h3, h4.1 hn⟩, fun i hi => ?_⟩
    have hs := h4.2 i hi
    unfold stepR at hs
    unfold wpOp
    cases ho : ops[i]? with
    | none => simp only [ho] at hs; exact anyR_sound hok hQ f _ rs _ _ ⟨σ, E, H, h1, h2, h3, hs⟩
    | some o =>
      have hd := regionOk_get hok ho
      simp only [ho] at hs
      simp only
      cases hg : guardA ops o E with
      | none => simp [hg] at hs
      | some b =>
        rw [guardA_sound hg h2]
        cases b with
        | false =>
          simp only [hg] at hs
          simp only [Bool.false_eq_true, if_false]
          exact anyR_sound hok hQ f _ rs _ _ ⟨σ, _, H, h1, h2.setO hd (by simp [VR, VRs, undef]), h3, hs⟩
        | true =>
          simp only [hg] at hs
          simp only [if_true]
          left
          by_cases he : isEA P o.op = true
          · rw [if_pos he] at hs
            refine Oper.wp_mono (fun a' w' ha => ?_) (effA_sound (N := N) hs h2 h3)
            exact anyR_sound hok hQ f _ rs _ _ (told_of_after h1 h2 hd ha fun v H' hh => hh.2)
          · rw [if_neg he] at hs
            cases hv : valA P E H o.op with
            | none => simp [hv] at hs
            | some v =>
              simp only [hv] at hs
              obtain ⟨z, hz, hrz⟩ := valA_sound hv h2 h3
              unfold Oper.wp
              rw [hz]
              exact anyR_sound hok hQ f _ rs _ _ ⟨σ, _, H, h1, h2.setO hd hrz, h3, hs⟩
end
end Go.Abs
