/- More of the law's helpers. -/
import Derived.Test.YthkmbfifiojmhaaC1
set_option linter.unusedSimpArgs false
set_option linter.unusedVariables false
set_option maxRecDepth 100000
namespace Go.Proofs.Ythkmbfifiojmhaa
open Go.Abs
variable {w0 : World} {H : Heap}
theorem eqPairS_ok (va vb : AV) (a b : List (Int × Int)) (hl : a.length < 2 ^ 31) (ha : RowV H va a.length 2 (pairs a)) (hb : RowV H vb b.length 2 (pairs b)) : ACall Try.prog w0 39 [va, vb] H fun v H' => v = .bool (decide (a = b)) ∧ Ext H H' := by
  obtain ⟨ba, oa, ca, rfl, ha⟩ := ha
  obtain ⟨bb, ob, cb, rfl, hb⟩ := hb
  refine ACall.enterW mix Try.func39 (by kernel_rfl) fun hw => ?_
  simp (disch := first | omega | (simp only [n_alloc, n_put, n_kill]; omega) | (simp; done) | fail) [Try.f39]
  refine cN (fun h => ?_) fun h => ?_
  · simp (disch := first | omega | (simp only [n_alloc, n_put, n_kill]; omega) | (simp; done) | fail)
    intro e; subst e; exact h rfl
  · simp (disch := first | omega | (simp only [n_alloc, n_put, n_kill]; omega) | (simp; done) | fail)
    refine run_for a.length (fun i E H' => Ext H H' ∧ E 0 = .slice ba oa a.length 2 ca ∧ E 1 = .slice bb ob b.length 2 cb ∧ E 5 = .int .i64 i ∧ ∀ j (h : j < i) (h1 : j < a.length) (h2 : j < b.length), a[j] = b[j]) 0 (Nat.zero_le _) ?_ ?_
    · simp (disch := first | omega | (simp only [n_alloc, n_put, n_kill]; omega) | (simp; done) | fail)
    rintro i E H' _ hi ⟨he, h0, h1, h5, hc⟩
    simp (disch := first | omega | (simp only [n_alloc, n_put, n_kill]; omega) | (simp; done) | fail) [h0, h1, h5]
    refine cP (fun h => ?_) fun h => ?_
    · simp (disch := first | omega | (simp only [n_alloc, n_put, n_kill]; omega) | (simp; done) | fail)
      refine run_any plan39_6 (by kernel_rfl) ?_
      have ha' := ha.ext hw he
      have hb' := hb.ext hw he
      simp (disch := first | omega | (simp only [n_alloc, n_put, n_kill]; omega) | (simp; done) | fail) [plan39_6, h0, h1, h5, h, ha'.pair, hb'.pair]
      refine call_of (eqPair_ok _ _ _ _) fun v H1 hw1 ⟨hv, he1⟩ => ?_
      subst hv
      simp (disch := first | omega | (simp only [n_alloc, n_put, n_kill]; omega) | (simp; done) | fail) [h0, h1, h5, h]
      refine cB (fun h' => ?_) fun h' => ?_
      · simp (disch := first | omega | (simp only [n_alloc, n_put, n_kill]; omega) | (simp; done) | fail)
        refine ⟨?_, he.trans he1⟩
        rintro rfl
        simp at h'
      · simp (disch := first | omega | (simp only [n_alloc, n_put, n_kill]; omega) | (simp; done) | fail) [h0, h1, h5, h]
        refine ⟨he.trans he1, fun j hj h1 h2 => ?_⟩
        rcases Nat.lt_or_ge j i with hlt | hge
        · exact hc j hlt h1 h2
        · obtain rfl : j = i := by omega
          simp at h'
          exact Prod.ext h'.1 h'.2
    · simp (disch := first | omega | (simp only [n_alloc, n_put, n_kill]; omega) | (simp; done) | fail)
      refine ⟨?_, he⟩
      apply List.ext_getElem (by omega)
      intro j _ _; exact hc j (by omega) (by omega) (by omega)
theorem eqParty_ok (va vb : AV) (n m : Int) (a b : List (Int × Int)) (hl : a.length < 2 ^ 31) (ha : PartyAt H va n a) (hb : PartyAt H vb m b) : ACall Try.prog w0 11 [va, vb] H fun v H' => v = .bool (decide (n = m ∧ a = b)) ∧ Ext H H' := by
  obtain ⟨ba, oa, ca, rfl, ha⟩ := ha
  obtain ⟨bb, ob, cb, rfl, hb⟩ := hb
  refine ACall.enterW mix Try.func11 (by kernel_rfl) fun hw => ?_
  simp (disch := first | omega | (simp only [n_alloc, n_put, n_kill]; omega) | (simp; done) | fail) [Try.f11]
  refine cN (fun h => ?_) fun h => ?_
  · simp (disch := first | omega | (simp only [n_alloc, n_put, n_kill]; omega) | (simp; done) | fail)
    exact fun h' => absurd h' h
  · simp (disch := first | omega | (simp only [n_alloc, n_put, n_kill]; omega) | (simp; done) | fail)
    refine call_of (eqPairS_ok _ _ a b hl ⟨_, _, _, rfl, ha.ext hw (by simp (disch := first | omega | (simp only [n_alloc, n_put, n_kill]; omega) | (simp; done) | fail))⟩ ⟨_, _, _, rfl, hb.ext hw (by simp (disch := first | omega | (simp only [n_alloc, n_put, n_kill]; omega) | (simp; done) | fail))⟩) fun v H1 hw1 ⟨hv, he1⟩ => ?_
    subst hv
    simp (disch := first | omega | (simp only [n_alloc, n_put, n_kill]; omega) | (simp; done) | fail)
    have hx : Ext H H1 := Ext.trans (by simp (disch := first | omega | (simp only [n_alloc, n_put, n_kill]; omega) | (simp; done) | fail)) he1
    refine cN (fun h' => ?_) fun h' => ?_
    · simp (disch := first | omega | (simp only [n_alloc, n_put, n_kill]; omega) | (simp; done) | fail)
      exact ⟨fun _ => h', hx⟩
    · simp (disch := first | omega | (simp only [n_alloc, n_put, n_kill]; omega) | (simp; done) | fail)
      exact ⟨⟨h, h'⟩, hx⟩
theorem markPairS_ok (va : AV) (k : Int) (a : List (Int × Int)) (n0 : Nat) (hl : a.length < 2 ^ 31) (hk : 0 ≤ k ∧ k < 2 ^ 40) (ha : OwnV n0 H va a.length 2 (pairs a)) : ACall Try.prog w0 40 [va, .int .i64 k] H fun v H' => v = .int .i64 (k + 2 * a.length) ∧ ∃ b off cap a', va = .slice b off a.length 2 cap ∧ Keep b H H' ∧ OwnAt n0 H' b off a.length 2 cap (pairs a') := by
  obtain ⟨b, off, cap, rfl, ha⟩ := ha
  refine ACall.enterW mix Try.func40 (by kernel_rfl) fun hw => ?_
  simp (disch := first | omega | (simp only [n_alloc, n_put, n_kill]; omega) | (simp; done) | fail) [Try.f40]
  refine run_for a.length (fun i E H' => Keep b H H' ∧ E 0 = .slice b off a.length 2 cap ∧ E 5 = .int .i64 i ∧ E 1 = .int .i64 (k + 2 * i) ∧ ∃ a' : List (Int × Int), a'.length = a.length ∧ OwnAt n0 H' b off a.length 2 cap (pairs a')) 0 (Nat.zero_le _) ?_ ?_
  · simp (disch := first | omega | (simp only [n_alloc, n_put, n_kill]; omega) | (simp; done) | fail)
    exact ⟨a, rfl, ha⟩
  · rintro i E H' hw' hi ⟨he, h0, h5, h1, a', hl', hO⟩
    simp (disch := first | omega | (simp only [n_alloc, n_put, n_kill]; omega) | (simp; done) | fail) [h0, h1, h5]
    refine cP (fun h => ?_) fun h => ?_
    · have hb := hO.isSome (by omega)
      simp (disch := first | omega | (simp only [n_alloc, n_put, n_kill]; omega) | (simp; done) | fail) [h0, h1, h5, h, field_opt hb]
      refine store_own (by simp) hO (by simp; omega) (by simp) (by simp) fun H2 hO2 hk _ => ?_
      rw [cells_int, splice_fst (by omega)] at hO2
      simp (disch := first | omega | (simp only [n_alloc, n_put, n_kill]; omega) | (simp; done) | fail) [h0, h1, h5, h, field_opt hb]
      refine store_own (k := i * 2 + 1) (v := .int .i64 (k + 2 * i + 1)) (by simp) hO2 (by simp; omega) (by simp) (by simp) fun H3 hO3 hk3 _ => ?_
      rw [cells_int, splice_snd (by simp; omega)] at hO3
      simp (disch := first | omega | (simp only [n_alloc, n_put, n_kill]; omega) | (simp; done) | fail) [h0, h1, h5, h]
      exact ⟨he.trans (hk.trans hk3), by omega, _, by simp [hl'], hO3⟩
    · have : i = a.length := by omega
      subst this
      simp (disch := first | omega | (simp only [n_alloc, n_put, n_kill]; omega) | (simp; done) | fail) [h1]
      exact ⟨_, _, _, ⟨rfl, rfl, rfl⟩, he, _, hO⟩
theorem markParty_ok (va vs : AV) (n k : Int) (a : List (Int × Int)) (n0 : Nat) (hl : a.length < 2 ^ 31) (hk : 0 ≤ k ∧ k < 2 ^ 40) (hva : va = .agg [.int .i64 n, vs]) (ha : OwnV n0 H vs a.length 2 (pairs a)) : ACall Try.prog w0 12 [va, .int .i64 k] H fun v H' => v = .int .i64 (k + 2 * a.length) ∧ ∃ b off cap, vs = .slice b off a.length 2 cap ∧ Keep b H H' := by
  obtain ⟨b, off, cap, rfl, ha⟩ := ha
  subst hva
  refine ACall.enterW mix Try.func12 (by kernel_rfl) fun hw => ?_
  simp (disch := first | omega | (simp only [n_alloc, n_put, n_kill]; omega) | (simp; done) | fail) [Try.f12]
  refine call_of (markPairS_ok _ k a n0 hl hk ⟨_, _, _, rfl, ha.alloc⟩) fun v H1 hw1 ⟨hv, b', off', cap', a', e, hk1, hO1⟩ => ?_
  subst hv
  simp at e
  obtain ⟨rfl, rfl, rfl⟩ := e
  simp (disch := first | omega | (simp only [n_alloc, n_put, n_kill]; omega) | (simp; done) | fail)
  exact keep_alloc.trans hk1
theorem szPairS_ok (va : AV) (left : Int) (a : List (Int × Int)) (hl : a.length < 2 ^ 63) (hk : 0 ≤ left ∧ left < 2 ^ 40) (ha : RowV H va a.length 2 (pairs a)) : ACall Try.prog w0 29 [va, .int .i64 left] H fun v H' => v = .int .i64 (if left < a.length then -1 else left - a.length) ∧ Ext H H' := by
  obtain ⟨b, off, cap, rfl, ha⟩ := ha
  refine ACall.enterW mix Try.func29 (by kernel_rfl) fun hw => ?_
  simp (disch := first | omega | (simp only [n_alloc, n_put, n_kill]; omega) | (simp; done) | fail) [Try.f29]
  refine cP (fun h => ?_) fun h => ?_
  · simp (disch := first | omega | (simp only [n_alloc, n_put, n_kill]; omega) | (simp; done) | fail)
    intros; omega
  · simp (disch := first | omega | (simp only [n_alloc, n_put, n_kill]; omega) | (simp; done) | fail)
    intros; omega
theorem szParty_ok (va : AV) (n left : Int) (a : List (Int × Int)) (hl : a.length < 2 ^ 63) (hk : 0 ≤ left ∧ left < 2 ^ 40) (ha : PartyAt H va n a) : ACall Try.prog w0 5 [va, .int .i64 left] H fun v H' => v = .int .i64 (if left < a.length then -1 else left - a.length) ∧ Ext H H' := by
  obtain ⟨b, off, cap, rfl, ha⟩ := ha
  refine ACall.enterW mix Try.func5 (by kernel_rfl) fun hw => ?_
  simp (disch := first | omega | (simp only [n_alloc, n_put, n_kill]; omega) | (simp; done) | fail) [Try.f5]
  refine call_of (szPairS_ok _ left a hl hk ⟨_, _, _, rfl, ha.ext hw (by simp (disch := first | omega | (simp only [n_alloc, n_put, n_kill]; omega) | (simp; done) | fail))⟩) fun v H1 hw1 ⟨hv, he1⟩ => ?_
  subst hv
  simp (disch := first | omega | (simp only [n_alloc, n_put, n_kill]; omega) | (simp; done) | fail)
  have hx : Ext H H1 := Ext.trans (by simp (disch := first | omega | (simp only [n_alloc, n_put, n_kill]; omega) | (simp; done) | fail)) he1
  refine cP (fun h => ?_) fun h => ?_
  · simp (disch := first | omega | (simp only [n_alloc, n_put, n_kill]; omega) | (simp; done) | fail)
    refine ⟨?_, hx⟩
    intros; omega
  · simp (disch := first | omega | (simp only [n_alloc, n_put, n_kill]; omega) | (simp; done) | fail)
    exact hx
end Go.Proofs.Ythkmbfifiojmhaa
