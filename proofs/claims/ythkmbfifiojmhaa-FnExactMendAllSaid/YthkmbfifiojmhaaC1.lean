/- What the law's helpers do. -/
import Derived.Test.YthkmbfifiojmhaaFacts
import Derived.Test.YthkmbfifiojmhaaAbsT
set_option linter.unusedSimpArgs false
set_option linter.unusedVariables false
set_option maxRecDepth 100000
namespace Go.Proofs.Ythkmbfifiojmhaa
open Go.Abs
variable {w0 : World} {H : Heap}
theorem within_ok (n lo hi : Int) : ACall Try.prog w0 55 [.int .i64 n, .int .i64 lo, .int .i64 hi] H fun v H' => v = .bool (decide (lo ≤ n ∧ n ≤ hi)) ∧ H' = H := by
  refine ACall.enterW mix Try.func55 (by kernel_rfl) fun hw => ?_
  simp (disch := first | omega | (simp only [n_alloc, n_put, n_kill]; omega) | (simp; done) | fail) [Try.f55]
  refine gP (fun h => ?_) fun h => ?_
  · simp (disch := first | omega | (simp only [n_alloc, n_put, n_kill]; omega) | (simp; done) | fail) [h]
  · simp (disch := first | omega | (simp only [n_alloc, n_put, n_kill]; omega) | (simp; done) | fail) [h]
theorem areCrowd_ok (n : Int) : ACall Try.prog w0 74 [.int .i64 n] H fun v H' => v = .bool (decide (0 ≤ n ∧ n ≤ 12)) ∧ H' = H := by
  refine ACall.enterW mix Try.func74 (by kernel_rfl) fun hw => ?_
  simp (disch := first | omega | (simp only [n_alloc, n_put, n_kill]; omega) | (simp; done) | fail) [Try.f74]
  refine call_of (within_ok _ _ _) fun v H' hw ⟨hv, he⟩ => ?_
  subst hv he
  simp (disch := first | omega | (simp only [n_alloc, n_put, n_kill]; omega) | (simp; done) | fail)
theorem bit_ok (b : Bool) : ACall Try.prog w0 86 [.bool b] H fun v H' => v = .int .i64 (if b then 1 else 0) ∧ H' = H := by
  refine ACall.enterW mix Try.func86 (by kernel_rfl) fun hw => ?_
  simp (disch := first | omega | (simp only [n_alloc, n_put, n_kill]; omega) | (simp; done) | fail) [Try.f86]
  refine cB (fun h => ?_) fun h => ?_
  · simp (disch := first | omega | (simp only [n_alloc, n_put, n_kill]; omega) | (simp; done) | fail) [h]
  · simp (disch := first | omega | (simp only [n_alloc, n_put, n_kill]; omega) | (simp; done) | fail) [h]
theorem toPair_ok (a b : Int) : ACall Try.prog w0 65 [.agg [.int .i64 a, .int .i64 b]] H fun v H' => v = .agg [.int .i64 a, .int .i64 b] ∧ Ext H H' := by
  refine ACall.enterW mix Try.func65 (by kernel_rfl) fun hw => ?_
  simp (disch := first | omega | (simp only [n_alloc, n_put, n_kill]; omega) | (simp; done) | fail) [Try.f65]
theorem eqPair_ok (a b c d : Int) : ACall Try.prog w0 69 [.agg [.int .i64 a, .int .i64 b], .agg [.int .i64 c, .int .i64 d]] H fun v H' => v = .bool (decide (a = c ∧ b = d)) ∧ Ext H H' := by
  refine ACall.enterW mix Try.func69 (by kernel_rfl) fun hw => ?_
  simp (disch := first | omega | (simp only [n_alloc, n_put, n_kill]; omega) | (simp; done) | fail) [Try.f69]
  refine cN (fun h => ?_) fun h => ?_
  · simp (disch := first | omega | (simp only [n_alloc, n_put, n_kill]; omega) | (simp; done) | fail)
    exact fun h' => absurd h' h
  · simp (disch := first | omega | (simp only [n_alloc, n_put, n_kill]; omega) | (simp; done) | fail)
    refine cN (fun h' => ?_) fun h' => ?_
    · simp (disch := first | omega | (simp only [n_alloc, n_put, n_kill]; omega) | (simp; done) | fail)
      exact fun _ => h'
    · simp (disch := first | omega | (simp only [n_alloc, n_put, n_kill]; omega) | (simp; done) | fail)
      exact ⟨h, h'⟩
theorem eqIntS_ok (va vb : AV) (a b : List Int) (hl : a.length < 2 ^ 31) (ha : Sli H va 1 (ints a)) (hb : Sli H vb 1 (ints b)) : ACall Try.prog w0 10 [va, vb] H fun v H' => v = .bool (decide (a = b)) ∧ H' = H := by
  obtain ⟨ba, oa, la, ca, rfl, ha1, ha⟩ := ha
  obtain ⟨bb, ob, lb, cb, rfl, hb1, hb⟩ := hb
  simp at ha1 hb1
  subst ha1 hb1
  refine ACall.enterW mix Try.func10 (by kernel_rfl) fun hw => ?_
  simp (disch := first | omega | (simp only [n_alloc, n_put, n_kill]; omega) | (simp; done) | fail) [Try.f10]
  refine cN (fun h => ?_) fun h => ?_
  · simp (disch := first | omega | (simp only [n_alloc, n_put, n_kill]; omega) | (simp; done) | fail)
    intro e; subst e; exact h rfl
  · simp (disch := first | omega | (simp only [n_alloc, n_put, n_kill]; omega) | (simp; done) | fail)
    refine run_for a.length (fun i E H' => H' = H ∧ E 0 = .slice ba oa a.length 1 ca ∧ E 1 = .slice bb ob b.length 1 cb ∧ E 5 = .int .i64 i ∧ ∀ j (h : j < i) (h1 : j < a.length) (h2 : j < b.length), a[j] = b[j]) 0 (Nat.zero_le _) ?_ ?_
    · simp (disch := first | omega | (simp only [n_alloc, n_put, n_kill]; omega) | (simp; done) | fail)
    rintro i E H' _ hi ⟨rfl, h0, h1, h5, hc⟩
    simp (disch := first | omega | (simp only [n_alloc, n_put, n_kill]; omega) | (simp; done) | fail) [h0, h1, h5]
    refine cP (fun h => ?_) fun h => ?_
    · simp (disch := first | omega | (simp only [n_alloc, n_put, n_kill]; omega) | (simp; done) | fail)
      refine run_any plan10_6 (by kernel_rfl) ?_
      simp (disch := first | omega | (simp only [n_alloc, n_put, n_kill]; omega) | (simp; done) | fail) [plan10_6, h0, h1, h5, h, ha.int, hb.int]
      refine cN (fun h => ?_) fun h => ?_
      · simp (disch := first | omega | (simp only [n_alloc, n_put, n_kill]; omega) | (simp; done) | fail)
        intro e
        subst e
        exact h rfl
      · simp (disch := first | omega | (simp only [n_alloc, n_put, n_kill]; omega) | (simp; done) | fail) [h5, h0, h1]
        intro j hj h1 h2
        rcases Nat.lt_or_ge j i with hlt | hge
        · exact hc j hlt h1 h2
        · obtain rfl : j = i := by omega
          exact h
    · simp (disch := first | omega | (simp only [n_alloc, n_put, n_kill]; omega) | (simp; done) | fail)
      apply List.ext_getElem (by omega)
      intro j _ _; exact hc j (by omega) (by omega) (by omega)
theorem toIntS_ok (va : AV) (a : List Int) (hl : a.length < 2 ^ 31) (ha : RowV H va a.length 1 (ints a)) : ACall Try.prog w0 8 [va] H fun v H' => Ext H H' ∧ OwnV H.n H' v a.length 1 (ints a) := by
  obtain ⟨ba, oa, ca, rfl, ha⟩ := ha
  refine ACall.enterW mix Try.func8 (by kernel_rfl) fun hw => ?_
  simp (disch := first | omega | (simp only [n_alloc, n_put, n_kill]; omega) | (simp; done) | fail) [Try.f8]
  refine ⟨by omega, by omega, ?_⟩
  refine run_for a.length (fun i E H' => Ext H H' ∧ E 0 = .slice ba oa a.length 1 ca ∧ E 4 = .int .i64 i ∧ OwnV H.n H' (E 3) a.length 1 (ints (a.take i ++ List.replicate (a.length - i) 0))) 0 (Nat.zero_le _) ?_ ?_
  · simp (disch := first | omega | (simp only [n_alloc, n_put, n_kill]; omega) | (simp; done) | fail)
    have := OwnAt.new (n0 := H.n) (H := H) (Nat.le_refl _) (cs := List.replicate a.length (AV.int .i64 0)) (len := a.length) (sz := 1) (by simp)
    simpa [ints] using this.v
  · rintro i E H' hw' hi ⟨he, h0, h4, b, off, cap, h3, hO⟩
    simp (disch := first | omega | (simp only [n_alloc, n_put, n_kill]; omega) | (simp; done) | fail) [h0, h3, h4]
    refine cP (fun h => ?_) fun h => ?_
    · have hr := ha.ext hw he
      simp (disch := first | omega | (simp only [n_alloc, n_put, n_kill]; omega) | (simp; done) | fail) [h0, h3, h4, h, hr.int]
      refine store_own (by simp) hO (by simp; omega) (by simp) (by simp) fun H2 hO2 hk _ => ?_
      rw [cells_int, splice_ints (by simp; omega), fill_step _ _ _ h] at hO2
      simp (disch := first | omega | (simp only [n_alloc, n_put, n_kill]; omega) | (simp; done) | fail) [h0, h3, h4, h]
      exact ⟨hk.ext he hO.base, hO2.v⟩
    · have : i = a.length := by omega
      subst this
      simp (disch := first | omega | (simp only [n_alloc, n_put, n_kill]; omega) | (simp; done) | fail) [h3]
      exact ⟨he, by simpa using hO.v⟩
theorem toPairS_ok (va : AV) (a : List (Int × Int)) (hl : a.length < 2 ^ 31) (ha : RowV H va a.length 2 (pairs a)) : ACall Try.prog w0 34 [va] H fun v H' => Ext H H' ∧ OwnV H.n H' v a.length 2 (pairs a) := by
  obtain ⟨ba, oa, ca, rfl, ha⟩ := ha
  refine ACall.enterW mix Try.func34 (by kernel_rfl) fun hw => ?_
  simp (disch := first | omega | (simp only [n_alloc, n_put, n_kill]; omega) | (simp; done) | fail) [Try.f34]
  refine ⟨by omega, by omega, ?_⟩
  refine run_for a.length (fun i E H' => Ext H H' ∧ E 0 = .slice ba oa a.length 2 ca ∧ E 4 = .int .i64 i ∧ OwnV H.n H' (E 3) a.length 2 (pairs (a.take i ++ List.replicate (a.length - i) (0, 0)))) 0 (Nat.zero_le _) ?_ ?_
  · simp (disch := first | omega | (simp only [n_alloc, n_put, n_kill]; omega) | (simp; done) | fail)
    have := OwnAt.new (n0 := H.n) (H := H) (Nat.le_refl _) (cs := List.replicate (a.length * 2) (AV.int .i64 0)) (len := a.length) (sz := 2) (by simp)
    simpa [pairs_zero] using this.v
  · rintro i E H' hw' hi ⟨he, h0, h4, b, off, cap, h3, hO⟩
    simp (disch := first | omega | (simp only [n_alloc, n_put, n_kill]; omega) | (simp; done) | fail) [h0, h3, h4]
    refine cP (fun h => ?_) fun h => ?_
    · have hr := ha.ext hw he
      simp (disch := first | omega | (simp only [n_alloc, n_put, n_kill]; omega) | (simp; done) | fail) [h0, h3, h4, h, hr.pair]
      refine call_of (toPair_ok _ _) fun v H1 hw1 ⟨hv, he1⟩ => ?_
      subst hv
      simp (disch := first | omega | (simp only [n_alloc, n_put, n_kill]; omega) | (simp; done) | fail) [h0, h3, h4, h]
      refine store_own (by simp) (hO.keep he1.keep (.inl rfl)) (by simp; omega) (by simp) (by simp) fun H2 hO2 hk _ => ?_
      rw [cells_agg, splice_pairs (by simp; omega), fill_step _ _ _ h] at hO2
      simp (disch := first | omega | (simp only [n_alloc, n_put, n_kill]; omega) | (simp; done) | fail) [h0, h3, h4, h]
      exact ⟨hk.ext (he.trans he1) hO.base, hO2.v⟩
    · have : i = a.length := by omega
      subst this
      simp (disch := first | omega | (simp only [n_alloc, n_put, n_kill]; omega) | (simp; done) | fail) [h3]
      exact ⟨he, by simpa using hO.v⟩
theorem toParty_ok (va : AV) (n : Int) (a : List (Int × Int)) (hl : a.length < 2 ^ 31) (ha : PartyAt H va n a) : ACall Try.prog w0 7 [va] H fun v H' => Ext H H' ∧ ∃ vs, v = .agg [.int .i64 n, vs] ∧ OwnV H.n H' vs a.length 2 (pairs a) := by
  obtain ⟨ba, oa, ca, rfl, ha⟩ := ha
  refine ACall.enterW mix Try.func7 (by kernel_rfl) fun hw => ?_
  simp (disch := first | omega | (simp only [n_alloc, n_put, n_kill]; omega) | (simp; done) | fail) [Try.f7]
  refine call_of (toPairS_ok _ a hl ⟨_, _, _, rfl, ha.ext hw (by simp (disch := first | omega | (simp only [n_alloc, n_put, n_kill]; omega) | (simp; done) | fail))⟩) fun v H1 hw1 ⟨he, b, off, cap, hv, hO⟩ => ?_
  subst hv
  have e := he.1
  have g0 := he.2 H.n (by simp (disch := first | omega | (simp only [n_alloc, n_put, n_kill]; omega) | (simp; done) | fail); omega)
  have g1 := he.2 (H.n + 1) (by simp (disch := first | omega | (simp only [n_alloc, n_put, n_kill]; omega) | (simp; done) | fail))
  have g2 := he.2 (H.n + 2) (by simp (disch := first | omega | (simp only [n_alloc, n_put, n_kill]; omega) | (simp; done) | fail))
  simp (disch := first | omega | (simp only [n_alloc, n_put, n_kill]; omega) | (simp; done) | fail) at g0 g1 g2 e
  simp (disch := first | omega | (simp only [n_alloc, n_put, n_kill]; omega) | (simp; done) | fail) [g0, g1, g2]
  exact ⟨Ext.trans (by simp (disch := first | omega | (simp only [n_alloc, n_put, n_kill]; omega) | (simp; done) | fail)) he, (((hO.put (by (first | omega | (simp only [n_alloc, n_put, n_kill]; omega)))).put (by (first | omega | (simp only [n_alloc, n_put, n_kill]; omega)))).base_le (by (first | omega | (simp only [n_alloc, n_put, n_kill]; omega)))).v⟩
theorem markIntS_ok (va : AV) (k : Int) (a : List Int) (n0 : Nat) (hl : a.length < 2 ^ 31) (hk : 0 ≤ k ∧ k < 2 ^ 40) (ha : OwnV n0 H va a.length 1 (ints a)) : ACall Try.prog w0 13 [va, .int .i64 k] H fun v H' => v = .int .i64 (k + a.length) ∧ ∃ b off cap, va = .slice b off a.length 1 cap ∧ Keep b H H' ∧ OwnAt n0 H' b off a.length 1 cap (ints ((List.range a.length).map fun (i : Nat) => k + (i : Int))) := by
  obtain ⟨b, off, cap, rfl, ha⟩ := ha
  refine ACall.enterW mix Try.func13 (by kernel_rfl) fun hw => ?_
  simp (disch := first | omega | (simp only [n_alloc, n_put, n_kill]; omega) | (simp; done) | fail) [Try.f13]
  refine run_for a.length (fun i E H' => Keep b H H' ∧ E 0 = .slice b off a.length 1 cap ∧ E 5 = .int .i64 i ∧ E 1 = .int .i64 (k + i) ∧ OwnAt n0 H' b off a.length 1 cap (ints (((List.range i).map fun (i : Nat) => k + (i : Int)) ++ a.drop i))) 0 (Nat.zero_le _) ?_ ?_
  · simp (disch := first | omega | (simp only [n_alloc, n_put, n_kill]; omega) | (simp; done) | fail)
    exact ha
  · rintro i E H' hw' hi ⟨he, h0, h5, h1, hO⟩
    simp (disch := first | omega | (simp only [n_alloc, n_put, n_kill]; omega) | (simp; done) | fail) [h0, h1, h5]
    refine cP (fun h => ?_) fun h => ?_
    · simp (disch := first | omega | (simp only [n_alloc, n_put, n_kill]; omega) | (simp; done) | fail) [h0, h1, h5, h]
      refine store_own (by simp) hO (by simp; omega) (by simp) (by simp) fun H2 hO2 hk _ => ?_
      rw [cells_int, splice_ints (by simp; omega), mark_step _ _ _ h] at hO2
      simp (disch := first | omega | (simp only [n_alloc, n_put, n_kill]; omega) | (simp; done) | fail) [h0, h1, h5, h]
      exact ⟨he.trans hk, by omega, hO2⟩
    · have : i = a.length := by omega
      subst this
      simp (disch := first | omega | (simp only [n_alloc, n_put, n_kill]; omega) | (simp; done) | fail) [h1]
      exact ⟨_, _, _, ⟨rfl, rfl, rfl⟩, he, by simpa using hO⟩
theorem heldIntS_ok (va : AV) (k : Int) (a : List Int) (hl : a.length < 2 ^ 31) (hk : 0 ≤ k ∧ k < 2 ^ 40) (ha : RowV H va a.length 1 (ints a)) : ACall Try.prog w0 14 [va, .int .i64 k] H fun v H' => H' = H ∧ v = .int .i64 (if a = (List.range a.length).map (fun (i : Nat) => k + (i : Int)) then k + a.length else -1) := by
  obtain ⟨b, off, cap, rfl, ha⟩ := ha
  refine ACall.enterW mix Try.func14 (by kernel_rfl) fun hw => ?_
  simp (disch := first | omega | (simp only [n_alloc, n_put, n_kill]; omega) | (simp; done) | fail) [Try.f14]
  refine run_for a.length (fun i E H' => H' = H ∧ E 0 = .slice b off a.length 1 cap ∧ E 5 = .int .i64 i ∧ E 1 = .int .i64 (k + i) ∧ ∀ j (h : j < i) (h' : j < a.length), a[j] = k + j) 0 (Nat.zero_le _) ?_ ?_
  · simp (disch := first | omega | (simp only [n_alloc, n_put, n_kill]; omega) | (simp; done) | fail)
  · rintro i E H' hw' hi ⟨rfl, h0, h5, h1, hc⟩
    simp (disch := first | omega | (simp only [n_alloc, n_put, n_kill]; omega) | (simp; done) | fail) [h0, h1, h5]
    refine cP (fun h => ?_) fun h => ?_
    · simp (disch := first | omega | (simp only [n_alloc, n_put, n_kill]; omega) | (simp; done) | fail) [h0, h1, h5, h, ha.int]
      refine cN (fun h' => ?_) fun h' => ?_
      · simp (disch := first | omega | (simp only [n_alloc, n_put, n_kill]; omega) | (simp; done) | fail)
        intro e
        exfalso
        apply h'
        have := congrArg (fun l => l[i]?) e
        simpa [h] using this
      · simp (disch := first | omega | (simp only [n_alloc, n_put, n_kill]; omega) | (simp; done) | fail) [h0, h1, h5, h]
        refine ⟨by omega, fun j hj hj' => ?_⟩
        rcases Nat.lt_or_ge j i with hlt | hge
        · exact hc j hlt hj'
        · obtain rfl : j = i := by omega
          exact h'
    · have : i = a.length := by omega
      subst this
      simp (disch := first | omega | (simp only [n_alloc, n_put, n_kill]; omega) | (simp; done) | fail) [h1]
      intro hne
      exfalso
      apply hne
      apply List.ext_getElem (by simp)
      intro j h1 h2
      simp [hc j h1 h1]
end Go.Proofs.Ythkmbfifiojmhaa
