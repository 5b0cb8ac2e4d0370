/- The reference's helpers. -/
import Derived.Test.YthkmbfifiojmhaaC3
set_option linter.unusedSimpArgs false
set_option linter.unusedVariables false
set_option maxRecDepth 100000
namespace Go.Proofs.Ythkmbfifiojmhaa
open Go.Abs
variable {w0 : World} {H : Heap}
theorem l1In_ok (n lo hi : Int) : ACall Try.prog w0 58 [.int .i64 n, .int .i64 lo, .int .i64 hi] H fun v H' => v = .bool (decide (lo ≤ n ∧ n ≤ hi)) ∧ H' = H := by
  refine ACall.enterW mix Try.func58 (by kernel_rfl) fun hw => ?_
  simp (disch := first | omega | (simp only [n_alloc, n_put, n_kill]; omega) | (simp; done) | fail) [Try.f58]
  refine gP (fun h => ?_) fun h => ?_
  · simp (disch := first | omega | (simp only [n_alloc, n_put, n_kill]; omega) | (simp; done) | fail) [h]
  · simp (disch := first | omega | (simp only [n_alloc, n_put, n_kill]; omega) | (simp; done) | fail) [h]
theorem paPeople_ok (n : Int) : ACall Try.prog w0 81 [.int .i64 n] H fun v H' => v = .bool (decide (0 ≤ n ∧ n ≤ 12)) ∧ H' = H := by
  refine ACall.enterW mix Try.func81 (by kernel_rfl) fun hw => ?_
  simp (disch := first | omega | (simp only [n_alloc, n_put, n_kill]; omega) | (simp; done) | fail) [Try.f81]
  refine call_of (l1In_ok _ _ _) fun v H' hw ⟨hv, he⟩ => ?_
  subst hv he
  simp (disch := first | omega | (simp only [n_alloc, n_put, n_kill]; omega) | (simp; done) | fail)
theorem paLess_ok (a b c d : Int) : ACall Try.prog w0 82 [.agg [.int .i64 a, .int .i64 b], .agg [.int .i64 c, .int .i64 d]] H fun v H' => Ext H H' ∧ ∃ r, v = .bool r ∧ (r = true ↔ PLess (a, b) (c, d)) := by
  refine ACall.enterW mix Try.func82 (by kernel_rfl) fun hw => ?_
  simp (disch := first | omega | (simp only [n_alloc, n_put, n_kill]; omega) | (simp; done) | fail) [Try.f82]
  refine gN (fun h => ?_) fun h => ?_
  · simp (disch := first | omega | (simp only [n_alloc, n_put, n_kill]; omega) | (simp; done) | fail) [h]
    refine gP (fun h' => ?_) fun h' => ?_
    · simp (disch := first | omega | (simp only [n_alloc, n_put, n_kill]; omega) | (simp; done) | fail) [h, h', PLess]
      omega
    · simp (disch := first | omega | (simp only [n_alloc, n_put, n_kill]; omega) | (simp; done) | fail) [h, h', PLess]
  · simp (disch := first | omega | (simp only [n_alloc, n_put, n_kill]; omega) | (simp; done) | fail) [h, PLess]
theorem l1All_ok (va : AV) (a : List Int) (lo hi : Int) (hl : a.length < 2 ^ 31) (ha : RowV H va a.length 1 (ints a)) : ACall Try.prog w0 83 [va, .int .i64 lo, .int .i64 hi] H fun v H' => v = .bool (decide (∀ x ∈ a, lo ≤ x ∧ x ≤ hi)) ∧ H' = H := by
  obtain ⟨ba, oa, ca, rfl, ha⟩ := ha
  refine ACall.enterW mix Try.func83 (by kernel_rfl) fun hw => ?_
  simp (disch := first | omega | (simp only [n_alloc, n_put, n_kill]; omega) | (simp; done) | fail) [Try.f83]
  refine run_for a.length (fun i E H' => H' = H ∧ E 1 = .int .i64 lo ∧ E 2 = .int .i64 hi ∧ E 9 = .slice ba oa a.length 1 ca ∧ E 10 = .int .i64 a.length ∧ E 11 = .int .i64 i ∧ ∀ j (h : j < i) (h' : j < a.length), lo ≤ a[j] ∧ a[j] ≤ hi) 0 (Nat.zero_le _) ?_ ?_
  · simp (disch := first | omega | (simp only [n_alloc, n_put, n_kill]; omega) | (simp; done) | fail)
  · rintro i E H' hw' hi' ⟨rfl, h1, h2, h9, h10, h11, hc⟩
    simp (disch := first | omega | (simp only [n_alloc, n_put, n_kill]; omega) | (simp; done) | fail) [h1, h2, h9, h10, h11]
    refine cP (fun h => ?_) fun h => ?_
    · simp (disch := first | omega | (simp only [n_alloc, n_put, n_kill]; omega) | (simp; done) | fail) [h1, h2, h9, h10, h11, h, ha.int]
      refine call_of (l1In_ok _ _ _) fun v H1 hw1 ⟨hv, he1⟩ => ?_
      subst hv he1
      simp (disch := first | omega | (simp only [n_alloc, n_put, n_kill]; omega) | (simp; done) | fail) [h1, h2, h9, h10, h11]
      refine cB (fun h' => ?_) fun h' => ?_
      · simp (disch := first | omega | (simp only [n_alloc, n_put, n_kill]; omega) | (simp; done) | fail)
        refine ⟨_, List.getElem_mem h, fun h1 => ?_⟩
        simp at h'
        omega
      · simp (disch := first | omega | (simp only [n_alloc, n_put, n_kill]; omega) | (simp; done) | fail) [h1, h2, h9, h10, h11, h]
        intro j hj hj'
        rcases Nat.lt_or_ge j i with hlt | hge
        · exact hc j hlt hj'
        · obtain rfl : j = i := by omega
          simpa using h'
    · have : i = a.length := by omega
      subst this
      simp (disch := first | omega | (simp only [n_alloc, n_put, n_kill]; omega) | (simp; done) | fail)
      intro x hx
      obtain ⟨j, hj, rfl⟩ := List.getElem_of_mem hx
      exact hc j hj hj
theorem l1Has_ok (va : AV) (a : List Int) (n : Int) (hl : a.length < 2 ^ 31) (ha : RowV H va a.length 1 (ints a)) : ACall Try.prog w0 77 [va, .int .i64 n] H fun v H' => v = .bool (decide (n ∈ a)) ∧ H' = H := by
  obtain ⟨ba, oa, ca, rfl, ha⟩ := ha
  refine ACall.enterW mix Try.func77 (by kernel_rfl) fun hw => ?_
  simp (disch := first | omega | (simp only [n_alloc, n_put, n_kill]; omega) | (simp; done) | fail) [Try.f77]
  refine run_for a.length (fun i E H' => H' = H ∧ E 1 = .int .i64 n ∧ E 7 = .slice ba oa a.length 1 ca ∧ E 8 = .int .i64 a.length ∧ E 9 = .int .i64 i ∧ ∀ j (h : j < i) (h' : j < a.length), a[j] ≠ n) 0 (Nat.zero_le _) ?_ ?_
  · simp (disch := first | omega | (simp only [n_alloc, n_put, n_kill]; omega) | (simp; done) | fail)
  · rintro i E H' hw' hi' ⟨rfl, h1, h7, h8, h9, hc⟩
    simp (disch := first | omega | (simp only [n_alloc, n_put, n_kill]; omega) | (simp; done) | fail) [h1, h7, h8, h9]
    refine cP (fun h => ?_) fun h => ?_
    · simp (disch := first | omega | (simp only [n_alloc, n_put, n_kill]; omega) | (simp; done) | fail) [h1, h7, h8, h9, h, ha.int]
      refine cP (fun h' => ?_) fun h' => ?_
      · simp (disch := first | omega | (simp only [n_alloc, n_put, n_kill]; omega) | (simp; done) | fail)
        rw [← h']
        exact List.getElem_mem h
      · simp (disch := first | omega | (simp only [n_alloc, n_put, n_kill]; omega) | (simp; done) | fail) [h1, h7, h8, h9, h]
        intro j hj hj'
        rcases Nat.lt_or_ge j i with hlt | hge
        · exact hc j hlt hj'
        · obtain rfl : j = i := by omega
          exact h'
    · have : i = a.length := by omega
      subst this
      simp (disch := first | omega | (simp only [n_alloc, n_put, n_kill]; omega) | (simp; done) | fail)
      intro hx
      obtain ⟨j, hj, e⟩ := List.getElem_of_mem hx
      exact hc j hj hj e
/-- Each of n people once. -/
def Perm (n : Int) (l : List Int) : Prop := (l.length : Int) = n ∧ (∀ x ∈ l, 0 ≤ x ∧ x ≤ n - 1) ∧ l.Nodup
theorem grOrder_ok (va : AV) (a : List Int) (n : Int) (hn : 0 ≤ n ∧ n ≤ 12) (hl : a.length < 2 ^ 31) (ha : RowV H va a.length 1 (ints a)) : ACall Try.prog w0 62 [.int .i64 n, va] H fun v H' => H' = H ∧ ∃ r, v = .bool r ∧ (r = true ↔ Perm n a) := by
  obtain ⟨ba, oa, ca, rfl, ha⟩ := ha
  refine ACall.enterW mix Try.func62 (by kernel_rfl) fun hw => ?_
  simp (disch := first | omega | (simp only [n_alloc, n_put, n_kill]; omega) | (simp; done) | fail) [Try.f62]
  refine gP (fun h => ?_) fun h => ?_
  · simp (disch := first | omega | (simp only [n_alloc, n_put, n_kill]; omega) | (simp; done) | fail) [h]
    refine call_of (l1All_ok _ a 0 (n - 1) hl ⟨_, _, _, rfl, ha⟩) fun v H1 hw1 ⟨hv, he1⟩ => ?_
    subst hv he1
    simp (disch := first | omega | (simp only [n_alloc, n_put, n_kill]; omega) | (simp; done) | fail) [h]
    refine cB (fun h' => ?_) fun h' => ?_
    · simp (disch := first | omega | (simp only [n_alloc, n_put, n_kill]; omega) | (simp; done) | fail)
      intro p
      obtain ⟨x, h1, h2⟩ : ∃ x, x ∈ a ∧ ¬ (0 ≤ x ∧ x ≤ n - 1) := by simpa using h'
      exact h2 (p.2.1 x h1)
    · have hall : ∀ x ∈ a, 0 ≤ x ∧ x ≤ n - 1 := by simpa using h'
      simp (disch := first | omega | (simp only [n_alloc, n_put, n_kill]; omega) | (simp; done) | fail)
      refine run_for a.length (fun i E H' => H' = H1 ∧ E 1 = .slice ba oa a.length 1 ca ∧ E 18 = .slice ba oa a.length 1 ca ∧ E 19 = .int .i64 a.length ∧ E 20 = .int .i64 i ∧ (a.take i).Nodup) 0 (Nat.zero_le _) ?_ ?_
      · simp (disch := first | omega | (simp only [n_alloc, n_put, n_kill]; omega) | (simp; done) | fail)
      · rintro i E H' hw' hi' ⟨rfl, h1, h18, h19, h20, hc⟩
        simp (disch := first | omega | (simp only [n_alloc, n_put, n_kill]; omega) | (simp; done) | fail) [h1, h18, h19, h20]
        refine cP (fun g => ?_) fun g => ?_
        · simp (disch := first | omega | (simp only [n_alloc, n_put, n_kill]; omega) | (simp; done) | fail) [h1, h18, h19, h20, g, ha.int]
          have ht : RowV H' (.slice ba oa i 1 ca) (a.take i).length 1 (ints (a.take i)) := by
            have e : (a.take i).length = i := by simp; omega
            rw [e]
            refine ⟨_, _, _, rfl, ?_⟩
            have := ha.take i
            simpa [ints, List.map_take] using this
          have hstep : (a.take (i + 1)).Nodup ↔ (a.take i).Nodup ∧ a[i] ∉ a.take i := by
            rw [List.take_succ_eq_append_getElem g, List.nodup_append]
            simp
            intro _
            exact ⟨fun q r => q _ r rfl, fun q x hx e => q (e ▸ hx)⟩
          refine call_of (l1Has_ok _ (a.take i) a[i] (by simp; omega) ht) fun v H1 hw1 ⟨hv, he1⟩ => ?_
          subst hv he1
          simp (disch := first | omega | (simp only [n_alloc, n_put, n_kill]; omega) | (simp; done) | fail) [h1, h18, h19, h20]
          refine cP (fun g' => ?_) fun g' => ?_
          · simp (disch := first | omega | (simp only [n_alloc, n_put, n_kill]; omega) | (simp; done) | fail)
            intro p
            have := (p.2.2.sublist (List.take_sublist (i + 1) a))
            exact (hstep.1 this).2 g'
          · simp (disch := first | omega | (simp only [n_alloc, n_put, n_kill]; omega) | (simp; done) | fail) [h1, h18, h19, h20, g]
            exact hstep.2 ⟨hc, g'⟩
        · have : i = a.length := by omega
          subst this
          simp (disch := first | omega | (simp only [n_alloc, n_put, n_kill]; omega) | (simp; done) | fail)
          simp at hc
          exact ⟨h, hall, hc⟩
  · simp (disch := first | omega | (simp only [n_alloc, n_put, n_kill]; omega) | (simp; done) | fail) [h]
    exact fun p => h p.1
theorem l1Own_ok (va : AV) (a : List Int) (hl : a.length < 2 ^ 31) (ha : RowV H va a.length 1 (ints a)) : ACall Try.prog w0 32 [va] H fun v H' => Ext H H' ∧ OwnV H.n H' v a.length 1 (ints a) := by
  obtain ⟨ba, oa, ca, rfl, ha⟩ := ha
  refine ACall.enterW mix Try.func32 (by kernel_rfl) fun hw => ?_
  simp (disch := first | omega | (simp only [n_alloc, n_put, n_kill]; omega) | (simp; done) | fail) [Try.f32]
  refine build_full ?_
  simp (disch := first | omega | (simp only [n_alloc, n_put, n_kill]; omega) | (simp; done) | fail) [buildC]
  have hO := OwnAt.new (n0 := H.n) (H := H) (Nat.le_refl _) (cs := []) (len := 0) (sz := 1) rfl
  refine append_ok (ints a) hO (by (first | omega | (simp only [n_alloc, n_put, n_kill]; omega))) (by simp (disch := first | omega | (simp only [n_alloc, n_put, n_kill]; omega) | (simp; done) | fail); omega) (by simp (disch := first | omega | (simp only [n_alloc, n_put, n_kill]; omega) | (simp; done) | fail)) (by omega) (ha.ext hw (by simp (disch := first | omega | (simp only [n_alloc, n_put, n_kill]; omega) | (simp; done) | fail))) (by simp) (by simp [ints]) (by omega) fun b' off' cap' H2 h1 h2 h3 => ?_
  simp (disch := first | omega | (simp only [n_alloc, n_put, n_kill]; omega) | (simp; done) | fail)
  exact ⟨h2.ext (H0 := H) (by simp (disch := first | omega | (simp only [n_alloc, n_put, n_kill]; omega) | (simp; done) | fail)) (by rintro _ ⟨⟩; omega), by simpa using h1.v⟩
end Go.Proofs.Ythkmbfifiojmhaa
