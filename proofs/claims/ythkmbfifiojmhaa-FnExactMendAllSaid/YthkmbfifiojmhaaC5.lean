/- Is it a party, by the reference. -/
import Derived.Test.YthkmbfifiojmhaaC4
set_option linter.unusedSimpArgs false
set_option linter.unusedVariables false
set_option maxRecDepth 100000
namespace Go.Proofs.Ythkmbfifiojmhaa
open Go.Abs
variable {w0 : World} {H : Heap}
/-- Twice a pair's place among all pairs. -/
def rank2 (n : Int) (p : Int × Int) : Int := p.1 * (2 * n - p.1 - 1) + 2 * (p.2 - p.1 - 1)
theorem rank2_step {n : Int} {p q : Int × Int} (hp : 0 ≤ p.1 ∧ p.1 < p.2 ∧ p.2 < n) (hq : 0 ≤ q.1 ∧ q.1 < q.2 ∧ q.2 < n) (h : PLess p q) : rank2 n p + 2 ≤ rank2 n q := by
  obtain ⟨a, b⟩ := p
  obtain ⟨c, d⟩ := q
  simp only [rank2, PLess] at *
  rcases h with h | ⟨rfl, h⟩
  · have h1 : 0 ≤ (c - a - 1) * (2 * n - c - a - 2) := Int.mul_nonneg (by omega) (by omega)
    have h2 : c * (2 * n - c - 1) - (a + 1) * (2 * n - (a + 1) - 1) = (c - a - 1) * (2 * n - c - a - 2) := by grind
    have h3 : (a + 1) * (2 * n - (a + 1) - 1) = a * (2 * n - a - 1) + 2 * (n - a - 1) := by grind
    omega
  · omega
theorem rank2_nonneg {n : Int} {p : Int × Int} (hp : 0 ≤ p.1 ∧ p.1 < p.2 ∧ p.2 < n) : 0 ≤ rank2 n p := by
  obtain ⟨a, b⟩ := p
  simp only [rank2] at *
  have h1 : 0 ≤ a * (2 * n - a - 1) := Int.mul_nonneg (by omega) (by omega)
  omega
theorem goodP_len {n : Int} {ps : List (Int × Int)} (h : GoodP n ps) : 2 * (ps.length : Int) ≤ n * (n - 1) := by
  rcases Nat.eq_zero_or_pos ps.length with h0 | h0
  · have := h.1
    have h1 : 0 ≤ n * (n - 1) := by
      rcases Int.lt_or_le 0 n with h2 | h2
      · exact Int.mul_nonneg (by omega) (by omega)
      · have : n = 0 := by omega
        subst this; simp
    omega
  · have key : ∀ i (hi : i < ps.length), 2 * (i : Int) ≤ rank2 n ps[i] := by
      intro i
      induction i with
      | zero =>
        intro hi
        have := h.2 0 hi
        have h1 := rank2_nonneg ⟨this.1, this.2.1, this.2.2.1⟩
        simpa using h1
      | succ i ih =>
        intro hi
        have h1 := ih (by omega)
        have h2 := h.2 i (by omega)
        have h3 := h.2 (i + 1) hi
        have h4 := rank2_step ⟨h2.1, h2.2.1, h2.2.2.1⟩ ⟨h3.1, h3.2.1, h3.2.2.1⟩ (h3.2.2.2 (by omega))
        omega
    have h1 := key (ps.length - 1) (by omega)
    have h2 := h.2 (ps.length - 1) (by omega)
    generalize ps[ps.length - 1] = p at *
    obtain ⟨a, b⟩ := p
    simp only [rank2] at h1 h2
    have h3 : 0 ≤ (n - 1 - a) * (n - 2 - a) := Int.mul_nonneg (by omega) (by omega)
    have h4 : n * (n - 1) = a * (2 * n - a - 1) + 2 * (n - a - 1) + (n - 1 - a) * (n - 2 - a) := by grind
    omega
theorem paGood_ok (va : AV) (n : Int) (ps : List (Int × Int)) (hl : ps.length < 2 ^ 31) (ha : PartyAt H va n ps) : ACall Try.prog w0 61 [va] H fun v H' => Ext H H' ∧ ∃ b, v = .bool b ∧ (b = true ↔ GoodP n ps) := by
  obtain ⟨ba, oa, ca, rfl, ha⟩ := ha
  refine ACall.enterW mix Try.func61 (by kernel_rfl) fun hw => ?_
  simp (disch := first | omega | (simp only [n_alloc, n_put, n_kill]; omega) | (simp; done) | fail) [Try.f61]
  refine call_of (paPeople_ok _) fun v H1 hw1 ⟨hv, he1⟩ => ?_
  generalize hr0 : decide (0 ≤ n ∧ n ≤ 12) = r0 at hv
  subst hv he1
  simp (disch := first | omega | (simp only [n_alloc, n_put, n_kill]; omega) | (simp; done) | fail)
  refine gB (fun h => ?_) fun h => ?_
  · have hn : 0 ≤ n ∧ n ≤ 12 := by rw [h] at hr0; simpa using hr0
    have hmul : 0 ≤ n * (n - 1) ∧ n * (n - 1) ≤ 132 := by
      have : n = 0 ∨ n = 1 ∨ n = 2 ∨ n = 3 ∨ n = 4 ∨ n = 5 ∨ n = 6 ∨ n = 7 ∨ n = 8 ∨ n = 9 ∨ n = 10 ∨ n = 11 ∨ n = 12 := by omega
      rcases this with rfl | rfl | rfl | rfl | rfl | rfl | rfl | rfl | rfl | rfl | rfl | rfl | rfl <;> omega
    have hdiv : (n * (n - 1)).tdiv 2 = n * (n - 1) / 2 := Int.tdiv_eq_ediv_of_nonneg hmul.1
    simp (disch := first | omega | (simp only [n_alloc, n_put, n_kill]; omega) | (simp; done) | fail) [h, hdiv]
    refine cP (fun h' => ?_) fun h' => ?_
    · simp (disch := first | omega | (simp only [n_alloc, n_put, n_kill]; omega) | (simp; done) | fail)
      intro g
      have := goodP_len g
      omega
    · simp (disch := first | omega | (simp only [n_alloc, n_put, n_kill]; omega) | (simp; done) | fail)
      refine run_for ps.length (fun i E H' => Ext H H' ∧ H'.get H.n = some (.cells [.int .i64 n, .slice ba oa ps.length 2 ca] true) ∧ H.n < H'.n ∧ E 1 = .ptr (some H.n) 0 ∧ E 23 = .slice ba oa ps.length 2 ca ∧ E 24 = .int .i64 ps.length ∧ E 25 = .int .i64 i ∧
        ∀ j (h : j < i) (h' : j < ps.length), 0 ≤ ps[j].1 ∧ ps[j].1 < ps[j].2 ∧ ps[j].2 < n ∧ (∀ h0 : 0 < j, PLess (ps[j - 1]'(by omega)) ps[j])) 0 (Nat.zero_le _) ?_ ?_
      · simp (disch := first | omega | (simp only [n_alloc, n_put, n_kill]; omega) | (simp; done) | fail)
      · rintro i E H' hw' hi ⟨he, hg, hlt, h1, h23, h24, h25, hc⟩
        simp (disch := first | omega | (simp only [n_alloc, n_put, n_kill]; omega) | (simp; done) | fail) [h1, h23, h24, h25, hg]
        refine cP (fun g => ?_) fun g => ?_
        · have hr := ha.ext hw he
          have hx : Ext H ((H'.alloc [.int .i64 0, .int .i64 0]).put H'.n [.int .i64 ps[i].1, .int .i64 ps[i].2]) := by
            have := he.1
            simp (disch := first | omega | (simp only [n_alloc, n_put, n_kill]; omega) | (simp; done) | fail)
            exact he
          have hr' := ha.ext hw hx
          have e1 : ((i : Int) - 1).toNat = i - 1 := by omega
          simp (disch := first | omega | (simp only [n_alloc, n_put, n_kill]; omega) | (simp; done) | fail) [h1, h23, h24, h25, hg, g, hr.pair]
          refine run_any plan61_6 (by kernel_rfl) ?_
          simp (disch := first | omega | (simp only [n_alloc, n_put, n_kill]; omega) | (simp; done) | fail) [plan61_6, h1, h23, h24, h25, hg, g]
          refine call_of (l1In_ok _ _ _) fun v H1 hw1 ⟨hv, he1⟩ => ?_
          generalize hr1 : decide (0 ≤ ps[i].1 ∧ ps[i].1 ≤ n - 1) = r1 at hv
          subst hv he1
          simp (disch := first | omega | (simp only [n_alloc, n_put, n_kill]; omega) | (simp; done) | fail) [h1, h23, h24, h25, hg, g]
          refine gB (fun c1 => ?_) fun c1 => ?_
          · have b1 : 0 ≤ ps[i].1 ∧ ps[i].1 ≤ n - 1 := by rw [c1] at hr1; simpa using hr1
            simp (disch := first | omega | (simp only [n_alloc, n_put, n_kill]; omega) | (simp; done) | fail) [c1, h1, h23, h24, h25, hg, g]
            refine call_of (l1In_ok _ _ _) fun v H1 hw1 ⟨hv, he1⟩ => ?_
            generalize hr2 : decide (ps[i].1 + 1 ≤ ps[i].2 ∧ ps[i].2 ≤ n - 1) = r2 at hv
            subst hv he1
            simp (disch := first | omega | (simp only [n_alloc, n_put, n_kill]; omega) | (simp; done) | fail) [c1, h1, h23, h24, h25, hg, g]
            refine gB (fun c2 => ?_) fun c2 => ?_
            · have b2 : ps[i].1 + 1 ≤ ps[i].2 ∧ ps[i].2 ≤ n - 1 := by rw [c2] at hr2; simpa using hr2
              simp (disch := first | omega | (simp only [n_alloc, n_put, n_kill]; omega) | (simp; done) | fail) [c1, c2, h1, h23, h24, h25, hg, g]
              refine gP (fun c3 => ?_) fun c3 => ?_
              · simp (disch := first | omega | (simp only [n_alloc, n_put, n_kill]; omega) | (simp; done) | fail) [c1, c2, c3, h1, h23, h24, h25, hg, g, e1, hr'.pair]
                refine call_of (paLess_ok _ _ _ _) fun v H1 hw1 ⟨he1, r3, hv, hr3⟩ => ?_
                subst hv
                have he2 : Ext H H1 := hx.trans he1
                have hg1 : H1.get H.n = some (.cells [.int .i64 n, .slice ba oa ps.length 2 ca] true) := by
                  rw [he1.2 H.n (by (first | omega | (simp only [n_alloc, n_put, n_kill]; omega)))]
                  simp (disch := first | omega | (simp only [n_alloc, n_put, n_kill]; omega) | (simp; done) | fail) [hg]
                have hn1 : H.n < H1.n := by have := he1.1; simp only [n_alloc, n_put] at this; omega
                simp (disch := first | omega | (simp only [n_alloc, n_put, n_kill]; omega) | (simp; done) | fail) [c1, c2, c3, h1, h23, h24, h25, hg1, g]
                refine cNB (fun c5 => ?_) fun c5 => ?_
                · simp (disch := first | omega | (simp only [n_alloc, n_put, n_kill]; omega) | (simp; done) | fail)
                  refine ⟨he2, fun g' => ?_⟩
                  have := hr3.2 ((g'.2 i g).2.2.2 c3)
                  rw [c5] at this
                  cases this
                · simp (disch := first | omega | (simp only [n_alloc, n_put, n_kill]; omega) | (simp; done) | fail) [h1, h23, h24, h25, hg1, g]
                  refine ⟨he2, hn1, fun j hj hj' => ?_⟩
                  rcases Nat.lt_or_ge j i with hlt | hge
                  · exact hc j hlt hj'
                  · obtain rfl : j = i := by omega
                    exact ⟨by omega, by omega, by omega, fun _ => hr3.1 c5⟩
              · simp (disch := first | omega | (simp only [n_alloc, n_put, n_kill]; omega) | (simp; done) | fail) [c1, c2, c3, h1, h23, h24, h25, hg, g]
                refine ⟨he, by omega, fun j hj hj' => ?_⟩
                obtain rfl : j = i := by omega
                exact ⟨by omega, by omega, by omega, fun h0 => absurd h0 c3⟩
            · simp (disch := first | omega | (simp only [n_alloc, n_put, n_kill]; omega) | (simp; done) | fail) [c1, c2, h1, h23, h24, h25, hg, g]
              refine ⟨he, fun g' => ?_⟩
              have := g'.2 i g
              rw [c2] at hr2
              simp at hr2
              omega
          · simp (disch := first | omega | (simp only [n_alloc, n_put, n_kill]; omega) | (simp; done) | fail) [c1, h1, h23, h24, h25, hg, g]
            refine ⟨he, fun g' => ?_⟩
            have := g'.2 i g
            rw [c1] at hr1
            simp at hr1
            omega
        · simp (disch := first | omega | (simp only [n_alloc, n_put, n_kill]; omega) | (simp; done) | fail)
          exact ⟨he, hn, fun j hj => hc j (by omega) hj⟩
  · simp (disch := first | omega | (simp only [n_alloc, n_put, n_kill]; omega) | (simp; done) | fail) [h]
    intro g
    rw [h] at hr0
    have := g.1
    simp at hr0
    omega
end Go.Proofs.Ythkmbfifiojmhaa
