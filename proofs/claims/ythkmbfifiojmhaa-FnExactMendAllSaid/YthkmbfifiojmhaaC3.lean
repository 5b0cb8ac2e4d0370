/- Is it a party? -/
import Derived.Test.YthkmbfifiojmhaaC2
set_option linter.unusedSimpArgs false
set_option linter.unusedVariables false
set_option maxRecDepth 100000
namespace Go.Proofs.Ythkmbfifiojmhaa
open Go.Abs
variable {w0 : World} {H : Heap}
/-- Compared by the first, then by the second. -/
def cmpI (a b : Int) : Int := if a < b then -1 else if b < a then 1 else 0
def cmpP (a b : Int × Int) : Int := if cmpI a.1 b.1 ≠ 0 then cmpI a.1 b.1 else cmpI a.2 b.2
def PLess (a b : Int × Int) : Prop := a.1 < b.1 ∨ a.1 = b.1 ∧ a.2 < b.2
theorem cmpP_neg {a b : Int × Int} : ¬ 0 ≤ cmpP a b ↔ PLess a b := by
  unfold cmpP cmpI PLess
  split <;> split <;> (try split) <;> (try split) <;> omega
/-- The pairs of a party. -/
def GoodP (n : Int) (ps : List (Int × Int)) : Prop :=
  (0 ≤ n ∧ n ≤ 12) ∧ ∀ i (h : i < ps.length), 0 ≤ ps[i].1 ∧ ps[i].1 < ps[i].2 ∧ ps[i].2 < n ∧ (∀ h0 : 0 < i, PLess (ps[i - 1]'(by omega)) ps[i])
theorem isNaN_ok (n : Int) : ACall Try.prog w0 93 [.int .i64 n] H fun v H' => v = .bool false ∧ H' = H := by
  refine ACall.enterW mix Try.func93 (by kernel_rfl) fun hw => ?_
  simp (disch := first | omega | (simp only [n_alloc, n_put, n_kill]; omega) | (simp; done) | fail) [Try.f93]
theorem compare_ok (a b : Int) : ACall Try.prog w0 89 [.int .i64 a, .int .i64 b] H fun v H' => v = .int .i64 (cmpI a b) ∧ H' = H := by
  refine ACall.enterW mix Try.func89 (by kernel_rfl) fun hw => ?_
  simp (disch := first | omega | (simp only [n_alloc, n_put, n_kill]; omega) | (simp; done) | fail) [Try.f89]
  refine call_of (isNaN_ok _) fun v H1 hw1 ⟨hv, he⟩ => ?_
  subst hv he
  simp (disch := first | omega | (simp only [n_alloc, n_put, n_kill]; omega) | (simp; done) | fail)
  refine call_of (isNaN_ok _) fun v H1 hw1 ⟨hv, he⟩ => ?_
  subst hv he
  simp (disch := first | omega | (simp only [n_alloc, n_put, n_kill]; omega) | (simp; done) | fail)
  refine cP (fun h => ?_) fun h => ?_
  · simp (disch := first | omega | (simp only [n_alloc, n_put, n_kill]; omega) | (simp; done) | fail) [cmpI, h]
  · simp (disch := first | omega | (simp only [n_alloc, n_put, n_kill]; omega) | (simp; done) | fail)
    refine cP (fun h' => ?_) fun h' => ?_
    · simp (disch := first | omega | (simp only [n_alloc, n_put, n_kill]; omega) | (simp; done) | fail) [cmpI, h, h']
    · simp (disch := first | omega | (simp only [n_alloc, n_put, n_kill]; omega) | (simp; done) | fail) [cmpI, h, h']
theorem or_ok (va : AV) (a b : Int) (ha : RowV H va 2 1 (ints [a, b])) : ACall Try.prog w0 88 [va] H fun v H' => v = .int .i64 (if a ≠ 0 then a else b) ∧ H' = H := by
  obtain ⟨ba, oa, ca, rfl, ha⟩ := ha
  refine ACall.enterW mix Try.func88 (by kernel_rfl) fun hw => ?_
  simp (disch := first | omega | (simp only [n_alloc, n_put, n_kill]; omega) | (simp; done) | fail) [Try.f88]
  refine run_for 2 (fun i E H' => H' = H ∧ E 6 = .slice ba oa 2 1 ca ∧ E 7 = .int .i64 2 ∧ E 3 = .int .i64 0 ∧ E 8 = .int .i64 i ∧ ∀ j (h : j < i) (h' : j < 2), [a, b][j] = 0) 0 (Nat.zero_le _) ?_ ?_
  · simp (disch := first | omega | (simp only [n_alloc, n_put, n_kill]; omega) | (simp; done) | fail)
  · rintro i E H' hw' hi ⟨rfl, h6, h7, h3, h8, hc⟩
    simp (disch := first | omega | (simp only [n_alloc, n_put, n_kill]; omega) | (simp; done) | fail) [h6, h7, h8, h3]
    refine cP (fun h => ?_) fun h => ?_
    · simp (disch := first | omega | (simp only [n_alloc, n_put, n_kill]; omega) | (simp; done) | (simp; omega) | fail) [h6, h7, h8, h3, h, ha.int]
      refine cN (fun h' => ?_) fun h' => ?_
      · simp (disch := first | omega | (simp only [n_alloc, n_put, n_kill]; omega) | (simp; done) | fail)
        have : i = 0 ∨ i = 1 := by omega
        rcases this with rfl | rfl
        · simp at h'
          simp [h']
        · have := hc 0 (by omega) (by omega)
          simp at this
          simp [this]
      · simp (disch := first | omega | (simp only [n_alloc, n_put, n_kill]; omega) | (simp; done) | fail) [h6, h7, h8, h3, h]
        refine ⟨by omega, fun j hj hj' => ?_⟩
        rcases Nat.lt_or_ge j i with hlt | hge
        · exact hc j hlt hj'
        · obtain rfl : j = i := by omega
          exact h'
    · have : i = 2 := by omega
      subst this
      simp (disch := first | omega | (simp only [n_alloc, n_put, n_kill]; omega) | (simp; done) | fail) [h3]
      have h1 := hc 0 (by omega) (by omega)
      have h2 := hc 1 (by omega) (by omega)
      simp at h1 h2
      simp [h1, h2]
theorem comparePairs_ok (a b c d : Int) : ACall Try.prog w0 73 [.agg [.int .i64 a, .int .i64 b], .agg [.int .i64 c, .int .i64 d]] H fun v H' => v = .int .i64 (cmpP (a, b) (c, d)) ∧ Ext H H' := by
  refine ACall.enterW mix Try.func73 (by kernel_rfl) fun hw => ?_
  simp (disch := first | omega | (simp only [n_alloc, n_put, n_kill]; omega) | (simp; done) | fail) [Try.f73]
  refine run_any plan73_1 (by kernel_rfl) ?_
  simp (disch := first | omega | (simp only [n_alloc, n_put, n_kill]; omega) | (simp; done) | fail) [plan73_1]
  refine call_of (compare_ok _ _) fun v H1 hw1 ⟨hv, he⟩ => ?_
  subst hv he
  simp (disch := first | omega | (simp only [n_alloc, n_put, n_kill]; omega) | (simp; done) | fail)
  refine call_of (compare_ok _ _) fun v H1 hw1 ⟨hv, he⟩ => ?_
  subst hv he
  simp (disch := first | omega | (simp only [n_alloc, n_put, n_kill]; omega) | (simp; done) | fail)
  refine build_full ?_
  simp (disch := first | omega | (simp only [n_alloc, n_put, n_kill]; omega) | (simp; done) | fail) [buildC]
  refine call_of (or_ok _ (cmpI a c) (cmpI b d) ⟨_, _, _, rfl, by have := row_new (H := (H.alloc [AV.int .i64 a, AV.int .i64 b]).alloc [AV.int .i64 c, AV.int .i64 d]) (cs := ints [cmpI a c, cmpI b d]); simpa [ints] using this⟩) fun v H1 hw1 ⟨hv, he⟩ => ?_
  subst hv he
  simp (disch := first | omega | (simp only [n_alloc, n_put, n_kill]; omega) | (simp; done) | fail) [cmpP]
theorem isParty_ok (va : AV) (n : Int) (ps : List (Int × Int)) (hl : ps.length < 2 ^ 31) (ha : PartyAt H va n ps) : ACall Try.prog w0 45 [va] H fun v H' => Ext H H' ∧ ∃ b, v = .bool b ∧ (b = true ↔ GoodP n ps) := by
  obtain ⟨ba, oa, ca, rfl, ha⟩ := ha
  refine ACall.enterW mix Try.func45 (by kernel_rfl) fun hw => ?_
  simp (disch := first | omega | (simp only [n_alloc, n_put, n_kill]; omega) | (simp; done) | fail) [Try.f45]
  refine run_for ps.length (fun i E H' => Ext H H' ∧ H'.get H.n = some (.cells [.int .i64 n, .slice ba oa ps.length 2 ca] true) ∧ H.n < H'.n ∧ E 1 = .ptr (some H.n) 0 ∧ E 6 = .slice ba oa ps.length 2 ca ∧ E 7 = .int .i64 ps.length ∧ E 8 = .int .i64 i ∧
    ∀ j (h : j < i) (h' : j < ps.length), 0 ≤ ps[j].1 ∧ ps[j].1 < ps[j].2 ∧ ps[j].2 < n ∧ (∀ h0 : 0 < j, PLess (ps[j - 1]'(by omega)) ps[j])) 0 (Nat.zero_le _) ?_ ?_
  · simp (disch := first | omega | (simp only [n_alloc, n_put, n_kill]; omega) | (simp; done) | fail)
  · rintro i E H' hw' hi ⟨he, hg, hlt, h1, h6, h7, h8, hc⟩
    simp (disch := first | omega | (simp only [n_alloc, n_put, n_kill]; omega) | (simp; done) | fail) [h1, h6, h7, h8, hg]
    refine cP (fun h => ?_) fun h => ?_
    · have hr := ha.ext hw he
      simp (disch := first | omega | (simp only [n_alloc, n_put, n_kill]; omega) | (simp; done) | fail) [h1, h6, h7, h8, hg, h, hr.pair]
      refine run_any plan45_4 (by kernel_rfl) ?_
      simp (disch := first | omega | (simp only [n_alloc, n_put, n_kill]; omega) | (simp; done) | fail) [plan45_4, h1, h6, h7, h8, hg, h]
      have stop : ∀ H2, Ext H H2 → ¬ GoodP n ps → Ext H H2 ∧ ¬ GoodP n ps := fun _ a b => ⟨a, b⟩
      have hx : Ext H ((H'.alloc [.int .i64 0, .int .i64 0]).put H'.n [.int .i64 ps[i].1, .int .i64 ps[i].2]) := by
        have := he.1
        simp (disch := first | omega | (simp only [n_alloc, n_put, n_kill]; omega) | (simp; done) | fail)
        exact he
      refine gN (fun c1 => ?_) fun c1 => ?_
      · simp (disch := first | omega | (simp only [n_alloc, n_put, n_kill]; omega) | (simp; done) | fail) [c1, h1, h6, h7, h8, hg, h]
        refine gN (fun c2 => ?_) fun c2 => ?_
        · simp (disch := first | omega | (simp only [n_alloc, n_put, n_kill]; omega) | (simp; done) | fail) [c1, c2, h1, h6, h7, h8, hg, h]
          refine gN (fun c3 => ?_) fun c3 => ?_
          · simp (disch := first | omega | (simp only [n_alloc, n_put, n_kill]; omega) | (simp; done) | fail) [c1, c2, c3, h1, h6, h7, h8, hg, h]
            refine gP (fun c4 => ?_) fun c4 => ?_
            · have hr' := ha.ext hw hx
              have e1 : ((i : Int) - 1).toNat = i - 1 := by omega
              simp (disch := first | omega | (simp only [n_alloc, n_put, n_kill]; omega) | (simp; done) | fail) [c1, c2, c3, c4, h1, h6, h7, h8, hg, h, e1, hr'.pair]
              refine call_of (comparePairs_ok _ _ _ _) fun v H1 hw1 ⟨hv, he1⟩ => ?_
              subst hv
              have he2 : Ext H H1 := hx.trans he1
              have hg1 : H1.get H.n = some (.cells [.int .i64 n, .slice ba oa ps.length 2 ca] true) := by
                rw [he1.2 H.n (by (first | omega | (simp only [n_alloc, n_put, n_kill]; omega)))]
                simp (disch := first | omega | (simp only [n_alloc, n_put, n_kill]; omega) | (simp; done) | fail) [hg]
              have hn1 : H.n < H1.n := by have := he1.1; simp only [n_alloc, n_put] at this; omega
              simp (disch := first | omega | (simp only [n_alloc, n_put, n_kill]; omega) | (simp; done) | fail) [c1, c2, c3, c4, h1, h6, h7, h8, hg1, h]
              refine cP (fun c5 => ?_) fun c5 => ?_
              · simp (disch := first | omega | (simp only [n_alloc, n_put, n_kill]; omega) | (simp; done) | fail)
                refine stop _ he2 fun g => ?_
                have := (g.2 i h).2.2.2 c4
                exact cmpP_neg.2 this c5
              · simp (disch := first | omega | (simp only [n_alloc, n_put, n_kill]; omega) | (simp; done) | fail) [h1, h6, h7, h8, hg1, h]
                refine ⟨he2, hn1, fun j hj hj' => ?_⟩
                rcases Nat.lt_or_ge j i with hlt | hge
                · exact hc j hlt hj'
                · obtain rfl : j = i := by omega
                  exact ⟨by omega, by omega, by omega, fun _ => cmpP_neg.1 c5⟩
            · simp (disch := first | omega | (simp only [n_alloc, n_put, n_kill]; omega) | (simp; done) | fail) [c1, c2, c3, c4, h1, h6, h7, h8, hg, h]
              refine ⟨he, by omega, fun j hj hj' => ?_⟩
              obtain rfl : j = i := by omega
              exact ⟨by omega, by omega, by omega, fun h0 => absurd h0 c4⟩
          · simp (disch := first | omega | (simp only [n_alloc, n_put, n_kill]; omega) | (simp; done) | fail) [c1, c2, c3, h1, h6, h7, h8, hg, h]
            exact stop _ he fun g => by have := (g.2 i h).2.2.1; omega
        · simp (disch := first | omega | (simp only [n_alloc, n_put, n_kill]; omega) | (simp; done) | fail) [c1, c2, h1, h6, h7, h8, hg, h]
          exact stop _ he fun g => by have := (g.2 i h).2.1; omega
      · simp (disch := first | omega | (simp only [n_alloc, n_put, n_kill]; omega) | (simp; done) | fail) [c1, h1, h6, h7, h8, hg, h]
        exact stop _ he fun g => by have := (g.2 i h).1; omega
    · have : i = ps.length := by omega
      subst this
      simp (disch := first | omega | (simp only [n_alloc, n_put, n_kill]; omega) | (simp; done) | fail) [h1, hg]
      refine call_of (areCrowd_ok _) fun v H1 hw1 ⟨hv, he1⟩ => ?_
      subst hv he1
      simp (disch := first | omega | (simp only [n_alloc, n_put, n_kill]; omega) | (simp; done) | fail)
      refine ⟨he, ?_⟩
      by_cases g : 0 ≤ n ∧ n ≤ 12
      · exact .inr ⟨g, g, fun j hj => hc j hj hj⟩
      · exact .inl ⟨fun a => by omega, fun q => g q.1⟩
end Go.Proofs.Ythkmbfifiojmhaa
