/- Is it a party? By the program, by the reference. -/
import Derived.Test.YthkmbfifiojmhaaT1
set_option linter.unusedSimpArgs false
set_option linter.unusedVariables false
set_option maxRecDepth 100000
namespace Go.Proofs.Ythkmbfifiojmhaa
open Go.Abs
variable {w0 : World} {H : Heap}
/-- Compared by the first, then by the second. -/
def cmpI (a b : Int) : Int := if a < b then -1 else if b < a then 1 else 0
def cmpP (a b : Int × Int) : Int := if cmpI a.1 b.1 ≠ 0 then cmpI a.1 b.1 else cmpI a.2 b.2
def PLess (a b : Int × Int) : Prop := a.1 < b.1 ∨ a.1 = b.1 ∧ a.2 < b.2
theorem cmpP_neg {a b : Int × Int} : ¬ 0 ≤ cmpP a b ↔ PLess a b := by
  unfold cmpP cmpI PLess
  split <;> split <;> (try split) <;> (try split) <;> omega
/-- The pairs of a party. -/
def GoodP (n : Int) (ps : List (Int × Int)) : Prop :=
  (0 ≤ n ∧ n ≤ 12) ∧ ∀ i (h : i < ps.length), 0 ≤ ps[i].1 ∧ ps[i].1 < ps[i].2 ∧ ps[i].2 < n ∧ (∀ h0 : 0 < i, PLess (ps[i - 1]'(by omega)) ps[i])
theorem isNaN_ok (n : Int) : PCall Try.prog 93 [.int .i64 n] fun v => v = .bool false := by
  refine PCall.run mix Try.func93 (by kernel_rfl) fun w0 H hw => ?_
  simp (disch := first | omega | (simp only [n_alloc, n_put, n_kill, n_allocT, n_tabH, n_less]; omega) | (simp; done) | fail) [Try.f93]
  exact Done.flat (Ext.refl _) rfl rfl
theorem compare_ok (a b : Int) : PCall Try.prog 89 [.int .i64 a, .int .i64 b] fun v => v = .int .i64 (cmpI a b) := by
  refine PCall.run mix Try.func89 (by kernel_rfl) fun w0 H hw => ?_
  simp (disch := first | omega | (simp only [n_alloc, n_put, n_kill, n_allocT, n_tabH, n_less]; omega) | (simp; done) | fail) [Try.f89]
  refine run_pure (isNaN_ok _) fun v hv => ?_
  subst hv
  simp (disch := first | omega | (simp only [n_alloc, n_put, n_kill, n_allocT, n_tabH, n_less]; omega) | (simp; done) | fail)
  refine run_pure (isNaN_ok _) fun v hv => ?_
  subst hv
  simp (disch := first | omega | (simp only [n_alloc, n_put, n_kill, n_allocT, n_tabH, n_less]; omega) | (simp; done) | fail)
  refine cP (fun h => ?_) fun h => ?_
  · simp (disch := first | omega | (simp only [n_alloc, n_put, n_kill, n_allocT, n_tabH, n_less]; omega) | (simp; done) | fail)
    exact Done.flat (Ext.refl _) rfl (by simp [cmpI, h])
  · simp (disch := first | omega | (simp only [n_alloc, n_put, n_kill, n_allocT, n_tabH, n_less]; omega) | (simp; done) | fail)
    refine cP (fun h' => ?_) fun h' => ?_
    · simp (disch := first | omega | (simp only [n_alloc, n_put, n_kill, n_allocT, n_tabH, n_less]; omega) | (simp; done) | fail)
      exact Done.flat (Ext.refl _) rfl (by simp [cmpI, h, h'])
    · simp (disch := first | omega | (simp only [n_alloc, n_put, n_kill, n_allocT, n_tabH, n_less]; omega) | (simp; done) | fail)
      exact Done.flat (Ext.refl _) rfl (by simp [cmpI, h, h'])
theorem or_ok (a b : Int) : PCall Try.prog 88 [.lst none 2 1 [.int .i64 a, .int .i64 b]] fun v => v = .int .i64 (if a ≠ 0 then a else b) := by
  refine PCall.run mix Try.func88 (by kernel_rfl) fun w0 H hw => ?_
  simp (disch := first | omega | (simp only [n_alloc, n_put, n_kill, n_allocT, n_tabH, n_less]; omega) | (simp; done) | fail) [Try.f88]
  refine run_for 2 (fun i E H' => H' = H ∧ E 6 = .lst none 2 1 [.int .i64 a, .int .i64 b] ∧ E 7 = .int .i64 2 ∧ E 3 = .int .i64 0 ∧ E 8 = .int .i64 i ∧ ∀ j (h : j < i) (h' : j < 2), [a, b][j] = 0) 0 (Nat.zero_le _) ?_ ?_
  · simp (disch := first | omega | (simp only [n_alloc, n_put, n_kill, n_allocT, n_tabH, n_less]; omega) | (simp; done) | fail)
  · rintro i E H' hw' hi ⟨rfl, h6, h7, h3, h8, hc⟩
    have : i = 0 ∨ i = 1 ∨ i = 2 := by omega
    rcases this with rfl | rfl | rfl
    · simp (disch := first | omega | (simp only [n_alloc, n_put, n_kill, n_allocT, n_tabH, n_less]; omega) | (simp; done) | fail) [h6, h7, h8, h3]
      refine cN (fun h' => ?_) fun h' => ?_
      · simp (disch := first | omega | (simp only [n_alloc, n_put, n_kill, n_allocT, n_tabH, n_less]; omega) | (simp; done) | fail)
        exact Done.flat (Ext.refl _) rfl (by simp [h'])
      · simp (disch := first | omega | (simp only [n_alloc, n_put, n_kill, n_allocT, n_tabH, n_less]; omega) | (simp; done) | fail) [h6, h7, h8, h3]
        exact h'
    · have h0 := hc 0 (by omega) (by omega)
      simp at h0
      simp (disch := first | omega | (simp only [n_alloc, n_put, n_kill, n_allocT, n_tabH, n_less]; omega) | (simp; done) | fail) [h6, h7, h8, h3]
      refine cN (fun h' => ?_) fun h' => ?_
      · simp (disch := first | omega | (simp only [n_alloc, n_put, n_kill, n_allocT, n_tabH, n_less]; omega) | (simp; done) | fail)
        exact Done.flat (Ext.refl _) rfl (by simp [h0])
      · simp (disch := first | omega | (simp only [n_alloc, n_put, n_kill, n_allocT, n_tabH, n_less]; omega) | (simp; done) | fail) [h6, h7, h8, h3]
        intro j hj _
        have : j = 0 ∨ j = 1 := by omega
        rcases this with rfl | rfl
        · exact h0
        · exact h'
    · have h0 := hc 0 (by omega) (by omega)
      have h1 := hc 1 (by omega) (by omega)
      simp at h0 h1
      simp (disch := first | omega | (simp only [n_alloc, n_put, n_kill, n_allocT, n_tabH, n_less]; omega) | (simp; done) | fail) [h6, h7, h8, h3]
      exact Done.flat (Ext.refl _) rfl (by simp [h0, h1])
theorem comparePairs_ok (a b c d : Int) : PCall Try.prog 73 [.agg [.int .i64 a, .int .i64 b], .agg [.int .i64 c, .int .i64 d]] fun v => v = .int .i64 (cmpP (a, b) (c, d)) := by
  refine PCall.run mix Try.func73 (by kernel_rfl) fun w0 H hw => ?_
  simp (disch := first | omega | (simp only [n_alloc, n_put, n_kill, n_allocT, n_tabH, n_less]; omega) | (simp; done) | fail) [Try.f73]
  refine box_f rfl ?_
  simp (disch := first | omega | (simp only [n_alloc, n_put, n_kill, n_allocT, n_tabH, n_less]; omega) | (simp; done) | fail)
  refine box_f rfl ?_
  simp (disch := first | omega | (simp only [n_alloc, n_put, n_kill, n_allocT, n_tabH, n_less]; omega) | (simp; done) | fail)
  refine run_any plan73_1 (by kernel_rfl) ?_
  simp (disch := first | omega | (simp only [n_alloc, n_put, n_kill, n_allocT, n_tabH, n_less]; omega) | (simp; done) | fail) [plan73_1]
  refine run_pure (compare_ok _ _) fun v hv => ?_
  subst hv
  simp (disch := first | omega | (simp only [n_alloc, n_put, n_kill, n_allocT, n_tabH, n_less]; omega) | (simp; done) | fail)
  refine run_pure (compare_ok _ _) fun v hv => ?_
  subst hv
  simp (disch := first | omega | (simp only [n_alloc, n_put, n_kill, n_allocT, n_tabH, n_less]; omega) | (simp; done) | fail)
  refine build_lst ?_
  simp (disch := first | omega | (simp only [n_alloc, n_put, n_kill, n_allocT, n_tabH, n_less]; omega) | (simp; done) | fail) [buildL]
  refine run_pure (or_ok _ _) fun v hv => ?_
  subst hv
  simp (disch := first | omega | (simp only [n_alloc, n_put, n_kill, n_allocT, n_tabH, n_less]; omega) | (simp; done) | fail)
  exact Done.flat (Ext.refl _) rfl (by simp [cmpP])
theorem isParty_ok (n : Int) (ps : List (Int × Int)) (hl : ps.length < 2 ^ 31) : PCall Try.prog 45 [partyT n ps] (IsB (GoodP n ps)) := by
  refine PCall.run mix Try.func45 (by kernel_rfl) fun w0 H hw => ?_
  simp (disch := first | omega | (simp only [n_alloc, n_put, n_kill, n_allocT, n_tabH, n_less]; omega) | (simp; done) | fail) [Try.f45, partyT, pairsT]
  refine box_f rfl ?_
  simp (disch := first | omega | (simp only [n_alloc, n_put, n_kill, n_allocT, n_tabH, n_less]; omega) | (simp; done) | fail)
  refine run_for ps.length (fun i E H' => Ext H H' ∧ E 1 = .fptr [.int .i64 n, pairsT ps] ∧ E 6 = pairsT ps ∧ E 7 = .int .i64 ps.length ∧ E 8 = .int .i64 i ∧
    ∀ j (h : j < i) (h' : j < ps.length), 0 ≤ ps[j].1 ∧ ps[j].1 < ps[j].2 ∧ ps[j].2 < n ∧ (∀ h0 : 0 < j, PLess (ps[j - 1]'(by omega)) ps[j])) 0 (Nat.zero_le _) ?_ ?_
  · simp (disch := first | omega | (simp only [n_alloc, n_put, n_kill, n_allocT, n_tabH, n_less]; omega) | (simp; done) | fail) [pairsT]
  · rintro i E H' hw' hi ⟨he, h1, h6, h7, h8, hc⟩
    simp (disch := first | omega | (simp only [n_alloc, n_put, n_kill, n_allocT, n_tabH, n_less]; omega) | (simp; done) | fail) [h1, h6, h7, h8, pairsT]
    refine cP (fun h => ?_) fun h => ?_
    · simp (disch := first | omega | (simp only [n_alloc, n_put, n_kill, n_allocT, n_tabH, n_less]; omega) | (simp; done) | fail) [h1, h6, h7, h8, pairsT, h]
      refine run_any plan45_4 (by kernel_rfl) ?_
      simp (disch := first | omega | (simp only [n_alloc, n_put, n_kill, n_allocT, n_tabH, n_less]; omega) | (simp; done) | fail) [plan45_4, h1, h6, h7, h8, pairsT, h]
      have hx : Ext H (H'.alloc [.int .i64 ps[i].1, .int .i64 ps[i].2]) := he.alloc _
      have stop : ¬ GoodP n ps → Done H (H'.alloc [.int .i64 ps[i].1, .int .i64 ps[i].2]) (.bool false) (IsB (GoodP n ps)) := fun g => Done.no hx g
      refine gN (fun c1 => ?_) fun c1 => ?_
      · simp (disch := first | omega | (simp only [n_alloc, n_put, n_kill, n_allocT, n_tabH, n_less]; omega) | (simp; done) | fail) [c1, h1, h6, h7, h8, pairsT, h]
        refine gN (fun c2 => ?_) fun c2 => ?_
        · simp (disch := first | omega | (simp only [n_alloc, n_put, n_kill, n_allocT, n_tabH, n_less]; omega) | (simp; done) | fail) [c1, c2, h1, h6, h7, h8, pairsT, h]
          refine gN (fun c3 => ?_) fun c3 => ?_
          · simp (disch := first | omega | (simp only [n_alloc, n_put, n_kill, n_allocT, n_tabH, n_less]; omega) | (simp; done) | fail) [c1, c2, c3, h1, h6, h7, h8, pairsT, h]
            refine gP (fun c4 => ?_) fun c4 => ?_
            · have e1 : ((i : Int) - 1).toNat = i - 1 := by omega
              simp (disch := first | omega | (simp only [n_alloc, n_put, n_kill, n_allocT, n_tabH, n_less]; omega) | (simp; done) | fail) [c1, c2, c3, c4, h1, h6, h7, h8, pairsT, h, e1]
              refine run_pure (comparePairs_ok _ _ _ _) fun v hv => ?_
              subst hv
              simp (disch := first | omega | (simp only [n_alloc, n_put, n_kill, n_allocT, n_tabH, n_less]; omega) | (simp; done) | fail) [c1, c2, c3, c4, h1, h6, h7, h8, pairsT, h]
              refine cP (fun c5 => ?_) fun c5 => ?_
              · simp (disch := first | omega | (simp only [n_alloc, n_put, n_kill, n_allocT, n_tabH, n_less]; omega) | (simp; done) | fail)
                refine stop fun g => ?_
                have := (g.2 i h).2.2.2 c4
                exact cmpP_neg.2 this c5
              · simp (disch := first | omega | (simp only [n_alloc, n_put, n_kill, n_allocT, n_tabH, n_less]; omega) | (simp; done) | fail) [h1, h6, h7, h8, pairsT, h]
                refine ⟨hx, fun j hj hj' => ?_⟩
                rcases Nat.lt_or_ge j i with hlt | hge
                · exact hc j hlt hj'
                · obtain rfl : j = i := by omega
                  exact ⟨by omega, by omega, by omega, fun _ => cmpP_neg.1 c5⟩
            · simp (disch := first | omega | (simp only [n_alloc, n_put, n_kill, n_allocT, n_tabH, n_less]; omega) | (simp; done) | fail) [c1, c2, c3, c4, h1, h6, h7, h8, pairsT, h]
              refine ⟨hx, fun j hj hj' => ?_⟩
              obtain rfl : j = i := by omega
              exact ⟨by omega, by omega, by omega, fun h0 => absurd h0 c4⟩
          · simp (disch := first | omega | (simp only [n_alloc, n_put, n_kill, n_allocT, n_tabH, n_less]; omega) | (simp; done) | fail) [c1, c2, c3, h1, h6, h7, h8, pairsT, h]
            exact stop fun g => by have := (g.2 i h).2.2.1; omega
        · simp (disch := first | omega | (simp only [n_alloc, n_put, n_kill, n_allocT, n_tabH, n_less]; omega) | (simp; done) | fail) [c1, c2, h1, h6, h7, h8, pairsT, h]
          exact stop fun g => by have := (g.2 i h).2.1; omega
      · simp (disch := first | omega | (simp only [n_alloc, n_put, n_kill, n_allocT, n_tabH, n_less]; omega) | (simp; done) | fail) [c1, h1, h6, h7, h8, pairsT, h]
        exact stop fun g => by have := (g.2 i h).1; omega
    · have : i = ps.length := by omega
      subst this
      simp (disch := first | omega | (simp only [n_alloc, n_put, n_kill, n_allocT, n_tabH, n_less]; omega) | (simp; done) | fail) [h1]
      refine run_pureB (areCrowd_ok _) fun b hb => ?_
      simp (disch := first | omega | (simp only [n_alloc, n_put, n_kill, n_allocT, n_tabH, n_less]; omega) | (simp; done) | fail)
      exact Done.iff he (hb.trans ⟨fun g => ⟨g, fun j hj => hc j hj hj⟩, fun q => q.1⟩)
theorem paLess_ok (a b c d : Int) : PCall Try.prog 82 [.agg [.int .i64 a, .int .i64 b], .agg [.int .i64 c, .int .i64 d]] (IsB (PLess (a, b) (c, d))) := by
  refine PCall.run mix Try.func82 (by kernel_rfl) fun w0 H hw => ?_
  simp (disch := first | omega | (simp only [n_alloc, n_put, n_kill, n_allocT, n_tabH, n_less]; omega) | (simp; done) | fail) [Try.f82]
  refine box_f rfl ?_
  simp (disch := first | omega | (simp only [n_alloc, n_put, n_kill, n_allocT, n_tabH, n_less]; omega) | (simp; done) | fail)
  refine box_f rfl ?_
  simp (disch := first | omega | (simp only [n_alloc, n_put, n_kill, n_allocT, n_tabH, n_less]; omega) | (simp; done) | fail)
  refine gN (fun h => ?_) fun h => ?_
  · simp (disch := first | omega | (simp only [n_alloc, n_put, n_kill, n_allocT, n_tabH, n_less]; omega) | (simp; done) | fail) [h]
    refine gP (fun h' => ?_) fun h' => ?_
    · simp (disch := first | omega | (simp only [n_alloc, n_put, n_kill, n_allocT, n_tabH, n_less]; omega) | (simp; done) | fail) [h, h']
      exact Done.iff (Ext.refl _) (by simp [PLess, h, h'])
    · simp (disch := first | omega | (simp only [n_alloc, n_put, n_kill, n_allocT, n_tabH, n_less]; omega) | (simp; done) | fail) [h, h']
      exact Done.iff (Ext.refl _) (by simp [PLess, h, h'])
  · simp (disch := first | omega | (simp only [n_alloc, n_put, n_kill, n_allocT, n_tabH, n_less]; omega) | (simp; done) | fail) [h]
    exact Done.iff (Ext.refl _) (by simp [PLess, h])
/-- Twice a pair's place among all pairs. -/
def rank2 (n : Int) (p : Int × Int) : Int := p.1 * (2 * n - p.1 - 1) + 2 * (p.2 - p.1 - 1)
theorem rank2_step {n : Int} {p q : Int × Int} (hp : 0 ≤ p.1 ∧ p.1 < p.2 ∧ p.2 < n) (hq : 0 ≤ q.1 ∧ q.1 < q.2 ∧ q.2 < n) (h : PLess p q) : rank2 n p + 2 ≤ rank2 n q := by
  obtain ⟨a, b⟩ := p
  obtain ⟨c, d⟩ := q
  simp only [rank2, PLess] at *
  rcases h with h | ⟨rfl, h⟩
  · have h1 : 0 ≤ (c - a - 1) * (2 * n - c - a - 2) := Int.mul_nonneg (by omega) (by omega)
    have h2 : c * (2 * n - c - 1) - (a + 1) * (2 * n - (a + 1) - 1) = (c - a - 1) * (2 * n - c - a - 2) := by grind
    have h3 : (a + 1) * (2 * n - (a + 1) - 1) = a * (2 * n - a - 1) + 2 * (n - a - 1) := by grind
    omega
  · omega
theorem rank2_nonneg {n : Int} {p : Int × Int} (hp : 0 ≤ p.1 ∧ p.1 < p.2 ∧ p.2 < n) : 0 ≤ rank2 n p := by
  obtain ⟨a, b⟩ := p
  simp only [rank2] at *
  have h1 : 0 ≤ a * (2 * n - a - 1) := Int.mul_nonneg (by omega) (by omega)
  omega
theorem goodP_len {n : Int} {ps : List (Int × Int)} (h : GoodP n ps) : 2 * (ps.length : Int) ≤ n * (n - 1) := by
  rcases Nat.eq_zero_or_pos ps.length with h0 | h0
  · have := h.1
    have h1 : 0 ≤ n * (n - 1) := by
      rcases Int.lt_or_le 0 n with h2 | h2
      · exact Int.mul_nonneg (by omega) (by omega)
      · have : n = 0 := by omega
        subst this; simp
    omega
  · have key : ∀ i (hi : i < ps.length), 2 * (i : Int) ≤ rank2 n ps[i] := by
      intro i
      induction i with
      | zero =>
        intro hi
        have := h.2 0 hi
        have h1 := rank2_nonneg ⟨this.1, this.2.1, this.2.2.1⟩
        simpa using h1
      | succ i ih =>
        intro hi
        have h1 := ih (by omega)
        have h2 := h.2 i (by omega)
        have h3 := h.2 (i + 1) hi
        have h4 := rank2_step ⟨h2.1, h2.2.1, h2.2.2.1⟩ ⟨h3.1, h3.2.1, h3.2.2.1⟩ (h3.2.2.2 (by omega))
        omega
    have h1 := key (ps.length - 1) (by omega)
    have h2 := h.2 (ps.length - 1) (by omega)
    generalize ps[ps.length - 1] = p at *
    obtain ⟨a, b⟩ := p
    simp only [rank2] at h1 h2
    have h3 : 0 ≤ (n - 1 - a) * (n - 2 - a) := Int.mul_nonneg (by omega) (by omega)
    have h4 : n * (n - 1) = a * (2 * n - a - 1) + 2 * (n - a - 1) + (n - 1 - a) * (n - 2 - a) := by grind
    omega
theorem paGood_ok (n : Int) (ps : List (Int × Int)) (hl : ps.length < 2 ^ 31) : PCall Try.prog 61 [partyT n ps] (IsB (GoodP n ps)) := by
  refine PCall.run mix Try.func61 (by kernel_rfl) fun w0 H hw => ?_
  simp (disch := first | omega | (simp only [n_alloc, n_put, n_kill, n_allocT, n_tabH, n_less]; omega) | (simp; done) | fail) [Try.f61, partyT, pairsT]
  refine box_f rfl ?_
  simp (disch := first | omega | (simp only [n_alloc, n_put, n_kill, n_allocT, n_tabH, n_less]; omega) | (simp; done) | fail)
  refine run_pureB (paPeople_ok _) fun r0 hr0 => ?_
  simp (disch := first | omega | (simp only [n_alloc, n_put, n_kill, n_allocT, n_tabH, n_less]; omega) | (simp; done) | fail)
  refine gB (fun h => ?_) fun h => ?_
  · have hn := hr0.1 h
    have hmul : 0 ≤ n * (n - 1) ∧ n * (n - 1) ≤ 132 := by
      have : n = 0 ∨ n = 1 ∨ n = 2 ∨ n = 3 ∨ n = 4 ∨ n = 5 ∨ n = 6 ∨ n = 7 ∨ n = 8 ∨ n = 9 ∨ n = 10 ∨ n = 11 ∨ n = 12 := by omega
      rcases this with rfl | rfl | rfl | rfl | rfl | rfl | rfl | rfl | rfl | rfl | rfl | rfl | rfl <;> omega
    have hdiv : (n * (n - 1)).tdiv 2 = n * (n - 1) / 2 := Int.tdiv_eq_ediv_of_nonneg hmul.1
    simp (disch := first | omega | (simp only [n_alloc, n_put, n_kill, n_allocT, n_tabH, n_less]; omega) | (simp; done) | fail) [h, hdiv]
    refine cP (fun h' => ?_) fun h' => ?_
    · simp (disch := first | omega | (simp only [n_alloc, n_put, n_kill, n_allocT, n_tabH, n_less]; omega) | (simp; done) | fail)
      refine Done.no (Ext.refl _) fun g => ?_
      have := goodP_len g
      omega
    · simp (disch := first | omega | (simp only [n_alloc, n_put, n_kill, n_allocT, n_tabH, n_less]; omega) | (simp; done) | fail)
      refine run_for ps.length (fun i E H' => Ext H H' ∧ E 1 = .fptr [.int .i64 n, pairsT ps] ∧ E 23 = pairsT ps ∧ E 24 = .int .i64 ps.length ∧ E 25 = .int .i64 i ∧
        ∀ j (h : j < i) (h' : j < ps.length), 0 ≤ ps[j].1 ∧ ps[j].1 < ps[j].2 ∧ ps[j].2 < n ∧ (∀ h0 : 0 < j, PLess (ps[j - 1]'(by omega)) ps[j])) 0 (Nat.zero_le _) ?_ ?_
      · simp (disch := first | omega | (simp only [n_alloc, n_put, n_kill, n_allocT, n_tabH, n_less]; omega) | (simp; done) | fail) [pairsT]
      · rintro i E H' hw' hi ⟨he, h1, h23, h24, h25, hc⟩
        simp (disch := first | omega | (simp only [n_alloc, n_put, n_kill, n_allocT, n_tabH, n_less]; omega) | (simp; done) | fail) [h1, h23, h24, h25, pairsT]
        refine cP (fun g => ?_) fun g => ?_
        · have hx : Ext H (H'.alloc [.int .i64 ps[i].1, .int .i64 ps[i].2]) := he.alloc _
          have stop : ¬ GoodP n ps → Done H (H'.alloc [.int .i64 ps[i].1, .int .i64 ps[i].2]) (.bool false) (IsB (GoodP n ps)) := fun g => Done.no hx g
          have e1 : ((i : Int) - 1).toNat = i - 1 := by omega
          simp (disch := first | omega | (simp only [n_alloc, n_put, n_kill, n_allocT, n_tabH, n_less]; omega) | (simp; done) | fail) [h1, h23, h24, h25, pairsT, g]
          refine run_any plan61_6 (by kernel_rfl) ?_
          simp (disch := first | omega | (simp only [n_alloc, n_put, n_kill, n_allocT, n_tabH, n_less]; omega) | (simp; done) | fail) [plan61_6, h1, h23, h24, h25, pairsT, g]
          refine run_pureB (l1In_ok _ _ _) fun r1 hr1 => ?_
          simp (disch := first | omega | (simp only [n_alloc, n_put, n_kill, n_allocT, n_tabH, n_less]; omega) | (simp; done) | fail) [h1, h23, h24, h25, pairsT, g]
          refine gB (fun c1 => ?_) fun c1 => ?_
          · have b1 := hr1.1 c1
            simp (disch := first | omega | (simp only [n_alloc, n_put, n_kill, n_allocT, n_tabH, n_less]; omega) | (simp; done) | fail) [c1, h1, h23, h24, h25, pairsT, g]
            refine run_pureB (l1In_ok _ _ _) fun r2 hr2 => ?_
            simp (disch := first | omega | (simp only [n_alloc, n_put, n_kill, n_allocT, n_tabH, n_less]; omega) | (simp; done) | fail) [c1, h1, h23, h24, h25, pairsT, g]
            refine gB (fun c2 => ?_) fun c2 => ?_
            · have b2 := hr2.1 c2
              simp (disch := first | omega | (simp only [n_alloc, n_put, n_kill, n_allocT, n_tabH, n_less]; omega) | (simp; done) | fail) [c1, c2, h1, h23, h24, h25, pairsT, g]
              refine gP (fun c3 => ?_) fun c3 => ?_
              · simp (disch := first | omega | (simp only [n_alloc, n_put, n_kill, n_allocT, n_tabH, n_less]; omega) | (simp; done) | fail) [c1, c2, c3, h1, h23, h24, h25, pairsT, g, e1]
                refine run_pureB (paLess_ok _ _ _ _) fun r3 hr3 => ?_
                simp (disch := first | omega | (simp only [n_alloc, n_put, n_kill, n_allocT, n_tabH, n_less]; omega) | (simp; done) | fail) [c1, c2, c3, h1, h23, h24, h25, pairsT, g]
                refine cNB (fun c5 => ?_) fun c5 => ?_
                · simp (disch := first | omega | (simp only [n_alloc, n_put, n_kill, n_allocT, n_tabH, n_less]; omega) | (simp; done) | fail)
                  refine stop fun g' => ?_
                  have := hr3.2 ((g'.2 i g).2.2.2 c3)
                  rw [c5] at this
                  cases this
                · simp (disch := first | omega | (simp only [n_alloc, n_put, n_kill, n_allocT, n_tabH, n_less]; omega) | (simp; done) | fail) [h1, h23, h24, h25, pairsT, g]
                  refine ⟨hx, fun j hj hj' => ?_⟩
                  rcases Nat.lt_or_ge j i with hlt | hge
                  · exact hc j hlt hj'
                  · obtain rfl : j = i := by omega
                    exact ⟨by omega, by omega, by omega, fun _ => hr3.1 c5⟩
              · simp (disch := first | omega | (simp only [n_alloc, n_put, n_kill, n_allocT, n_tabH, n_less]; omega) | (simp; done) | fail) [c1, c2, c3, h1, h23, h24, h25, pairsT, g]
                refine ⟨hx, fun j hj hj' => ?_⟩
                obtain rfl : j = i := by omega
                exact ⟨by omega, by omega, by omega, fun h0 => absurd h0 c3⟩
            · simp (disch := first | omega | (simp only [n_alloc, n_put, n_kill, n_allocT, n_tabH, n_less]; omega) | (simp; done) | fail) [c1, c2, h1, h23, h24, h25, pairsT, g]
              refine stop fun g' => ?_
              have := g'.2 i g
              have := hr2.2 (by omega)
              simp_all
          · simp (disch := first | omega | (simp only [n_alloc, n_put, n_kill, n_allocT, n_tabH, n_less]; omega) | (simp; done) | fail) [c1, h1, h23, h24, h25, pairsT, g]
            refine stop fun g' => ?_
            have := g'.2 i g
            have := hr1.2 (by omega)
            simp_all
        · simp (disch := first | omega | (simp only [n_alloc, n_put, n_kill, n_allocT, n_tabH, n_less]; omega) | (simp; done) | fail)
          exact Done.yes he ⟨hn, fun j hj => hc j (by omega) hj⟩
  · simp (disch := first | omega | (simp only [n_alloc, n_put, n_kill, n_allocT, n_tabH, n_less]; omega) | (simp; done) | fail) [h]
    refine Done.no (Ext.refl _) fun g => ?_
    have := hr0.2 g.1
    simp_all
end Go.Proofs.Ythkmbfifiojmhaa
